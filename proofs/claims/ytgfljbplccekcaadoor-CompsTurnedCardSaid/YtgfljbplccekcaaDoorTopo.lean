/-
  Plain law: an order in which each edge leads on is found, one free number after the other, just if no two numbers reach each other; conditions: no edge leads to its own beginning.
-/
import Derived.Test.YtgfljbplccekcaaDoorTarjan
set_option linter.unusedVariables false
namespace Go.Tar

/-- a number that may come next: not yet told, and all that lead to it are -/
def free (n : Nat) (E : Nat → Nat → Bool) (done : List Nat) (v : Nat) : Bool := !done.contains v && (List.range n).all fun u => done.contains u || !E u v
def pick (n : Nat) (E : Nat → Nat → Bool) (done : List Nat) : Option Nat := (List.range n).find? (free n E done)
def ordF (n : Nat) (E : Nat → Nat → Bool) : Nat → List Nat → Option (List Nat)
  | 0, done => some done
  | k + 1, done => (pick n E done).bind fun v => ordF n E k (done ++ [v])

section
variable {n : Nat} {E : Nat → Nat → Bool}
theorem free_iff {done : List Nat} {v : Nat} : free n E done v = true ↔ v ∉ done ∧ ∀ u, u < n → E u v = true → u ∈ done := by
  simp only [free, Bool.and_eq_true, List.all_eq_true, List.mem_range, Bool.or_eq_true, List.contains_iff_mem]
  constructor
  · rintro ⟨h1, h2⟩
    refine ⟨by simpa using h1, fun u hu he => ?_⟩
    rcases h2 u hu with h | h
    · exact h
    · rw [he] at h; cases h
  · rintro ⟨h1, h2⟩
    refine ⟨by simpa using h1, fun u hu => ?_⟩
    cases he : E u v with
    | true => exact .inl (h2 u hu he)
    | false => exact .inr rfl
theorem pick_some {done : List Nat} {v : Nat} (h : pick n E done = some v) : v < n ∧ v ∉ done ∧ ∀ u, u < n → E u v = true → u ∈ done := by
  have h1 := List.find?_some h
  have h2 := List.mem_of_find?_eq_some h
  exact ⟨List.mem_range.1 h2, free_iff.1 h1⟩
theorem pick_none {done : List Nat} (h : pick n E done = none) {v : Nat} (hv : v < n) (hd : v ∉ done) : ∃ u, u < n ∧ E u v = true ∧ u ∉ done := by
  rw [pick, List.find?_eq_none] at h
  have h1 := h v (List.mem_range.2 hv)
  rw [free_iff] at h1
  apply Classical.byContradiction
  intro hc
  exact h1 ⟨hd, fun u hu he => Classical.byContradiction fun h2 => hc ⟨u, hu, he, h2⟩⟩

/-- what is told is told once, and behind all that lead to it -/
structure Told (n : Nat) (E : Nat → Nat → Bool) (l : List Nat) : Prop where
  nodup : l.Nodup
  lt : ∀ v ∈ l, v < n
  ahead : ∀ i v, l[i]? = some v → ∀ u, u < n → E u v = true → u ∈ l.take i
theorem Told.nil : Told n E [] := ⟨by simp, by simp, by simp⟩
theorem Told.snoc {l : List Nat} (t : Told n E l) {v : Nat} (h : pick n E l = some v) : Told n E (l ++ [v]) := by
  obtain ⟨h1, h2, h3⟩ := pick_some h
  refine ⟨?_, ?_, ?_⟩
  · rw [List.nodup_append]; exact ⟨t.nodup, by simp, by intro a ha b hb; simp at hb; subst hb; rintro rfl; exact h2 ha⟩
  · intro u hu
    rcases List.mem_append.1 hu with hu | hu
    · exact t.lt u hu
    · simp at hu; subst hu; exact h1
  · intro i u hu w hw he
    rcases Nat.lt_or_ge i l.length with hi | hi
    · rw [List.getElem?_append_left hi] at hu
      rw [List.take_append_of_le_length (by omega)]
      exact t.ahead i u hu w hw he
    · rw [List.getElem?_append_right hi] at hu
      have h0 : i - l.length = 0 := by
        have := (List.getElem?_eq_some_iff.1 hu).1
        simp at this; omega
      rw [h0] at hu
      simp at hu
      subst hu
      have : i = l.length := by omega
      subst this
      rw [List.take_append_of_le_length (by omega), List.take_length]
      exact h3 w hw he
theorem ordF_told : ∀ {k : Nat} {l r : List Nat}, Told n E l → ordF n E k l = some r → Told n E r ∧ r.length = l.length + k
  | 0, l, r, t, h => by simp [ordF] at h; subst h; exact ⟨t, by simp⟩
  | k + 1, l, r, t, h => by
    simp only [ordF, Option.bind_eq_some_iff] at h
    obtain ⟨v, hv, h⟩ := h
    obtain ⟨h1, h2⟩ := ordF_told (t.snoc hv) h
    exact ⟨h1, by simp at h2; omega⟩
theorem Told.full {l : List Nat} (t : Told n E l) (hl : l.length = n) {v : Nat} (hv : v < n) : v ∈ l := by
  have h1 : l ⊆ List.range n := fun x hx => List.mem_range.2 (t.lt x hx)
  apply Classical.byContradiction
  intro hn
  have h4 : v :: l ⊆ List.range n := by
    intro x hx
    rcases List.mem_cons.1 hx with rfl | hx
    · exact List.mem_range.2 hv
    · exact h1 hx
  have h5 := List.Nodup.length_le_of_subset (List.nodup_cons.2 ⟨hn, t.nodup⟩) h4
  simp [hl] at h5
  omega
theorem nodup_at {l : List Nat} (h : l.Nodup) {i j x : Nat} (hi : l[i]? = some x) (hj : l[j]? = some x) : i = j := by
  have hnd := List.nodup_iff_pairwise_ne.1 h
  rw [List.pairwise_iff_getElem] at hnd
  obtain ⟨hi1, hi2⟩ := List.getElem?_eq_some_iff.1 hi
  obtain ⟨hj1, hj2⟩ := List.getElem?_eq_some_iff.1 hj
  rcases Nat.lt_trichotomy i j with h4 | h4 | h4
  · exact absurd (by rw [hi2, hj2]) (hnd i j hi1 hj1 h4)
  · exact h4
  · exact absurd (by rw [hi2, hj2]) (hnd j i hj1 hi1 h4)
theorem Told.reach {l : List Nat} (t : Told n E l) (hE : ∀ x y, E x y = true → x < n ∧ y < n) (hl : l.length = n) {x y : Nat} (h : R E x y) : ∀ i j : Nat, l[i]? = some x → l[j]? = some y → i ≤ j := by
  induction h with
  | refl =>
    intro i j hi hj
    exact Nat.le_of_eq (nodup_at t.nodup hi hj)
  | step e _ ih =>
    rename_i a b c
    intro i j hi hj
    obtain ⟨h1, h2⟩ := hE _ _ e
    obtain ⟨k, hk⟩ := List.getElem?_of_mem (t.full hl h2)
    have h3 := ih k j hk hj
    have h4 := t.ahead k _ hk _ h1 e
    obtain ⟨q, hq⟩ := List.getElem?_of_mem h4
    rw [List.getElem?_take] at hq
    split at hq
    · rename_i hqk
      have := nodup_at t.nodup hi hq
      omega
    · cases hq
/-- an order tells that no two numbers reach each other -/
theorem ord_acyclic (hE : ∀ x y, E x y = true → x < n ∧ y < n) {r : List Nat} (h : ordF n E n [] = some r) {x y : Nat} (hx : x < n) (hxy : R E x y) (hyx : R E y x) : x = y := by
  obtain ⟨t, hl⟩ := ordF_told Told.nil h
  simp at hl
  have hyn : y < n := by
    cases hxy with
    | refl => exact hx
    | step e hr =>
      have : ∀ a b, R E a b → a < n → b < n := by
        intro a b h
        induction h with
        | refl => exact id
        | step e _ ih => intro _; exact ih (hE _ _ e).2
      exact this _ _ hr (hE _ _ e).2
  obtain ⟨i, hi⟩ := List.getElem?_of_mem (t.full hl hx)
  obtain ⟨j, hj⟩ := List.getElem?_of_mem (t.full hl hyn)
  have h1 := t.reach hE hl hxy i j hi hj
  have h2 := t.reach hE hl hyx j i hj hi
  have : i = j := by omega
  subst this
  rw [hi] at hj
  exact Option.some.inj hj
/-- how many of those that are left reach a number -/
theorem countP_lt {l : List Nat} {p q : Nat → Bool} (h : ∀ x ∈ l, p x = true → q x = true) {v : Nat} (hv : v ∈ l) (h1 : p v = false) (h2 : q v = true) : l.countP p < l.countP q := by
  induction l with
  | nil => simp at hv
  | cons a r ih =>
    have hr : r.countP p ≤ r.countP q := List.countP_mono_left (fun x hx => h x (List.mem_cons_of_mem _ hx))
    rw [List.countP_cons, List.countP_cons]
    rcases List.mem_cons.1 hv with rfl | hv
    · simp [h1, h2]; omega
    · have := ih (fun x hx => h x (List.mem_cons_of_mem _ hx)) hv
      have ha := h a (by simp)
      cases hp : p a with
      | false => simp; split <;> omega
      | true => simp [ha hp]; omega
open Classical in
theorem acyclic_pick (hE : ∀ x y, E x y = true → x < n ∧ y < n) (hirr : ∀ x, E x x = false) (hac : ∀ x y, x < n → R E x y → R E y x → x = y) {done : List Nat} (hd : done.length < n) (hnd : done.Nodup) (hdl : ∀ v ∈ done, v < n) : pick n E done ≠ none := by
  intro hp
  obtain ⟨v0, hv0, hv0d⟩ : ∃ v, v < n ∧ v ∉ done := by
    apply Classical.byContradiction
    intro hc
    have h1 : List.range n ⊆ done := fun x hx => Classical.byContradiction fun h => hc ⟨x, List.mem_range.1 hx, h⟩
    have := List.Nodup.length_le_of_subset List.nodup_range h1
    simp at this; omega
  let cnt : Nat → Nat := fun v => (List.range n).countP fun u => decide (u ∉ done ∧ R E u v)
  have key : ∀ k v, cnt v ≤ k → v < n → v ∉ done → False := by
    intro k
    induction k with
    | zero =>
      intro v hk hv hvd
      have h0 : cnt v = 0 := by omega
      have := List.countP_eq_zero.1 h0 v (List.mem_range.2 hv)
      simp at this
      exact this hvd (R.refl v)
    | succ k ih =>
      intro v hk hv hvd
      obtain ⟨u, hu, he, hud⟩ := pick_none hp hv hvd
      refine ih u ?_ hu hud
      have hlt : cnt u < cnt v := by
        refine countP_lt (v := v) ?_ (List.mem_range.2 hv) ?_ ?_
        · intro x _ hx
          simp only [decide_eq_true_eq] at hx ⊢
          exact ⟨hx.1, hx.2.trans (R.edge he)⟩
        · simp only [decide_eq_false_iff_not]
          rintro ⟨_, hr⟩
          have := hac u v hu (R.edge he) hr
          subst this
          rw [hirr] at he; cases he
        · simp only [decide_eq_true_eq]; exact ⟨hvd, R.refl v⟩
      omega
  exact key _ v0 (Nat.le_refl _) hv0 hv0d
theorem acyclic_ord (hE : ∀ x y, E x y = true → x < n ∧ y < n) (hirr : ∀ x, E x x = false) (hac : ∀ x y, x < n → R E x y → R E y x → x = y) : ∀ {k : Nat} {done : List Nat}, Told n E done → done.length + k = n → ordF n E k done ≠ none
  | 0, done, t, hl => by simp [ordF]
  | k + 1, done, t, hl => by
    have h1 := acyclic_pick hE hirr hac (done := done) (by omega) t.nodup t.lt
    cases hp : pick n E done with
    | none => exact absurd hp h1
    | some v =>
      simp only [ordF, hp, Option.bind_some]
      exact acyclic_ord hE hirr hac (t.snoc hp) (by simp; omega)
/-- there is an order just if each component is of one number -/
theorem ord_comps (hE : ∀ x y, E x y = true → x < n ∧ y < n) (hirr : ∀ x, E x x = false) {L : List (List Nat)} (q : Comps n E L) : (ordF n E n []).isSome = true ↔ ∀ c ∈ L, ¬ 1 < c.length := by
  constructor
  · intro h c hc hlen
    obtain ⟨r, hr⟩ := Option.isSome_iff_exists.1 h
    obtain ⟨hs, _⟩ := q.rises c hc
    match c, hlen, hs, hc with
    | x :: y :: c, _, hs, hc =>
      have hlt := (List.pairwise_cons.1 hs).1 y (by simp)
      have hxy := (q.strong _ hc x (by simp) y).1 (by simp)
      have := ord_acyclic hE hr ((q.all x).2 ⟨_, hc, by simp⟩) hxy.1 hxy.2
      omega
  · intro h
    have := acyclic_ord hE hirr (k := n) (done := []) (fun x y hx hxy hyx => by
      obtain ⟨c, hc, hxc⟩ := (q.all x).1 hx
      have hyc := (q.strong c hc x hxc y).2 ⟨hxy, hyx⟩
      have hl := h c hc
      match c, hl, hxc, hyc with
      | [a], _, hxc, hyc => simp at hxc hyc; rw [hxc, hyc]
      | [], _, hxc, _ => simp at hxc
      | a :: b :: c, hl, _, _ => simp at hl) Told.nil (by simp)
    cases ho : ordF n E n [] with
    | none => exact absurd ho this
    | some r => rfl
end
end Go.Tar
