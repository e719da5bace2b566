/-
  Package comps: Order, Cyclic, as contracts; conditions: the graph was made by graph.New, the table of math/bits lies in memory.
-/
import Derived.Test.YtgfljbplccekcaaDoorGraph4
import Derived.Test.YtgfljbplccekcaaDoorTopo
set_option linter.unusedSimpArgs false
set_option linter.unusedVariables false
set_option maxRecDepth 100000
namespace Go.Proofs.YtgfljbplccekcaaDoor
open Go Go.V Go.Low

/-- a row of n cells -/
def arrV (n : Nat) (f : Nat → Value) : Array Value := ((List.range n).map f).toArray
theorem arrV_size (n : Nat) (f : Nat → Value) : (arrV n f).size = n := by simp [arrV]
theorem arrV_at {n : Nat} (f : Nat → Value) {i : Nat} (hi : i < n) : (arrV n f)[i]? = some (f i) := by simp [arrV, hi]
theorem arrV_congr {n : Nat} {f g : Nat → Value} (h : ∀ i, i < n → f i = g i) : arrV n f = arrV n g := by
  unfold arrV
  congr 1
  exact List.map_congr_left fun i hi => h i (List.mem_range.1 hi)
theorem arrV_set {n : Nat} (f : Nat → Value) {i : Nat} (hi : i < n) (v : Value) : setL (arrV n f) i [v] = arrV n (upd f i v) := by
  simp only [setL]
  rw [← Array.toList_inj]
  apply List.ext_getElem?
  intro j
  simp only [arrV, Array.toList_setIfInBounds, List.getElem?_set, List.getElem?_map, List.length_map, List.length_range]
  by_cases e : i = j
  · subst e; simp [hi, upd]
  · rw [if_neg e]
    by_cases hj : j < n
    · have e2 : ¬ j = i := fun h => e h.symm
      simp [hj, upd, e2]
    · simp [hj]
theorem arrV_made (z : Value) (n : Nat) (hz : z.cells = #[z]) : madeCells z.cells (n * 1) = arrV n fun _ => z := by
  unfold madeCells arrV
  rw [← Array.toList_inj]
  apply List.ext_getElem <;> simp [hz, Nat.mod_one]
/-- a row of integers -/
abbrev arrI (n : Nat) (A : Nat → Int) : Array Value := arrV n fun m => .int .i64 (A m)
theorem arrI_set {n : Nat} (A : Nat → Int) {i : Nat} (hi : i < n) (x : Int) : setL (arrI n A) i [.int .i64 x] = arrI n (upd A i x) := by
  rw [arrV_set _ hi]
  apply arrV_congr
  intro j _
  unfold upd
  split <;> rfl
theorem arrI_ints {h : Heap} {b n : Nat} {A : Nat → Int} (hb : h[b]? = some (.cells (arrI n A) 3 (0, 0))) (hn : n ≤ 9223372036854775807) : Ints h (sl b 0 n n) ((List.range n).map A) := by
  have e : n = ((List.range n).map A).length := by simp
  have := Ints.mk (h := h) (b := b) (o := 0) (c := n) (xs := (List.range n).map A) (by simp) hn (fun i x hx => by
    have hi : i < n := by have := (List.getElem?_eq_some_iff.1 hx).1; simpa using this
    simp only [List.getElem?_map, List.getElem?_range hi, Option.map_some, Option.some.injEq] at hx
    subst hx
    simp only [hcell, hb, Nat.zero_add]
    exact arrV_at _ hi)
  rw [← e] at this
  exact this

theorem index_ok {h : Heap} {v : Value} {xs : List Int} (r : Ints h v xs) (x : Int) : Ct Tryd.prog 76 [v, .int .i64 x] h fun w h' =>
    (∃ k : Int, w = .int .i64 k ∧ ((k = -1 ∧ x ∉ xs) ∨ ∃ i : Nat, k = i ∧ xs[i]? = some x ∧ ∀ (j : Nat) (y : Int), j < i → xs[j]? = some y → y ≠ x)) ∧ h = h' := by
  obtain ⟨a, c, rfl, h1, h2, _⟩ := id r
  refine enter Tryd.func76 (by kernel_rfl) rfl Tryd.results76 (by kernel_rfl) (by kernel_rfl) (init2 _ _) ?_
  simp (disch := omega) only [↓SS, A, Nat.reduceEqDiff, Int.reduceToNat, Int.cast_ofNat_Int, Int.reduceSub, Int.reduceAdd, Nat.reduceAdd, Nat.reduceMul, Nat.reduceSub, ↓reduceIte, rd_eq, TyI]
  refine vloop_mk (fun k fr h' => ∃ i : Nat, i + k = xs.length ∧ fr = [(8, .int .i64 i), (7, .int .i64 xs.length), (0, .slice a xs.length c), (1, .int .i64 x)] ∧ h = h' ∧ ∀ (j : Nat) (y : Int), j < i → xs[j]? = some y → y ≠ x) xs.length
    [(8, .int .i64 0), (7, .int .i64 xs.length), (0, .slice a xs.length c), (1, .int .i64 x)] (by simp only [↓SS, Nat.reduceEqDiff, Int.reduceToNat, Int.cast_ofNat_Int, Int.reduceSub, Int.reduceAdd, Nat.reduceAdd, Nat.reduceMul, Nat.reduceSub, ↓reduceIte, rd_eq, TyI]) ⟨0, by omega, rfl, rfl, by omega⟩ ?_
  rintro k _ _ ⟨i, hik, rfl, rfl, hno⟩
  by_cases hi : i < xs.length
  · obtain ⟨b, o, c', e, _, _, hc⟩ := r.out (by omega)
    simp only [Value.slice.injEq, true_and] at e
    obtain ⟨rfl, rfl⟩ := e
    obtain ⟨y, hy⟩ : ∃ y, xs[i]? = some y := ⟨_, List.getElem?_eq_getElem hi⟩
    have hcy := hc i y hy
    by_cases e : x = y
    · subst e
      simp (disch := omega) only [↓SS, A, Nat.reduceEqDiff, Int.reduceToNat, Int.cast_ofNat_Int, Int.reduceSub, Int.reduceAdd, Nat.reduceAdd, Nat.reduceMul, Nat.reduceSub, ↓reduceIte, rd_eq, TyI, hcy]
      exact ⟨i, rfl, .inr ⟨i, rfl, hy, hno⟩⟩
    · simp (disch := omega) only [↓SS, A, Nat.reduceEqDiff, Int.reduceToNat, Int.cast_ofNat_Int, Int.reduceSub, Int.reduceAdd, Nat.reduceAdd, Nat.reduceMul, Nat.reduceSub, ↓reduceIte, rd_eq, TyI, hcy]
      refine ⟨k - 1, by omega, _, (by simp only [↓SS, Nat.reduceEqDiff, Int.reduceToNat, Int.cast_ofNat_Int, Int.reduceSub, Int.reduceAdd, Nat.reduceAdd, Nat.reduceMul, Nat.reduceSub, ↓reduceIte, rd_eq, Int.natCast_add, Int.cast_ofNat_Int]), i + 1, by omega, rfl, fun j z hj hz => ?_⟩
      by_cases ej : j = i
      · subst ej; rw [hy] at hz; cases hz; exact fun e2 => e e2.symm
      · exact hno j z (by omega) hz
  · simp (disch := omega) only [↓SS, A, Nat.reduceEqDiff, Int.reduceToNat, Int.cast_ofNat_Int, Int.reduceSub, Int.reduceAdd, Nat.reduceAdd, Nat.reduceMul, Nat.reduceSub, ↓reduceIte, rd_eq, TyI]
    refine ⟨-1, rfl, .inl ⟨rfl, fun hm => ?_⟩⟩
    obtain ⟨j, hj⟩ := List.getElem?_of_mem hm
    exact hno j x (by have := (List.getElem?_eq_some_iff.1 hj).1; omega) hj rfl

open Go.Tar in
/-- how many of those that are left lead to m -/
def leftOf (n : Nat) (E : Nat → Nat → Bool) (l : List Nat) (m : Nat) : Nat := (List.range n).countP fun u => !l.contains u && E u m
def aheadOf (n : Nat) (E : Nat → Nat → Bool) (l : List Nat) (m : Nat) : Int := if l.contains m then -1 else leftOf n E l m
theorem leftOf_le (n : Nat) (E : Nat → Nat → Bool) (l : List Nat) (m : Nat) : leftOf n E l m ≤ n := by
  have := List.countP_le_length (p := fun u => !l.contains u && E u m) (l := List.range n)
  simpa [leftOf] using this
theorem countP_one {l : List Nat} (hn : l.Nodup) {p q : Nat → Bool} {v : Nat} (hv : v ∈ l) (hp : p v = true) (hq : q v = false) (h : ∀ u ∈ l, u ≠ v → p u = q u) : l.countP p = l.countP q + 1 := by
  induction l with
  | nil => simp at hv
  | cons a r ih =>
    obtain ⟨h1, h2⟩ := List.nodup_cons.1 hn
    rw [List.countP_cons, List.countP_cons]
    rcases List.mem_cons.1 hv with rfl | hv
    · have : r.countP p = r.countP q := List.countP_congr fun u hu => by rw [h u (List.mem_cons_of_mem _ hu) (by rintro rfl; exact h1 hu)]
      simp [hp, hq, this]
    · have ha : a ≠ v := by rintro rfl; exact h1 hv
      have := ih h2 hv (fun u hu hne => h u (List.mem_cons_of_mem _ hu) hne)
      rw [this, h a (by simp) ha]; omega
open Go.Tar in
theorem pick_ahead {n : Nat} {E : Nat → Nat → Bool} {l : List Nat} {m : Nat} (hm : m < n) : aheadOf n E l m = 0 ↔ free n E l m = true := by
  unfold aheadOf
  rw [free_iff]
  cases hc : l.contains m with
  | true => simp; intro h; exact absurd (List.contains_iff_mem.1 hc) h
  | false =>
    have hml : m ∉ l := fun h => by rw [List.contains_iff_mem.2 h] at hc; cases hc
    simp only [Bool.false_eq_true, if_false]
    constructor
    · intro h
      refine ⟨hml, fun u hu he => ?_⟩
      have h0 : leftOf n E l m = 0 := by omega
      have := List.countP_eq_zero.1 h0 u (List.mem_range.2 hu)
      simp only [he, Bool.and_true, Bool.not_eq_true', Bool.not_eq_false] at this
      exact List.contains_iff_mem.1 (by simpa using this)
    · rintro ⟨_, h⟩
      have : leftOf n E l m = 0 := List.countP_eq_zero.2 fun u hu => by
        simp only [Bool.and_eq_true, Bool.not_eq_true', not_and]
        intro h1 h2
        have := List.contains_iff_mem.2 (h u (List.mem_range.1 hu) h2)
        rw [h1] at this; cases this
      omega
open Go.Tar in
theorem ahead_step {n : Nat} {E : Nat → Nat → Bool} {l : List Nat} (t : Tar.Told n E l) {v : Nat} (hp : pick n E l = some v) {m : Nat} (hm : m < n) :
    aheadOf n E (l ++ [v]) m = if m = v then -1 else aheadOf n E l m - if E v m then 1 else 0 := by
  obtain ⟨h1, h2, h3⟩ := pick_some hp
  by_cases e : m = v
  · subst e; simp [aheadOf]
  · rw [if_neg e]
    unfold aheadOf
    have hc : (l ++ [v]).contains m = l.contains m := by
      rw [Bool.eq_iff_iff, List.contains_iff_mem, List.contains_iff_mem]; simp [e]
    rw [hc]
    cases hml : l.contains m with
    | true =>
      obtain ⟨i, hi⟩ := List.getElem?_of_mem (List.contains_iff_mem.1 hml)
      have hE : E v m = false := by
        cases hE : E v m with
        | false => rfl
        | true => exact absurd (List.mem_of_mem_take (t.ahead i m hi v h1 hE)) h2
      simp [hE]
    | false =>
      simp only [Bool.false_eq_true, if_false]
      cases hE : E v m with
      | true =>
        have := countP_one (l := List.range n) List.nodup_range (p := fun u => !l.contains u && E u m) (q := fun u => !(l ++ [v]).contains u && E u m) (v := v) (List.mem_range.2 h1) (by simp [hE, h2]) (by simp) (fun u _ hne => by
          have : (l ++ [v]).contains u = l.contains u := by rw [Bool.eq_iff_iff, List.contains_iff_mem, List.contains_iff_mem]; simp [hne]
          simp only [this])
        simp only [leftOf]
        rw [this]; simp
      | false =>
        have : leftOf n E (l ++ [v]) m = leftOf n E l m := List.countP_congr fun u _ => by
          by_cases hne : u = v
          · subst hne; simp [hE]
          · have : (l ++ [v]).contains u = l.contains u := by rw [Bool.eq_iff_iff, List.contains_iff_mem, List.contains_iff_mem]; simp [hne]
            simp only [this]
        rw [this]; simp
/-- those that some of the first i lead to -/
theorem count_succ (E : Nat → Nat → Bool) (i m : Nat) : (List.range (i + 1)).countP (fun u => E u m) = (List.range i).countP (fun u => E u m) + if E i m then 1 else 0 := by
  rw [List.range_succ, List.countP_append]
  cases h : E i m <;> simp [h]
theorem outs_mem {n : Nat} {E : Nat → Nat → Nat → Bool} {of : Int} {u k : Nat} : k ∈ outs n E of u ↔ k < n ∧ edge E of 4 u k = true := by simp [outs]
theorem outs_nodup (n : Nat) (E : Nat → Nat → Nat → Bool) (of : Int) (u : Nat) : (outs n E of u).Nodup := List.Pairwise.filter _ List.nodup_range
/-- how often among the first j -/
theorem take_mem_succ {l : List Nat} (hn : l.Nodup) {j x : Nat} (hx : l[j]? = some x) (m : Nat) : m ∈ l.take (j + 1) ↔ m ∈ l.take j ∨ m = x := by
  rw [List.take_add_one, hx]; simp
theorem take_not_mem {l : List Nat} (hn : l.Nodup) {j x : Nat} (hx : l[j]? = some x) : x ∉ l.take j := by
  intro h
  obtain ⟨i, hi⟩ := List.getElem?_of_mem h
  rw [List.getElem?_take] at hi
  split at hi
  · have := Go.Tar.nodup_at hn hi hx; omega
  · cases hi
end Go.Proofs.YtgfljbplccekcaaDoor
