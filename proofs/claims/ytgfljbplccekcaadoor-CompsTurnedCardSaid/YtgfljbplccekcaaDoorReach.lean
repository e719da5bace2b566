/-
  Plain law: a worklist finds what a number reaches by one edge or more, and the components told by it are the strong ones; conditions: none.
-/
import Derived.Test.YtgfljbplccekcaaDoorTopo
set_option linter.unusedVariables false
namespace Go.Tar

/-- reaches by one edge or more -/
def Rp (E : Nat → Nat → Bool) (x y : Nat) : Prop := ∃ z, E x z = true ∧ R E z y
theorem Rp.snoc {E : Nat → Nat → Bool} {x y z : Nat} (h : Rp E x y) (e : E y z = true) : Rp E x z := by
  obtain ⟨u, h1, h2⟩ := h
  exact ⟨u, h1, h2.trans (.edge e)⟩
theorem R_iff {E : Nat → Nat → Bool} {x y : Nat} : R E x y ↔ x = y ∨ Rp E x y := by
  constructor
  · intro h
    cases h with
    | refl => exact .inl rfl
    | step e r => exact .inr ⟨_, e, r⟩
  · rintro (rfl | ⟨z, e, r⟩)
    · exact .refl _
    · exact .step e r
structure Wl (n : Nat) (E : Nat → Nat → Bool) (s : Nat) (met : Nat → Bool) (q : List Nat) : Prop where
  sound : ∀ x, met x = true ∨ x ∈ q → Rp E s x
  first : ∀ x, E s x = true → met x = true ∨ x ∈ q
  next : ∀ x, met x = true → ∀ y, E x y = true → met y = true ∨ y ∈ q
  lt : ∀ x ∈ q, x < n
def unmet (n : Nat) (met : Nat → Bool) : Nat := (List.range n).countP fun x => !met x
def wlm (n : Nat) (met : Nat → Bool) (q : List Nat) : Nat := unmet n met * (n + 1) + q.length
theorem unmet_le (n : Nat) (met : Nat → Bool) : unmet n met ≤ n := by
  have := List.countP_le_length (p := fun x => !met x) (l := List.range n)
  rw [List.length_range] at this
  exact this
theorem unmet_upd {n : Nat} {met : Nat → Bool} {m : Nat} (hm : m < n) (h : met m = false) : unmet n (upd met m true) < unmet n met := by
  unfold unmet
  refine countP_lt (v := m) (fun x _ hx => ?_) (List.mem_range.2 hm) (by simp [upd]) (by simp [h])
  simp only [Bool.not_eq_true', upd] at hx ⊢
  split at hx
  · cases hx
  · exact hx
theorem Wl.start {n : Nat} {E : Nat → Nat → Bool} {s : Nat} {l : List Nat} (hl : ∀ x, x ∈ l ↔ E s x = true) (hE : ∀ x y, E x y = true → y < n) : Wl n E s (fun _ => false) l :=
  ⟨fun x h => by
    rcases h with h | h
    · cases h
    · exact ⟨x, (hl x).1 h, .refl _⟩, fun x h => .inr ((hl x).2 h), fun x h => (by cases h), fun x h => hE s x ((hl x).1 h)⟩
theorem Wl.skip {n : Nat} {E : Nat → Nat → Bool} {s m : Nat} {met : Nat → Bool} {q : List Nat} (w : Wl n E s met (m :: q)) (h : met m = true) : Wl n E s met q :=
  ⟨fun x hx => w.sound x (hx.imp_right (List.mem_cons_of_mem _)), fun x hx => by
    rcases w.first x hx with h1 | h1
    · exact .inl h1
    · rcases List.mem_cons.1 h1 with rfl | h1
      · exact .inl h
      · exact .inr h1, fun x hx y hy => by
    rcases w.next x hx y hy with h1 | h1
    · exact .inl h1
    · rcases List.mem_cons.1 h1 with rfl | h1
      · exact .inl h
      · exact .inr h1, fun x hx => w.lt x (List.mem_cons_of_mem _ hx)⟩
theorem Wl.take {n : Nat} {E : Nat → Nat → Bool} {s m : Nat} {met : Nat → Bool} {q l : List Nat} (w : Wl n E s met (m :: q)) (hl : ∀ x, x ∈ l ↔ E m x = true) (hE : ∀ x y, E x y = true → y < n) : Wl n E s (upd met m true) (q ++ l) := by
  have up : ∀ x, met x = true → upd met m true x = true := by intro x hx; unfold upd; split <;> simp [hx]
  have um : upd met m true m = true := by simp [upd]
  refine ⟨fun x hx => ?_, fun x hx => ?_, fun x hx y hy => ?_, fun x hx => ?_⟩
  · rcases hx with hx | hx
    · unfold upd at hx
      split at hx
      · rename_i e; subst e; exact w.sound x (.inr (by simp))
      · exact w.sound x (.inl hx)
    · rcases List.mem_append.1 hx with hx | hx
      · exact w.sound x (.inr (List.mem_cons_of_mem _ hx))
      · exact (w.sound m (.inr (by simp))).snoc ((hl x).1 hx)
  · rcases w.first x hx with h1 | h1
    · exact .inl (up x h1)
    · rcases List.mem_cons.1 h1 with rfl | h1
      · exact .inl um
      · exact .inr (by simp [h1])
  · by_cases e : x = m
    · subst e; exact .inr (by simp [(hl y).2 hy])
    · have hx' : met x = true := by simpa [upd, e] using hx
      rcases w.next x hx' y hy with h1 | h1
      · exact .inl (up y h1)
      · rcases List.mem_cons.1 h1 with rfl | h1
        · exact .inl um
        · exact .inr (by simp [h1])
  · rcases List.mem_append.1 hx with hx | hx
    · exact w.lt x (List.mem_cons_of_mem _ hx)
    · exact hE m x ((hl x).1 hx)
theorem Wl.done {n : Nat} {E : Nat → Nat → Bool} {s : Nat} {met : Nat → Bool} (w : Wl n E s met []) (x : Nat) : met x = true ↔ Rp E s x := by
  refine ⟨fun h => w.sound x (.inl h), ?_⟩
  have key : ∀ y z, R E y z → met y = true → met z = true := by
    intro y z h
    induction h with
    | refl => exact id
    | step e _ ih =>
      intro hy
      refine ih ?_
      rcases w.next _ hy _ e with h1 | h1
      · exact h1
      · cases h1
  rintro ⟨z, e, r⟩
  refine key z x r ?_
  rcases w.first z e with h1 | h1
  · exact h1
  · cases h1
theorem wlm_skip {n m : Nat} {met : Nat → Bool} {q : List Nat} : wlm n met q < wlm n met (m :: q) := by unfold wlm; simp
theorem wlm_take {n m : Nat} {met : Nat → Bool} {q l : List Nat} (hm : m < n) (h : met m = false) (hl : l.length ≤ n) : wlm n (upd met m true) (q ++ l) < wlm n met (m :: q) := by
  have := unmet_upd hm h
  unfold wlm
  simp only [List.length_append, List.length_cons]
  have h2 : (unmet n (upd met m true) + 1) * (n + 1) ≤ unmet n met * (n + 1) := Nat.mul_le_mul_right _ this
  rw [Nat.add_mul] at h2
  omega
theorem wlm_start {n : Nat} {l : List Nat} (hl : l.length ≤ n) : wlm n (fun _ => false) l ≤ n * (n + 1) + n := by
  unfold wlm
  have := Nat.mul_le_mul_right (n + 1) (unmet_le n fun _ => false)
  omega
theorem wlm_len {n : Nat} {met : Nat → Bool} {q : List Nat} : q.length ≤ wlm n met q := by unfold wlm; omega

/-! the reference's components -/
/-- who is with n, of those below m -/
def withN (A : Nat → Nat → Bool) (n m : Nat) : List Nat := (List.range m).filter fun x => x == n || A n x && A x n
/-- the components, of the first i nodes -/
def outN (A : Nat → Nat → Bool) (n : Nat) : Nat → List (List Nat)
  | 0 => []
  | i + 1 => if (outN A n i).any (fun c => c.contains i) then outN A n i else outN A n i ++ [withN A i n]
theorem outN_comps {n : Nat} {E A : Nat → Nat → Bool} (hA : ∀ x y, x < n → y < n → (A x y = true ↔ Rp E x y)) (hE : ∀ x y, E x y = true → y < n) :
    ∀ i, i ≤ n → (∀ x, x < i → ∃ c ∈ outN A n i, x ∈ c) ∧ (∀ c ∈ outN A n i, ∀ x ∈ c, x < n ∧ ∀ y, y ∈ c ↔ (R E x y ∧ R E y x)) ∧ (∀ c ∈ outN A n i, c.Pairwise (· < ·) ∧ c ≠ []) ∧ (outN A n i).Pairwise (fun c d => ∀ x ∈ c, x ∉ d) ∧
      (∀ c ∈ outN A n i, c.headD 0 < i) ∧ Heads (outN A n i) := by
  have hR : ∀ x y, R E x y → x < n → y < n := by
    intro x y h
    induction h with
    | refl => exact id
    | step e _ ih => exact fun _ => ih (hE _ _ e)
  have hW : ∀ i, i < n → ∀ y, y ∈ withN A i n ↔ (R E i y ∧ R E y i) := by
    intro i hi y
    unfold withN
    simp only [List.mem_filter, List.mem_range, Bool.or_eq_true, beq_iff_eq, Bool.and_eq_true]
    constructor
    · rintro ⟨hy, rfl | ⟨h1, h2⟩⟩
      · exact ⟨.refl _, .refl _⟩
      · exact ⟨R_iff.2 (.inr ((hA i y hi hy).1 h1)), R_iff.2 (.inr ((hA y i hy hi).1 h2))⟩
    · rintro ⟨h1, h2⟩
      have hy := hR _ _ h1 hi
      refine ⟨hy, ?_⟩
      by_cases e : y = i
      · exact .inl e
      · right
        refine ⟨(hA i y hi hy).2 ?_, (hA y i hy hi).2 ?_⟩
        · rcases R_iff.1 h1 with h | h
          · exact absurd h.symm e
          · exact h
        · rcases R_iff.1 h2 with h | h
          · exact absurd h e
          · exact h
  intro i
  induction i with
  | zero => intro _; simp [outN, Heads]
  | succ i ih =>
    intro hi
    obtain ⟨h1, h2, h3, h4, h5, h6⟩ := ih (by omega)
    simp only [outN]
    by_cases hd : (outN A n i).any (fun c => c.contains i) = true
    · rw [if_pos hd]
      simp only [List.any_eq_true, List.contains_iff_mem] at hd
      refine ⟨fun x hx => ?_, h2, h3, h4, fun c hc => Nat.lt_succ_of_lt (h5 c hc), h6⟩
      rcases Nat.lt_or_ge x i with h | h
      · exact h1 x h
      · obtain rfl : x = i := by omega
        exact hd
    · rw [if_neg hd]
      simp only [List.any_eq_true, List.contains_iff_mem, not_exists, not_and] at hd
      have hii : i < n := by omega
      have hself : i ∈ withN A i n := (hW i hii i).2 ⟨.refl _, .refl _⟩
      have hge : ∀ y ∈ withN A i n, i ≤ y := by
        intro y hy
        rcases Nat.lt_or_ge y i with h | h
        · exfalso
          obtain ⟨c, hc, hyc⟩ := h1 y h
          have hw := (hW i hii y).1 hy
          exact hd c hc (((h2 c hc y hyc).2 i).2 ⟨hw.2, hw.1⟩)
        · exact h
      have hsort : (withN A i n).Pairwise (· < ·) := List.Pairwise.filter _ List.pairwise_lt_range
      have hhead : (withN A i n).headD 0 = i := by
        cases hw : withN A i n with
        | nil => rw [hw] at hself; cases hself
        | cons a l =>
          rw [hw] at hself hsort hge
          have h7 := hge a (by simp)
          rcases List.mem_cons.1 hself with h8 | h8
          · simp [h8]
          · have := (List.pairwise_cons.1 hsort).1 i h8
            simp; omega
      refine ⟨fun x hx => ?_, ?_, ?_, ?_, ?_, ?_⟩
      · rcases Nat.lt_or_ge x i with h | h
        · obtain ⟨c, hc, hx⟩ := h1 x h
          exact ⟨c, by simp [hc], hx⟩
        · obtain rfl : x = i := by omega
          exact ⟨withN A x n, by simp, hself⟩
      · intro c hc
        rcases List.mem_append.1 hc with hc | hc
        · exact h2 c hc
        · simp only [List.mem_singleton] at hc
          subst hc
          intro x hx
          have hw := (hW i hii x).1 hx
          refine ⟨hR _ _ hw.1 hii, fun y => ?_⟩
          rw [hW i hii y]
          exact ⟨fun h => ⟨hw.2.trans h.1, h.2.trans hw.1⟩, fun h => ⟨hw.1.trans h.1, h.2.trans hw.2⟩⟩
      · intro c hc
        rcases List.mem_append.1 hc with hc | hc
        · exact h3 c hc
        · simp only [List.mem_singleton] at hc
          subst hc
          exact ⟨hsort, fun e => by rw [e] at hself; cases hself⟩
      · rw [List.pairwise_append]
        refine ⟨h4, by simp, fun c hc d hd' x hx hx' => ?_⟩
        simp only [List.mem_singleton] at hd'
        subst hd'
        have hw := (hW i hii x).1 hx'
        exact hd c hc (((h2 c hc x hx).2 i).2 ⟨hw.2, hw.1⟩)
      · intro c hc
        rcases List.mem_append.1 hc with hc | hc
        · exact Nat.lt_succ_of_lt (h5 c hc)
        · simp only [List.mem_singleton] at hc
          subst hc
          rw [hhead]; omega
      · unfold Heads at h6 ⊢
        rw [List.pairwise_append]
        refine ⟨h6, by simp, fun c hc d hd' => ?_⟩
        simp only [List.mem_singleton] at hd'
        subst hd'
        rw [hhead]
        exact h5 c hc
theorem outN_all {n : Nat} {E A : Nat → Nat → Bool} (hA : ∀ x y, x < n → y < n → (A x y = true ↔ Rp E x y)) (hE : ∀ x y, E x y = true → y < n) : Comps n E (outN A n n) ∧ Heads (outN A n n) := by
  obtain ⟨h1, h2, h3, h4, _, h6⟩ := outN_comps hA hE n (Nat.le_refl _)
  exact ⟨⟨fun x => ⟨h1 x, fun ⟨c, hc, hx⟩ => (h2 c hc x hx).1⟩, fun c hc x hx => (h2 c hc x hx).2, h3, h4⟩, h6⟩
end Go.Tar
