/-
  Plain law: the lowest bit of a word by a de Bruijn table; conditions: none.
-/
namespace Go.Low

/-- k is the lowest bit of w -/
def isLow (w k : Nat) : Prop := w.testBit k = true ∧ ∀ j, j < k → w.testBit j = false
theorem exists_low {w : Nat} (hw : w ≠ 0) : ∃ k, isLow w k := by
  have h1 : ∃ k, w.testBit k = true := Nat.exists_testBit_of_ne_zero hw
  obtain ⟨k, hk⟩ := h1
  induction k using Nat.strongRecOn with
  | ind k ih =>
    by_cases h : ∃ j, j < k ∧ w.testBit j = true
    · obtain ⟨j, hj, hb⟩ := h
      exact ih j hj hb
    · refine ⟨k, hk, fun j hj => ?_⟩
      cases hb : w.testBit j with
      | false => rfl
      | true => exact absurd ⟨j, hj, hb⟩ h
theorem low_lt {w k n : Nat} (hw : w < 2 ^ n) (h : isLow w k) : k < n := by
  rcases Nat.lt_or_ge k n with h1 | h1
  · exact h1
  · have := Nat.testBit_lt_two_pow (Nat.lt_of_lt_of_le hw (Nat.pow_le_pow_right (by omega) h1))
    rw [h.1] at this; cases this
theorem low_split {w k : Nat} (h : isLow w k) : ∃ r, w = 2 ^ k * (2 * r + 1) := by
  have hmod : w % 2 ^ k = 0 := by
    apply Nat.eq_of_testBit_eq
    intro j
    rw [Nat.testBit_mod_two_pow, Nat.zero_testBit]
    by_cases hj : j < k
    · simp [h.2 j hj]
    · simp [hj]
  have hd : w = 2 ^ k * (w / 2 ^ k) := by have := Nat.div_add_mod w (2 ^ k); omega
  have hb := h.1
  rw [Nat.testBit_eq_decide_div_mod_eq] at hb
  have ho : w / 2 ^ k % 2 = 1 := by simpa using hb
  refine ⟨w / 2 ^ k / 2, ?_⟩
  have e : 2 * (w / 2 ^ k / 2) + 1 = w / 2 ^ k := by omega
  rw [e]; exact hd
theorem low_and {w k n : Nat} (hw : w < 2 ^ n) (h : isLow w k) : w &&& (2 ^ n - w) = 2 ^ k := by
  obtain ⟨r, hr⟩ := low_split h
  have hk := low_lt hw h
  have hp := Nat.two_pow_pos k
  have hw0 : w ≠ 0 := by rintro rfl; simp [isLow] at h
  apply Nat.eq_of_testBit_eq
  intro j
  have e1 : 2 ^ n - w = 2 ^ n - ((w - 1) + 1) := by omega
  have e2 : w - 1 = 2 ^ k * (2 * r) + (2 ^ k - 1) := by
    rw [hr, Nat.mul_add, Nat.mul_one]; omega
  rw [Nat.testBit_and, e1, Nat.testBit_two_pow_sub_succ (by omega), e2, Nat.testBit_two_pow_mul_add _ (by omega), Nat.testBit_two_pow]
  by_cases h1 : j < k
  · have : ¬ k = j := by omega
    simp [h.2 j h1, this]
  · rw [if_neg h1]
    by_cases h2 : k = j
    · subst h2
      simp [h.1, hk]
    · have h3 : w.testBit j = (2 * r + 1).testBit (j - k) := by
        rw [hr, Nat.testBit_two_pow_mul]
        have : k ≤ j := by omega
        simp [this]
      obtain ⟨t, ht⟩ : ∃ t, j - k = t + 1 := ⟨j - k - 1, by omega⟩
      rw [h3, ht, Nat.testBit_succ, Nat.testBit_succ]
      have e3 : (2 * r + 1) / 2 = r := by omega
      have e4 : 2 * r / 2 = r := by omega
      rw [e3, e4]
      cases r.testBit t <;> simp [h2]
/-- the table's indices -/
theorem low_table : ∀ k : Fin 64, ([0, 1, 56, 2, 57, 49, 28, 3, 61, 58, 42, 50, 38, 29, 17, 4, 62, 47, 59, 36, 45, 43, 51, 22, 53, 39, 33, 30, 24, 18, 12, 5, 63, 55, 48, 27, 60, 41, 37, 16, 46, 35, 44, 21, 52, 32, 23, 11, 54, 26, 40, 15, 34, 20, 31, 10, 25, 14, 19, 9, 13, 8, 7, 6] : List Nat)[(2 ^ k.val * 285870213051353865) % 2 ^ 64 / 2 ^ 58]? = some k.val := by decide
end Go.Low
