/-
  Package bits: going through a set, as contracts; conditions: the set was made by bits.New, the table of math/bits lies in memory.
-/
import Derived.Test.YtgfljbplccekcaaDoorBits2
import Derived.Test.YtgfljbplccekcaaDoorLow
set_option linter.unusedSimpArgs false
set_option linter.unusedVariables false
set_option maxRecDepth 100000
namespace Go.Proofs.YtgfljbplccekcaaDoor
open Go Go.V Go.Low

theorem TyTab : aggT Tryd.prog 295 = some true ∧
  szT Tryd.prog 295 = some 64 ∧
  arT Tryd.prog 295 = some (64, 1) ∧
  aggT Tryd.prog 192 = some false ∧
  szT Tryd.prog 192 = some 1 ∧
  zeroT Tryd.prog 192 = some (.int .u64 0) ∧
  intT Tryd.prog 192 = some .u64 ∧
  (Tryd.prog.underlying 192).isSome = true ∧
  aggT Tryd.prog 5 = some false ∧
  szT Tryd.prog 5 = some 1 ∧
  zeroT Tryd.prog 5 = some (.int .u8 0) ∧
  intT Tryd.prog 5 = some .u8 ∧
  (Tryd.prog.underlying 5).isSome = true ∧
  aggT Tryd.prog 3 = some false ∧
  szT Tryd.prog 3 = some 1 ∧
  zeroT Tryd.prog 3 = some (.int .i64 0) ∧
  intT Tryd.prog 3 = some .i64 ∧
  (Tryd.prog.underlying 3).isSome = true ∧
  aggT Tryd.prog 4 = some false ∧
  szT Tryd.prog 4 = some 1 ∧
  zeroT Tryd.prog 4 = some (.bool false) ∧
  boolT Tryd.prog 4 = true ∧
  aggT Tryd.prog 59 = some false ∧
  szT Tryd.prog 59 = some 1 ∧
  zeroT Tryd.prog 59 = some (.int .u64 0) ∧
  intT Tryd.prog 59 = some .u64 ∧
  (Tryd.prog.underlying 59).isSome = true := by
  refine ⟨?_, ?_, ?_, ?_, ?_, ?_, ?_, ?_, ?_, ?_, ?_, ?_, ?_, ?_, ?_, ?_, ?_, ?_, ?_, ?_, ?_, ?_, ?_, ?_, ?_, ?_, ?_⟩ <;> kernel_rfl
def tab : List Nat := [0, 1, 56, 2, 57, 49, 28, 3, 61, 58, 42, 50, 38, 29, 17, 4, 62, 47, 59, 36, 45, 43, 51, 22, 53, 39, 33, 30, 24, 18, 12, 5, 63, 55, 48, 27, 60, 41, 37, 16, 46, 35, 44, 21, 52, 32, 23, 11, 54, 26, 40, 15, 34, 20, 31, 10, 25, 14, 19, 9, 13, 8, 7, 6]
/-- the table of math/bits lies in block 0 -/
def Tab (h : Heap) : Prop := ∀ i n, tab[i]? = some n → hcell h 0 i = some (.int .u8 (n : Nat))
theorem Tab.ge {h h' : Heap} (g : Ge h h') (t : Tab h) : Tab h' := fun i n hi => g.cell (t i n hi)
theorem wrap_u64 (n : Int) : IntKind.u64.wrap n = n % 18446744073709551616 := by simp [IntKind.wrap, IntKind.bits, IntKind.signed]
theorem tz_ok {h : Heap} (t : Tab h) {w k : Nat} (hw : w < 2 ^ 64) (hk : isLow w k) : Ct Tryd.prog 195 [.int .u64 w] h fun v h' => v = .int .i64 k ∧ h = h' := by
  have hk64 := low_lt hw hk
  have hw0 : w ≠ 0 := by rintro rfl; simp [isLow] at hk
  have hm := low_table ⟨k, hk64⟩
  simp only at hm
  generalize hq : (2 ^ k * 285870213051353865) % 2 ^ 64 / 2 ^ 58 = m at hm
  have hm64 : m < 64 := by have := (List.getElem?_eq_some_iff.1 hm).1; simpa using this
  have hp : 2 ^ k < 2 ^ 64 := Nat.pow_lt_pow_right (by omega) hk64
  have e0 : IntKind.u64.wrap (0 - (w : Int)) = ((2 ^ 64 - w : Nat) : Int) := by rw [wrap_u64]; omega
  have e1 : bitV .and .u64 (w : Int) (IntKind.u64.wrap (0 - (w : Int))) = ((2 ^ k : Nat) : Int) := by
    rw [e0, bitV_and _ _ hw (by omega), low_and hw hk]
  have e2 : (IntKind.u64.wrap (bitV .and .u64 (w : Int) (IntKind.u64.wrap (0 - (w : Int))) * 285870213051353865)).fdiv (2 ^ min 58 IntKind.u64.bits) = (m : Int) := by
    rw [e1, wrap_u64]
    have e3 : (2 : Int) ^ min 58 IntKind.u64.bits = 288230376151711744 := by simp [IntKind.bits]
    rw [e3, Int.fdiv_eq_ediv_of_nonneg _ (by omega)]
    clear e0 e1
    generalize 2 ^ k = z at *
    have hq' : z * 285870213051353865 % 18446744073709551616 / 288230376151711744 = m := hq
    rw [← hq', Int.natCast_ediv, Int.natCast_emod, Int.natCast_mul]; rfl
  have hc := t m k hm
  refine enter Tryd.func195 (by kernel_rfl) rfl Tryd.results195 (by kernel_rfl) (by kernel_rfl) (init1 _) ?_
  simp (disch := omega) only [↓SS, A, Nat.reduceEqDiff, Int.reduceToNat, Int.cast_ofNat_Int, Int.reduceSub, Int.reduceAdd, Nat.reduceAdd, Nat.reduceMul, Nat.reduceSub, ↓reduceIte, rd_eq, TyTab, e2, hc]
theorem mask_bit {s j : Nat} (hj : j < 64) : (2 ^ 64 - 2 ^ s).testBit j = decide (s ≤ j) := by
  rcases Nat.lt_or_ge s 64 with hs | hs
  · have hp := Nat.two_pow_pos s
    have hl : 2 ^ s < 2 ^ 64 := Nat.pow_lt_pow_right (by omega) hs
    have e : 2 ^ 64 - 2 ^ s = 2 ^ 64 - ((2 ^ s - 1) + 1) := by omega
    rw [e, Nat.testBit_two_pow_sub_succ (by omega), Nat.testBit_two_pow_sub_one]
    by_cases h : s ≤ j
    · have : ¬ j < s := by omega
      simp [h, this, hj]
    · have : j < s := by omega
      simp [h, this]
  · have hl : 2 ^ 64 ≤ 2 ^ s := Nat.pow_le_pow_right (by omega) hs
    have : ¬ s ≤ j := by omega
    simp [Nat.sub_eq_zero_of_le hl, this]
theorem next_ok {h : Heap} (t : Tab h) {s wb n : Nat} {ws : List Nat} (q : isSet h s wb n ws) (i : Nat) (hi : i ≤ 4097) : Ct Tryd.prog 162 [ptr s 0, .int .i64 i] h fun v h' =>
    ((∃ k, v = .tuple #[.int .i64 (k : Nat), .bool true] ∧ i ≤ k ∧ mem ws k = true ∧ ∀ j, i ≤ j → j < k → mem ws j = false) ∨ (v = .tuple #[.int .i64 0, .bool false] ∧ ∀ j, i ≤ j → mem ws j = false)) ∧ h = h' := by
  have hn := q.le
  have hl := q.len
  have e1 : (if (0 : Int) > (i : Int) then (0 : Int) else i) = i := by rw [if_neg (by omega)]
  have d0 : hcell h s 0 = some (.slice (some ⟨wb, 0, none⟩) ws.length ws.length) := by simp [hcell, q.blk]
  refine enter Tryd.func162 (by kernel_rfl) rfl Tryd.results162 (by kernel_rfl) (by kernel_rfl) (init2 _ _) ?_
  simp (disch := omega) only [↓SS, A, Nat.reduceEqDiff, Int.reduceToNat, Int.cast_ofNat_Int, Int.reduceSub, Int.reduceAdd, Nat.reduceAdd, Nat.reduceMul, Nat.reduceSub, ↓reduceIte, rd_eq, TyBits]
  refine vcall_mk (none_ok q) ?_
  rintro _ _ ⟨rfl, rfl⟩
  simp (disch := omega) only [↓SS, A, Nat.reduceEqDiff, Int.reduceToNat, Int.cast_ofNat_Int, Int.reduceSub, Int.reduceAdd, Nat.reduceAdd, Nat.reduceMul, Nat.reduceSub, ↓reduceIte, rd_eq, TyBits, e1]
  refine vloop_mk (fun k fr h' => ∃ j : Nat, (j + k = ws.length ∨ ws.length ≤ j ∧ k = 0) ∧ fr = [(6, .int .i64 j), (1, .int .i64 i), (0, ptr s 0)] ∧ h = h' ∧ i / 64 ≤ j ∧ ∀ x, i ≤ x → x < j * 64 → mem ws x = false) (ws.length - i / 64)
    [(6, .int .i64 (i / 64 : Nat)), (1, .int .i64 i), (0, ptr s 0)] (by simp only [↓SS, Nat.reduceEqDiff, Int.reduceToNat, Int.cast_ofNat_Int, Int.reduceSub, Int.reduceAdd, Nat.reduceAdd, Nat.reduceMul, Nat.reduceSub, ↓reduceIte, rd_eq, TyBits, Int.natCast_ediv]) ⟨i / 64, by omega, rfl, rfl, Nat.le_refl _, by intro x h1 h2; omega⟩ ?_
  rintro k _ _ ⟨j, hjk, rfl, rfl, hij, hno⟩
  by_cases hj : j < ws.length
  · have hc := q.small _ (List.getElem_mem hj)
    have hcell1 : hcell h wb j = some (.int .u64 ((ws[j]'hj : Nat) : Int)) := by simp [hcell, q.words, hj]
    have hbit : ∀ y, y < 64 → mem ws (j * 64 + y) = (ws[j]'hj).testBit y := by
      intro y hy
      unfold mem
      have a1 : (j * 64 + y) / 64 = j := by omega
      have a2 : (j * 64 + y) % 64 = y := by omega
      rw [a1, a2, List.getElem?_eq_getElem hj, Option.getD_some]
    have none_in : ∀ w' : Nat, (∀ y, y < 64 → w'.testBit y = (mem ws (j * 64 + y) && decide (i ≤ j * 64 + y))) → w' = 0 → ∀ x, i ≤ x → x < (j + 1) * 64 → mem ws x = false := by
      intro w' hw' h0 x h1 h2
      by_cases h3 : x < j * 64
      · exact hno x h1 h3
      · have h4 := hw' (x - j * 64) (by omega)
        have h5 : j * 64 + (x - j * 64) = x := by omega
        rw [h0, h5] at h4
        simp [h1] at h4
        exact h4
    have some_in : ∀ w' y : Nat, w' < 2 ^ 64 → (∀ y, y < 64 → w'.testBit y = (mem ws (j * 64 + y) && decide (i ≤ j * 64 + y))) → isLow w' y → i ≤ j * 64 + y ∧ mem ws (j * 64 + y) = true ∧ ∀ x, i ≤ x → x < j * 64 + y → mem ws x = false := by
      intro w' y hlt hw' hlow
      have hy := low_lt hlt hlow
      have h4 := hlow.1
      rw [hw' y hy] at h4
      simp only [Bool.and_eq_true, decide_eq_true_eq] at h4
      refine ⟨h4.2, h4.1, fun x h1 h2 => ?_⟩
      by_cases h3 : x < j * 64
      · exact hno x h1 h3
      · have h6 := hlow.2 (x - j * 64) (by omega)
        have h5 : j * 64 + (x - j * 64) = x := by omega
        rw [hw' _ (by omega), h5] at h6
        simpa [h1] using h6
    by_cases hji : j = i / 64
    · have hji' : (j : Int) = (i : Int) / 64 := by omega
      have m0 : min ((i : Int) % 64).toNat IntKind.u64.bits = i % 64 := by simp [IntKind.bits]; omega
      have m1 : IntKind.u64.wrap (18446744073709551615 * 2 ^ min ((i : Int) % 64).toNat IntKind.u64.bits) = ((2 ^ 64 - 2 ^ (i % 64) : Nat) : Int) := by
        rw [m0, wrap_u64]
        have e : ((2 : Int) ^ (i % 64)) = ((2 ^ (i % 64) : Nat) : Int) := by simp
        have hp := Nat.two_pow_pos (i % 64)
        have hlt := pow_lt64 i
        rw [e]
        generalize 2 ^ (i % 64) = z at *
        omega
      have m2 := bitV_and (ws[j]'hj) (2 ^ 64 - 2 ^ (i % 64)) hc (by have := Nat.two_pow_pos (i % 64); omega)
      rw [← m1] at m2
      have hb' : ∀ y, y < 64 → ((ws[j]'hj) &&& (2 ^ 64 - 2 ^ (i % 64))).testBit y = (mem ws (j * 64 + y) && decide (i ≤ j * 64 + y)) := by
        intro y hy
        rw [Nat.testBit_and, mask_bit hy, hbit y hy]
        congr 1
        apply decide_eq_decide.2
        omega
      have hlt' : (ws[j]'hj) &&& (2 ^ 64 - 2 ^ (i % 64)) < 2 ^ 64 := Nat.lt_of_le_of_lt Nat.and_le_left hc
      generalize ((ws[j]'hj) &&& (2 ^ 64 - 2 ^ (i % 64))) = w' at *
      by_cases h0 : w' = 0
      · have h00 : (w' : Int) = 0 := by omega
        simp (disch := omega) only [↓SS, A, Nat.reduceEqDiff, Int.reduceToNat, Int.cast_ofNat_Int, Int.reduceSub, Int.reduceAdd, Nat.reduceAdd, Nat.reduceMul, Nat.reduceSub, ↓reduceIte, rd_eq, TyBits, d0, hcell1, m2, h00]
        refine ⟨k - 1, by omega, _, (by simp only [↓SS, Nat.reduceEqDiff, Int.reduceToNat, Int.cast_ofNat_Int, Int.reduceSub, Int.reduceAdd, Nat.reduceAdd, Nat.reduceMul, Nat.reduceSub, ↓reduceIte, rd_eq, Int.natCast_add, Int.cast_ofNat_Int]), j + 1, by omega, rfl, by omega, none_in _ hb' h0⟩
      · obtain ⟨y, hy⟩ := exists_low h0
        simp (disch := omega) only [↓SS, A, Nat.reduceEqDiff, Int.reduceToNat, Int.cast_ofNat_Int, Int.reduceSub, Int.reduceAdd, Nat.reduceAdd, Nat.reduceMul, Nat.reduceSub, ↓reduceIte, rd_eq, TyBits, d0, hcell1, m2]
        refine vcall_mk (tz_ok t hlt' hy) ?_
        rintro _ _ ⟨rfl, rfl⟩
        have hy64 := low_lt hlt' hy
        obtain ⟨r1, r2, r3⟩ := some_in _ y hlt' hb' hy
        simp (disch := omega) only [↓SS, A, Nat.reduceEqDiff, Int.reduceToNat, Int.cast_ofNat_Int, Int.reduceSub, Int.reduceAdd, Nat.reduceAdd, Nat.reduceMul, Nat.reduceSub, ↓reduceIte, rd_eq, TyBits]
        exact .inl ⟨j * 64 + y, by simp, r1, r2, r3⟩
    · have hb' : ∀ y, y < 64 → (ws[j]'hj).testBit y = (mem ws (j * 64 + y) && decide (i ≤ j * 64 + y)) := by
        intro y hy
        have : i ≤ j * 64 + y := by omega
        rw [hbit y hy]; simp [this]
      have hji' : ¬ (j : Int) = (i : Int) / 64 := by omega
      generalize (ws[j]'hj) = w' at *
      by_cases h0 : w' = 0
      · subst h0
        simp (disch := omega) only [↓SS, A, Nat.reduceEqDiff, Int.reduceToNat, Int.cast_ofNat_Int, Int.reduceSub, Int.reduceAdd, Nat.reduceAdd, Nat.reduceMul, Nat.reduceSub, ↓reduceIte, rd_eq, TyBits, d0, hcell1]
        refine ⟨k - 1, by omega, _, (by simp only [↓SS, Nat.reduceEqDiff, Int.reduceToNat, Int.cast_ofNat_Int, Int.reduceSub, Int.reduceAdd, Nat.reduceAdd, Nat.reduceMul, Nat.reduceSub, ↓reduceIte, rd_eq, Int.natCast_add, Int.cast_ofNat_Int]), j + 1, by omega, rfl, by omega, none_in _ hb' rfl⟩
      · obtain ⟨y, hy⟩ := exists_low h0
        simp (disch := omega) only [↓SS, A, Nat.reduceEqDiff, Int.reduceToNat, Int.cast_ofNat_Int, Int.reduceSub, Int.reduceAdd, Nat.reduceAdd, Nat.reduceMul, Nat.reduceSub, ↓reduceIte, rd_eq, TyBits, d0, hcell1]
        refine vcall_mk (tz_ok t hc hy) ?_
        rintro _ _ ⟨rfl, rfl⟩
        have hy64 := low_lt hc hy
        obtain ⟨r1, r2, r3⟩ := some_in _ y hc hb' hy
        simp (disch := omega) only [↓SS, A, Nat.reduceEqDiff, Int.reduceToNat, Int.cast_ofNat_Int, Int.reduceSub, Int.reduceAdd, Nat.reduceAdd, Nat.reduceMul, Nat.reduceSub, ↓reduceIte, rd_eq, TyBits]
        exact .inl ⟨j * 64 + y, by simp, r1, r2, r3⟩
  · simp (disch := omega) only [↓SS, A, Nat.reduceEqDiff, Int.reduceToNat, Int.cast_ofNat_Int, Int.reduceSub, Int.reduceAdd, Nat.reduceAdd, Nat.reduceMul, Nat.reduceSub, ↓reduceIte, rd_eq, TyBits, d0]
    refine .inr fun x hx => ?_
    by_cases hx2 : x < j * 64
    · exact hno x hx hx2
    · unfold mem; rw [List.getElem?_eq_none (by omega)]; simp
end Go.Proofs.YtgfljbplccekcaaDoor
