/-
  slices.Equal at []int, slices.EqualFunc at [][]int, as contracts; conditions: what is read lies in memory.
-/
import Derived.Test.YtgfljbplccekcaaDoorComps3
set_option linter.unusedSimpArgs false
set_option linter.unusedVariables false
set_option maxRecDepth 100000
namespace Go.Proofs.YtgfljbplccekcaaDoor
open Go Go.V Go.Low

theorem TyE : aggT Tryd.prog 23 = some false ∧
  szT Tryd.prog 23 = some 1 ∧
  zeroT Tryd.prog 23 = some (.slice none 0 0) ∧
  slT Tryd.prog 23 = some 1 ∧
  aggT Tryd.prog 3 = some false ∧
  szT Tryd.prog 3 = some 1 ∧
  zeroT Tryd.prog 3 = some (.int .i64 0) ∧
  intT Tryd.prog 3 = some .i64 ∧
  (Tryd.prog.underlying 3).isSome = true ∧
  aggT Tryd.prog 4 = some false ∧
  szT Tryd.prog 4 = some 1 ∧
  zeroT Tryd.prog 4 = some (.bool false) ∧
  boolT Tryd.prog 4 = true ∧
  aggT Tryd.prog 51 = some false ∧
  szT Tryd.prog 51 = some 1 ∧
  zeroT Tryd.prog 51 = some (.slice none 0 0) ∧
  slT Tryd.prog 51 = some 1 := by
  refine ⟨?_, ?_, ?_, ?_, ?_, ?_, ?_, ?_, ?_, ?_, ?_, ?_, ?_, ?_, ?_, ?_, ?_⟩ <;> kernel_rfl
theorem equal_ok {h : Heap} {v w : Value} {xs ys : List Int} (r : Ints h v xs) (r' : Ints h w ys) : Ct Tryd.prog 26 [v, w] h fun u h' => u = .bool (decide (xs = ys)) ∧ h = h' := by
  obtain ⟨a, c, rfl, h1, h2, _⟩ := id r
  obtain ⟨a', c', rfl, h1', h2', _⟩ := id r'
  refine enter Tryd.func26 (by kernel_rfl) rfl Tryd.results26 (by kernel_rfl) (by kernel_rfl) (init2 _ _) ?_
  by_cases hl : xs.length = ys.length
  · simp (disch := omega) only [↓SS, A, Nat.reduceEqDiff, Int.reduceToNat, Int.cast_ofNat_Int, Int.reduceSub, Int.reduceAdd, Nat.reduceAdd, Nat.reduceMul, Nat.reduceSub, ↓reduceIte, rd_eq, TyE, hl]
    refine vloop_mk (fun k fr h' => ∃ i : Nat, i + k = ys.length ∧ fr = [(13, .int .i64 i), (12, .int .i64 ys.length), (0, .slice a xs.length c), (1, .slice a' ys.length c')] ∧ h = h' ∧ xs.take i = ys.take i) ys.length
      [(13, .int .i64 0), (12, .int .i64 ys.length), (0, .slice a xs.length c), (1, .slice a' ys.length c')] (by simp only [↓SS, Nat.reduceEqDiff, Int.reduceToNat, Int.cast_ofNat_Int, Int.reduceSub, Int.reduceAdd, Nat.reduceAdd, Nat.reduceMul, Nat.reduceSub, ↓reduceIte, rd_eq, TyE, hl]) ⟨0, by omega, rfl, rfl, by simp⟩ ?_
    rintro k _ _ ⟨i, hik, rfl, rfl, heq⟩
    by_cases hi : i < ys.length
    · obtain ⟨b, o, c1, e1, _, _, hc1⟩ := r.out (by omega)
      obtain ⟨b', o', c1', e1', _, _, hc1'⟩ := r'.out (by omega)
      cases e1
      cases e1'
      have g1 := hc1 i _ (List.getElem?_eq_getElem (by omega))
      have g2 := hc1' i _ (List.getElem?_eq_getElem hi)
      by_cases hx : xs[i]'(by omega) = ys[i]
      · rw [hx] at g1
        simp (disch := omega) only [↓SS, A, Nat.reduceEqDiff, Int.reduceToNat, Int.cast_ofNat_Int, Int.reduceSub, Int.reduceAdd, Nat.reduceAdd, Nat.reduceMul, Nat.reduceSub, ↓reduceIte, rd_eq, TyE, hl]
        refine vdraw_pure mixed (by kernel_rfl) ?_
        simp (disch := omega) only [↓SS, A, Nat.reduceEqDiff, Int.reduceToNat, Int.cast_ofNat_Int, Int.reduceSub, Int.reduceAdd, Nat.reduceAdd, Nat.reduceMul, Nat.reduceSub, ↓reduceIte, rd_eq, TyE, g1, g2]
        refine ⟨k - 1, by omega, _, (by simp only [↓SS, Nat.reduceEqDiff, Int.reduceToNat, Int.cast_ofNat_Int, Int.reduceSub, Int.reduceAdd, Nat.reduceAdd, Nat.reduceMul, Nat.reduceSub, ↓reduceIte, rd_eq, Int.natCast_add, Int.cast_ofNat_Int]), i + 1, by omega, rfl, ?_⟩
        rw [List.take_succ_eq_append_getElem (by omega), List.take_succ_eq_append_getElem hi, heq, hx]
      · simp (disch := omega) only [↓SS, A, Nat.reduceEqDiff, Int.reduceToNat, Int.cast_ofNat_Int, Int.reduceSub, Int.reduceAdd, Nat.reduceAdd, Nat.reduceMul, Nat.reduceSub, ↓reduceIte, rd_eq, TyE, hl]
        refine vdraw_pure mixed (by kernel_rfl) ?_
        simp (disch := omega) only [↓SS, A, Nat.reduceEqDiff, Int.reduceToNat, Int.cast_ofNat_Int, Int.reduceSub, Int.reduceAdd, Nat.reduceAdd, Nat.reduceMul, Nat.reduceSub, ↓reduceIte, rd_eq, TyE, g1, g2, hx]
        rw [decide_eq_false (fun e => hx (by subst e; rfl))]
    · obtain rfl : i = ys.length := by omega
      simp (disch := omega) only [↓SS, A, Nat.reduceEqDiff, Int.reduceToNat, Int.cast_ofNat_Int, Int.reduceSub, Int.reduceAdd, Nat.reduceAdd, Nat.reduceMul, Nat.reduceSub, ↓reduceIte, rd_eq, TyE, hl]
      rw [List.take_of_length_le (by omega), List.take_of_length_le (by omega)] at heq
      simp [heq]
  · have hl' : ¬ ((xs.length : Nat) : Int) = (ys.length : Nat) := by omega
    simp (disch := omega) only [↓SS, A, Nat.reduceEqDiff, Int.reduceToNat, Int.cast_ofNat_Int, Int.reduceSub, Int.reduceAdd, Nat.reduceAdd, Nat.reduceMul, Nat.reduceSub, ↓reduceIte, rd_eq, TyE, hl']
    rw [decide_eq_false (fun e => hl (by rw [e]))]
theorem isLL.out {h : Heap} {v : Value} {L : List (List Int)} (q : isLL h v L) (hl : 0 < L.length) : ∃ b o c, v = sl b o L.length c ∧ L.length ≤ c ∧ c ≤ 9223372036854775807 ∧ ∀ (i : Nat) (xs : List Int), L[i]? = some xs → ∃ w, hcell h b (o + i) = some w ∧ Ints h w xs := by
  obtain ⟨a, c, ws, rfl, h1, h2, h3, h4, h5⟩ := q
  obtain ⟨b, o, rfl, hr⟩ := h4 hl
  obtain ⟨_, hc⟩ := rdRow_at hr
  refine ⟨b, o, c, rfl, h1, h2, fun i xs hx => ?_⟩
  have hi : i < ws.length := by rw [h3]; exact (List.getElem?_eq_some_iff.1 hx).1
  exact ⟨ws[i], hc i _ (List.getElem?_eq_getElem hi), h5 i _ xs (List.getElem?_eq_getElem hi) hx⟩
theorem equalF_ok {h : Heap} {v w : Value} {X Y : List (List Int)} (r : isLL h v X) (r' : isLL h w Y) :
    Ct Tryd.prog 30 [v, w, .func (.func 26) #[] #[]] h fun u h' => u = .bool (decide (X = Y)) ∧ h = h' := by
  obtain ⟨a, c, _, rfl, h1, h2, _⟩ := id r
  obtain ⟨a', c', _, rfl, h1', h2', _⟩ := id r'
  refine enter Tryd.func30 (by kernel_rfl) rfl Tryd.results30 (by kernel_rfl) (by kernel_rfl) (init3 _ _ _) ?_
  by_cases hl : X.length = Y.length
  · simp (disch := omega) only [↓SS, A, Nat.reduceEqDiff, Int.reduceToNat, Int.cast_ofNat_Int, Int.reduceSub, Int.reduceAdd, Nat.reduceAdd, Nat.reduceMul, Nat.reduceSub, ↓reduceIte, rd_eq, TyE, hl]
    refine vloop_mk (fun k fr h' => ∃ i : Nat, i + k = Y.length ∧ fr = [(17, .int .i64 i), (16, .int .i64 Y.length), (15, .slice a X.length c), (0, .slice a X.length c), (1, .slice a' Y.length c'), (2, .func (.func 26) #[] #[])] ∧ h = h' ∧ X.take i = Y.take i) Y.length
      [(17, .int .i64 0), (16, .int .i64 Y.length), (15, .slice a X.length c), (0, .slice a X.length c), (1, .slice a' Y.length c'), (2, .func (.func 26) #[] #[])] (by simp only [↓SS, Nat.reduceEqDiff, Int.reduceToNat, Int.cast_ofNat_Int, Int.reduceSub, Int.reduceAdd, Nat.reduceAdd, Nat.reduceMul, Nat.reduceSub, ↓reduceIte, rd_eq, TyE, hl]) ⟨0, by omega, rfl, rfl, by simp⟩ ?_
    rintro k _ _ ⟨i, hik, rfl, rfl, heq⟩
    by_cases hi : i < Y.length
    · obtain ⟨b, o, c1, e1, _, _, hc1⟩ := r.out (by omega)
      obtain ⟨b', o', c1', e1', _, _, hc1'⟩ := r'.out (by omega)
      cases e1
      cases e1'
      obtain ⟨w1, g1, i1⟩ := hc1 i _ (List.getElem?_eq_getElem (by omega))
      obtain ⟨w2, g2, i2⟩ := hc1' i _ (List.getElem?_eq_getElem hi)
      simp (disch := omega) only [↓SS, A, Nat.reduceEqDiff, Int.reduceToNat, Int.cast_ofNat_Int, Int.reduceSub, Int.reduceAdd, Nat.reduceAdd, Nat.reduceMul, Nat.reduceSub, ↓reduceIte, rd_eq, TyE, hl, g1, g2]
      refine vcall_mk (equal_ok i1 i2) ?_
      rintro _ _ ⟨rfl, rfl⟩
      by_cases hx : X[i]'(by omega) = Y[i]
      · simp (disch := omega) only [↓SS, A, Nat.reduceEqDiff, Int.reduceToNat, Int.cast_ofNat_Int, Int.reduceSub, Int.reduceAdd, Nat.reduceAdd, Nat.reduceMul, Nat.reduceSub, ↓reduceIte, rd_eq, TyE, hx]
        refine ⟨k - 1, by omega, _, (by simp only [↓SS, Nat.reduceEqDiff, Int.reduceToNat, Int.cast_ofNat_Int, Int.reduceSub, Int.reduceAdd, Nat.reduceAdd, Nat.reduceMul, Nat.reduceSub, ↓reduceIte, rd_eq, Int.natCast_add, Int.cast_ofNat_Int]), i + 1, by omega, rfl, ?_⟩
        rw [List.take_succ_eq_append_getElem (by omega), List.take_succ_eq_append_getElem hi, heq, hx]
      · simp (disch := omega) only [↓SS, A, Nat.reduceEqDiff, Int.reduceToNat, Int.cast_ofNat_Int, Int.reduceSub, Int.reduceAdd, Nat.reduceAdd, Nat.reduceMul, Nat.reduceSub, ↓reduceIte, rd_eq, TyE, hx]
        rw [decide_eq_false (fun e => hx (by subst e; rfl))]
    · obtain rfl : i = Y.length := by omega
      simp (disch := omega) only [↓SS, A, Nat.reduceEqDiff, Int.reduceToNat, Int.cast_ofNat_Int, Int.reduceSub, Int.reduceAdd, Nat.reduceAdd, Nat.reduceMul, Nat.reduceSub, ↓reduceIte, rd_eq, TyE, hl]
      rw [List.take_of_length_le (by omega), List.take_of_length_le (by omega)] at heq
      simp [heq]
  · have hl' : ¬ ((X.length : Nat) : Int) = (Y.length : Nat) := by omega
    simp (disch := omega) only [↓SS, A, Nat.reduceEqDiff, Int.reduceToNat, Int.cast_ofNat_Int, Int.reduceSub, Int.reduceAdd, Nat.reduceAdd, Nat.reduceMul, Nat.reduceSub, ↓reduceIte, rd_eq, TyE, hl']
    rw [decide_eq_false (fun e => hl (by rw [e]))]
end Go.Proofs.YtgfljbplccekcaaDoor
