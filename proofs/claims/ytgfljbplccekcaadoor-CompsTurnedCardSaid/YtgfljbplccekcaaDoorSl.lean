/-
  slices.Clone, slices.Sort at []int as contracts; conditions: sizes.
-/
import Derived.Test.YtgfljbplccekcaaDoorInts
import Derived.Test.YtgfljbplccekcaaDoorV7
set_option linter.unusedSimpArgs false
set_option linter.unusedVariables false
set_option maxRecDepth 100000
namespace Go.Proofs.YtgfljbplccekcaaDoor
open Go Go.V Go.Low

theorem elI : elT Tryd.prog 23 = some (3, 1, 8, .int .i64 0) := by kernel_rfl
theorem clone_ok {h : Heap} {v : Value} {xs : List Int} (r : Ints h v xs) (hl : xs.length ≤ 17592186044416) : Ct Tryd.prog 24 [v] h fun w h' =>
    Own h' h.size 3 1 w xs.length (ivals xs) ∧ Ge h h' := by
  obtain ⟨a, c, rfl, h1, h2, h3⟩ := id r
  refine enter Tryd.func24 (by kernel_rfl) rfl Tryd.results24 (by kernel_rfl) (by kernel_rfl) (init1 _) ?_
  cases a with
  | none =>
    have h0 : xs = [] := by
      cases xs with
      | nil => rfl
      | cons x l => obtain ⟨b, o, e, _⟩ := h3 (by simp); cases e
    subst h0
    simp (disch := omega) only [↓SS, A, Nat.reduceEqDiff, Int.reduceToNat, Int.cast_ofNat_Int, Int.reduceSub, Int.reduceAdd, Nat.reduceAdd, Nat.reduceMul, Nat.reduceSub, ↓reduceIte, rd_eq, TyI]
    exact ⟨Own.nil _ _ _ _, Ge.refl _⟩
  | some ad =>
    simp (disch := omega) only [↓SS, A, Nat.reduceEqDiff, Int.reduceToNat, Int.cast_ofNat_Int, Int.reduceSub, Int.reduceAdd, Nat.reduceAdd, Nat.reduceMul, Nat.reduceSub, ↓reduceIte, rd_eq, TyI]
    refine vbs_zero elI ?_
    simp (disch := omega) only [↓SS, A, Nat.reduceEqDiff, Int.reduceToNat, Int.cast_ofNat_Int, Int.reduceSub, Int.reduceAdd, Nat.reduceAdd, Nat.reduceMul, Nat.reduceSub, ↓reduceIte, rd_eq, TyI]
    have g1 : Ge h (h.push (.cells #[] 3)) := Ge.push _ _
    have e1 : (h.push (.cells #[] 3))[h.size]? = some (.cells #[] 3 (0, 0)) := push_new _ _
    generalize h.push (.cells #[] 3) = hA at *
    have o1 : Own hA h.size 3 1 (sl h.size 0 0 0) 0 [] := Own.zero (Nat.le_refl _) e1
    by_cases hx : 0 < xs.length
    · obtain ⟨b, o, e, hr⟩ := h3 hx
      simp only [Option.some.injEq] at e
      subst e
      have hr1 := g1.rdRow hr
      refine vapp_own elI rfl (by omega) o1 (by rw [Nat.mul_one]; exact hr1) (by simp [ivals, Value.oneCell']) (by omega) (by omega) g1.size ?_
      intro v' h2 ho gr hn
      simp (disch := omega) only [↓SS, A, Nat.reduceEqDiff, Int.reduceToNat, Int.cast_ofNat_Int, Int.reduceSub, Int.reduceAdd, Nat.reduceAdd, Nat.reduceMul, Nat.reduceSub, ↓reduceIte, rd_eq, TyI]
      refine ⟨?_, o1.gee g1 gr⟩
      simpa using ho
    · have hx0 : xs = [] := List.eq_nil_of_length_eq_zero (by omega)
      subst hx0
      refine vapp_zero elI o1 ?_
      simp (disch := omega) only [↓SS, A, Nat.reduceEqDiff, Int.reduceToNat, Int.cast_ofNat_Int, Int.reduceSub, Int.reduceAdd, Nat.reduceAdd, Nat.reduceMul, Nat.reduceSub, ↓reduceIte, rd_eq, TyI]
      exact ⟨o1, g1⟩
end Go.Proofs.YtgfljbplccekcaaDoor
