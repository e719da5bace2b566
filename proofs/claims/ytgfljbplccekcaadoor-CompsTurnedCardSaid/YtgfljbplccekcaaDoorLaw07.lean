/-
  Layer 7's statements, as contracts; conditions: the argument reads, the table of math/bits lies in memory.
-/
import Derived.Test.YtgfljbplccekcaaDoorDraw
set_option linter.unusedSimpArgs false
set_option linter.unusedVariables false
set_option maxRecDepth 100000
namespace Go.Proofs.YtgfljbplccekcaaDoor
open Go Go.V Go.Low

section
variable {h : Heap} {g x n : Nat} {vs : Nat → Value} {L : Nat → List (Nat × Nat)} {E : Nat → Nat → Nat → Bool} {rv : Value} {rb : Nat → Nat} {M : Nat → Nat → Nat} {of : Int}
theorem cyclic_ok (tb : Tab h) (q : isG h g n vs L E) :
    Ct Tryd.prog 33 [ptr g 0, .int .i64 of] h fun v h' => v = .bool (Tar.ordF n (ed E of) n []).isNone ∧ Ge h h' := by
  refine enter Tryd.func33 (by kernel_rfl) rfl Tryd.results33 (by kernel_rfl) (by kernel_rfl) (init2 _ _) ?_
  simp (disch := omega) only [↓SS, A, Nat.reduceEqDiff, Int.reduceToNat, Int.cast_ofNat_Int, Int.reduceSub, Int.reduceAdd, Nat.reduceAdd, Nat.reduceMul, Nat.reduceSub, ↓reduceIte, rd_eq, TyD]
  refine vcall_mk (order_ok tb q) ?_
  intro r h1 ⟨ho, g1⟩
  have c5 : hcell h1 g 5 = some (.bool true) := by simp [hcell, (q.ge g1).blk, gcells]
  unfold ordR at ho
  cases hO : Tar.ordF n (ed E of) n [] with
  | none =>
    rw [hO] at ho
    subst ho
    simp (disch := omega) only [↓SS, A, Nat.reduceEqDiff, Int.reduceToNat, Int.cast_ofNat_Int, Int.reduceSub, Int.reduceAdd, Nat.reduceAdd, Nat.reduceMul, Nat.reduceSub, ↓reduceIte, rd_eq, TyD]
    refine vcall_mk (made_ok c5) ?_
    rintro _ _ ⟨rfl, rfl⟩
    simp (disch := omega) only [↓SS, A, Nat.reduceEqDiff, Int.reduceToNat, Int.cast_ofNat_Int, Int.reduceSub, Int.reduceAdd, Nat.reduceAdd, Nat.reduceMul, Nat.reduceSub, ↓reduceIte, rd_eq, TyD]
    exact g1
  | some l =>
    rw [hO] at ho
    obtain ⟨lv, rfl, _⟩ := ho
    simp (disch := omega) only [↓SS, A, Nat.reduceEqDiff, Int.reduceToNat, Int.cast_ofNat_Int, Int.reduceSub, Int.reduceAdd, Nat.reduceAdd, Nat.reduceMul, Nat.reduceSub, ↓reduceIte, rd_eq, TyD]
    refine vcall_mk (made_ok c5) ?_
    rintro _ _ ⟨rfl, rfl⟩
    simp (disch := omega) only [↓SS, A, Nat.reduceEqDiff, Int.reduceToNat, Int.cast_ofNat_Int, Int.reduceSub, Int.reduceAdd, Nat.reduceAdd, Nat.reduceMul, Nat.reduceSub, ↓reduceIte, rd_eq, TyD]
    exact g1
end
theorem tells_ok {h : Heap} (tb : Tab h) {z of : Int} {lv : Value} {l : List (Int × Int × Int)} (hl : edgesAt h lv l) :
    Ct Tryd.prog 7 [.int .i64 z, lv, .int .i64 of] h fun v h' => v = .bool true ∧ Ge h h' := by
  obtain ⟨la, lc, rfl, _⟩ := id hl
  refine enter Tryd.func7 (by kernel_rfl) rfl Tryd.results7 (by kernel_rfl) (by kernel_rfl) (init3 _ _ _) ?_
  simp (disch := omega) only [↓SS, A, Nat.reduceEqDiff, Int.reduceToNat, Int.cast_ofNat_Int, Int.reduceSub, Int.reduceAdd, Nat.reduceAdd, Nat.reduceMul, Nat.reduceSub, ↓reduceIte, rd_eq, TyD]
  refine vcall_mk (drawn_ok hl) ?_
  rintro _ h1 ⟨g, x, vs, L, E, rv, rb, M, rfl, p1, g1⟩
  simp (disch := omega) only [↓SS, A, Nat.reduceEqDiff, Int.reduceToNat, Int.cast_ofNat_Int, Int.reduceSub, Int.reduceAdd, Nat.reduceAdd, Nat.reduceMul, Nat.reduceSub, ↓reduceIte, rd_eq, TyD]
  refine vcall_mk (comps_ok (tb.ge g1) p1.G (fun i u k hk => (p1.lt i u k hk).2)) ?_
  rintro v2 h2 ⟨C, hC, hC1, hC2, g2⟩
  simp (disch := omega) only [↓SS, A, Nat.reduceEqDiff, Int.reduceToNat, Int.cast_ofNat_Int, Int.reduceSub, Int.reduceAdd, Nat.reduceAdd, Nat.reduceMul, Nat.reduceSub, ↓reduceIte, rd_eq, TyD]
  refine vcall_mk (rcomps_ok (p1.X.ge g2)) ?_
  rintro v3 h3 ⟨D, hD, hD1, hD2, g3⟩
  rw [p1.edge of] at hD1
  obtain rfl : C = D := hC1.unique hD1 hC2 hD2
  simp (disch := omega) only [↓SS, A, Nat.reduceEqDiff, Int.reduceToNat, Int.cast_ofNat_Int, Int.reduceSub, Int.reduceAdd, Nat.reduceAdd, Nat.reduceMul, Nat.reduceSub, ↓reduceIte, rd_eq, TyD]
  refine vcall_mk (equalF_ok (hC.ge g3) hD) ?_
  rintro _ _ ⟨rfl, rfl⟩
  simp (disch := omega) only [↓SS, A, Nat.reduceEqDiff, Int.reduceToNat, Int.cast_ofNat_Int, Int.reduceSub, Int.reduceAdd, Nat.reduceAdd, Nat.reduceMul, Nat.reduceSub, ↓reduceIte, rd_eq, TyD]
  exact (g1.trans g2).trans g3
theorem orders_ok {h : Heap} (tb : Tab h) {z of : Int} {lv : Value} {l : List (Int × Int × Int)} (hl : edgesAt h lv l) :
    Ct Tryd.prog 37 [.int .i64 z, lv, .int .i64 of] h fun v h' => v = .bool true ∧ Ge h h' := by
  obtain ⟨la, lc, rfl, _⟩ := id hl
  refine enter Tryd.func37 (by kernel_rfl) rfl Tryd.results37 (by kernel_rfl) (by kernel_rfl) (init3 _ _ _) ?_
  simp (disch := omega) only [↓SS, A, Nat.reduceEqDiff, Int.reduceToNat, Int.cast_ofNat_Int, Int.reduceSub, Int.reduceAdd, Nat.reduceAdd, Nat.reduceMul, Nat.reduceSub, ↓reduceIte, rd_eq, TyD]
  refine vcall_mk (drawn_ok hl) ?_
  rintro _ h1 ⟨g, x, vs, L, E, rv, rb, M, rfl, p1, g1⟩
  simp (disch := omega) only [↓SS, A, Nat.reduceEqDiff, Int.reduceToNat, Int.cast_ofNat_Int, Int.reduceSub, Int.reduceAdd, Nat.reduceAdd, Nat.reduceMul, Nat.reduceSub, ↓reduceIte, rd_eq, TyD]
  refine vcall_mk (order_ok (tb.ge g1) p1.G) ?_
  intro r2 h2 ⟨ho2, g2⟩
  have hfree : ∀ k l, Tar.ordF (nodesOf z) (redge M of) k l = Tar.ordF (nodesOf z) (ed E of) k l := by rw [p1.redge of]; exact fun _ _ => rfl
  cases hO : Tar.ordF (nodesOf z) (ed E of) (nodesOf z) [] with
  | none =>
    rw [hO] at ho2
    obtain rfl : r2 = _ := ho2
    simp (disch := omega) only [↓SS, A, Nat.reduceEqDiff, Int.reduceToNat, Int.cast_ofNat_Int, Int.reduceSub, Int.reduceAdd, Nat.reduceAdd, Nat.reduceMul, Nat.reduceSub, ↓reduceIte, rd_eq, TyD]
    refine vcall_mk (rorder_ok (p1.X.ge g2)) ?_
    intro r3 h3 ⟨ho3, g3⟩
    rw [hfree, hO] at ho3
    obtain rfl : r3 = _ := ho3
    simp (disch := omega) only [↓SS, A, Nat.reduceEqDiff, Int.reduceToNat, Int.cast_ofNat_Int, Int.reduceSub, Int.reduceAdd, Nat.reduceAdd, Nat.reduceMul, Nat.reduceSub, ↓reduceIte, rd_eq, TyD]
    refine vcall_mk (equal_ok (Ints.nil _) (Ints.nil _)) ?_
    rintro _ _ ⟨rfl, rfl⟩
    simp (disch := omega) only [↓SS, A, Nat.reduceEqDiff, Int.reduceToNat, Int.cast_ofNat_Int, Int.reduceSub, Int.reduceAdd, Nat.reduceAdd, Nat.reduceMul, Nat.reduceSub, ↓reduceIte, rd_eq, TyD]
    refine vcall_mk (cyclic_ok ((tb.ge g1).ge (g2.trans g3)) (p1.G.ge (g2.trans g3))) ?_
    rintro _ h4 ⟨rfl, g4⟩
    rw [hO]
    simp (disch := omega) only [↓SS, A, Nat.reduceEqDiff, Int.reduceToNat, Int.cast_ofNat_Int, Int.reduceSub, Int.reduceAdd, Nat.reduceAdd, Nat.reduceMul, Nat.reduceSub, ↓reduceIte, rd_eq, TyD]
    exact ⟨rfl, ((g1.trans g2).trans g3).trans g4⟩
  | some l =>
    rw [hO] at ho2
    obtain ⟨lv2, rfl, ow2, _⟩ := ho2
    simp (disch := omega) only [↓SS, A, Nat.reduceEqDiff, Int.reduceToNat, Int.cast_ofNat_Int, Int.reduceSub, Int.reduceAdd, Nat.reduceAdd, Nat.reduceMul, Nat.reduceSub, ↓reduceIte, rd_eq, TyD]
    refine vcall_mk (rorder_ok (p1.X.ge g2)) ?_
    intro r3 h3 ⟨ho3, g3⟩
    rw [hfree, hO] at ho3
    obtain ⟨lv3, rfl, ow3, _⟩ := ho3
    simp (disch := omega) only [↓SS, A, Nat.reduceEqDiff, Int.reduceToNat, Int.cast_ofNat_Int, Int.reduceSub, Int.reduceAdd, Nat.reduceAdd, Nat.reduceMul, Nat.reduceSub, ↓reduceIte, rd_eq, TyD]
    refine vcall_mk (equal_ok ((ownInts' ow2).ge g3) (ownInts' ow3)) ?_
    rintro _ _ ⟨rfl, rfl⟩
    simp (disch := omega) only [↓SS, A, Nat.reduceEqDiff, Int.reduceToNat, Int.cast_ofNat_Int, Int.reduceSub, Int.reduceAdd, Nat.reduceAdd, Nat.reduceMul, Nat.reduceSub, ↓reduceIte, rd_eq, TyD]
    refine vcall_mk (cyclic_ok ((tb.ge g1).ge (g2.trans g3)) (p1.G.ge (g2.trans g3))) ?_
    rintro _ h4 ⟨rfl, g4⟩
    rw [hO]
    simp (disch := omega) only [↓SS, A, Nat.reduceEqDiff, Int.reduceToNat, Int.cast_ofNat_Int, Int.reduceSub, Int.reduceAdd, Nat.reduceAdd, Nat.reduceMul, Nat.reduceSub, ↓reduceIte, rd_eq, TyD]
    exact ⟨rfl, ((g1.trans g2).trans g3).trans g4⟩
end Go.Proofs.YtgfljbplccekcaaDoor
