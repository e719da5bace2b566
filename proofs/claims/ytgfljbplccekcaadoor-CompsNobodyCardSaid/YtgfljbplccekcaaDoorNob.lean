/-
  Layer 7 of a graph that no call made; conditions: none.
-/
import Derived.Test.YtgfljbplccekcaaDoorLaw07
set_option linter.unusedSimpArgs false
set_option linter.unusedVariables false
set_option maxRecDepth 100000
namespace Go.Proofs.YtgfljbplccekcaaDoor
open Go Go.V Go.Low

set_option maxHeartbeats 1000000 in
theorem comps_nil {h : Heap} {of : Int} : Ct Tryd.prog 31 [.pointer none, .int .i64 of] h fun v h' => v = .slice none 0 0 ∧ Ge h h' := by
  obtain ⟨n, hn0⟩ : ∃ n : Nat, n = 0 := ⟨0, rfl⟩
  have hn : n ≤ 300 := by omega
  refine enter Tryd.func31 (by kernel_rfl) rfl Tryd.results31 (by kernel_rfl) (by kernel_rfl) (init2 _ _) ?_
  simp (disch := omega) only [↓SS, A, Nat.reduceEqDiff, Int.reduceToNat, Int.cast_ofNat_Int, Int.reduceSub, Int.reduceAdd, Nat.reduceAdd, Nat.reduceMul, Nat.reduceSub, ↓reduceIte, rd_eq, TyT]
  refine vcall_mk nodes_nil ?_
  rintro _ _ ⟨rfl, rfl⟩
  rw [show (0 : Int) = (n : Int) by omega]
  simp (disch := omega) only [↓SS, A, Nat.reduceEqDiff, Int.reduceToNat, Int.cast_ofNat_Int, Int.reduceSub, Int.reduceAdd, Nat.reduceAdd, Nat.reduceMul, Nat.reduceSub, ↓reduceIte, rd_eq, TyT]
  refine vdraw_cut (fun s h' => ∃ t, s = [(6, ptr t 0), (5, .int .i64 n), (4, .slice none 0 0), (1, .int .i64 of), (0, .pointer none)] ∧ Ge h h' ∧ hcell h' t 7 = some (.slice none 0 0)) (by repeat' first | exact vround_mono _ _ | exact vend_mono _ _ | exact vexit_mono _ _ | refine vc_mono _ ?_ ?_ | refine inB_mono ?_ ?_ | refine jmp_mono ?_ ?_ | refine vl_mono ?_ _) ?_ ?_
  · refine vdraw_fork3 [] [(0, 0), (1, 0), (2, 0), (4, 0), (6, 0)] 3 5 7
      (.fork [] 5 7 (.line [(7, 2), (8, 2), (9, 2), (10, 0)]) (.line [(5, 2), (8, 2), (9, 2), (10, 0)]))
      (.fork [] 3 7 (.line [(7, 2), (8, 2), (9, 2), (10, 0)]) (.line [(3, 2), (8, 2), (9, 2), (10, 0)]))
      (.fork [] 3 5 (.line [(5, 2), (8, 2), (9, 2), (10, 0)]) (.line [(3, 2), (8, 2), (9, 2), (10, 0)])) mixed (by kernel_rfl) ?_
    simp (disch := omega) only [↓SS, A, Nat.reduceEqDiff, Int.reduceToNat, Int.cast_ofNat_Int, Int.reduceSub, Int.reduceAdd, Nat.reduceAdd, Nat.reduceMul, Nat.reduceSub, ↓reduceIte, rd_eq, TyT]
    refine ⟨?_, ?_, ?_⟩
    · refine mkInts hn fun h1 g1 l1 enb => ?_
      generalize hnb : h.size = nb at *
      refine ⟨(Kb.refl _ _).ge g1, ?_⟩
      simp (disch := omega) only [↓SS, A, Nat.reduceEqDiff, Int.reduceToNat, Int.cast_ofNat_Int, Int.reduceSub, Int.reduceAdd, Nat.reduceAdd, Nat.reduceMul, Nat.reduceSub, ↓reduceIte, rd_eq, TyT]
      refine ⟨?_, ?_⟩
      · refine mkInts hn fun h2 g2 l2 elb => ?_
        replace enb := g2.lookup enb
        generalize hlb : h1.size = lb at *
        refine ⟨(Kb.refl _ _).ge (g1.trans g2), ?_⟩
        simp (disch := omega) only [↓SS, A, Nat.reduceEqDiff, Int.reduceToNat, Int.cast_ofNat_Int, Int.reduceSub, Int.reduceAdd, Nat.reduceAdd, Nat.reduceMul, Nat.reduceSub, ↓reduceIte, rd_eq, TyT]
        refine mkBools hn fun h3 g3 l3 eob => ?_
        replace enb := g3.lookup enb
        replace elb := g3.lookup elb
        generalize hob : h2.size = ob at *
        refine ⟨(Kb.refl _ _).ge ((g1.trans g2).trans g3), ?_⟩
        simp (disch := omega) only [↓SS, A, Nat.reduceEqDiff, Int.reduceToNat, Int.cast_ofNat_Int, Int.reduceSub, Int.reduceAdd, Nat.reduceAdd, Nat.reduceMul, Nat.reduceSub, ↓reduceIte, rd_eq, TyT]
        refine vbd_ok (cells := #[.pointer none, .int .i64 of, .int .i64 0, sl nb 0 n n, sl lb 0 n n, sl ob 0 n n, .slice none 0 0, .slice none 0 0]) (by kernel_rfl) ?_
        refine ⟨(Kb.refl _ _).ge ((g1.trans g2).trans g3), ?_⟩
        simp (disch := omega) only [↓SS, A, Nat.reduceEqDiff, Int.reduceToNat, Int.cast_ofNat_Int, Int.reduceSub, Int.reduceAdd, Nat.reduceAdd, Nat.reduceMul, Nat.reduceSub, ↓reduceIte, rd_eq, TyT]
        refine ⟨(Kb.refl _ _).ge (((g1.trans g2).trans g3).trans (Ge.push _ _)), ?_⟩
        simp (disch := omega) only [↓SS, A, Nat.reduceEqDiff, Int.reduceToNat, Int.cast_ofNat_Int, Int.reduceSub, Int.reduceAdd, Nat.reduceAdd, Nat.reduceMul, Nat.reduceSub, ↓reduceIte, rd_eq, TyT]
        exact ⟨_, (by simp only [↓SS, Nat.reduceEqDiff, Int.reduceToNat, Int.cast_ofNat_Int, Int.reduceSub, Int.reduceAdd, Nat.reduceAdd, Nat.reduceMul, Nat.reduceSub, ↓reduceIte, rd_eq, Int.natCast_add, Int.cast_ofNat_Int]), h3.size, rfl, (((g1.trans g2).trans g3).trans (Ge.push _ _)), (by simp [hcell]; rfl)⟩
      · refine mkBools hn fun h2 g2 l2 eob => ?_
        replace enb := g2.lookup enb
        generalize hob : h1.size = ob at *
        refine ⟨(Kb.refl _ _).ge (g1.trans g2), ?_⟩
        simp (disch := omega) only [↓SS, A, Nat.reduceEqDiff, Int.reduceToNat, Int.cast_ofNat_Int, Int.reduceSub, Int.reduceAdd, Nat.reduceAdd, Nat.reduceMul, Nat.reduceSub, ↓reduceIte, rd_eq, TyT]
        refine mkInts hn fun h3 g3 l3 elb => ?_
        replace enb := g3.lookup enb
        replace eob := g3.lookup eob
        generalize hlb : h2.size = lb at *
        refine ⟨(Kb.refl _ _).ge ((g1.trans g2).trans g3), ?_⟩
        simp (disch := omega) only [↓SS, A, Nat.reduceEqDiff, Int.reduceToNat, Int.cast_ofNat_Int, Int.reduceSub, Int.reduceAdd, Nat.reduceAdd, Nat.reduceMul, Nat.reduceSub, ↓reduceIte, rd_eq, TyT]
        refine vbd_ok (cells := #[.pointer none, .int .i64 of, .int .i64 0, sl nb 0 n n, sl lb 0 n n, sl ob 0 n n, .slice none 0 0, .slice none 0 0]) (by kernel_rfl) ?_
        refine ⟨(Kb.refl _ _).ge ((g1.trans g2).trans g3), ?_⟩
        simp (disch := omega) only [↓SS, A, Nat.reduceEqDiff, Int.reduceToNat, Int.cast_ofNat_Int, Int.reduceSub, Int.reduceAdd, Nat.reduceAdd, Nat.reduceMul, Nat.reduceSub, ↓reduceIte, rd_eq, TyT]
        refine ⟨(Kb.refl _ _).ge (((g1.trans g2).trans g3).trans (Ge.push _ _)), ?_⟩
        simp (disch := omega) only [↓SS, A, Nat.reduceEqDiff, Int.reduceToNat, Int.cast_ofNat_Int, Int.reduceSub, Int.reduceAdd, Nat.reduceAdd, Nat.reduceMul, Nat.reduceSub, ↓reduceIte, rd_eq, TyT]
        exact ⟨_, (by simp only [↓SS, Nat.reduceEqDiff, Int.reduceToNat, Int.cast_ofNat_Int, Int.reduceSub, Int.reduceAdd, Nat.reduceAdd, Nat.reduceMul, Nat.reduceSub, ↓reduceIte, rd_eq, Int.natCast_add, Int.cast_ofNat_Int]), h3.size, rfl, (((g1.trans g2).trans g3).trans (Ge.push _ _)), (by simp [hcell]; rfl)⟩
    · refine mkInts hn fun h1 g1 l1 elb => ?_
      generalize hlb : h.size = lb at *
      refine ⟨(Kb.refl _ _).ge g1, ?_⟩
      simp (disch := omega) only [↓SS, A, Nat.reduceEqDiff, Int.reduceToNat, Int.cast_ofNat_Int, Int.reduceSub, Int.reduceAdd, Nat.reduceAdd, Nat.reduceMul, Nat.reduceSub, ↓reduceIte, rd_eq, TyT]
      refine ⟨?_, ?_⟩
      · refine mkInts hn fun h2 g2 l2 enb => ?_
        replace elb := g2.lookup elb
        generalize hnb : h1.size = nb at *
        refine ⟨(Kb.refl _ _).ge (g1.trans g2), ?_⟩
        simp (disch := omega) only [↓SS, A, Nat.reduceEqDiff, Int.reduceToNat, Int.cast_ofNat_Int, Int.reduceSub, Int.reduceAdd, Nat.reduceAdd, Nat.reduceMul, Nat.reduceSub, ↓reduceIte, rd_eq, TyT]
        refine mkBools hn fun h3 g3 l3 eob => ?_
        replace elb := g3.lookup elb
        replace enb := g3.lookup enb
        generalize hob : h2.size = ob at *
        refine ⟨(Kb.refl _ _).ge ((g1.trans g2).trans g3), ?_⟩
        simp (disch := omega) only [↓SS, A, Nat.reduceEqDiff, Int.reduceToNat, Int.cast_ofNat_Int, Int.reduceSub, Int.reduceAdd, Nat.reduceAdd, Nat.reduceMul, Nat.reduceSub, ↓reduceIte, rd_eq, TyT]
        refine vbd_ok (cells := #[.pointer none, .int .i64 of, .int .i64 0, sl nb 0 n n, sl lb 0 n n, sl ob 0 n n, .slice none 0 0, .slice none 0 0]) (by kernel_rfl) ?_
        refine ⟨(Kb.refl _ _).ge ((g1.trans g2).trans g3), ?_⟩
        simp (disch := omega) only [↓SS, A, Nat.reduceEqDiff, Int.reduceToNat, Int.cast_ofNat_Int, Int.reduceSub, Int.reduceAdd, Nat.reduceAdd, Nat.reduceMul, Nat.reduceSub, ↓reduceIte, rd_eq, TyT]
        refine ⟨(Kb.refl _ _).ge (((g1.trans g2).trans g3).trans (Ge.push _ _)), ?_⟩
        simp (disch := omega) only [↓SS, A, Nat.reduceEqDiff, Int.reduceToNat, Int.cast_ofNat_Int, Int.reduceSub, Int.reduceAdd, Nat.reduceAdd, Nat.reduceMul, Nat.reduceSub, ↓reduceIte, rd_eq, TyT]
        exact ⟨_, (by simp only [↓SS, Nat.reduceEqDiff, Int.reduceToNat, Int.cast_ofNat_Int, Int.reduceSub, Int.reduceAdd, Nat.reduceAdd, Nat.reduceMul, Nat.reduceSub, ↓reduceIte, rd_eq, Int.natCast_add, Int.cast_ofNat_Int]), h3.size, rfl, (((g1.trans g2).trans g3).trans (Ge.push _ _)), (by simp [hcell]; rfl)⟩
      · refine mkBools hn fun h2 g2 l2 eob => ?_
        replace elb := g2.lookup elb
        generalize hob : h1.size = ob at *
        refine ⟨(Kb.refl _ _).ge (g1.trans g2), ?_⟩
        simp (disch := omega) only [↓SS, A, Nat.reduceEqDiff, Int.reduceToNat, Int.cast_ofNat_Int, Int.reduceSub, Int.reduceAdd, Nat.reduceAdd, Nat.reduceMul, Nat.reduceSub, ↓reduceIte, rd_eq, TyT]
        refine mkInts hn fun h3 g3 l3 enb => ?_
        replace elb := g3.lookup elb
        replace eob := g3.lookup eob
        generalize hnb : h2.size = nb at *
        refine ⟨(Kb.refl _ _).ge ((g1.trans g2).trans g3), ?_⟩
        simp (disch := omega) only [↓SS, A, Nat.reduceEqDiff, Int.reduceToNat, Int.cast_ofNat_Int, Int.reduceSub, Int.reduceAdd, Nat.reduceAdd, Nat.reduceMul, Nat.reduceSub, ↓reduceIte, rd_eq, TyT]
        refine vbd_ok (cells := #[.pointer none, .int .i64 of, .int .i64 0, sl nb 0 n n, sl lb 0 n n, sl ob 0 n n, .slice none 0 0, .slice none 0 0]) (by kernel_rfl) ?_
        refine ⟨(Kb.refl _ _).ge ((g1.trans g2).trans g3), ?_⟩
        simp (disch := omega) only [↓SS, A, Nat.reduceEqDiff, Int.reduceToNat, Int.cast_ofNat_Int, Int.reduceSub, Int.reduceAdd, Nat.reduceAdd, Nat.reduceMul, Nat.reduceSub, ↓reduceIte, rd_eq, TyT]
        refine ⟨(Kb.refl _ _).ge (((g1.trans g2).trans g3).trans (Ge.push _ _)), ?_⟩
        simp (disch := omega) only [↓SS, A, Nat.reduceEqDiff, Int.reduceToNat, Int.cast_ofNat_Int, Int.reduceSub, Int.reduceAdd, Nat.reduceAdd, Nat.reduceMul, Nat.reduceSub, ↓reduceIte, rd_eq, TyT]
        exact ⟨_, (by simp only [↓SS, Nat.reduceEqDiff, Int.reduceToNat, Int.cast_ofNat_Int, Int.reduceSub, Int.reduceAdd, Nat.reduceAdd, Nat.reduceMul, Nat.reduceSub, ↓reduceIte, rd_eq, Int.natCast_add, Int.cast_ofNat_Int]), h3.size, rfl, (((g1.trans g2).trans g3).trans (Ge.push _ _)), (by simp [hcell]; rfl)⟩
    · refine mkBools hn fun h1 g1 l1 eob => ?_
      generalize hob : h.size = ob at *
      refine ⟨(Kb.refl _ _).ge g1, ?_⟩
      simp (disch := omega) only [↓SS, A, Nat.reduceEqDiff, Int.reduceToNat, Int.cast_ofNat_Int, Int.reduceSub, Int.reduceAdd, Nat.reduceAdd, Nat.reduceMul, Nat.reduceSub, ↓reduceIte, rd_eq, TyT]
      refine ⟨?_, ?_⟩
      · refine mkInts hn fun h2 g2 l2 enb => ?_
        replace eob := g2.lookup eob
        generalize hnb : h1.size = nb at *
        refine ⟨(Kb.refl _ _).ge (g1.trans g2), ?_⟩
        simp (disch := omega) only [↓SS, A, Nat.reduceEqDiff, Int.reduceToNat, Int.cast_ofNat_Int, Int.reduceSub, Int.reduceAdd, Nat.reduceAdd, Nat.reduceMul, Nat.reduceSub, ↓reduceIte, rd_eq, TyT]
        refine mkInts hn fun h3 g3 l3 elb => ?_
        replace eob := g3.lookup eob
        replace enb := g3.lookup enb
        generalize hlb : h2.size = lb at *
        refine ⟨(Kb.refl _ _).ge ((g1.trans g2).trans g3), ?_⟩
        simp (disch := omega) only [↓SS, A, Nat.reduceEqDiff, Int.reduceToNat, Int.cast_ofNat_Int, Int.reduceSub, Int.reduceAdd, Nat.reduceAdd, Nat.reduceMul, Nat.reduceSub, ↓reduceIte, rd_eq, TyT]
        refine vbd_ok (cells := #[.pointer none, .int .i64 of, .int .i64 0, sl nb 0 n n, sl lb 0 n n, sl ob 0 n n, .slice none 0 0, .slice none 0 0]) (by kernel_rfl) ?_
        refine ⟨(Kb.refl _ _).ge ((g1.trans g2).trans g3), ?_⟩
        simp (disch := omega) only [↓SS, A, Nat.reduceEqDiff, Int.reduceToNat, Int.cast_ofNat_Int, Int.reduceSub, Int.reduceAdd, Nat.reduceAdd, Nat.reduceMul, Nat.reduceSub, ↓reduceIte, rd_eq, TyT]
        refine ⟨(Kb.refl _ _).ge (((g1.trans g2).trans g3).trans (Ge.push _ _)), ?_⟩
        simp (disch := omega) only [↓SS, A, Nat.reduceEqDiff, Int.reduceToNat, Int.cast_ofNat_Int, Int.reduceSub, Int.reduceAdd, Nat.reduceAdd, Nat.reduceMul, Nat.reduceSub, ↓reduceIte, rd_eq, TyT]
        exact ⟨_, (by simp only [↓SS, Nat.reduceEqDiff, Int.reduceToNat, Int.cast_ofNat_Int, Int.reduceSub, Int.reduceAdd, Nat.reduceAdd, Nat.reduceMul, Nat.reduceSub, ↓reduceIte, rd_eq, Int.natCast_add, Int.cast_ofNat_Int]), h3.size, rfl, (((g1.trans g2).trans g3).trans (Ge.push _ _)), (by simp [hcell]; rfl)⟩
      · refine mkInts hn fun h2 g2 l2 elb => ?_
        replace eob := g2.lookup eob
        generalize hlb : h1.size = lb at *
        refine ⟨(Kb.refl _ _).ge (g1.trans g2), ?_⟩
        simp (disch := omega) only [↓SS, A, Nat.reduceEqDiff, Int.reduceToNat, Int.cast_ofNat_Int, Int.reduceSub, Int.reduceAdd, Nat.reduceAdd, Nat.reduceMul, Nat.reduceSub, ↓reduceIte, rd_eq, TyT]
        refine mkInts hn fun h3 g3 l3 enb => ?_
        replace eob := g3.lookup eob
        replace elb := g3.lookup elb
        generalize hnb : h2.size = nb at *
        refine ⟨(Kb.refl _ _).ge ((g1.trans g2).trans g3), ?_⟩
        simp (disch := omega) only [↓SS, A, Nat.reduceEqDiff, Int.reduceToNat, Int.cast_ofNat_Int, Int.reduceSub, Int.reduceAdd, Nat.reduceAdd, Nat.reduceMul, Nat.reduceSub, ↓reduceIte, rd_eq, TyT]
        refine vbd_ok (cells := #[.pointer none, .int .i64 of, .int .i64 0, sl nb 0 n n, sl lb 0 n n, sl ob 0 n n, .slice none 0 0, .slice none 0 0]) (by kernel_rfl) ?_
        refine ⟨(Kb.refl _ _).ge ((g1.trans g2).trans g3), ?_⟩
        simp (disch := omega) only [↓SS, A, Nat.reduceEqDiff, Int.reduceToNat, Int.cast_ofNat_Int, Int.reduceSub, Int.reduceAdd, Nat.reduceAdd, Nat.reduceMul, Nat.reduceSub, ↓reduceIte, rd_eq, TyT]
        refine ⟨(Kb.refl _ _).ge (((g1.trans g2).trans g3).trans (Ge.push _ _)), ?_⟩
        simp (disch := omega) only [↓SS, A, Nat.reduceEqDiff, Int.reduceToNat, Int.cast_ofNat_Int, Int.reduceSub, Int.reduceAdd, Nat.reduceAdd, Nat.reduceMul, Nat.reduceSub, ↓reduceIte, rd_eq, TyT]
        exact ⟨_, (by simp only [↓SS, Nat.reduceEqDiff, Int.reduceToNat, Int.cast_ofNat_Int, Int.reduceSub, Int.reduceAdd, Nat.reduceAdd, Nat.reduceMul, Nat.reduceSub, ↓reduceIte, rd_eq, Int.natCast_add, Int.cast_ofNat_Int]), h3.size, rfl, (((g1.trans g2).trans g3).trans (Ge.push _ _)), (by simp [hcell]; rfl)⟩
  · rintro s h1 ⟨t, rfl, ge1, c7⟩
    subst hn0
    simp (disch := omega) only [↓SS, A, Nat.reduceEqDiff, Int.reduceToNat, Int.cast_ofNat_Int, Int.reduceSub, Int.reduceAdd, Nat.reduceAdd, Nat.reduceMul, Nat.reduceSub, ↓reduceIte, rd_eq, TyT]
    refine vloop_mk (fun k fr h' => k = 0 ∧ fr = [(21, .int .i64 0), (20, .int .i64 (0 : Nat)), (6, ptr t 0), (5, .int .i64 (0 : Nat)), (4, .slice none 0 0), (1, .int .i64 of), (0, .pointer none)] ∧ h1 = h') 0
      [(21, .int .i64 0), (20, .int .i64 (0 : Nat)), (6, ptr t 0), (5, .int .i64 (0 : Nat)), (4, .slice none 0 0), (1, .int .i64 of), (0, .pointer none)] (by simp only [↓SS, Nat.reduceEqDiff, Int.reduceToNat, Int.cast_ofNat_Int, Int.reduceSub, Int.reduceAdd, Nat.reduceAdd, Nat.reduceMul, Nat.reduceSub, ↓reduceIte, rd_eq, TyT]) ⟨rfl, rfl, rfl⟩ ?_
    rintro k _ _ ⟨rfl, rfl, rfl⟩
    simp (disch := omega) only [↓SS, A, Nat.reduceEqDiff, Int.reduceToNat, Int.cast_ofNat_Int, Int.reduceSub, Int.reduceAdd, Nat.reduceAdd, Nat.reduceMul, Nat.reduceSub, ↓reduceIte, rd_eq, TyT, c7]
    refine vcall_mk sortNil ?_
    rintro _ h3 ⟨rfl, rfl⟩
    simp (disch := omega) only [↓SS, A, Nat.reduceEqDiff, Int.reduceToNat, Int.cast_ofNat_Int, Int.reduceSub, Int.reduceAdd, Nat.reduceAdd, Nat.reduceMul, Nat.reduceSub, ↓reduceIte, rd_eq, TyT, c7]
    exact ge1
set_option maxHeartbeats 1000000 in
theorem comps_zero {h : Heap} {g : Nat} (c0 : hcell h g 0 = some (.int .i64 0)) {of : Int} : Ct Tryd.prog 31 [ptr g 0, .int .i64 of] h fun v h' => v = .slice none 0 0 ∧ Ge h h' := by
  obtain ⟨n, hn0⟩ : ∃ n : Nat, n = 0 := ⟨0, rfl⟩
  have hn : n ≤ 300 := by omega
  refine enter Tryd.func31 (by kernel_rfl) rfl Tryd.results31 (by kernel_rfl) (by kernel_rfl) (init2 _ _) ?_
  simp (disch := omega) only [↓SS, A, Nat.reduceEqDiff, Int.reduceToNat, Int.cast_ofNat_Int, Int.reduceSub, Int.reduceAdd, Nat.reduceAdd, Nat.reduceMul, Nat.reduceSub, ↓reduceIte, rd_eq, TyT]
  refine vcall_mk (nodes_ok c0) ?_
  rintro _ _ ⟨rfl, rfl⟩
  rw [show (0 : Int) = (n : Int) by omega]
  simp (disch := omega) only [↓SS, A, Nat.reduceEqDiff, Int.reduceToNat, Int.cast_ofNat_Int, Int.reduceSub, Int.reduceAdd, Nat.reduceAdd, Nat.reduceMul, Nat.reduceSub, ↓reduceIte, rd_eq, TyT]
  refine vdraw_cut (fun s h' => ∃ t, s = [(6, ptr t 0), (5, .int .i64 n), (4, .slice none 0 0), (1, .int .i64 of), (0, ptr g 0)] ∧ Ge h h' ∧ hcell h' t 7 = some (.slice none 0 0)) (by repeat' first | exact vround_mono _ _ | exact vend_mono _ _ | exact vexit_mono _ _ | refine vc_mono _ ?_ ?_ | refine inB_mono ?_ ?_ | refine jmp_mono ?_ ?_ | refine vl_mono ?_ _) ?_ ?_
  · refine vdraw_fork3 [] [(0, 0), (1, 0), (2, 0), (4, 0), (6, 0)] 3 5 7
      (.fork [] 5 7 (.line [(7, 2), (8, 2), (9, 2), (10, 0)]) (.line [(5, 2), (8, 2), (9, 2), (10, 0)]))
      (.fork [] 3 7 (.line [(7, 2), (8, 2), (9, 2), (10, 0)]) (.line [(3, 2), (8, 2), (9, 2), (10, 0)]))
      (.fork [] 3 5 (.line [(5, 2), (8, 2), (9, 2), (10, 0)]) (.line [(3, 2), (8, 2), (9, 2), (10, 0)])) mixed (by kernel_rfl) ?_
    simp (disch := omega) only [↓SS, A, Nat.reduceEqDiff, Int.reduceToNat, Int.cast_ofNat_Int, Int.reduceSub, Int.reduceAdd, Nat.reduceAdd, Nat.reduceMul, Nat.reduceSub, ↓reduceIte, rd_eq, TyT]
    refine ⟨?_, ?_, ?_⟩
    · refine mkInts hn fun h1 g1 l1 enb => ?_
      generalize hnb : h.size = nb at *
      refine ⟨(Kb.refl _ _).ge g1, ?_⟩
      simp (disch := omega) only [↓SS, A, Nat.reduceEqDiff, Int.reduceToNat, Int.cast_ofNat_Int, Int.reduceSub, Int.reduceAdd, Nat.reduceAdd, Nat.reduceMul, Nat.reduceSub, ↓reduceIte, rd_eq, TyT]
      refine ⟨?_, ?_⟩
      · refine mkInts hn fun h2 g2 l2 elb => ?_
        replace enb := g2.lookup enb
        generalize hlb : h1.size = lb at *
        refine ⟨(Kb.refl _ _).ge (g1.trans g2), ?_⟩
        simp (disch := omega) only [↓SS, A, Nat.reduceEqDiff, Int.reduceToNat, Int.cast_ofNat_Int, Int.reduceSub, Int.reduceAdd, Nat.reduceAdd, Nat.reduceMul, Nat.reduceSub, ↓reduceIte, rd_eq, TyT]
        refine mkBools hn fun h3 g3 l3 eob => ?_
        replace enb := g3.lookup enb
        replace elb := g3.lookup elb
        generalize hob : h2.size = ob at *
        refine ⟨(Kb.refl _ _).ge ((g1.trans g2).trans g3), ?_⟩
        simp (disch := omega) only [↓SS, A, Nat.reduceEqDiff, Int.reduceToNat, Int.cast_ofNat_Int, Int.reduceSub, Int.reduceAdd, Nat.reduceAdd, Nat.reduceMul, Nat.reduceSub, ↓reduceIte, rd_eq, TyT]
        refine vbd_ok (cells := #[ptr g 0, .int .i64 of, .int .i64 0, sl nb 0 n n, sl lb 0 n n, sl ob 0 n n, .slice none 0 0, .slice none 0 0]) (by kernel_rfl) ?_
        refine ⟨(Kb.refl _ _).ge ((g1.trans g2).trans g3), ?_⟩
        simp (disch := omega) only [↓SS, A, Nat.reduceEqDiff, Int.reduceToNat, Int.cast_ofNat_Int, Int.reduceSub, Int.reduceAdd, Nat.reduceAdd, Nat.reduceMul, Nat.reduceSub, ↓reduceIte, rd_eq, TyT]
        refine ⟨(Kb.refl _ _).ge (((g1.trans g2).trans g3).trans (Ge.push _ _)), ?_⟩
        simp (disch := omega) only [↓SS, A, Nat.reduceEqDiff, Int.reduceToNat, Int.cast_ofNat_Int, Int.reduceSub, Int.reduceAdd, Nat.reduceAdd, Nat.reduceMul, Nat.reduceSub, ↓reduceIte, rd_eq, TyT]
        exact ⟨_, (by simp only [↓SS, Nat.reduceEqDiff, Int.reduceToNat, Int.cast_ofNat_Int, Int.reduceSub, Int.reduceAdd, Nat.reduceAdd, Nat.reduceMul, Nat.reduceSub, ↓reduceIte, rd_eq, Int.natCast_add, Int.cast_ofNat_Int]), h3.size, rfl, (((g1.trans g2).trans g3).trans (Ge.push _ _)), (by simp [hcell]; rfl)⟩
      · refine mkBools hn fun h2 g2 l2 eob => ?_
        replace enb := g2.lookup enb
        generalize hob : h1.size = ob at *
        refine ⟨(Kb.refl _ _).ge (g1.trans g2), ?_⟩
        simp (disch := omega) only [↓SS, A, Nat.reduceEqDiff, Int.reduceToNat, Int.cast_ofNat_Int, Int.reduceSub, Int.reduceAdd, Nat.reduceAdd, Nat.reduceMul, Nat.reduceSub, ↓reduceIte, rd_eq, TyT]
        refine mkInts hn fun h3 g3 l3 elb => ?_
        replace enb := g3.lookup enb
        replace eob := g3.lookup eob
        generalize hlb : h2.size = lb at *
        refine ⟨(Kb.refl _ _).ge ((g1.trans g2).trans g3), ?_⟩
        simp (disch := omega) only [↓SS, A, Nat.reduceEqDiff, Int.reduceToNat, Int.cast_ofNat_Int, Int.reduceSub, Int.reduceAdd, Nat.reduceAdd, Nat.reduceMul, Nat.reduceSub, ↓reduceIte, rd_eq, TyT]
        refine vbd_ok (cells := #[ptr g 0, .int .i64 of, .int .i64 0, sl nb 0 n n, sl lb 0 n n, sl ob 0 n n, .slice none 0 0, .slice none 0 0]) (by kernel_rfl) ?_
        refine ⟨(Kb.refl _ _).ge ((g1.trans g2).trans g3), ?_⟩
        simp (disch := omega) only [↓SS, A, Nat.reduceEqDiff, Int.reduceToNat, Int.cast_ofNat_Int, Int.reduceSub, Int.reduceAdd, Nat.reduceAdd, Nat.reduceMul, Nat.reduceSub, ↓reduceIte, rd_eq, TyT]
        refine ⟨(Kb.refl _ _).ge (((g1.trans g2).trans g3).trans (Ge.push _ _)), ?_⟩
        simp (disch := omega) only [↓SS, A, Nat.reduceEqDiff, Int.reduceToNat, Int.cast_ofNat_Int, Int.reduceSub, Int.reduceAdd, Nat.reduceAdd, Nat.reduceMul, Nat.reduceSub, ↓reduceIte, rd_eq, TyT]
        exact ⟨_, (by simp only [↓SS, Nat.reduceEqDiff, Int.reduceToNat, Int.cast_ofNat_Int, Int.reduceSub, Int.reduceAdd, Nat.reduceAdd, Nat.reduceMul, Nat.reduceSub, ↓reduceIte, rd_eq, Int.natCast_add, Int.cast_ofNat_Int]), h3.size, rfl, (((g1.trans g2).trans g3).trans (Ge.push _ _)), (by simp [hcell]; rfl)⟩
    · refine mkInts hn fun h1 g1 l1 elb => ?_
      generalize hlb : h.size = lb at *
      refine ⟨(Kb.refl _ _).ge g1, ?_⟩
      simp (disch := omega) only [↓SS, A, Nat.reduceEqDiff, Int.reduceToNat, Int.cast_ofNat_Int, Int.reduceSub, Int.reduceAdd, Nat.reduceAdd, Nat.reduceMul, Nat.reduceSub, ↓reduceIte, rd_eq, TyT]
      refine ⟨?_, ?_⟩
      · refine mkInts hn fun h2 g2 l2 enb => ?_
        replace elb := g2.lookup elb
        generalize hnb : h1.size = nb at *
        refine ⟨(Kb.refl _ _).ge (g1.trans g2), ?_⟩
        simp (disch := omega) only [↓SS, A, Nat.reduceEqDiff, Int.reduceToNat, Int.cast_ofNat_Int, Int.reduceSub, Int.reduceAdd, Nat.reduceAdd, Nat.reduceMul, Nat.reduceSub, ↓reduceIte, rd_eq, TyT]
        refine mkBools hn fun h3 g3 l3 eob => ?_
        replace elb := g3.lookup elb
        replace enb := g3.lookup enb
        generalize hob : h2.size = ob at *
        refine ⟨(Kb.refl _ _).ge ((g1.trans g2).trans g3), ?_⟩
        simp (disch := omega) only [↓SS, A, Nat.reduceEqDiff, Int.reduceToNat, Int.cast_ofNat_Int, Int.reduceSub, Int.reduceAdd, Nat.reduceAdd, Nat.reduceMul, Nat.reduceSub, ↓reduceIte, rd_eq, TyT]
        refine vbd_ok (cells := #[ptr g 0, .int .i64 of, .int .i64 0, sl nb 0 n n, sl lb 0 n n, sl ob 0 n n, .slice none 0 0, .slice none 0 0]) (by kernel_rfl) ?_
        refine ⟨(Kb.refl _ _).ge ((g1.trans g2).trans g3), ?_⟩
        simp (disch := omega) only [↓SS, A, Nat.reduceEqDiff, Int.reduceToNat, Int.cast_ofNat_Int, Int.reduceSub, Int.reduceAdd, Nat.reduceAdd, Nat.reduceMul, Nat.reduceSub, ↓reduceIte, rd_eq, TyT]
        refine ⟨(Kb.refl _ _).ge (((g1.trans g2).trans g3).trans (Ge.push _ _)), ?_⟩
        simp (disch := omega) only [↓SS, A, Nat.reduceEqDiff, Int.reduceToNat, Int.cast_ofNat_Int, Int.reduceSub, Int.reduceAdd, Nat.reduceAdd, Nat.reduceMul, Nat.reduceSub, ↓reduceIte, rd_eq, TyT]
        exact ⟨_, (by simp only [↓SS, Nat.reduceEqDiff, Int.reduceToNat, Int.cast_ofNat_Int, Int.reduceSub, Int.reduceAdd, Nat.reduceAdd, Nat.reduceMul, Nat.reduceSub, ↓reduceIte, rd_eq, Int.natCast_add, Int.cast_ofNat_Int]), h3.size, rfl, (((g1.trans g2).trans g3).trans (Ge.push _ _)), (by simp [hcell]; rfl)⟩
      · refine mkBools hn fun h2 g2 l2 eob => ?_
        replace elb := g2.lookup elb
        generalize hob : h1.size = ob at *
        refine ⟨(Kb.refl _ _).ge (g1.trans g2), ?_⟩
        simp (disch := omega) only [↓SS, A, Nat.reduceEqDiff, Int.reduceToNat, Int.cast_ofNat_Int, Int.reduceSub, Int.reduceAdd, Nat.reduceAdd, Nat.reduceMul, Nat.reduceSub, ↓reduceIte, rd_eq, TyT]
        refine mkInts hn fun h3 g3 l3 enb => ?_
        replace elb := g3.lookup elb
        replace eob := g3.lookup eob
        generalize hnb : h2.size = nb at *
        refine ⟨(Kb.refl _ _).ge ((g1.trans g2).trans g3), ?_⟩
        simp (disch := omega) only [↓SS, A, Nat.reduceEqDiff, Int.reduceToNat, Int.cast_ofNat_Int, Int.reduceSub, Int.reduceAdd, Nat.reduceAdd, Nat.reduceMul, Nat.reduceSub, ↓reduceIte, rd_eq, TyT]
        refine vbd_ok (cells := #[ptr g 0, .int .i64 of, .int .i64 0, sl nb 0 n n, sl lb 0 n n, sl ob 0 n n, .slice none 0 0, .slice none 0 0]) (by kernel_rfl) ?_
        refine ⟨(Kb.refl _ _).ge ((g1.trans g2).trans g3), ?_⟩
        simp (disch := omega) only [↓SS, A, Nat.reduceEqDiff, Int.reduceToNat, Int.cast_ofNat_Int, Int.reduceSub, Int.reduceAdd, Nat.reduceAdd, Nat.reduceMul, Nat.reduceSub, ↓reduceIte, rd_eq, TyT]
        refine ⟨(Kb.refl _ _).ge (((g1.trans g2).trans g3).trans (Ge.push _ _)), ?_⟩
        simp (disch := omega) only [↓SS, A, Nat.reduceEqDiff, Int.reduceToNat, Int.cast_ofNat_Int, Int.reduceSub, Int.reduceAdd, Nat.reduceAdd, Nat.reduceMul, Nat.reduceSub, ↓reduceIte, rd_eq, TyT]
        exact ⟨_, (by simp only [↓SS, Nat.reduceEqDiff, Int.reduceToNat, Int.cast_ofNat_Int, Int.reduceSub, Int.reduceAdd, Nat.reduceAdd, Nat.reduceMul, Nat.reduceSub, ↓reduceIte, rd_eq, Int.natCast_add, Int.cast_ofNat_Int]), h3.size, rfl, (((g1.trans g2).trans g3).trans (Ge.push _ _)), (by simp [hcell]; rfl)⟩
    · refine mkBools hn fun h1 g1 l1 eob => ?_
      generalize hob : h.size = ob at *
      refine ⟨(Kb.refl _ _).ge g1, ?_⟩
      simp (disch := omega) only [↓SS, A, Nat.reduceEqDiff, Int.reduceToNat, Int.cast_ofNat_Int, Int.reduceSub, Int.reduceAdd, Nat.reduceAdd, Nat.reduceMul, Nat.reduceSub, ↓reduceIte, rd_eq, TyT]
      refine ⟨?_, ?_⟩
      · refine mkInts hn fun h2 g2 l2 enb => ?_
        replace eob := g2.lookup eob
        generalize hnb : h1.size = nb at *
        refine ⟨(Kb.refl _ _).ge (g1.trans g2), ?_⟩
        simp (disch := omega) only [↓SS, A, Nat.reduceEqDiff, Int.reduceToNat, Int.cast_ofNat_Int, Int.reduceSub, Int.reduceAdd, Nat.reduceAdd, Nat.reduceMul, Nat.reduceSub, ↓reduceIte, rd_eq, TyT]
        refine mkInts hn fun h3 g3 l3 elb => ?_
        replace eob := g3.lookup eob
        replace enb := g3.lookup enb
        generalize hlb : h2.size = lb at *
        refine ⟨(Kb.refl _ _).ge ((g1.trans g2).trans g3), ?_⟩
        simp (disch := omega) only [↓SS, A, Nat.reduceEqDiff, Int.reduceToNat, Int.cast_ofNat_Int, Int.reduceSub, Int.reduceAdd, Nat.reduceAdd, Nat.reduceMul, Nat.reduceSub, ↓reduceIte, rd_eq, TyT]
        refine vbd_ok (cells := #[ptr g 0, .int .i64 of, .int .i64 0, sl nb 0 n n, sl lb 0 n n, sl ob 0 n n, .slice none 0 0, .slice none 0 0]) (by kernel_rfl) ?_
        refine ⟨(Kb.refl _ _).ge ((g1.trans g2).trans g3), ?_⟩
        simp (disch := omega) only [↓SS, A, Nat.reduceEqDiff, Int.reduceToNat, Int.cast_ofNat_Int, Int.reduceSub, Int.reduceAdd, Nat.reduceAdd, Nat.reduceMul, Nat.reduceSub, ↓reduceIte, rd_eq, TyT]
        refine ⟨(Kb.refl _ _).ge (((g1.trans g2).trans g3).trans (Ge.push _ _)), ?_⟩
        simp (disch := omega) only [↓SS, A, Nat.reduceEqDiff, Int.reduceToNat, Int.cast_ofNat_Int, Int.reduceSub, Int.reduceAdd, Nat.reduceAdd, Nat.reduceMul, Nat.reduceSub, ↓reduceIte, rd_eq, TyT]
        exact ⟨_, (by simp only [↓SS, Nat.reduceEqDiff, Int.reduceToNat, Int.cast_ofNat_Int, Int.reduceSub, Int.reduceAdd, Nat.reduceAdd, Nat.reduceMul, Nat.reduceSub, ↓reduceIte, rd_eq, Int.natCast_add, Int.cast_ofNat_Int]), h3.size, rfl, (((g1.trans g2).trans g3).trans (Ge.push _ _)), (by simp [hcell]; rfl)⟩
      · refine mkInts hn fun h2 g2 l2 elb => ?_
        replace eob := g2.lookup eob
        generalize hlb : h1.size = lb at *
        refine ⟨(Kb.refl _ _).ge (g1.trans g2), ?_⟩
        simp (disch := omega) only [↓SS, A, Nat.reduceEqDiff, Int.reduceToNat, Int.cast_ofNat_Int, Int.reduceSub, Int.reduceAdd, Nat.reduceAdd, Nat.reduceMul, Nat.reduceSub, ↓reduceIte, rd_eq, TyT]
        refine mkInts hn fun h3 g3 l3 enb => ?_
        replace eob := g3.lookup eob
        replace elb := g3.lookup elb
        generalize hnb : h2.size = nb at *
        refine ⟨(Kb.refl _ _).ge ((g1.trans g2).trans g3), ?_⟩
        simp (disch := omega) only [↓SS, A, Nat.reduceEqDiff, Int.reduceToNat, Int.cast_ofNat_Int, Int.reduceSub, Int.reduceAdd, Nat.reduceAdd, Nat.reduceMul, Nat.reduceSub, ↓reduceIte, rd_eq, TyT]
        refine vbd_ok (cells := #[ptr g 0, .int .i64 of, .int .i64 0, sl nb 0 n n, sl lb 0 n n, sl ob 0 n n, .slice none 0 0, .slice none 0 0]) (by kernel_rfl) ?_
        refine ⟨(Kb.refl _ _).ge ((g1.trans g2).trans g3), ?_⟩
        simp (disch := omega) only [↓SS, A, Nat.reduceEqDiff, Int.reduceToNat, Int.cast_ofNat_Int, Int.reduceSub, Int.reduceAdd, Nat.reduceAdd, Nat.reduceMul, Nat.reduceSub, ↓reduceIte, rd_eq, TyT]
        refine ⟨(Kb.refl _ _).ge (((g1.trans g2).trans g3).trans (Ge.push _ _)), ?_⟩
        simp (disch := omega) only [↓SS, A, Nat.reduceEqDiff, Int.reduceToNat, Int.cast_ofNat_Int, Int.reduceSub, Int.reduceAdd, Nat.reduceAdd, Nat.reduceMul, Nat.reduceSub, ↓reduceIte, rd_eq, TyT]
        exact ⟨_, (by simp only [↓SS, Nat.reduceEqDiff, Int.reduceToNat, Int.cast_ofNat_Int, Int.reduceSub, Int.reduceAdd, Nat.reduceAdd, Nat.reduceMul, Nat.reduceSub, ↓reduceIte, rd_eq, Int.natCast_add, Int.cast_ofNat_Int]), h3.size, rfl, (((g1.trans g2).trans g3).trans (Ge.push _ _)), (by simp [hcell]; rfl)⟩
  · rintro s h1 ⟨t, rfl, ge1, c7⟩
    subst hn0
    simp (disch := omega) only [↓SS, A, Nat.reduceEqDiff, Int.reduceToNat, Int.cast_ofNat_Int, Int.reduceSub, Int.reduceAdd, Nat.reduceAdd, Nat.reduceMul, Nat.reduceSub, ↓reduceIte, rd_eq, TyT]
    refine vloop_mk (fun k fr h' => k = 0 ∧ fr = [(21, .int .i64 0), (20, .int .i64 (0 : Nat)), (6, ptr t 0), (5, .int .i64 (0 : Nat)), (4, .slice none 0 0), (1, .int .i64 of), (0, ptr g 0)] ∧ h1 = h') 0
      [(21, .int .i64 0), (20, .int .i64 (0 : Nat)), (6, ptr t 0), (5, .int .i64 (0 : Nat)), (4, .slice none 0 0), (1, .int .i64 of), (0, ptr g 0)] (by simp only [↓SS, Nat.reduceEqDiff, Int.reduceToNat, Int.cast_ofNat_Int, Int.reduceSub, Int.reduceAdd, Nat.reduceAdd, Nat.reduceMul, Nat.reduceSub, ↓reduceIte, rd_eq, TyT]) ⟨rfl, rfl, rfl⟩ ?_
    rintro k _ _ ⟨rfl, rfl, rfl⟩
    simp (disch := omega) only [↓SS, A, Nat.reduceEqDiff, Int.reduceToNat, Int.cast_ofNat_Int, Int.reduceSub, Int.reduceAdd, Nat.reduceAdd, Nat.reduceMul, Nat.reduceSub, ↓reduceIte, rd_eq, TyT, c7]
    refine vcall_mk sortNil ?_
    rintro _ h3 ⟨rfl, rfl⟩
    simp (disch := omega) only [↓SS, A, Nat.reduceEqDiff, Int.reduceToNat, Int.cast_ofNat_Int, Int.reduceSub, Int.reduceAdd, Nat.reduceAdd, Nat.reduceMul, Nat.reduceSub, ↓reduceIte, rd_eq, TyT, c7]
    exact ge1
theorem TyN : aggT Tryd.prog 71 = some false ∧
  szT Tryd.prog 71 = some 1 ∧
  zeroT Tryd.prog 71 = some (.slice none 0 0) ∧
  slT Tryd.prog 71 = some 1 ∧
  aggT Tryd.prog 46 = some false ∧
  szT Tryd.prog 46 = some 1 ∧
  zeroT Tryd.prog 46 = some (.pointer none) ∧
  ptrT Tryd.prog 46 = true ∧
  aggT Tryd.prog 70 = some true ∧
  szT Tryd.prog 70 = some 6 ∧
  zeroT Tryd.prog 70 = some (.agg #[(.int .i64 0), (.slice none 0 0), (.slice none 0 0), (.slice none 0 0), (.slice none 0 0), (.bool false)]) ∧
  fieldT Tryd.prog 70 0 = some 0 ∧
  fieldT Tryd.prog 70 1 = some 1 ∧
  fieldT Tryd.prog 70 2 = some 5 ∧
  aggT Tryd.prog 3 = some false ∧
  szT Tryd.prog 3 = some 1 ∧
  zeroT Tryd.prog 3 = some (.int .i64 0) ∧
  intT Tryd.prog 3 = some .i64 ∧
  (Tryd.prog.underlying 3).isSome = true ∧
  aggT Tryd.prog 4 = some false ∧
  szT Tryd.prog 4 = some 1 ∧
  zeroT Tryd.prog 4 = some (.bool false) ∧
  boolT Tryd.prog 4 = true ∧
  aggT Tryd.prog 23 = some false ∧
  szT Tryd.prog 23 = some 1 ∧
  zeroT Tryd.prog 23 = some (.slice none 0 0) ∧
  slT Tryd.prog 23 = some 1 ∧
  aggT Tryd.prog 51 = some false ∧
  szT Tryd.prog 51 = some 1 ∧
  zeroT Tryd.prog 51 = some (.slice none 0 0) ∧
  slT Tryd.prog 51 = some 1 := by
  refine ⟨?_, ?_, ?_, ?_, ?_, ?_, ?_, ?_, ?_, ?_, ?_, ?_, ?_, ?_, ?_, ?_, ?_, ?_, ?_, ?_, ?_, ?_, ?_, ?_, ?_, ?_, ?_, ?_, ?_, ?_, ?_⟩ <;> kernel_rfl
theorem order_none {h : Heap} {gv : Value} (hm : Ct Tryd.prog 72 [gv] h fun v h' => v = .bool false ∧ h = h') {of : Int} : Ct Tryd.prog 36 [gv, .int .i64 of] h fun v h' => v = .tuple #[.slice none 0 0, .bool false] ∧ h = h' := by
  refine enter Tryd.func36 (by kernel_rfl) rfl Tryd.results36 (by kernel_rfl) (by kernel_rfl) (init2 _ _) ?_
  simp (disch := omega) only [↓SS, A, Nat.reduceEqDiff, Int.reduceToNat, Int.cast_ofNat_Int, Int.reduceSub, Int.reduceAdd, Nat.reduceAdd, Nat.reduceMul, Nat.reduceSub, ↓reduceIte, rd_eq, TyN]
  refine vcall_mk hm ?_
  rintro _ _ ⟨rfl, rfl⟩
  simp (disch := omega) only [↓SS, A, Nat.reduceEqDiff, Int.reduceToNat, Int.cast_ofNat_Int, Int.reduceSub, Int.reduceAdd, Nat.reduceAdd, Nat.reduceMul, Nat.reduceSub, ↓reduceIte, rd_eq, TyN]
theorem cyclic_none {h : Heap} {gv : Value} (hm : Ct Tryd.prog 72 [gv] h fun v h' => v = .bool false ∧ h = h') {of : Int} : Ct Tryd.prog 33 [gv, .int .i64 of] h fun v h' => v = .bool false ∧ h = h' := by
  refine enter Tryd.func33 (by kernel_rfl) rfl Tryd.results33 (by kernel_rfl) (by kernel_rfl) (init2 _ _) ?_
  simp (disch := omega) only [↓SS, A, Nat.reduceEqDiff, Int.reduceToNat, Int.cast_ofNat_Int, Int.reduceSub, Int.reduceAdd, Nat.reduceAdd, Nat.reduceMul, Nat.reduceSub, ↓reduceIte, rd_eq, TyN]
  refine vcall_mk (order_none hm) ?_
  rintro _ _ ⟨rfl, rfl⟩
  simp (disch := omega) only [↓SS, A, Nat.reduceEqDiff, Int.reduceToNat, Int.cast_ofNat_Int, Int.reduceSub, Int.reduceAdd, Nat.reduceAdd, Nat.reduceMul, Nat.reduceSub, ↓reduceIte, rd_eq, TyN]
  refine vcall_mk hm ?_
  rintro _ _ ⟨rfl, rfl⟩
  simp (disch := omega) only [↓SS, A, Nat.reduceEqDiff, Int.reduceToNat, Int.cast_ofNat_Int, Int.reduceSub, Int.reduceAdd, Nat.reduceAdd, Nat.reduceMul, Nat.reduceSub, ↓reduceIte, rd_eq, TyN]
theorem elGraphs : elT Tryd.prog 71 = some (46, 1, 8, .pointer none) := by kernel_rfl
theorem nobody_ok {h : Heap} (tb : Tab h) {of : Int} : Ct Tryd.prog 10 [.int .i64 of] h fun v h' => v = .bool true ∧ Ge h h' := by
  refine enter Tryd.func10 (by kernel_rfl) rfl Tryd.results10 (by kernel_rfl) (by kernel_rfl) (init1 _) ?_
  simp (disch := omega) only [↓SS, A, Nat.reduceEqDiff, Int.reduceToNat, Int.cast_ofNat_Int, Int.reduceSub, Int.reduceAdd, Nat.reduceAdd, Nat.reduceMul, Nat.reduceSub, ↓reduceIte, rd_eq, TyN]
  refine vbd_ok (cells := #[.int .i64 0, .slice none 0 0, .slice none 0 0, .slice none 0 0, .slice none 0 0, .bool false]) (by kernel_rfl) ?_
  simp (disch := omega) only [↓SS, A, Nat.reduceEqDiff, Int.reduceToNat, Int.cast_ofNat_Int, Int.reduceSub, Int.reduceAdd, Nat.reduceAdd, Nat.reduceMul, Nat.reduceSub, ↓reduceIte, rd_eq, TyN]
  have g1 : Ge h (h.push (Obj.cells (Value.agg #[.int .i64 0, .slice none 0 0, .slice none 0 0, .slice none 0 0, .slice none 0 0, .bool false]).cells 70)) := Ge.push _ _
  have e1 : (h.push (Obj.cells (Value.agg #[.int .i64 0, .slice none 0 0, .slice none 0 0, .slice none 0 0, .slice none 0 0, .bool false]).cells 70))[h.size]? = some (Obj.cells #[.int .i64 0, .slice none 0 0, .slice none 0 0, .slice none 0 0, .slice none 0 0, .bool false] 70 (0, 0)) := push_new _ _
  generalize h.push (Obj.cells (Value.agg #[.int .i64 0, .slice none 0 0, .slice none 0 0, .slice none 0 0, .slice none 0 0, .bool false]).cells 70) = h1 at *
  generalize h.size = gz at *
  refine vbs_ok (cells := #[.pointer none, ptr gz 0]) elGraphs (by omega) (by omega) (by kernel_rfl) ?_
  have g2' : Ge h1 (h1.push (Obj.cells #[.pointer none, ptr gz 0] 46)) := Ge.push _ _
  have e2 : (h1.push (Obj.cells #[.pointer none, ptr gz 0] 46))[h1.size]? = some (Obj.cells #[.pointer none, ptr gz 0] 46 (0, 0)) := push_new _ _
  generalize h1.push (Obj.cells #[.pointer none, ptr gz 0] 46) = h2 at *
  generalize h1.size = sb at *
  have e1' := g2'.lookup e1
  have g02 := g1.trans g2'
  simp (disch := omega) only [↓SS, A, Nat.reduceEqDiff, Int.reduceToNat, Int.cast_ofNat_Int, Int.reduceSub, Int.reduceAdd, Nat.reduceAdd, Nat.reduceMul, Nat.reduceSub, ↓reduceIte, rd_eq, TyN]
  refine vloop_mk (fun k fr h' => ∃ i : Nat, i + k = 2 ∧ i ≤ 2 ∧ fr = [(11, .int .i64 i), (10, .int .i64 2), (9, sl sb 0 2 2), (2, .bool false), (0, .int .i64 of)] ∧ Ge h2 h') 2
    [(11, .int .i64 0), (10, .int .i64 2), (9, sl sb 0 2 2), (2, .bool false), (0, .int .i64 of)] (by simp only [↓SS, Nat.reduceEqDiff, Int.reduceToNat, Int.cast_ofNat_Int, Int.reduceSub, Int.reduceAdd, Nat.reduceAdd, Nat.reduceMul, Nat.reduceSub, ↓reduceIte, rd_eq, TyN]) ⟨0, by omega, by omega, rfl, Ge.refl _⟩ ?_
  rintro k _ h4 ⟨i, hik, hi2, rfl, g2⟩
  have k0 : hcell h4 sb (0 + 0) = some (.pointer none) := g2.cell (by simp [hcell, e2])
  have k1 : hcell h4 sb (0 + 1) = some (ptr gz 0) := g2.cell (by simp [hcell, e2])
  have m0 : hcell h4 gz 0 = some (.int .i64 0) := g2.cell (by simp [hcell, e1'])
  have m5 : hcell h4 gz 5 = some (.bool false) := g2.cell (by simp [hcell, e1'])
  rcases (by omega : i = 0 ∨ i = 1 ∨ i = 2) with rfl | rfl | rfl
  · simp (disch := omega) only [↓SS, A, Nat.reduceEqDiff, Int.reduceToNat, Int.cast_ofNat_Int, Int.reduceSub, Int.reduceAdd, Nat.reduceAdd, Nat.reduceMul, Nat.reduceSub, ↓reduceIte, rd_eq, TyN, k0]
    refine vcall_mk (order_none made_nil) ?_
    rintro _ _ ⟨rfl, rfl⟩
    simp (disch := omega) only [↓SS, A, Nat.reduceEqDiff, Int.reduceToNat, Int.cast_ofNat_Int, Int.reduceSub, Int.reduceAdd, Nat.reduceAdd, Nat.reduceMul, Nat.reduceSub, ↓reduceIte, rd_eq, TyN]
    refine vcall_mk comps_nil ?_
    rintro _ h3 ⟨rfl, g3⟩
    simp (disch := omega) only [↓SS, A, Nat.reduceEqDiff, Int.reduceToNat, Int.cast_ofNat_Int, Int.reduceSub, Int.reduceAdd, Nat.reduceAdd, Nat.reduceMul, Nat.reduceSub, ↓reduceIte, rd_eq, TyN]
    refine vcall_mk (cyclic_none made_nil) ?_
    rintro _ _ ⟨rfl, rfl⟩
    simp (disch := omega) only [↓SS, A, Nat.reduceEqDiff, Int.reduceToNat, Int.cast_ofNat_Int, Int.reduceSub, Int.reduceAdd, Nat.reduceAdd, Nat.reduceMul, Nat.reduceSub, ↓reduceIte, rd_eq, TyN]
    exact ⟨k - 1, by omega, _, (by simp only [↓SS, Nat.reduceEqDiff, Int.reduceToNat, Int.cast_ofNat_Int, Int.reduceSub, Int.reduceAdd, Nat.reduceAdd, Nat.reduceMul, Nat.reduceSub, ↓reduceIte, rd_eq, Int.natCast_add, Int.cast_ofNat_Int]), 1, by omega, by omega, rfl, g2.trans g3⟩
  · simp (disch := omega) only [↓SS, A, Nat.reduceEqDiff, Int.reduceToNat, Int.cast_ofNat_Int, Int.reduceSub, Int.reduceAdd, Nat.reduceAdd, Nat.reduceMul, Nat.reduceSub, ↓reduceIte, rd_eq, TyN, k1]
    refine vcall_mk (order_none (made_ok m5)) ?_
    rintro _ _ ⟨rfl, rfl⟩
    simp (disch := omega) only [↓SS, A, Nat.reduceEqDiff, Int.reduceToNat, Int.cast_ofNat_Int, Int.reduceSub, Int.reduceAdd, Nat.reduceAdd, Nat.reduceMul, Nat.reduceSub, ↓reduceIte, rd_eq, TyN]
    refine vcall_mk (comps_zero m0) ?_
    rintro _ h3 ⟨rfl, g3⟩
    simp (disch := omega) only [↓SS, A, Nat.reduceEqDiff, Int.reduceToNat, Int.cast_ofNat_Int, Int.reduceSub, Int.reduceAdd, Nat.reduceAdd, Nat.reduceMul, Nat.reduceSub, ↓reduceIte, rd_eq, TyN]
    refine vcall_mk (cyclic_none (made_ok (g3.cell m5))) ?_
    rintro _ _ ⟨rfl, rfl⟩
    simp (disch := omega) only [↓SS, A, Nat.reduceEqDiff, Int.reduceToNat, Int.cast_ofNat_Int, Int.reduceSub, Int.reduceAdd, Nat.reduceAdd, Nat.reduceMul, Nat.reduceSub, ↓reduceIte, rd_eq, TyN]
    exact ⟨k - 1, by omega, _, (by simp only [↓SS, Nat.reduceEqDiff, Int.reduceToNat, Int.cast_ofNat_Int, Int.reduceSub, Int.reduceAdd, Nat.reduceAdd, Nat.reduceMul, Nat.reduceSub, ↓reduceIte, rd_eq, Int.natCast_add, Int.cast_ofNat_Int]), 2, by omega, by omega, rfl, g2.trans g3⟩
  · simp (disch := omega) only [↓SS, A, Nat.reduceEqDiff, Int.reduceToNat, Int.cast_ofNat_Int, Int.reduceSub, Int.reduceAdd, Nat.reduceAdd, Nat.reduceMul, Nat.reduceSub, ↓reduceIte, rd_eq, TyN]
    refine vcall_mk (orders_ok (tb.ge (g02.trans g2)) (l := []) ⟨none, 0, rfl, by simp, by omega, by simp⟩) ?_
    rintro _ h5 ⟨rfl, g5⟩
    simp (disch := omega) only [↓SS, A, Nat.reduceEqDiff, Int.reduceToNat, Int.cast_ofNat_Int, Int.reduceSub, Int.reduceAdd, Nat.reduceAdd, Nat.reduceMul, Nat.reduceSub, ↓reduceIte, rd_eq, TyN]
    exact (g02.trans g2).trans g5
end Go.Proofs.YtgfljbplccekcaaDoor
