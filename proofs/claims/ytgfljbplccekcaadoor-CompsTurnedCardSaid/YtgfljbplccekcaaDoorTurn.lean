/-
  graph.Edges, graph.Turn as contracts; conditions: the graph was made by graph.New, the table of math/bits lies in memory.
-/
import Derived.Test.YtgfljbplccekcaaDoorParts
set_option linter.unusedSimpArgs false
set_option linter.unusedVariables false
set_option maxRecDepth 100000
namespace Go.Proofs.YtgfljbplccekcaaDoor
open Go Go.V Go.Low

theorem TyU : aggT Tryd.prog 117 = some true ∧
  szT Tryd.prog 117 = some 3 ∧
  zeroT Tryd.prog 117 = some (.agg #[(.int .i64 0), (.int .i64 0), (.int .i64 0)]) ∧
  fieldT Tryd.prog 117 0 = some 0 ∧
  fieldT Tryd.prog 117 1 = some 1 ∧
  fieldT Tryd.prog 117 2 = some 2 ∧
  aggT Tryd.prog 45 = some false ∧
  szT Tryd.prog 45 = some 1 ∧
  zeroT Tryd.prog 45 = some (.slice none 0 0) ∧
  slT Tryd.prog 45 = some 3 ∧
  aggT Tryd.prog 46 = some false ∧
  szT Tryd.prog 46 = some 1 ∧
  zeroT Tryd.prog 46 = some (.pointer none) ∧
  ptrT Tryd.prog 46 = true ∧
  aggT Tryd.prog 70 = some true ∧
  szT Tryd.prog 70 = some 6 ∧
  zeroT Tryd.prog 70 = some (.agg #[(.int .i64 0), (.slice none 0 0), (.slice none 0 0), (.slice none 0 0), (.slice none 0 0), (.bool false)]) ∧
  fieldT Tryd.prog 70 0 = some 0 ∧
  fieldT Tryd.prog 70 1 = some 1 ∧
  fieldT Tryd.prog 70 2 = some 5 ∧
  aggT Tryd.prog 23 = some false ∧
  szT Tryd.prog 23 = some 1 ∧
  zeroT Tryd.prog 23 = some (.slice none 0 0) ∧
  slT Tryd.prog 23 = some 1 ∧
  aggT Tryd.prog 3 = some false ∧
  szT Tryd.prog 3 = some 1 ∧
  zeroT Tryd.prog 3 = some (.int .i64 0) ∧
  intT Tryd.prog 3 = some .i64 ∧
  (Tryd.prog.underlying 3).isSome = true ∧
  aggT Tryd.prog 4 = some false ∧
  szT Tryd.prog 4 = some 1 ∧
  zeroT Tryd.prog 4 = some (.bool false) ∧
  boolT Tryd.prog 4 = true ∧
  aggT Tryd.prog 60 = some false ∧
  szT Tryd.prog 60 = some 1 ∧
  zeroT Tryd.prog 60 = some (.int .i64 0) ∧
  intT Tryd.prog 60 = some .i64 ∧
  (Tryd.prog.underlying 60).isSome = true := by
  refine ⟨?_, ?_, ?_, ?_, ?_, ?_, ?_, ?_, ?_, ?_, ?_, ?_, ?_, ?_, ?_, ?_, ?_, ?_, ?_, ?_, ?_, ?_, ?_, ?_, ?_, ?_, ?_, ?_, ?_, ?_, ?_, ?_, ?_, ?_, ?_, ?_, ?_, ?_⟩ <;> kernel_rfl
theorem elEdges : elT Tryd.prog 45 = some (117, 3, 24, .agg #[.int .i64 0, .int .i64 0, .int .i64 0]) := by kernel_rfl
/-- a node's edges -/
def edgesFrom (n : Nat) (E : Nat → Nat → Nat → Bool) (u : Nat) : List (Nat × Nat × Nat) := (outs n E 15 u).map fun k => (u, k, labs E 4 u k)
/-- all edges, of the first m nodes -/
def edgesL (n : Nat) (E : Nat → Nat → Nat → Bool) (m : Nat) : List (Nat × Nat × Nat) := (List.range m).flatMap (edgesFrom n E)
def eCells (l : List (Nat × Nat × Nat)) : List Value := l.flatMap fun e => [.int .i64 (e.1 : Nat), .int .i64 (e.2.1 : Nat), .int .i64 (e.2.2 : Nat)]
theorem eCells_len (l : List (Nat × Nat × Nat)) : (eCells l).length = l.length * 3 := by
  induction l with
  | nil => rfl
  | cons a l ih => simp only [eCells, List.flatMap_cons, List.length_append, List.length_cons] at *; simp at *; omega
theorem eCells_app (a b : List (Nat × Nat × Nat)) : eCells (a ++ b) = eCells a ++ eCells b := by simp [eCells]
theorem eCells_at : ∀ {l : List (Nat × Nat × Nat)} {i : Nat} {e : Nat × Nat × Nat}, l[i]? = some e → (eCells l)[i * 3]? = some (.int .i64 (e.1 : Nat)) ∧ (eCells l)[i * 3 + 1]? = some (.int .i64 (e.2.1 : Nat)) ∧ (eCells l)[i * 3 + 2]? = some (.int .i64 (e.2.2 : Nat))
  | a :: l, 0, e, h => by
    simp only [List.getElem?_cons_zero, Option.some.injEq] at h
    subst h
    simp [eCells]
  | a :: l, i + 1, e, h => by
    have ih := eCells_at (l := l) (i := i) (e := e) (by simpa using h)
    have e0 : eCells (a :: l) = [.int .i64 (a.1 : Nat), .int .i64 (a.2.1 : Nat), .int .i64 (a.2.2 : Nat)] ++ eCells l := rfl
    rw [e0, show (i + 1) * 3 = i * 3 + 3 from by omega]
    refine ⟨?_, ?_, ?_⟩
    · rw [List.getElem?_append_right (by simp), show i * 3 + 3 - _ = i * 3 from by simp]; exact ih.1
    · rw [List.getElem?_append_right (by simp), show i * 3 + 3 + 1 - _ = i * 3 + 1 from by simp]; exact ih.2.1
    · rw [List.getElem?_append_right (by simp), show i * 3 + 3 + 2 - _ = i * 3 + 2 from by simp]; exact ih.2.2
theorem outs_len (n : Nat) (E : Nat → Nat → Nat → Bool) (of : Int) (u : Nat) : (outs n E of u).length ≤ n := by
  have := List.length_filter_le (fun k => edge E of 4 u k) (List.range n)
  simpa [outs] using this
theorem edgesL_len (n : Nat) (E : Nat → Nat → Nat → Bool) : ∀ m, (edgesL n E m).length ≤ m * n
  | 0 => by simp [edgesL]
  | m + 1 => by
    have := edgesL_len n E m
    have h2 := outs_len n E 15 m
    have : (edgesL n E (m + 1)).length = (edgesL n E m).length + (outs n E 15 m).length := by simp [edgesL, List.range_succ, edgesFrom]
    rw [Nat.add_mul]
    omega
theorem edgesL_succ (n : Nat) (E : Nat → Nat → Nat → Bool) (m : Nat) : edgesL n E (m + 1) = edgesL n E m ++ edgesFrom n E m := by simp [edgesL, List.range_succ]
theorem gedges_ok {h : Heap} (tb : Tab h) {g n : Nat} {vs : Nat → Value} {L : Nat → List (Nat × Nat)} {E : Nat → Nat → Nat → Bool} (q : isG h g n vs L E) :
    Ct Tryd.prog 119 [ptr g 0] h fun v h' => Own h' h.size 117 3 v (edgesL n E n).length (eCells (edgesL n E n)) ∧ Ge h h' := by
  have c0 : hcell h g 0 = some (.int .i64 n) := by simp [hcell, q.blk, gcells]
  have hn := q.le
  refine enter Tryd.func119 (by kernel_rfl) rfl Tryd.results119 (by kernel_rfl) (by kernel_rfl) (init1 _) ?_
  simp (disch := omega) only [↓SS, A, Nat.reduceEqDiff, Int.reduceToNat, Int.cast_ofNat_Int, Int.reduceSub, Int.reduceAdd, Nat.reduceAdd, Nat.reduceMul, Nat.reduceSub, ↓reduceIte, rd_eq, TyU]
  refine vcall_mk (nodes_ok c0) ?_
  rintro _ _ ⟨rfl, rfl⟩
  simp (disch := omega) only [↓SS, A, Nat.reduceEqDiff, Int.reduceToNat, Int.cast_ofNat_Int, Int.reduceSub, Int.reduceAdd, Nat.reduceAdd, Nat.reduceMul, Nat.reduceSub, ↓reduceIte, rd_eq, TyU]
  refine vloop_mk (fun k fr h' => ∃ (u : Nat) (lv : Value), u + k = n ∧ fr = [(9, .int .i64 u), (8, .int .i64 n), (3, lv), (2, .slice none 0 0), (0, ptr g 0)] ∧ Ge h h' ∧ Own h' h.size 117 3 lv (edgesL n E u).length (eCells (edgesL n E u))) n
    [(9, .int .i64 0), (8, .int .i64 n), (3, .slice none 0 0), (2, .slice none 0 0), (0, ptr g 0)] (by simp only [↓SS, Nat.reduceEqDiff, Int.reduceToNat, Int.cast_ofNat_Int, Int.reduceSub, Int.reduceAdd, Nat.reduceAdd, Nat.reduceMul, Nat.reduceSub, ↓reduceIte, rd_eq, TyU]) ⟨0, _, by omega, rfl, Ge.refl _, Own.nil _ _ _ _⟩ ?_
  rintro k _ h1 ⟨u, lv, huk, rfl, g1, o1⟩
  by_cases hu : u < n
  · simp (disch := omega) only [↓SS, A, Nat.reduceEqDiff, Int.reduceToNat, Int.cast_ofNat_Int, Int.reduceSub, Int.reduceAdd, Nat.reduceAdd, Nat.reduceMul, Nat.reduceSub, ↓reduceIte, rd_eq, TyU]
    refine vcall_mk (gout_ok (tb.ge g1) (q.ge g1) hu) ?_
    rintro ov h2 ⟨ho, _, g2⟩
    have hI := ownInts' ho
    obtain ⟨oa, oc, rfl, ho1, ho2, _⟩ := id hI
    have hnl : (nats (outs n E 15 u)).length = (outs n E 15 u).length := nats_len _
    rw [hnl] at ho hI ho1
    rw [hnl]
    have hol := outs_len n E 15 u
    have hel := edgesL_len n E u
    have hun : u * n ≤ 300 * 300 := Nat.mul_le_mul (by omega) hn
    simp (disch := omega) only [↓SS, A, Nat.reduceEqDiff, Int.reduceToNat, Int.cast_ofNat_Int, Int.reduceSub, Int.reduceAdd, Nat.reduceAdd, Nat.reduceMul, Nat.reduceSub, ↓reduceIte, rd_eq, TyU]
    refine vloop_mk (fun k' fr h' => ∃ (j : Nat) (lv : Value), j + k' = (outs n E 15 u).length ∧ fr = [(16, .int .i64 j), (15, .int .i64 (outs n E 15 u).length), (14, .slice oa (outs n E 15 u).length oc), (4, .int .i64 u), (9, .int .i64 u), (8, .int .i64 n), (3, lv), (2, .slice none 0 0), (0, ptr g 0)] ∧ Ge h h' ∧ IntsA [] h' (.slice oa (outs n E 15 u).length oc) (nats (outs n E 15 u)) ∧
        Own h' h.size 117 3 lv ((edgesL n E u).length + j) (eCells (edgesL n E u ++ (edgesFrom n E u).take j))) (outs n E 15 u).length
      [(16, .int .i64 0), (15, .int .i64 (outs n E 15 u).length), (14, .slice oa (outs n E 15 u).length oc), (4, .int .i64 u), (9, .int .i64 u), (8, .int .i64 n), (3, lv), (2, .slice none 0 0), (0, ptr g 0)] (by simp only [↓SS, Nat.reduceEqDiff, Int.reduceToNat, Int.cast_ofNat_Int, Int.reduceSub, Int.reduceAdd, Nat.reduceAdd, Nat.reduceMul, Nat.reduceSub, ↓reduceIte, rd_eq, TyU]) ⟨0, lv, by omega, rfl, g1.trans g2, IntsA.own ho (by simp), by simpa using o1.ge g2⟩ ?_
    rintro k' _ h3 ⟨j, lv3, hjk, rfl, g3, i3, o3⟩
    by_cases hj : j < (outs n E 15 u).length
    · obtain ⟨y, hy⟩ : ∃ y, (outs n E 15 u)[j]? = some y := ⟨_, List.getElem?_eq_getElem hj⟩
      obtain ⟨b, o, c, e1, _, _, hcell1⟩ := i3.r.out (by rw [nats_len]; omega)
      rw [nats_len] at e1
      cases e1
      have hyc := hcell1 j y (nats_at hy)
      have hyn := (outs_mem.1 (List.mem_of_getElem? hy)).1
      simp (disch := omega) only [↓SS, A, Nat.reduceEqDiff, Int.reduceToNat, Int.cast_ofNat_Int, Int.reduceSub, Int.reduceAdd, Nat.reduceAdd, Nat.reduceMul, Nat.reduceSub, ↓reduceIte, rd_eq, TyU, hyc]
      refine vcall_mk (glab_ok (q.ge g3) hu hyn) ?_
      rintro _ _ ⟨rfl, rfl⟩
      simp (disch := omega) only [↓SS, A, Nat.reduceEqDiff, Int.reduceToNat, Int.cast_ofNat_Int, Int.reduceSub, Int.reduceAdd, Nat.reduceAdd, Nat.reduceMul, Nat.reduceSub, ↓reduceIte, rd_eq, TyU]
      refine vbd_ok (cells := #[.int .i64 (u : Nat), .int .i64 (y : Nat), .int .i64 (labs E 4 u y : Nat)]) (by kernel_rfl) ?_
      simp (disch := omega) only [↓SS, A, Nat.reduceEqDiff, Int.reduceToNat, Int.cast_ofNat_Int, Int.reduceSub, Int.reduceAdd, Nat.reduceAdd, Nat.reduceMul, Nat.reduceSub, ↓reduceIte, rd_eq, TyU]
      refine vbs_one elEdges rfl rfl (by omega) (by omega) ?_
      have g4 : Ge h3 (h3.push (Obj.cells (Value.agg #[.int .i64 (u : Nat), .int .i64 (y : Nat), .int .i64 (labs E 4 u y : Nat)]).cells 117)) := Ge.push _ _
      have e4 : (h3.push (Obj.cells (Value.agg #[.int .i64 (u : Nat), .int .i64 (y : Nat), .int .i64 (labs E 4 u y : Nat)]).cells 117))[h3.size]? = some (Obj.cells #[.int .i64 (u : Nat), .int .i64 (y : Nat), .int .i64 (labs E 4 u y : Nat)] 117 (0, 0)) := push_new _ _
      generalize h3.push (Obj.cells (Value.agg #[.int .i64 (u : Nat), .int .i64 (y : Nat), .int .i64 (labs E 4 u y : Nat)]).cells 117) = h4 at *
      generalize h3.size = sb at *
      simp (disch := omega) only [↓SS, A, Nat.reduceEqDiff, Int.reduceToNat, Int.cast_ofNat_Int, Int.reduceSub, Int.reduceAdd, Nat.reduceAdd, Nat.reduceMul, Nat.reduceSub, ↓reduceIte, rd_eq, TyU]
      have o4 := o3.ge g4
      have g04 := g3.trans g4
      refine vapp_own elEdges rfl (by omega) o4 (news := [.int .i64 (u : Nat), .int .i64 (y : Nat), .int .i64 (labs E 4 u y : Nat)]) (by simp only [rdRow, hcell, e4]; rfl) (by simp [Value.oneCell']) (by omega) (by omega) g04.size ?_
      intro w h5 o5 gr5 _
      simp (disch := omega) only [↓SS, A, Nat.reduceEqDiff, Int.reduceToNat, Int.cast_ofNat_Int, Int.reduceSub, Int.reduceAdd, Nat.reduceAdd, Nat.reduceMul, Nat.reduceSub, ↓reduceIte, rd_eq, TyU]
      have hlo : ∀ b', lv3.ownBlock = some b' → h.size ≤ b' ∧ ∃ cur, h4[b']? = some (.cells cur 117 (0, 0)) := fun b' hb' => Own.blk o4 hb'
      have kbv : Kb lv3.ownBlock.toList h4 h5 := ⟨gr5.size, fun z hz hx => gr5.block z hz (fun e => hx (by rw [← e]; simp))⟩
      refine ⟨k' - 1, by omega, _, (by simp only [↓SS, Nat.reduceEqDiff, Int.reduceToNat, Int.cast_ofNat_Int, Int.reduceSub, Int.reduceAdd, Nat.reduceAdd, Nat.reduceMul, Nat.reduceSub, ↓reduceIte, rd_eq, Int.natCast_add, Int.cast_ofNat_Int]), j + 1, w, by omega, rfl, ?_, ?_, ?_⟩
      · refine ⟨Nat.le_trans g04.size gr5.size, fun z hz => ?_⟩
        rw [gr5.block z (Nat.lt_of_lt_of_le hz g04.size) (fun e => by have := (hlo z e.symm).1; omega)]
        exact g04.block z hz
      · refine (i3.ge g4).kb kbv (fun z hz => .inr fun c' f e => ?_)
        obtain ⟨_, cur, hc⟩ := hlo z (by simpa using hz)
        rw [hc] at e
        simp only [Option.some.injEq, Obj.cells.injEq] at e
        exact absurd e.2.1 (by decide)
      · have hlen : (edgesFrom n E u).length = (outs n E 15 u).length := by simp [edgesFrom]
        have : (edgesFrom n E u).take (j + 1) = (edgesFrom n E u).take j ++ [(u, y, labs E 4 u y)] := by
          rw [List.take_succ_eq_append_getElem (by omega)]
          obtain ⟨h8, h9⟩ := List.getElem?_eq_some_iff.1 hy
          simp [edgesFrom, h9]
        rw [this, ← List.append_assoc, eCells_app]
        exact o5
    · obtain rfl : j = (outs n E 15 u).length := by omega
      simp (disch := omega) only [↓SS, A, Nat.reduceEqDiff, Int.reduceToNat, Int.cast_ofNat_Int, Int.reduceSub, Int.reduceAdd, Nat.reduceAdd, Nat.reduceMul, Nat.reduceSub, ↓reduceIte, rd_eq, TyU]
      refine ⟨k - 1, by omega, _, (by simp only [↓SS, Nat.reduceEqDiff, Int.reduceToNat, Int.cast_ofNat_Int, Int.reduceSub, Int.reduceAdd, Nat.reduceAdd, Nat.reduceMul, Nat.reduceSub, ↓reduceIte, rd_eq, Int.natCast_add, Int.cast_ofNat_Int]), u + 1, lv3, by omega, rfl, g3, ?_⟩
      have hlen : (edgesFrom n E u).length = (outs n E 15 u).length := by simp [edgesFrom]
      rw [List.take_of_length_le (by omega), ← edgesL_succ] at o3
      have : (edgesL n E (u + 1)).length = (edgesL n E u).length + (outs n E 15 u).length := by rw [edgesL_succ, List.length_append, hlen]
      rw [this]
      exact o3
  · obtain rfl : u = n := by omega
    simp (disch := omega) only [↓SS, A, Nat.reduceEqDiff, Int.reduceToNat, Int.cast_ofNat_Int, Int.reduceSub, Int.reduceAdd, Nat.reduceAdd, Nat.reduceMul, Nat.reduceSub, ↓reduceIte, rd_eq, TyU]
    exact ⟨o1, g1⟩
end Go.Proofs.YtgfljbplccekcaaDoor
