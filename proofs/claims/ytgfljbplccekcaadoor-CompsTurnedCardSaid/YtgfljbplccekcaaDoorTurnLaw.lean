/-
  graph.Turn and assayerlaw07.CompsTurned, as contracts; conditions: the argument reads, the table of math/bits lies in memory.
-/
import Derived.Test.YtgfljbplccekcaaDoorTurn
set_option linter.unusedSimpArgs false
set_option linter.unusedVariables false
set_option maxRecDepth 100000
namespace Go.Proofs.YtgfljbplccekcaaDoor
open Go Go.V Go.Low

/-- the edges of a list, turned -/
def turnE (l : List (Nat × Nat × Nat)) : Nat → Nat → Nat → Bool := fun i u k => l.any fun e => decide (i < 4) && e.2.2.testBit i && decide (u = e.2.1) && decide (k = e.1)
theorem turnE_snoc (l : List (Nat × Nat × Nat)) (a b c : Nat) : turnE (l ++ [(a, b, c)]) = addE (turnE l) b a (c : Nat) 4 := by
  funext i u k
  simp only [turnE, addE, List.any_append, List.any_cons, List.any_nil, Bool.or_false, lbit_nat]
theorem turn_all {n : Nat} {E : Nat → Nat → Nat → Bool} (hlt : ∀ i u k, E i u k = true → u < n ∧ k < n) : ∀ i u k, i < 4 → turnE (edgesL n E n) i u k = E i k u := by
  intro i u k hi
  rw [Bool.eq_iff_iff]
  simp only [turnE, List.any_eq_true, Bool.and_eq_true, decide_eq_true_eq, edgesL, List.mem_flatMap, List.mem_range, edgesFrom, List.mem_map]
  constructor
  · rintro ⟨e, ⟨v, hv, y, hy, rfl⟩, ⟨⟨_, h1⟩, h2⟩, h3⟩
    simp only at h1 h2 h3
    subst h2 h3
    rw [labs_bit] at h1
    simp only [Bool.and_eq_true] at h1
    exact h1.2
  · intro h1
    obtain ⟨hk, hu⟩ := hlt i k u h1
    refine ⟨(k, u, labs E 4 k u), ⟨k, hk, u, ?_, rfl⟩, ⟨⟨hi, ?_⟩, rfl⟩, rfl⟩
    · rw [outs_mem]
      refine ⟨hu, ?_⟩
      show (List.range 4).any (fun i => lbit 15 i && E i k u) = true
      rw [List.any_eq_true]
      refine ⟨i, List.mem_range.2 hi, ?_⟩
      have : lbit 15 i = true := by
        rcases (by omega : i = 0 ∨ i = 1 ∨ i = 2 ∨ i = 3) with rfl | rfl | rfl | rfl <;> rfl
      simp [this, h1]
    · show (labs E 4 k u).testBit i = true
      rw [labs_bit]
      simp [hi, h1]
theorem ed_turn {E F : Nat → Nat → Nat → Bool} (h : ∀ i u k, i < 4 → F i u k = E i k u) (of : Int) (x y : Nat) : ed F of x y = ed E of y x := by
  show (List.range 4).any (fun i => lbit of i && F i x y) = (List.range 4).any (fun i => lbit of i && E i y x)
  rw [Bool.eq_iff_iff, List.any_eq_true, List.any_eq_true]
  constructor
  · rintro ⟨i, hi, h1⟩; exact ⟨i, hi, by rw [← h i x y (List.mem_range.1 hi)]; exact h1⟩
  · rintro ⟨i, hi, h1⟩; exact ⟨i, hi, by rw [h i x y (List.mem_range.1 hi)]; exact h1⟩
theorem R_turn {E F : Nat → Nat → Bool} (h : ∀ x y, F x y = E y x) {x y : Nat} (r : Tar.R F x y) : Tar.R E y x := by
  induction r with
  | refl => exact .refl _
  | step e _ ih => exact ih.trans (.edge (by rw [← h]; exact e))
theorem Comps_turn {n : Nat} {E F : Nat → Nat → Bool} (h : ∀ x y, F x y = E y x) {C : List (List Nat)} (q : Tar.Comps n F C) : Tar.Comps n E C :=
  ⟨q.all, fun c hc x hx y => by
    rw [q.strong c hc x hx y]
    exact ⟨fun ⟨a, b⟩ => ⟨R_turn h b, R_turn h a⟩, fun ⟨a, b⟩ => ⟨R_turn (fun x y => (h y x).symm) b, R_turn (fun x y => (h y x).symm) a⟩⟩, q.rises, q.apart⟩
theorem ed_of4 {E : Nat → Nat → Nat → Bool} {of : Int} {u k : Nat} (h : ed E of u k = true) : ∃ i, i < 4 ∧ E i u k = true := by
  have h' : (List.range 4).any (fun i => lbit of i && E i u k) = true := h
  rw [List.any_eq_true] at h'
  obtain ⟨i, hi, h2⟩ := h'
  simp only [Bool.and_eq_true] at h2
  exact ⟨i, List.mem_range.1 hi, h2.2⟩
theorem turn1_ok {h : Heap} {a b c : Int} : Ct Tryd.prog 85 [.agg #[.int .i64 a, .int .i64 b, .int .i64 c]] h fun v h' => v = .agg #[.int .i64 b, .int .i64 a, .int .i64 c] ∧ Ge h h' := by
  refine enter Tryd.func85 (by kernel_rfl) rfl Tryd.results85 (by kernel_rfl) (by kernel_rfl) (init1 _) ?_
  simp (disch := omega) only [↓SS, A, Nat.reduceEqDiff, Int.reduceToNat, Int.cast_ofNat_Int, Int.reduceSub, Int.reduceAdd, Nat.reduceAdd, Nat.reduceMul, Nat.reduceSub, ↓reduceIte, rd_eq, TyU]
  have g1 : Ge h (h.push (Obj.cells (Value.agg #[.int .i64 a, .int .i64 b, .int .i64 c]).cells 117)) := Ge.push _ _
  have e1 : (h.push (Obj.cells (Value.agg #[.int .i64 a, .int .i64 b, .int .i64 c]).cells 117))[h.size]? = some (Obj.cells #[.int .i64 a, .int .i64 b, .int .i64 c] 117 (0, 0)) := push_new _ _
  have hlt := Ge.lt e1
  have hle : h.size ≤ h.size := Nat.le_refl _
  generalize h.push (Obj.cells (Value.agg #[.int .i64 a, .int .i64 b, .int .i64 c]).cells 117) = h1 at *
  generalize hp : h.size = p at *
  have g2 : Ge h1 (h1.push (Obj.cells (Value.agg #[.int .i64 0, .int .i64 0, .int .i64 0]).cells 117)) := Ge.push _ _
  have e2 : (h1.push (Obj.cells (Value.agg #[.int .i64 0, .int .i64 0, .int .i64 0]).cells 117))[h1.size]? = some (Obj.cells #[.int .i64 0, .int .i64 0, .int .i64 0] 117 (0, 0)) := push_new _ _
  generalize h1.push (Obj.cells (Value.agg #[.int .i64 0, .int .i64 0, .int .i64 0]).cells 117) = h2 at *
  generalize hr : h1.size = r at *
  have e1' := g2.lookup e1
  have c0 : hcell h2 p 0 = some (.int .i64 a) := by simp [hcell, e1']
  have c1 : hcell h2 p 1 = some (.int .i64 b) := by simp [hcell, e1']
  have c2 : hcell h2 p 2 = some (.int .i64 c) := by simp [hcell, e1']
  simp (disch := omega) only [↓SS, A, Nat.reduceEqDiff, Int.reduceToNat, Int.cast_ofNat_Int, Int.reduceSub, Int.reduceAdd, Nat.reduceAdd, Nat.reduceMul, Nat.reduceSub, ↓reduceIte, rd_eq, TyU, c0, c1, c2]
  refine vbd_ok (cells := #[.int .i64 b, .int .i64 a, .int .i64 c]) (by kernel_rfl) ?_
  simp (disch := omega) only [↓SS, A, Nat.reduceEqDiff, Int.reduceToNat, Int.cast_ofNat_Int, Int.reduceSub, Int.reduceAdd, Nat.reduceAdd, Nat.reduceMul, Nat.reduceSub, ↓reduceIte, rd_eq, TyU]
  refine vst_up rfl rfl e2 (by simp [Value.cells]) ?_
  intro h3 e3 up3
  have hrow : rdRow h3 r 0 3 = some [.int .i64 b, .int .i64 a, .int .i64 c] := by
    simp only [rdRow, hcell, e3, Value.cells, setL]
    rfl
  simp (disch := omega) only [↓SS, A, Nat.reduceEqDiff, Int.reduceToNat, Int.cast_ofNat_Int, Int.reduceSub, Int.reduceAdd, Nat.reduceAdd, Nat.reduceMul, Nat.reduceSub, ↓reduceIte, rd_eq, TyU, hrow]
  exact up3.ge (g1.trans g2) (by omega)
theorem turn_ok {h : Heap} (tb : Tab h) {g n : Nat} {vs : Nat → Value} {L : Nat → List (Nat × Nat)} {E : Nat → Nat → Nat → Bool} (q : isG h g n vs L E) (hlt : ∀ i u k, E i u k = true → u < n ∧ k < n) (hirr : ∀ i u, E i u u = false) :
    Ct Tryd.prog 45 [ptr g 0] h fun v h' => ∃ x vs' L' F, v = ptr x 0 ∧ isG h' x n vs' L' F ∧ (∀ i u k, i < 4 → F i u k = E i k u) ∧ (∀ i u k, F i u k = true → k < n) ∧ Ge h h' := by
  have c0 : hcell h g 0 = some (.int .i64 n) := by simp [hcell, q.blk, gcells]
  have c5 : hcell h g 5 = some (.bool true) := by simp [hcell, q.blk, gcells]
  have hn := q.le
  refine enter Tryd.func45 (by kernel_rfl) rfl Tryd.results45 (by kernel_rfl) (by kernel_rfl) (init1 _) ?_
  simp (disch := omega) only [↓SS, A, Nat.reduceEqDiff, Int.reduceToNat, Int.cast_ofNat_Int, Int.reduceSub, Int.reduceAdd, Nat.reduceAdd, Nat.reduceMul, Nat.reduceSub, ↓reduceIte, rd_eq, TyU]
  refine vcall_mk (R := fun v h' => ∃ x vs' L' F, v = ptr x 0 ∧ isG h' x n vs' L' F ∧ (∀ i u k, i < 4 → F i u k = E i k u) ∧ (∀ i u k, F i u k = true → k < n) ∧ Ge h h') ?_ ?_
  · refine enter Tryd.func84 (by kernel_rfl) rfl Tryd.results84 (by kernel_rfl) (by kernel_rfl) (init2 _ _) ?_
    simp (disch := omega) only [↓SS, A, Nat.reduceEqDiff, Int.reduceToNat, Int.cast_ofNat_Int, Int.reduceSub, Int.reduceAdd, Nat.reduceAdd, Nat.reduceMul, Nat.reduceSub, ↓reduceIte, rd_eq, TyU, c5, c0]
    refine vcall_mk (gnew_ok (by omega)) ?_
    rintro _ h1 ⟨x, vs', L', rfl, G1, g1, hx, hw⟩
    simp (disch := omega) only [↓SS, A, Nat.reduceEqDiff, Int.reduceToNat, Int.cast_ofNat_Int, Int.reduceSub, Int.reduceAdd, Nat.reduceAdd, Nat.reduceMul, Nat.reduceSub, ↓reduceIte, rd_eq, TyU]
    refine vcall_mk (gedges_ok (tb.ge g1) (q.ge g1)) ?_
    rintro lv h2 ⟨o2, g2⟩
    have hel : ∀ e ∈ edgesL n E n, e.1 < n ∧ e.2.1 < n ∧ 1 ≤ e.2.2 ∧ e.2.2 ≤ 15 ∧ e.2.1 ≠ e.1 := by
      intro e he
      simp only [edgesL, List.mem_flatMap, List.mem_range, edgesFrom, List.mem_map] at he
      obtain ⟨u, hu, y, hy, rfl⟩ := he
      obtain ⟨hyn, hed⟩ := outs_mem.1 hy
      obtain ⟨i, hi4, hi⟩ := ed_of4 hed
      have hb : (labs E 4 u y).testBit i = true := by rw [labs_bit]; simp [hi4, hi]
      have h15 := labs_lt E u y 4
      refine ⟨hu, hyn, ?_, by simp only; omega, fun e => by simp only at e; subst e; rw [hirr] at hi; cases hi⟩
      simp only
      rcases Nat.eq_zero_or_pos (labs E 4 u y) with h | h
      · rw [h] at hb; simp at hb
      · exact h
    generalize hEl : edgesL n E n = el at *
    obtain ⟨la, lc, rfl, hl1, hl2, hl3⟩ := o2.form
    simp (disch := omega) only [↓SS, A, Nat.reduceEqDiff, Int.reduceToNat, Int.cast_ofNat_Int, Int.reduceSub, Int.reduceAdd, Nat.reduceAdd, Nat.reduceMul, Nat.reduceSub, ↓reduceIte, rd_eq, TyU]
    have t0 : (fun _ _ _ => false) = turnE [] := by funext i u k; simp [turnE]
    refine vloop_mk (fun k fr h' => ∃ j : Nat, j + k = el.length ∧ fr = [(31, .int .i64 j), (30, .int .i64 el.length), (29, .slice la el.length lc), (5, ptr x 0), (4, .pointer none), (0, ptr g 0), (1, .func (.func 85) #[] #[])] ∧ Ge h h' ∧
        isG h' x n vs' L' (turnE (el.take j)) ∧ Own h' h1.size 117 3 (.slice la el.length lc) el.length (eCells el)) el.length
      [(31, .int .i64 0), (30, .int .i64 el.length), (29, .slice la el.length lc), (5, ptr x 0), (4, .pointer none), (0, ptr g 0), (1, .func (.func 85) #[] #[])] (by simp only [↓SS, Nat.reduceEqDiff, Int.reduceToNat, Int.cast_ofNat_Int, Int.reduceSub, Int.reduceAdd, Nat.reduceAdd, Nat.reduceMul, Nat.reduceSub, ↓reduceIte, rd_eq, TyU]) ⟨0, by omega, rfl, g1.trans g2, by rw [List.take_zero, ← t0]; exact G1.ge g2, o2⟩ ?_
    rintro k _ h3 ⟨j, hjk, rfl, g3, G3, o3⟩
    by_cases hj : j < el.length
    · obtain ⟨⟨eu, ey, el'⟩, he⟩ : ∃ e, el[j]? = some e := ⟨_, List.getElem?_eq_getElem hj⟩
      obtain ⟨p1, p2, p3, p4, p5⟩ := hel _ (List.mem_of_getElem? he)
      simp only at p1 p2 p3 p4 p5
      obtain ⟨lb, lcc, hlv⟩ := o3.here (by omega)
      cases hlv
      obtain ⟨q1, q2, q3⟩ := eCells_at he
      have hrow : rdRow h3 lb (j * 3) 3 = some [.int .i64 (eu : Nat), .int .i64 (ey : Nat), .int .i64 (el' : Nat)] := by
        simp only [rdRow, o3.cell q1, o3.cell q2, Option.bind_some]
        rw [show j * 3 + 1 + 1 = j * 3 + 2 from rfl, o3.cell q3]
        rfl
      simp (disch := omega) only [↓SS, A, Nat.reduceEqDiff, Int.reduceToNat, Int.cast_ofNat_Int, Int.reduceSub, Int.reduceAdd, Nat.reduceAdd, Nat.reduceMul, Nat.reduceSub, ↓reduceIte, rd_eq, TyU, hrow]
      refine vst_new rfl rfl rfl ?_
      have g4 : Ge h3 (h3.push (Obj.cells (Value.agg #[.int .i64 (eu : Nat), .int .i64 (ey : Nat), .int .i64 (el' : Nat)]).cells 117)) := Ge.push _ _
      have e4 : (h3.push (Obj.cells (Value.agg #[.int .i64 (eu : Nat), .int .i64 (ey : Nat), .int .i64 (el' : Nat)]).cells 117))[h3.size]? = some (Obj.cells #[.int .i64 (eu : Nat), .int .i64 (ey : Nat), .int .i64 (el' : Nat)] 117 (0, 0)) := push_new _ _
      generalize h3.push (Obj.cells (Value.agg #[.int .i64 (eu : Nat), .int .i64 (ey : Nat), .int .i64 (el' : Nat)]).cells 117) = h4 at *
      generalize hvb : h3.size = vb at *
      have hrow4 : rdRow h4 vb 0 3 = some [.int .i64 (eu : Nat), .int .i64 (ey : Nat), .int .i64 (el' : Nat)] := by simp only [rdRow, hcell, e4]; rfl
      simp (disch := omega) only [↓SS, A, Nat.reduceEqDiff, Int.reduceToNat, Int.cast_ofNat_Int, Int.reduceSub, Int.reduceAdd, Nat.reduceAdd, Nat.reduceMul, Nat.reduceSub, ↓reduceIte, rd_eq, TyU, hrow4]
      refine vcall_mk turn1_ok ?_
      rintro _ h5 ⟨rfl, g5⟩
      simp (disch := omega) only [↓SS, A, Nat.reduceEqDiff, Int.reduceToNat, Int.cast_ofNat_Int, Int.reduceSub, Int.reduceAdd, Nat.reduceAdd, Nat.reduceMul, Nat.reduceSub, ↓reduceIte, rd_eq, TyU]
      have e5 := g5.lookup e4
      refine vst_up rfl rfl e5 (by simp [Value.cells]) ?_
      intro h6 e6 up6
      replace e6 : h6[vb]? = some (Obj.cells #[.int .i64 (ey : Nat), .int .i64 (eu : Nat), .int .i64 (el' : Nat)] 117 (0, 0)) := by rw [e6]; rfl
      have k0 : hcell h6 vb 0 = some (.int .i64 (ey : Nat)) := by simp [hcell, e6]
      have k1 : hcell h6 vb 1 = some (.int .i64 (eu : Nat)) := by simp [hcell, e6]
      have k2 : hcell h6 vb 2 = some (.int .i64 (el' : Nat)) := by simp [hcell, e6]
      simp (disch := omega) only [↓SS, A, Nat.reduceEqDiff, Int.reduceToNat, Int.cast_ofNat_Int, Int.reduceSub, Int.reduceAdd, Nat.reduceAdd, Nat.reduceMul, Nat.reduceSub, ↓reduceIte, rd_eq, TyU, k0, k1, k2]
      have kb36 : Kb [vb] h5 h6 := (Kb.refl _ _).up up6 (.inl (by simp))
      have hvb3 : h3.size ≤ vb := by omega
      have g36 : Ge h3 h6 := up6.ge (g4.trans g5) hvb3
      have G6 := G3.ge g36
      have g06 := g3.trans g36
      refine vcall_mk (gadd_ok G6 p2 p1 (by omega) (by omega) p5) ?_
      rintro _ h7 ⟨rfl, G7, kb7, _⟩
      simp (disch := omega) only [↓SS, A, Nat.reduceEqDiff, Int.reduceToNat, Int.cast_ofNat_Int, Int.reduceSub, Int.reduceAdd, Nat.reduceAdd, Nat.reduceMul, Nat.reduceSub, ↓reduceIte, rd_eq, TyU]
      have o7 := V.Own.kb (o3.ge g36) kb7 (fun b' hb' => by
        obtain ⟨_, cur, hc⟩ := Own.blk (o3.ge g36) hb'
        exact G6.out hc (by decide))
      refine ⟨k - 1, by omega, _, (by simp only [↓SS, Nat.reduceEqDiff, Int.reduceToNat, Int.cast_ofNat_Int, Int.reduceSub, Int.reduceAdd, Nat.reduceAdd, Nat.reduceMul, Nat.reduceSub, ↓reduceIte, rd_eq, Int.natCast_add, Int.cast_ofNat_Int]), j + 1, by omega, rfl, ?_, ?_, o7⟩
      · refine ⟨Nat.le_trans g06.size kb7.size, fun z hz => ?_⟩
        rw [kb7.block z (Nat.lt_of_lt_of_le hz g06.size) (fun hm => by have := hw z hm; omega)]
        exact g06.block z hz
      · obtain ⟨h8, h9⟩ := List.getElem?_eq_some_iff.1 he
        rw [List.take_succ_eq_append_getElem h8, h9, turnE_snoc]
        exact G7
    · obtain rfl : j = el.length := by omega
      simp (disch := omega) only [↓SS, A, Nat.reduceEqDiff, Int.reduceToNat, Int.cast_ofNat_Int, Int.reduceSub, Int.reduceAdd, Nat.reduceAdd, Nat.reduceMul, Nat.reduceSub, ↓reduceIte, rd_eq, TyU]
      rw [List.take_length] at G3
      subst hEl
      refine ⟨x, vs', L', _, rfl, G3, turn_all hlt, fun i u k' hk => ?_, g3⟩
      simp only [turnE, List.any_eq_true, Bool.and_eq_true, decide_eq_true_eq] at hk
      obtain ⟨e, he, _, rfl⟩ := hk
      exact (hel e he).1
  · rintro v h' ⟨x, vs', L', F, rfl, h1, h2, h3, h4⟩
    simp (disch := omega) only [↓SS, A, Nat.reduceEqDiff, Int.reduceToNat, Int.cast_ofNat_Int, Int.reduceSub, Int.reduceAdd, Nat.reduceAdd, Nat.reduceMul, Nat.reduceSub, ↓reduceIte, rd_eq, TyU]
    exact ⟨x, vs', L', F, rfl, h1, h2, h3, h4⟩
theorem turned_ok {h : Heap} (tb : Tab h) {z of : Int} {lv : Value} {l : List (Int × Int × Int)} (hl : edgesAt h lv l) :
    Ct Tryd.prog 12 [.int .i64 z, lv, .int .i64 of] h fun v h' => v = .bool true ∧ Ge h h' := by
  obtain ⟨la, lc, rfl, _⟩ := id hl
  refine enter Tryd.func12 (by kernel_rfl) rfl Tryd.results12 (by kernel_rfl) (by kernel_rfl) (init3 _ _ _) ?_
  simp (disch := omega) only [↓SS, A, Nat.reduceEqDiff, Int.reduceToNat, Int.cast_ofNat_Int, Int.reduceSub, Int.reduceAdd, Nat.reduceAdd, Nat.reduceMul, Nat.reduceSub, ↓reduceIte, rd_eq, TyU, TyP]
  refine vcall_mk (drawn_ok hl) ?_
  rintro _ h1 ⟨g, x, vs, L, E, rv, rb, M, rfl, p1, g1⟩
  simp (disch := omega) only [↓SS, A, Nat.reduceEqDiff, Int.reduceToNat, Int.cast_ofNat_Int, Int.reduceSub, Int.reduceAdd, Nat.reduceAdd, Nat.reduceMul, Nat.reduceSub, ↓reduceIte, rd_eq, TyU, TyP]
  refine vcall_mk (comps_ok (tb.ge g1) p1.G (fun i u k hk => (p1.lt i u k hk).2)) ?_
  rintro v2 h2 ⟨C, hC, hC1, hC2, g2⟩
  simp (disch := omega) only [↓SS, A, Nat.reduceEqDiff, Int.reduceToNat, Int.cast_ofNat_Int, Int.reduceSub, Int.reduceAdd, Nat.reduceAdd, Nat.reduceMul, Nat.reduceSub, ↓reduceIte, rd_eq, TyU, TyP]
  refine vcall_mk (turn_ok ((tb.ge g1).ge g2) (p1.G.ge g2) p1.lt p1.irr) ?_
  rintro _ h3 ⟨y, vs', L', F, rfl, G3, hF, hFlt, g3⟩
  simp (disch := omega) only [↓SS, A, Nat.reduceEqDiff, Int.reduceToNat, Int.cast_ofNat_Int, Int.reduceSub, Int.reduceAdd, Nat.reduceAdd, Nat.reduceMul, Nat.reduceSub, ↓reduceIte, rd_eq, TyU, TyP]
  refine vcall_mk (comps_ok (((tb.ge g1).ge g2).ge g3) G3 hFlt) ?_
  rintro v4 h4 ⟨D, hD, hD1, hD2, g4⟩
  have hD1' := Comps_turn (ed_turn hF of) hD1
  obtain rfl : C = D := hC1.unique hD1' hC2 hD2
  simp (disch := omega) only [↓SS, A, Nat.reduceEqDiff, Int.reduceToNat, Int.cast_ofNat_Int, Int.reduceSub, Int.reduceAdd, Nat.reduceAdd, Nat.reduceMul, Nat.reduceSub, ↓reduceIte, rd_eq, TyU, TyP]
  refine vcall_mk (equalF_ok ((hC.ge g3).ge g4) hD) ?_
  rintro _ _ ⟨rfl, rfl⟩
  obtain ⟨ca, cc, _, rfl, hc1, hc2, _⟩ := id hC
  simp (disch := omega) only [↓SS, A, Nat.reduceEqDiff, Int.reduceToNat, Int.cast_ofNat_Int, Int.reduceSub, Int.reduceAdd, Nat.reduceAdd, Nat.reduceMul, Nat.reduceSub, ↓reduceIte, rd_eq, TyU, TyP]
  refine vcall_mk (rcomps_ok (((p1.X.ge g2).ge g3).ge g4)) ?_
  rintro v5 h5 ⟨B, hB, hB1, hB2, g5⟩
  rw [p1.edge of] at hB1
  obtain rfl : C = B := hC1.unique hB1 hC2 hB2
  obtain ⟨ba, bc, _, rfl, hb1, hb2, _⟩ := id hB
  simp (disch := omega) only [↓SS, A, Nat.reduceEqDiff, Int.reduceToNat, Int.cast_ofNat_Int, Int.reduceSub, Int.reduceAdd, Nat.reduceAdd, Nat.reduceMul, Nat.reduceSub, ↓reduceIte, rd_eq, TyU, TyP]
  exact (((g1.trans g2).trans g3).trans g4).trans g5
end Go.Proofs.YtgfljbplccekcaaDoor
