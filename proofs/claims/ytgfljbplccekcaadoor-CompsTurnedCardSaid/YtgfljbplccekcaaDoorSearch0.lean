/-
  Package search without steps: what search.Search answers where no step may be taken, as contracts; conditions: the transactions lie in memory as rows.
-/
import Derived.Test.YtgfljbplccekcaaDoorBits
set_option linter.unusedSimpArgs false
set_option linter.unusedVariables false
set_option maxRecDepth 100000
namespace Go.Proofs.YtgfljbplccekcaaDoor
open Go Go.V

theorem TyS : aggT Tryd.prog 101 = some false ∧
  szT Tryd.prog 101 = some 1 ∧
  zeroT Tryd.prog 101 = some (.pointer none) ∧
  ptrT Tryd.prog 101 = true ∧
  aggT Tryd.prog 104 = some true ∧
  szT Tryd.prog 104 = some 6 ∧
  zeroT Tryd.prog 104 = some (.agg #[(.slice none 0 0), (.pointer none), (.map none), (.int .i64 0), (.int .i64 0), (.int .i64 0)]) ∧
  fieldT Tryd.prog 104 0 = some 0 ∧
  fieldT Tryd.prog 104 1 = some 1 ∧
  fieldT Tryd.prog 104 2 = some 2 ∧
  fieldT Tryd.prog 104 3 = some 3 ∧
  fieldT Tryd.prog 104 4 = some 4 ∧
  fieldT Tryd.prog 104 5 = some 5 ∧
  aggT Tryd.prog 22 = some false ∧
  szT Tryd.prog 22 = some 1 ∧
  zeroT Tryd.prog 22 = some (.slice none 0 0) ∧
  slT Tryd.prog 22 = some 5 ∧
  aggT Tryd.prog 29 = some true ∧
  szT Tryd.prog 29 = some 5 ∧
  zeroT Tryd.prog 29 = some (.agg #[(.int .i64 0), (.int .i64 0), (.int .i64 0), (.int .i64 0), (.slice none 0 0)]) ∧
  fieldT Tryd.prog 29 0 = some 0 ∧
  fieldT Tryd.prog 29 1 = some 1 ∧
  fieldT Tryd.prog 29 2 = some 2 ∧
  fieldT Tryd.prog 29 3 = some 3 ∧
  fieldT Tryd.prog 29 4 = some 4 ∧
  aggT Tryd.prog 3 = some false ∧
  szT Tryd.prog 3 = some 1 ∧
  zeroT Tryd.prog 3 = some (.int .i64 0) ∧
  intT Tryd.prog 3 = some .i64 ∧
  (Tryd.prog.underlying 3).isSome = true ∧
  aggT Tryd.prog 4 = some false ∧
  szT Tryd.prog 4 = some 1 ∧
  zeroT Tryd.prog 4 = some (.bool false) ∧
  boolT Tryd.prog 4 = true ∧
  aggT Tryd.prog 98 = some false ∧
  szT Tryd.prog 98 = some 1 ∧
  zeroT Tryd.prog 98 = some (.pointer none) ∧
  ptrT Tryd.prog 98 = true ∧
  aggT Tryd.prog 102 = some false ∧
  szT Tryd.prog 102 = some 1 ∧
  zeroT Tryd.prog 102 = some (.map none) ∧
  aggT Tryd.prog 175 = some false ∧
  szT Tryd.prog 175 = some 1 ∧
  zeroT Tryd.prog 175 = some (.slice none 0 0) ∧
  slT Tryd.prog 175 = some 3 ∧
  aggT Tryd.prog 174 = some true ∧
  szT Tryd.prog 174 = some 3 ∧
  zeroT Tryd.prog 174 = some (.agg #[(.int .i64 0), (.int .i64 0), (.pointer none)]) ∧
  fieldT Tryd.prog 174 0 = some 0 ∧
  fieldT Tryd.prog 174 1 = some 1 ∧
  fieldT Tryd.prog 174 2 = some 2 ∧
  aggT Tryd.prog 23 = some false ∧
  szT Tryd.prog 23 = some 1 ∧
  zeroT Tryd.prog 23 = some (.slice none 0 0) ∧
  slT Tryd.prog 23 = some 1 ∧
  aggT Tryd.prog 171 = some false ∧
  szT Tryd.prog 171 = some 1 ∧
  zeroT Tryd.prog 171 = some (.pointer none) ∧
  ptrT Tryd.prog 171 = true ∧
  aggT Tryd.prog 27 = some false ∧
  szT Tryd.prog 27 = some 1 ∧
  zeroT Tryd.prog 27 = some (.slice none 0 0) ∧
  slT Tryd.prog 27 = some 6 := by
  refine ⟨?_, ?_, ?_, ?_, ?_, ?_, ?_, ?_, ?_, ?_, ?_, ?_, ?_, ?_, ?_, ?_, ?_, ?_, ?_, ?_, ?_, ?_, ?_, ?_, ?_, ?_, ?_, ?_, ?_, ?_, ?_, ?_, ?_, ?_, ?_, ?_, ?_, ?_, ?_, ?_, ?_, ?_, ?_, ?_, ?_, ?_, ?_, ?_, ?_, ?_, ?_, ?_, ?_, ?_, ?_, ?_, ?_, ?_, ?_, ?_, ?_, ?_, ?_⟩ <;> kernel_rfl

/-- a transaction's cells: process, state, places, operations -/
structure TX where
  proc : Int
  st : Int
  fr : Int
  to : Int
  oa : Option Addr
  on : Nat
  oc : Nat
def TX.cells (t : TX) : List Value := [.int .i64 t.proc, .int .i64 t.st, .int .i64 t.fr, .int .i64 t.to, .slice t.oa t.on t.oc]
/-- transactions in memory -/
def Txs (h : Heap) (v : Value) (l : List TX) : Prop := Rows h v 5 (l.map TX.cells)
theorem Txs.ge {h h' : Heap} (g : Ge h h') {v : Value} {l : List TX} (r : Txs h v l) : Txs h' v l := Rows.ge g r
theorem Txs.at {h : Heap} {b o n c : Nat} {l : List TX} (r : Txs h (sl b o n c) l) : n = l.length ∧ n ≤ c ∧ c ≤ 9223372036854775807 ∧ ∀ i t, l[i]? = some t → rdRow h b (o + i * 5) 5 = some t.cells := by
  obtain ⟨a, c', e, h1, h2, h3⟩ := r
  simp only [Value.slice.injEq, List.length_map] at e h1 h3
  obtain ⟨rfl, rfl, rfl⟩ := e
  refine ⟨rfl, h1, h2, fun i t hi => ?_⟩
  obtain ⟨b', o', e, h4⟩ := h3 (by have := (List.getElem?_eq_some_iff.1 hi).1; omega)
  simp only [Option.some.injEq, Addr.mk.injEq, and_true] at e
  obtain ⟨rfl, rfl⟩ := e
  exact h4 i t.cells (by simp [hi])

theorem done_ok {h : Heap} (t : TX) : Ct Tryd.prog 59 [.agg t.cells.toArray] h fun v h' => v = .bool (decide (t.st = 1 ∨ t.st = 3)) ∧ Ge h h' := by
  refine enter Tryd.func59 (by kernel_rfl) rfl Tryd.results59 (by kernel_rfl) (by kernel_rfl) (init1 _) ?_
  by_cases h1 : t.st = 1
  · simp (disch := omega) only [↓SS, A, Nat.reduceEqDiff, Int.reduceToNat, Int.cast_ofNat_Int, Int.reduceSub, Int.reduceAdd, Nat.reduceAdd, Nat.reduceMul, Nat.reduceSub, ↓reduceIte, rd_eq, TyS, TX.cells, hcell, push_new, Value.cells]
    exact Ge.push _ _
  · by_cases h3 : t.st = 3
    all_goals
      simp (disch := omega) only [↓SS, A, Nat.reduceEqDiff, Int.reduceToNat, Int.cast_ofNat_Int, Int.reduceSub, Int.reduceAdd, Nat.reduceAdd, Nat.reduceMul, Nat.reduceSub, ↓reduceIte, rd_eq, TyS, TX.cells, hcell, push_new, Value.cells]
      exact Ge.push _ _
/-- whether one ended ahead of another one's beginning -/
def aheadB (a b : TX) : Bool := decide (a.st = 1 ∧ 0 ≤ a.to ∧ a.to < b.fr)
theorem ahead_ok {h : Heap} (a b : TX) : Ct Tryd.prog 62 [.agg a.cells.toArray, .agg b.cells.toArray] h fun v h' => v = .bool (aheadB a b) ∧ Ge h h' := by
  refine enter Tryd.func62 (by kernel_rfl) rfl Tryd.results62 (by kernel_rfl) (by kernel_rfl) (init2 _ _) ?_
  have g : Ge h ((h.push (.cells a.cells.toArray 29)).push (.cells b.cells.toArray 29)) := (Ge.push _ _).trans (Ge.push _ _)
  have e1 : ((h.push (.cells a.cells.toArray 29)).push (.cells b.cells.toArray 29))[h.size]? = some (.cells a.cells.toArray 29) := by rw [push_old (by simp), push_new]
  have e2 : ((h.push (.cells a.cells.toArray 29)).push (.cells b.cells.toArray 29))[(h.push (.cells a.cells.toArray 29)).size]? = some (.cells b.cells.toArray 29) := push_new _ _
  unfold aheadB
  simp only [TX.cells] at e1 e2 g
  by_cases h1 : a.st = 1
  · by_cases h2 : 0 ≤ a.to
    · by_cases h3 : a.to < b.fr
      all_goals
        simp (disch := omega) only [↓SS, A, Nat.reduceEqDiff, Int.reduceToNat, Int.cast_ofNat_Int, Int.reduceSub, Int.reduceAdd, Nat.reduceAdd, Nat.reduceMul, Nat.reduceSub, ↓reduceIte, rd_eq, TyS, TX.cells, hcell, e1, e2, Value.cells]
        exact g
    · simp (disch := omega) only [↓SS, A, Nat.reduceEqDiff, Int.reduceToNat, Int.cast_ofNat_Int, Int.reduceSub, Int.reduceAdd, Nat.reduceAdd, Nat.reduceMul, Nat.reduceSub, ↓reduceIte, rd_eq, TyS, TX.cells, hcell, e1, e2, Value.cells]
      exact g
  · simp (disch := omega) only [↓SS, A, Nat.reduceEqDiff, Int.reduceToNat, Int.cast_ofNat_Int, Int.reduceSub, Int.reduceAdd, Nat.reduceAdd, Nat.reduceMul, Nat.reduceSub, ↓reduceIte, rd_eq, TyS, TX.cells, hcell, e1, e2, Value.cells]
    exact g

/-- a search in memory -/
structure isSeek (h : Heap) (x : Nat) (lv : Value) (s wb : Nat) (m : Nat) (l : List TX) (ws : List Nat) (left budget taken : Int) : Prop where
  blk : h[x]? = some (.cells #[lv, ptr s 0, .map (some m), .int .i64 left, .int .i64 budget, .int .i64 taken] 104 (0, 0))
  txs : Txs h lv l
  set : isSet h s wb l.length ws
theorem isSeek.ge {h h' : Heap} (g : Ge h h') {x : Nat} {lv : Value} {s wb m : Nat} {l : List TX} {ws : List Nat} {left budget taken : Int} (q : isSeek h x lv s wb m l ws left budget taken) : isSeek h' x lv s wb m l ws left budget taken :=
  ⟨g.lookup q.blk, q.txs.ge g, q.set.ge g⟩
/-- whether a transaction can stand next -/
def mayB (l : List TX) (ws : List Nat) (i : Nat) (t : TX) : Prop := (t.st = 1 ∨ t.st = 3) ∧ mem ws i = false ∧ ∀ j u, l[j]? = some u → j ≠ i → mem ws j = false → aheadB u t = false
theorem may_ok {h : Heap} {x b o c : Nat} {s wb m : Nat} {l : List TX} {ws : List Nat} {left budget taken : Int} (q : isSeek h x (sl b o l.length c) s wb m l ws left budget taken) {i : Nat} {t : TX} (hi : l[i]? = some t) :
    Ct Tryd.prog 99 [ptr x 0, .int .i64 i] h fun v h' => (∃ r : Bool, v = .bool r ∧ (r = true ↔ mayB l ws i t)) ∧ Ge h h' := by
  have hil : i < l.length := (List.getElem?_eq_some_iff.1 hi).1
  obtain ⟨_, hc1, hc2, hrow⟩ := q.txs.at
  have hti := hrow i t hi
  refine enter Tryd.func99 (by kernel_rfl) rfl Tryd.results99 (by kernel_rfl) (by kernel_rfl) (init2 _ _) ?_
  simp (disch := omega) only [↓SS, A, Nat.reduceEqDiff, Int.reduceToNat, Int.cast_ofNat_Int, Int.reduceSub, Int.reduceAdd, Nat.reduceAdd, Nat.reduceMul, Nat.reduceSub, ↓reduceIte, rd_eq, TyS, hcell, q.blk, hti]
  refine vcall_mk (done_ok t) ?_
  rintro _ h1 ⟨rfl, g1⟩
  by_cases hd : t.st = 1 ∨ t.st = 3
  · have q1 := q.ge g1
    simp (disch := omega) only [↓SS, A, Nat.reduceEqDiff, Int.reduceToNat, Int.cast_ofNat_Int, Int.reduceSub, Int.reduceAdd, Nat.reduceAdd, Nat.reduceMul, Nat.reduceSub, ↓reduceIte, rd_eq, TyS, hcell, q1.blk]
    refine vcall_mk (has_ok q1.set hil) ?_
    rintro _ _ ⟨rfl, rfl⟩
    by_cases hm : mem ws i = true
    · simp (disch := omega) only [↓SS, A, Nat.reduceEqDiff, Int.reduceToNat, Int.cast_ofNat_Int, Int.reduceSub, Int.reduceAdd, Nat.reduceAdd, Nat.reduceMul, Nat.reduceSub, ↓reduceIte, rd_eq, TyS, hm]
      exact ⟨⟨false, rfl, by simp [mayB, hm]⟩, g1⟩
    · simp only [Bool.not_eq_true] at hm
      simp (disch := omega) only [↓SS, A, Nat.reduceEqDiff, Int.reduceToNat, Int.cast_ofNat_Int, Int.reduceSub, Int.reduceAdd, Nat.reduceAdd, Nat.reduceMul, Nat.reduceSub, ↓reduceIte, rd_eq, TyS, hm, hcell, q1.blk]
      refine vloop_mk (fun k fr h' => ∃ j : Nat, j + k = l.length ∧ fr = [(29, .int .i64 j), (28, .int .i64 l.length), (27, sl b o l.length c), (0, ptr x 0), (1, .int .i64 i)] ∧ Ge h h' ∧
          ∀ j' u, j' < j → l[j']? = some u → j' ≠ i → mem ws j' = false → aheadB u t = false) l.length
        [(29, .int .i64 0), (28, .int .i64 l.length), (27, sl b o l.length c), (0, ptr x 0), (1, .int .i64 i)] (by simp only [↓SS, Nat.reduceEqDiff, Int.reduceToNat, Int.cast_ofNat_Int, Int.reduceSub, Int.reduceAdd, Nat.reduceAdd, Nat.reduceMul, Nat.reduceSub, ↓reduceIte, rd_eq, TyS]) ⟨0, by omega, rfl, g1, by intro j' u hj; omega⟩ ?_
      rintro k _ h2 ⟨j, hjk, rfl, g2, hall⟩
      have q2 := q.ge g2
      by_cases hj : j < l.length
      · obtain ⟨u, hu⟩ : ∃ u, l[j]? = some u := ⟨_, List.getElem?_eq_getElem hj⟩
        have hru := g2.rdRow (hrow j u hu)
        simp (disch := omega) only [↓SS, A, Nat.reduceEqDiff, Int.reduceToNat, Int.cast_ofNat_Int, Int.reduceSub, Int.reduceAdd, Nat.reduceAdd, Nat.reduceMul, Nat.reduceSub, ↓reduceIte, rd_eq, TyS, hru]
        refine vst_new rfl rfl rfl ?_
        simp (disch := omega) only [↓SS, A, Nat.reduceEqDiff, Int.reduceToNat, Int.cast_ofNat_Int, Int.reduceSub, Int.reduceAdd, Nat.reduceAdd, Nat.reduceMul, Nat.reduceSub, ↓reduceIte, rd_eq, TyS]
        have g3 : Ge h2 (h2.push (.cells (Value.agg u.cells.toArray).cells 29)) := Ge.push _ _
        generalize hH : h2.push (.cells (Value.agg u.cells.toArray).cells 29) = h3 at g3 ⊢
        have q3 := q2.ge g3
        have g4 := g2.trans g3
        have hru3 : rdRow h3 h2.size 0 5 = some u.cells := by rw [← hH]; exact rdRow_blk (push_new _ _) (by simp [Value.cells, TX.cells])
        have hti3 := g4.rdRow hti
        refine vdraw_quiet mixed (by kernel_rfl) ?_
        by_cases hji : j = i
        · simp (disch := omega) only [↓SS, A, Nat.reduceEqDiff, Int.reduceToNat, Int.cast_ofNat_Int, Int.reduceSub, Int.reduceAdd, Nat.reduceAdd, Nat.reduceMul, Nat.reduceSub, ↓reduceIte, rd_eq, TyS]
          intro h5 g5
          refine ⟨k - 1, by omega, _, (by simp only [↓SS, Nat.reduceEqDiff, Int.reduceToNat, Int.cast_ofNat_Int, Int.reduceSub, Int.reduceAdd, Nat.reduceAdd, Nat.reduceMul, Nat.reduceSub, ↓reduceIte, rd_eq, Int.natCast_add, Int.cast_ofNat_Int]), j + 1, by omega, rfl, g4.trans g5, fun j' u' hj' hu' hne hm' => ?_⟩
          exact hall j' u' (by omega) hu' hne hm'
        · cases hmj : mem ws j with
          | true =>
            simp (disch := omega) only [↓SS, A, Nat.reduceEqDiff, Int.reduceToNat, Int.cast_ofNat_Int, Int.reduceSub, Int.reduceAdd, Nat.reduceAdd, Nat.reduceMul, Nat.reduceSub, ↓reduceIte, rd_eq, TyS, hcell, q3.blk]
            refine vqcall_mk _ (fun h' g' => (has_ok (q3.set.ge g') hj).mono fun v h'' ⟨e, e2⟩ => ⟨e, e2 ▸ Ge.refl _⟩) ?_
            simp (disch := omega) only [↓SS, A, Nat.reduceEqDiff, Int.reduceToNat, Int.cast_ofNat_Int, Int.reduceSub, Int.reduceAdd, Nat.reduceAdd, Nat.reduceMul, Nat.reduceSub, ↓reduceIte, rd_eq, TyS, hmj]
            intro h5 g5
            refine ⟨k - 1, by omega, _, (by simp only [↓SS, Nat.reduceEqDiff, Int.reduceToNat, Int.cast_ofNat_Int, Int.reduceSub, Int.reduceAdd, Nat.reduceAdd, Nat.reduceMul, Nat.reduceSub, ↓reduceIte, rd_eq, Int.natCast_add, Int.cast_ofNat_Int]), j + 1, by omega, rfl, g4.trans g5, fun j' u' hj' hu' hne hm' => ?_⟩
            by_cases e : j' = j
            · subst e; rw [hmj] at hm'; cases hm'
            · exact hall j' u' (by omega) hu' hne hm'
          | false =>
            simp (disch := omega) only [↓SS, A, Nat.reduceEqDiff, Int.reduceToNat, Int.cast_ofNat_Int, Int.reduceSub, Int.reduceAdd, Nat.reduceAdd, Nat.reduceMul, Nat.reduceSub, ↓reduceIte, rd_eq, TyS, hcell, q3.blk]
            refine vqcall_mk _ (fun h' g' => (has_ok (q3.set.ge g') hj).mono fun v h'' ⟨e, e2⟩ => ⟨e, e2 ▸ Ge.refl _⟩) ?_
            simp (disch := omega) only [↓SS, A, Nat.reduceEqDiff, Int.reduceToNat, Int.cast_ofNat_Int, Int.reduceSub, Int.reduceAdd, Nat.reduceAdd, Nat.reduceMul, Nat.reduceSub, ↓reduceIte, rd_eq, TyS, hmj, hru3, hti3, hcell, q3.blk]
            refine vqcall_mk _ (fun h' g' => ahead_ok u t) ?_
            cases ha : aheadB u t with
            | true =>
              simp (disch := omega) only [↓SS, A, Nat.reduceEqDiff, Int.reduceToNat, Int.cast_ofNat_Int, Int.reduceSub, Int.reduceAdd, Nat.reduceAdd, Nat.reduceMul, Nat.reduceSub, ↓reduceIte, rd_eq, TyS, ha]
              intro h5 g5
              refine ⟨⟨false, rfl, by simp only [Bool.false_eq_true, false_iff]; rintro ⟨_, _, h7⟩; rw [h7 j u hu hji hmj] at ha; cases ha⟩, g4.trans g5⟩
            | false =>
              simp (disch := omega) only [↓SS, A, Nat.reduceEqDiff, Int.reduceToNat, Int.cast_ofNat_Int, Int.reduceSub, Int.reduceAdd, Nat.reduceAdd, Nat.reduceMul, Nat.reduceSub, ↓reduceIte, rd_eq, TyS, ha]
              intro h5 g5
              refine ⟨k - 1, by omega, _, (by simp only [↓SS, Nat.reduceEqDiff, Int.reduceToNat, Int.cast_ofNat_Int, Int.reduceSub, Int.reduceAdd, Nat.reduceAdd, Nat.reduceMul, Nat.reduceSub, ↓reduceIte, rd_eq, Int.natCast_add, Int.cast_ofNat_Int]), j + 1, by omega, rfl, g4.trans g5, fun j' u' hj' hu' hne hm' => ?_⟩
              by_cases e : j' = j
              · subst e; rw [hu] at hu'; cases hu'; exact ha
              · exact hall j' u' (by omega) hu' hne hm'
      · simp (disch := omega) only [↓SS, A, Nat.reduceEqDiff, Int.reduceToNat, Int.cast_ofNat_Int, Int.reduceSub, Int.reduceAdd, Nat.reduceAdd, Nat.reduceMul, Nat.reduceSub, ↓reduceIte, rd_eq, TyS]
        refine ⟨⟨true, rfl, by simp only [true_iff]; exact ⟨hd, hm, fun j' u hu => hall j' u (by have := (List.getElem?_eq_some_iff.1 hu).1; omega) hu⟩⟩, g2⟩
  · simp (disch := omega) only [↓SS, A, Nat.reduceEqDiff, Int.reduceToNat, Int.cast_ofNat_Int, Int.reduceSub, Int.reduceAdd, Nat.reduceAdd, Nat.reduceMul, Nat.reduceSub, ↓reduceIte, rd_eq, TyS]
    exact ⟨⟨false, rfl, by simp [mayB, hd]⟩, g1⟩

theorem leave_neg {h : Heap} {x : Nat} : Ct Tryd.prog 98 [ptr x 0, .int .i64 (-1)] h fun v h' => v = .tuple #[] ∧ h = h' := by
  refine enter Tryd.func98 (by kernel_rfl) rfl Tryd.results98 (by kernel_rfl) (by kernel_rfl) (init2 _ _) ?_
  simp (disch := omega) only [↓SS, A, Nat.reduceEqDiff, Int.reduceToNat, Int.cast_ofNat_Int, Int.reduceSub, Int.reduceAdd, Nat.reduceAdd, Nat.reduceMul, Nat.reduceSub, ↓reduceIte, rd_eq, TyS]
theorem model_new {h : Heap} : Ct Tryd.prog 97 [] h fun v h' => v = ptr (h.size + 2) 0 ∧ Ge h h' := by
  refine enter Tryd.func97 (by kernel_rfl) rfl Tryd.results97 (by kernel_rfl) (by kernel_rfl) (init0) ?_
  simp (disch := omega) only [↓SS, A, Nat.reduceEqDiff, Int.reduceToNat, Int.cast_ofNat_Int, Int.reduceSub, Int.reduceAdd, Nat.reduceAdd, Nat.reduceMul, Nat.reduceSub, ↓reduceIte, rd_eq, TyS]
  refine vbd_ok (cells := #[.map (some h.size), .map (some (h.push (.map #[] 0)).size)]) (by kernel_rfl) ?_
  simp (disch := omega) only [↓SS, A, Nat.reduceEqDiff, Int.reduceToNat, Int.cast_ofNat_Int, Int.reduceSub, Int.reduceAdd, Nat.reduceAdd, Nat.reduceMul, Nat.reduceSub, ↓reduceIte, rd_eq, TyS]
  exact ⟨by simp, ((Ge.push _ _).trans (Ge.push _ _)).trans (Ge.push _ _)⟩
theorem el175 : elT Tryd.prog 175 = some (174, 3, 24, .agg #[.int .i64 0, .int .i64 0, .pointer none]) := by kernel_rfl
/-- a search of which nothing is left ends with yes -/
theorem run_yes {h : Heap} {x : Nat} {lv : Value} {s wb m : Nat} {l : List TX} {ws : List Nat} {budget taken : Int} (q : isSeek h x lv s wb m l ws 0 budget taken) :
    Ct Tryd.prog 51 [ptr x 0] h fun v h' => v = .tuple #[.int .i64 1, .slice none 0 0, .int .i64 taken] ∧ Ge h h' := by
  refine enter Tryd.func51 (by kernel_rfl) rfl Tryd.results51 (by kernel_rfl) (by kernel_rfl) (init1 _) ?_
  simp (disch := omega) only [↓SS, A, Nat.reduceEqDiff, Int.reduceToNat, Int.cast_ofNat_Int, Int.reduceSub, Int.reduceAdd, Nat.reduceAdd, Nat.reduceMul, Nat.reduceSub, ↓reduceIte, rd_eq, TyS]
  refine sem_scope 0 (fun _ _ _ => False) rfl (sem_of_vc ?_) (fun _ _ _ q => False.elim q)
  simp (disch := omega) only [↓SS, A, Nat.reduceEqDiff, Int.reduceToNat, Int.cast_ofNat_Int, Int.reduceSub, Int.reduceAdd, Nat.reduceAdd, Nat.reduceMul, Nat.reduceSub, ↓reduceIte, rd_eq, TyS]
  refine vcall_mk model_new ?_
  rintro _ h1 ⟨rfl, g1⟩
  simp (disch := omega) only [↓SS, A, Nat.reduceEqDiff, Int.reduceToNat, Int.cast_ofNat_Int, Int.reduceSub, Int.reduceAdd, Nat.reduceAdd, Nat.reduceMul, Nat.reduceSub, ↓reduceIte, rd_eq, TyS]
  refine vbd_ok (cells := #[.int .i64 (-1), .int .i64 0, ptr (h.size + 2) 0]) (by kernel_rfl) ?_
  simp (disch := omega) only [↓SS, A, Nat.reduceEqDiff, Int.reduceToNat, Int.cast_ofNat_Int, Int.reduceSub, Int.reduceAdd, Nat.reduceAdd, Nat.reduceMul, Nat.reduceSub, ↓reduceIte, rd_eq, TyS]
  refine vbs_one el175 rfl rfl (by omega) (by omega) ?_
  have g2 := g1.trans (Ge.push h1 (.cells (Value.agg #[.int .i64 (-1), .int .i64 0, ptr (h.size + 2) 0]).cells 174))
  generalize h1.size = g at *
  generalize h1.push (.cells (Value.agg #[.int .i64 (-1), .int .i64 0, ptr (h.size + 2) 0]).cells 174) = h2 at *
  have q2 := q.ge g2
  simp (disch := omega) only [↓SS, A, Nat.reduceEqDiff, Int.reduceToNat, Int.cast_ofNat_Int, Int.reduceSub, Int.reduceAdd, Nat.reduceAdd, Nat.reduceMul, Nat.reduceSub, ↓reduceIte, rd_eq, TyS, hcell, q2.blk]
  refine vloop_mk (fun k fr h' => k = 0 ∧ fr = [(24, .int .i64 0), (23, .int .i64 0), (6, .slice none 0 0), (0, ptr x 0)] ∧ Ge h h') 0
    [(24, .int .i64 0), (23, .int .i64 0), (6, .slice none 0 0), (0, ptr x 0)] (by simp only [↓SS, Nat.reduceEqDiff, Int.reduceToNat, Int.cast_ofNat_Int, Int.reduceSub, Int.reduceAdd, Nat.reduceAdd, Nat.reduceMul, Nat.reduceSub, ↓reduceIte, rd_eq, TyS]) ⟨rfl, rfl, g2⟩ ?_
  rintro k _ h3 ⟨rfl, rfl, g3⟩
  have q3 := q.ge g3
  simp (disch := omega) only [↓SS, A, Nat.reduceEqDiff, Int.reduceToNat, Int.cast_ofNat_Int, Int.reduceSub, Int.reduceAdd, Nat.reduceAdd, Nat.reduceMul, Nat.reduceSub, ↓reduceIte, rd_eq, TyS]
  refine vdraw_pure mixed (by kernel_rfl) ?_
  simp (disch := omega) only [↓SS, A, Nat.reduceEqDiff, Int.reduceToNat, Int.cast_ofNat_Int, Int.reduceSub, Int.reduceAdd, Nat.reduceAdd, Nat.reduceMul, Nat.reduceSub, ↓reduceIte, rd_eq, TyS, hcell, q3.blk]
  exact g3
/-- without a step -/
theorem run_zero {h : Heap} {x b o c : Nat} {s wb m : Nat} {l : List TX} {ws : List Nat} {left : Int} (q : isSeek h x (sl b o l.length c) s wb m l ws left 0 0) :
    Ct Tryd.prog 51 [ptr x 0] h fun v h' => (∃ a : Int, v = .tuple #[.int .i64 a, .slice none 0 0, .int .i64 0] ∧ (left = 0 → a = 1) ∧ (left ≠ 0 → a = 2 ∨ a = 3)) ∧ Ge h h' := by
  refine enter Tryd.func51 (by kernel_rfl) rfl Tryd.results51 (by kernel_rfl) (by kernel_rfl) (init1 _) ?_
  simp (disch := omega) only [↓SS, A, Nat.reduceEqDiff, Int.reduceToNat, Int.cast_ofNat_Int, Int.reduceSub, Int.reduceAdd, Nat.reduceAdd, Nat.reduceMul, Nat.reduceSub, ↓reduceIte, rd_eq, TyS]
  refine sem_scope 0 (fun _ _ _ => False) rfl (sem_of_vc ?_) (fun _ _ _ q => False.elim q)
  simp (disch := omega) only [↓SS, A, Nat.reduceEqDiff, Int.reduceToNat, Int.cast_ofNat_Int, Int.reduceSub, Int.reduceAdd, Nat.reduceAdd, Nat.reduceMul, Nat.reduceSub, ↓reduceIte, rd_eq, TyS]
  refine vcall_mk model_new ?_
  rintro _ h1 ⟨rfl, g1⟩
  simp (disch := omega) only [↓SS, A, Nat.reduceEqDiff, Int.reduceToNat, Int.cast_ofNat_Int, Int.reduceSub, Int.reduceAdd, Nat.reduceAdd, Nat.reduceMul, Nat.reduceSub, ↓reduceIte, rd_eq, TyS]
  refine vbd_ok (cells := #[.int .i64 (-1), .int .i64 0, ptr (h.size + 2) 0]) (by kernel_rfl) ?_
  simp (disch := omega) only [↓SS, A, Nat.reduceEqDiff, Int.reduceToNat, Int.cast_ofNat_Int, Int.reduceSub, Int.reduceAdd, Nat.reduceAdd, Nat.reduceMul, Nat.reduceSub, ↓reduceIte, rd_eq, TyS]
  refine vbs_one el175 rfl rfl (by omega) (by omega) ?_
  have g2 := g1.trans (Ge.push h1 (.cells (Value.agg #[.int .i64 (-1), .int .i64 0, ptr (h.size + 2) 0]).cells 174))
  have hst : (h1.push (.cells (Value.agg #[.int .i64 (-1), .int .i64 0, ptr (h.size + 2) 0]).cells 174))[h1.size]? = some (.cells #[.int .i64 (-1), .int .i64 0, ptr (h.size + 2) 0] 174 (0, 0)) := push_new _ _
  have hgs := g1.size
  generalize h1.size = g at *
  generalize h1.push (.cells (Value.agg #[.int .i64 (-1), .int .i64 0, ptr (h.size + 2) 0]).cells 174) = h2 at *
  have q2 := q.ge g2
  by_cases hl : left = 0
  · simp (disch := omega) only [↓SS, A, Nat.reduceEqDiff, Int.reduceToNat, Int.cast_ofNat_Int, Int.reduceSub, Int.reduceAdd, Nat.reduceAdd, Nat.reduceMul, Nat.reduceSub, ↓reduceIte, rd_eq, TyS, hcell, q2.blk]
    refine vloop_mk (fun k fr h' => k = 0 ∧ fr = [(24, .int .i64 0), (23, .int .i64 0), (6, .slice none 0 0), (0, ptr x 0)] ∧ Ge h h') 0
      [(24, .int .i64 0), (23, .int .i64 0), (6, .slice none 0 0), (0, ptr x 0)] (by simp only [↓SS, Nat.reduceEqDiff, Int.reduceToNat, Int.cast_ofNat_Int, Int.reduceSub, Int.reduceAdd, Nat.reduceAdd, Nat.reduceMul, Nat.reduceSub, ↓reduceIte, rd_eq, TyS]) ⟨rfl, rfl, g2⟩ ?_
    rintro k _ h3 ⟨rfl, rfl, g3⟩
    have q3 := q.ge g3
    simp (disch := omega) only [↓SS, A, Nat.reduceEqDiff, Int.reduceToNat, Int.cast_ofNat_Int, Int.reduceSub, Int.reduceAdd, Nat.reduceAdd, Nat.reduceMul, Nat.reduceSub, ↓reduceIte, rd_eq, TyS]
    refine vdraw_pure mixed (by kernel_rfl) ?_
    simp (disch := omega) only [↓SS, A, Nat.reduceEqDiff, Int.reduceToNat, Int.cast_ofNat_Int, Int.reduceSub, Int.reduceAdd, Nat.reduceAdd, Nat.reduceMul, Nat.reduceSub, ↓reduceIte, rd_eq, TyS, hcell, q3.blk]
    exact ⟨⟨1, rfl, by simp, by simp [hl]⟩, g3⟩
  · simp (disch := omega) only [↓SS, A, Nat.reduceEqDiff, Int.reduceToNat, Int.cast_ofNat_Int, Int.reduceSub, Int.reduceAdd, Nat.reduceAdd, Nat.reduceMul, Nat.reduceSub, ↓reduceIte, rd_eq, TyS, hcell, q2.blk]
    refine vloop_mk (fun k fr h' => ∃ ln : Nat, fr = [(5, sl g 0 ln 1), (0, ptr x 0)] ∧ Ge h h' ∧ (ln = 0 ∨ ln = 1 ∧ ∃ j : Nat, j + k = l.length + 1 ∧ j ≤ l.length ∧ h'[g]? = some (.cells #[.int .i64 (-1), .int .i64 j, ptr (h.size + 2) 0] 174 (0, 0)))) (l.length + 1)
      [(5, sl g 0 1 1), (0, ptr x 0)] (by simp only [↓SS, Nat.reduceEqDiff, Int.reduceToNat, Int.cast_ofNat_Int, Int.reduceSub, Int.reduceAdd, Nat.reduceAdd, Nat.reduceMul, Nat.reduceSub, ↓reduceIte, rd_eq, TyS]) ⟨1, rfl, g2, Or.inr ⟨rfl, 0, by omega, by omega, hst⟩⟩ ?_
    rintro k _ h3 ⟨ln, rfl, g3, hln⟩
    have q3 := q.ge g3
    rcases hln with rfl | ⟨rfl, j, hjk, hjl, hg⟩
    · simp (disch := omega) only [↓SS, A, Nat.reduceEqDiff, Int.reduceToNat, Int.cast_ofNat_Int, Int.reduceSub, Int.reduceAdd, Nat.reduceAdd, Nat.reduceMul, Nat.reduceSub, ↓reduceIte, rd_eq, TyS]
      refine vdraw_pure mixed (by kernel_rfl) ?_
      simp (disch := omega) only [↓SS, A, Nat.reduceEqDiff, Int.reduceToNat, Int.cast_ofNat_Int, Int.reduceSub, Int.reduceAdd, Nat.reduceAdd, Nat.reduceMul, Nat.reduceSub, ↓reduceIte, rd_eq, TyS, hcell, q3.blk]
      exact ⟨⟨2, rfl, by simp [hl], by simp⟩, g3⟩
    · simp (disch := omega) only [↓SS, A, Nat.reduceEqDiff, Int.reduceToNat, Int.cast_ofNat_Int, Int.reduceSub, Int.reduceAdd, Nat.reduceAdd, Nat.reduceMul, Nat.reduceSub, ↓reduceIte, rd_eq, TyS]
      refine vdraw_pure mixed (by kernel_rfl) ?_
      by_cases hj : j = l.length
      · simp (disch := omega) only [↓SS, A, Nat.reduceEqDiff, Int.reduceToNat, Int.cast_ofNat_Int, Int.reduceSub, Int.reduceAdd, Nat.reduceAdd, Nat.reduceMul, Nat.reduceSub, ↓reduceIte, rd_eq, TyS, hcell, q3.blk, hg]
        refine vcall_mk leave_neg ?_
        rintro _ _ ⟨rfl, rfl⟩
        simp (disch := omega) only [↓SS, A, Nat.reduceEqDiff, Int.reduceToNat, Int.cast_ofNat_Int, Int.reduceSub, Int.reduceAdd, Nat.reduceAdd, Nat.reduceMul, Nat.reduceSub, ↓reduceIte, rd_eq, TyS, hcell, q3.blk, hg]
        exact ⟨0, by omega, _, (by simp only [↓SS, Nat.reduceEqDiff, Int.reduceToNat, Int.cast_ofNat_Int, Int.reduceSub, Int.reduceAdd, Nat.reduceAdd, Nat.reduceMul, Nat.reduceSub, ↓reduceIte, rd_eq, Int.natCast_add, Int.cast_ofNat_Int]), 0, rfl, g3, Or.inl rfl⟩
      · obtain ⟨_, hc1, hc2, _⟩ := q.txs.at
        simp (disch := omega) only [↓SS, A, Nat.reduceEqDiff, Int.reduceToNat, Int.cast_ofNat_Int, Int.reduceSub, Int.reduceAdd, Nat.reduceAdd, Nat.reduceMul, Nat.reduceSub, ↓reduceIte, rd_eq, TyS, hcell, q3.blk, hg]
        refine vst_up rfl rfl hg (by simp [Value.cells]) ?_
        intro h4 hg4 up
        replace hg4 : h4[g]? = some (.cells #[.int .i64 (-1), .int .i64 (j + 1 : Nat), ptr (h.size + 2) 0] 174 (0, 0)) := by rw [hg4]; rfl
        have g4 := up.ge g3 hgs
        have q4 := q.ge g4
        simp (disch := omega) only [↓SS, A, Nat.reduceEqDiff, Int.reduceToNat, Int.cast_ofNat_Int, Int.reduceSub, Int.reduceAdd, Nat.reduceAdd, Nat.reduceMul, Nat.reduceSub, ↓reduceIte, rd_eq, TyS]
        obtain ⟨t, ht⟩ : ∃ t, l[j]? = some t := ⟨_, List.getElem?_eq_getElem (by omega)⟩
        refine vcall_mk (may_ok q4 ht) ?_
        rintro _ h5 ⟨⟨r, rfl, _⟩, g5⟩
        have hg5 := g5.lookup hg4
        have q5 := q4.ge g5
        have g45 := g4.trans g5
        cases r with
        | false =>
          simp (disch := omega) only [↓SS, A, Nat.reduceEqDiff, Int.reduceToNat, Int.cast_ofNat_Int, Int.reduceSub, Int.reduceAdd, Nat.reduceAdd, Nat.reduceMul, Nat.reduceSub, ↓reduceIte, rd_eq, TyS]
          exact ⟨k - 1, by omega, _, (by simp only [↓SS, Nat.reduceEqDiff, Int.reduceToNat, Int.cast_ofNat_Int, Int.reduceSub, Int.reduceAdd, Nat.reduceAdd, Nat.reduceMul, Nat.reduceSub, ↓reduceIte, rd_eq, Int.natCast_add, Int.cast_ofNat_Int]), 1, rfl, g45, Or.inr ⟨rfl, j + 1, by omega, by omega, hg5⟩⟩
        | true =>
          simp (disch := omega) only [↓SS, A, Nat.reduceEqDiff, Int.reduceToNat, Int.cast_ofNat_Int, Int.reduceSub, Int.reduceAdd, Nat.reduceAdd, Nat.reduceMul, Nat.reduceSub, ↓reduceIte, rd_eq, TyS]
          refine vdraw_pure mixed (by kernel_rfl) ?_
          simp (disch := omega) only [↓SS, A, Nat.reduceEqDiff, Int.reduceToNat, Int.cast_ofNat_Int, Int.reduceSub, Int.reduceAdd, Nat.reduceAdd, Nat.reduceMul, Nat.reduceSub, ↓reduceIte, rd_eq, TyS, hcell, q5.blk]
          refine vdraw_pure mixed (by kernel_rfl) ?_
          simp (disch := omega) only [↓SS, A, Nat.reduceEqDiff, Int.reduceToNat, Int.cast_ofNat_Int, Int.reduceSub, Int.reduceAdd, Nat.reduceAdd, Nat.reduceMul, Nat.reduceSub, ↓reduceIte, rd_eq, TyS, hcell, q5.blk]
          exact ⟨⟨3, rfl, by simp [hl], by simp⟩, g45⟩
theorem Txs.form {h : Heap} {v : Value} {l : List TX} (r : Txs h v l) : ∃ a c, v = .slice a l.length c ∧ l.length ≤ 9223372036854775807 ∧ (0 < l.length → ∃ b o, a = some ⟨b, o, none⟩) := by
  obtain ⟨a, c, e, h1, h2, h3⟩ := r
  simp only [List.length_map] at e h1 h3
  exact ⟨a, c, e, by omega, fun hl => by obtain ⟨b, o, e, _⟩ := h3 hl; exact ⟨b, o, e⟩⟩
/-- how many of the first j were done for certain -/
def oks (l : List TX) (j : Nat) : Nat := (l.take j).countP (fun t => t.st == 1)
theorem oks_succ {l : List TX} {j : Nat} {t : TX} (ht : l[j]? = some t) : oks l (j + 1) = oks l j + if t.st = 1 then 1 else 0 := by
  unfold oks
  obtain ⟨hl, he⟩ := List.getElem?_eq_some_iff.1 ht
  rw [List.take_add_one, ht, List.countP_append]
  by_cases h : t.st = 1 <;> simp [h]
theorem search_many {h : Heap} {a : Option Addr} {n c : Nat} (hl : 300 < n) (hc : n ≤ 9223372036854775807) (steps : Int) :
    Ct Tryd.prog 16 [.slice a n c, .int .i64 steps] h fun v h' => v = .tuple #[.int .i64 3, .slice none 0 0, .int .i64 0] ∧ Ge h h' := by
  refine enter Tryd.func16 (by kernel_rfl) rfl Tryd.results16 (by kernel_rfl) (by kernel_rfl) (init2 _ _) ?_
  simp (disch := omega) only [↓SS, A, Nat.reduceEqDiff, Int.reduceToNat, Int.cast_ofNat_Int, Int.reduceSub, Int.reduceAdd, Nat.reduceAdd, Nat.reduceMul, Nat.reduceSub, ↓reduceIte, rd_eq, TyS]
  by_cases hb : 4096 < n
  · refine vcall_mk (new_big (Or.inr (by omega))) ?_
    rintro _ _ ⟨rfl, rfl⟩
    simp (disch := omega) only [↓SS, A, Nat.reduceEqDiff, Int.reduceToNat, Int.cast_ofNat_Int, Int.reduceSub, Int.reduceAdd, Nat.reduceAdd, Nat.reduceMul, Nat.reduceSub, ↓reduceIte, rd_eq, TyS]
    exact Ge.refl _
  · refine vcall_mk (new_ok (by omega)) ?_
    rintro _ h1 ⟨s, wb, hs, hw, rfl, q, g⟩
    simp (disch := omega) only [↓SS, A, Nat.reduceEqDiff, Int.reduceToNat, Int.cast_ofNat_Int, Int.reduceSub, Int.reduceAdd, Nat.reduceAdd, Nat.reduceMul, Nat.reduceSub, ↓reduceIte, rd_eq, TyS]
    exact g
theorem search_few {h : Heap} {v : Value} {l : List TX} (r : Txs h v l) (hl : l.length ≤ 300) (steps : Int) (hs : steps ≤ 0) :
    Ct Tryd.prog 16 [v, .int .i64 steps] h fun v h' => (∃ a : Int, v = .tuple #[.int .i64 a, .slice none 0 0, .int .i64 0] ∧ (oks l l.length = 0 → a = 1) ∧ (oks l l.length ≠ 0 → a = 2 ∨ a = 3)) ∧ Ge h h' := by
  obtain ⟨a, c, rfl, hc, ha⟩ := r.form
  refine enter Tryd.func16 (by kernel_rfl) rfl Tryd.results16 (by kernel_rfl) (by kernel_rfl) (init2 _ _) ?_
  simp (disch := omega) only [↓SS, A, Nat.reduceEqDiff, Int.reduceToNat, Int.cast_ofNat_Int, Int.reduceSub, Int.reduceAdd, Nat.reduceAdd, Nat.reduceMul, Nat.reduceSub, ↓reduceIte, rd_eq, TyS]
  refine vcall_mk (new_ok (by omega)) ?_
  rintro _ h1 ⟨s, wb, hs, hw, rfl, q, g1⟩
  simp (disch := omega) only [↓SS, A, Nat.reduceEqDiff, Int.reduceToNat, Int.cast_ofNat_Int, Int.reduceSub, Int.reduceAdd, Nat.reduceAdd, Nat.reduceMul, Nat.reduceSub, ↓reduceIte, rd_eq, TyS]
  have eb : (if (200000 : Int) < if (0 : Int) > steps then 0 else steps then 200000 else if (0 : Int) > steps then 0 else steps) = 0 := by
    by_cases h : (0 : Int) > steps
    · simp [h]
    · rw [if_neg h, if_neg (by omega)]; omega
  rw [eb]
  refine vbd_ok (cells := #[.slice a l.length c, ptr s 0, .map (some h1.size), .int .i64 0, .int .i64 0, .int .i64 0]) (by kernel_rfl) ?_
  simp (disch := omega) only [↓SS, A, Nat.reduceEqDiff, Int.reduceToNat, Int.cast_ofNat_Int, Int.reduceSub, Int.reduceAdd, Nat.reduceAdd, Nat.reduceMul, Nat.reduceSub, ↓reduceIte, rd_eq, TyS]
  have g2 : Ge h1 ((h1.push (.map #[] 0)).push (.cells (Value.agg #[.slice a l.length c, ptr s 0, .map (some h1.size), .int .i64 0, .int .i64 0, .int .i64 0]).cells 104 (0, 0))) := (Ge.push _ _).trans (Ge.push _ _)
  have q2 : isSeek ((h1.push (.map #[] 0)).push (.cells (Value.agg #[.slice a l.length c, ptr s 0, .map (some h1.size), .int .i64 0, .int .i64 0, .int .i64 0]).cells 104 (0, 0))) (h1.push (.map #[] 0)).size (.slice a l.length c) s wb h1.size l (List.replicate ((l.length + 63) / 64) 0) 0 0 0 :=
    ⟨push_new _ _, (r.ge g1).ge g2, q.ge g2⟩
  have hx : h.size ≤ (h1.push (.map #[] 0)).size := by have := g1.size; simp; omega
  have hsx : s < (h1.push (.map #[] 0)).size := by have := (Array.getElem?_eq_some_iff.1 q.blk).1; simp; omega
  have hwx : wb < (h1.push (.map #[] 0)).size := by have := (Array.getElem?_eq_some_iff.1 q.words).1; simp; omega
  replace g2 := g1.trans g2
  generalize (h1.push (.map #[] 0)).push (.cells (Value.agg #[.slice a l.length c, ptr s 0, .map (some h1.size), .int .i64 0, .int .i64 0, .int .i64 0]).cells 104 (0, 0)) = h2 at *
  generalize (h1.push (.map #[] 0)).size = x at *
  refine vloop_mk (fun k fr h' => ∃ j : Nat, j + k = l.length ∧ fr = [(35, .int .i64 j), (34, .int .i64 l.length), (33, .slice a l.length c), (9, ptr x 0)] ∧ Ge h h' ∧ isSeek h' x (.slice a l.length c) s wb h1.size l (List.replicate ((l.length + 63) / 64) 0) (oks l j) 0 0) l.length
    [(35, .int .i64 0), (34, .int .i64 l.length), (33, .slice a l.length c), (9, ptr x 0)] (by simp only [↓SS, Nat.reduceEqDiff, Int.reduceToNat, Int.cast_ofNat_Int, Int.reduceSub, Int.reduceAdd, Nat.reduceAdd, Nat.reduceMul, Nat.reduceSub, ↓reduceIte, rd_eq, TyS]) ⟨0, by omega, rfl, g2, q2⟩ ?_
  rintro k _ h3 ⟨j, hjk, rfl, g3, q3⟩
  by_cases hj : j < l.length
  · obtain ⟨b, o, rfl⟩ := ha (by omega)
    obtain ⟨t, ht⟩ : ∃ t, l[j]? = some t := ⟨_, List.getElem?_eq_getElem hj⟩
    obtain ⟨_, hc1, hc2, hrow⟩ := q3.txs.at
    have hrt := hrow j t ht
    simp (disch := omega) only [↓SS, A, Nat.reduceEqDiff, Int.reduceToNat, Int.cast_ofNat_Int, Int.reduceSub, Int.reduceAdd, Nat.reduceAdd, Nat.reduceMul, Nat.reduceSub, ↓reduceIte, rd_eq, TyS, hrt]
    refine vst_new rfl rfl rfl ?_
    have g4' : Ge h3 (h3.push (.cells (Value.agg t.cells.toArray).cells 29)) := Ge.push _ _
    have e4 : (h3.push (.cells (Value.agg t.cells.toArray).cells 29))[h3.size]? = some (.cells t.cells.toArray 29 (0, 0)) := push_new _ _
    generalize h3.push (.cells (Value.agg t.cells.toArray).cells 29) = h4 at *
    have g4 := g3.trans g4'
    have q4 := q3.ge g4'
    have hos := oks_succ ht
    have hle : oks l j ≤ j := by unfold oks; exact Nat.le_trans List.countP_le_length (by simp; omega)
    simp only [TX.cells] at e4
    by_cases h1t : t.st = 1
    · simp (disch := omega) only [↓SS, A, Nat.reduceEqDiff, Int.reduceToNat, Int.cast_ofNat_Int, Int.reduceSub, Int.reduceAdd, Nat.reduceAdd, Nat.reduceMul, Nat.reduceSub, ↓reduceIte, rd_eq, TyS, hcell, e4]
      simp (disch := omega) only [↓SS, A, Nat.reduceEqDiff, Int.reduceToNat, Int.cast_ofNat_Int, Int.reduceSub, Int.reduceAdd, Nat.reduceAdd, Nat.reduceMul, Nat.reduceSub, ↓reduceIte, rd_eq, TyS, hcell, q4.blk]
      refine vst_up rfl rfl q4.blk (by simp [Value.cells]) ?_
      intro h5 e5 up
      replace e5 : h5[x]? = some (.cells #[.slice (some ⟨b, o, none⟩) l.length c, ptr s 0, .map (some h1.size), .int .i64 (oks l (j + 1) : Nat), .int .i64 0, .int .i64 0] 104 (0, 0)) := by
        rw [e5, hos, if_pos h1t]; rfl
      have g5 := up.ge g4 hx
      simp (disch := omega) only [↓SS, A, Nat.reduceEqDiff, Int.reduceToNat, Int.cast_ofNat_Int, Int.reduceSub, Int.reduceAdd, Nat.reduceAdd, Nat.reduceMul, Nat.reduceSub, ↓reduceIte, rd_eq, TyS]
      exact ⟨k - 1, by omega, _, (by simp only [↓SS, Nat.reduceEqDiff, Int.reduceToNat, Int.cast_ofNat_Int, Int.reduceSub, Int.reduceAdd, Nat.reduceAdd, Nat.reduceMul, Nat.reduceSub, ↓reduceIte, rd_eq, Int.natCast_add, Int.cast_ofNat_Int]), j + 1, by omega, rfl, g5, e5, r.ge g5, up.keep q4.set.blk (by omega), up.keep q4.set.words (by omega), q.len, q.le, q.small, q.high⟩
    · simp (disch := omega) only [↓SS, A, Nat.reduceEqDiff, Int.reduceToNat, Int.cast_ofNat_Int, Int.reduceSub, Int.reduceAdd, Nat.reduceAdd, Nat.reduceMul, Nat.reduceSub, ↓reduceIte, rd_eq, TyS, hcell, e4]
      refine ⟨k - 1, by omega, _, (by simp only [↓SS, Nat.reduceEqDiff, Int.reduceToNat, Int.cast_ofNat_Int, Int.reduceSub, Int.reduceAdd, Nat.reduceAdd, Nat.reduceMul, Nat.reduceSub, ↓reduceIte, rd_eq, Int.natCast_add, Int.cast_ofNat_Int]), j + 1, by omega, rfl, g4, ?_⟩
      rw [hos, if_neg h1t]; exact q4
  · have : j = l.length := by omega
    subst this
    simp (disch := omega) only [↓SS, A, Nat.reduceEqDiff, Int.reduceToNat, Int.cast_ofNat_Int, Int.reduceSub, Int.reduceAdd, Nat.reduceAdd, Nat.reduceMul, Nat.reduceSub, ↓reduceIte, rd_eq, TyS]
    by_cases h0 : oks l l.length = 0
    · rw [h0] at q3
      refine vcall_mk (run_yes q3) ?_
      rintro _ h4 ⟨rfl, g4⟩
      simp (disch := omega) only [↓SS, A, Nat.reduceEqDiff, Int.reduceToNat, Int.cast_ofNat_Int, Int.reduceSub, Int.reduceAdd, Nat.reduceAdd, Nat.reduceMul, Nat.reduceSub, ↓reduceIte, rd_eq, TyS]
      exact ⟨⟨1, rfl, by simp, by simp [h0]⟩, g3.trans g4⟩
    · obtain ⟨b, o, rfl⟩ := ha (by unfold oks at h0; cases l; simp at h0; simp)
      refine vcall_mk (run_zero q3) ?_
      rintro _ h4 ⟨⟨a, rfl, _, h5⟩, g4⟩
      simp (disch := omega) only [↓SS, A, Nat.reduceEqDiff, Int.reduceToNat, Int.cast_ofNat_Int, Int.reduceSub, Int.reduceAdd, Nat.reduceAdd, Nat.reduceMul, Nat.reduceSub, ↓reduceIte, rd_eq, TyS]
      exact ⟨⟨a, rfl, by simp [h0], fun _ => h5 (by omega)⟩, g3.trans g4⟩
end Go.Proofs.YtgfljbplccekcaaDoor
