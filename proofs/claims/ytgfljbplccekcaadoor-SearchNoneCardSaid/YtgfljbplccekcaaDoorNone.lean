/-
  SearchNone: the walk; conditions: the transactions lie in memory as rows.
-/
import Derived.Test.YtgfljbplccekcaaDoorSearch0
set_option linter.unusedSimpArgs false
set_option linter.unusedVariables false
set_option maxRecDepth 100000
namespace Go.Proofs.YtgfljbplccekcaaDoor
open Go Go.V

theorem okfn {h : Heap} (t : TX) : Ct Tryd.prog 18 [.agg t.cells.toArray] h fun v h' => v = .bool (decide (t.st = 1)) ∧ Ge h h' := by
  refine enter Tryd.func18 (by kernel_rfl) rfl Tryd.results18 (by kernel_rfl) (by kernel_rfl) (init1 _) ?_
  simp (disch := omega) only [↓SS, A, Nat.reduceEqDiff, Int.reduceToNat, Int.cast_ofNat_Int, Int.reduceSub, Int.reduceAdd, Nat.reduceAdd, Nat.reduceMul, Nat.reduceSub, ↓reduceIte, rd_eq, TyS, TX.cells, hcell, push_new, Value.cells]
  exact Ge.push _ _

abbrev okV : Value := .func (.func 18) #[] #[]
theorem idxfn {h : Heap} {v : Value} {l : List TX} (r : Txs h v l) :
    Ct Tryd.prog 52 [v, okV] h fun v h' => (∃ i : Int, v = .int .i64 i ∧ (i ≥ 0 ↔ oks l l.length ≠ 0)) ∧ Ge h h' := by
  obtain ⟨a, c, rfl, hc, ha⟩ := r.form
  refine enter Tryd.func52 (by kernel_rfl) rfl Tryd.results52 (by kernel_rfl) (by kernel_rfl) (init2 _ _) ?_
  simp (disch := omega) only [↓SS, A, Nat.reduceEqDiff, Int.reduceToNat, Int.cast_ofNat_Int, Int.reduceSub, Int.reduceAdd, Nat.reduceAdd, Nat.reduceMul, Nat.reduceSub, ↓reduceIte, rd_eq, TyS]
  refine vloop_mk (fun k fr h' => ∃ j : Nat, j + k = l.length ∧ fr = [(8, .int .i64 j), (7, .int .i64 l.length), (0, .slice a l.length c), (1, okV)] ∧ Ge h h' ∧ oks l j = 0) l.length
    [(8, .int .i64 0), (7, .int .i64 l.length), (0, .slice a l.length c), (1, okV)] (by simp only [↓SS, Nat.reduceEqDiff, Int.reduceToNat, Int.cast_ofNat_Int, Int.reduceSub, Int.reduceAdd, Nat.reduceAdd, Nat.reduceMul, Nat.reduceSub, ↓reduceIte, rd_eq, TyS]) ⟨0, by omega, rfl, Ge.refl _, rfl⟩ ?_
  rintro k _ h3 ⟨j, hjk, rfl, g3, ho⟩
  by_cases hj : j < l.length
  · obtain ⟨b, o, rfl⟩ := ha (by omega)
    obtain ⟨t, ht⟩ : ∃ t, l[j]? = some t := ⟨_, List.getElem?_eq_getElem hj⟩
    obtain ⟨_, hc1, hc2, hrow⟩ := r.at
    have hrt := g3.rdRow (hrow j t ht)
    have hos := oks_succ ht
    simp (disch := omega) only [↓SS, A, Nat.reduceEqDiff, Int.reduceToNat, Int.cast_ofNat_Int, Int.reduceSub, Int.reduceAdd, Nat.reduceAdd, Nat.reduceMul, Nat.reduceSub, ↓reduceIte, rd_eq, TyS, hrt]
    refine vcall_mk (okfn t) ?_
    rintro _ h4 ⟨rfl, g4⟩
    by_cases h1t : t.st = 1
    · simp (disch := omega) only [↓SS, A, Nat.reduceEqDiff, Int.reduceToNat, Int.cast_ofNat_Int, Int.reduceSub, Int.reduceAdd, Nat.reduceAdd, Nat.reduceMul, Nat.reduceSub, ↓reduceIte, rd_eq, TyS]
      refine ⟨⟨j, rfl, ?_⟩, g3.trans g4⟩
      have : oks l (j + 1) ≤ oks l l.length := by
        unfold oks
        rw [List.take_length]; exact (List.take_sublist _ _).countP_le
      rw [if_pos h1t] at hos
      constructor <;> intro _ <;> omega
    · simp (disch := omega) only [↓SS, A, Nat.reduceEqDiff, Int.reduceToNat, Int.cast_ofNat_Int, Int.reduceSub, Int.reduceAdd, Nat.reduceAdd, Nat.reduceMul, Nat.reduceSub, ↓reduceIte, rd_eq, TyS]
      exact ⟨k - 1, by omega, _, (by simp only [↓SS, Nat.reduceEqDiff, Int.reduceToNat, Int.cast_ofNat_Int, Int.reduceSub, Int.reduceAdd, Nat.reduceAdd, Nat.reduceMul, Nat.reduceSub, ↓reduceIte, rd_eq, Int.natCast_add, Int.cast_ofNat_Int]), j + 1, by omega, rfl, g3.trans g4, by rw [hos, ho, if_neg h1t]⟩
  · have : j = l.length := by omega
    subst this
    simp (disch := omega) only [↓SS, A, Nat.reduceEqDiff, Int.reduceToNat, Int.cast_ofNat_Int, Int.reduceSub, Int.reduceAdd, Nat.reduceAdd, Nat.reduceMul, Nat.reduceSub, ↓reduceIte, rd_eq, TyS]
    exact ⟨⟨-1, rfl, by simp [ho]⟩, g3⟩
theorem contfn {h : Heap} {v : Value} {l : List TX} (r : Txs h v l) :
    Ct Tryd.prog 17 [v, okV] h fun v h' => v = .bool (decide (oks l l.length ≠ 0)) ∧ Ge h h' := by
  refine enter Tryd.func17 (by kernel_rfl) rfl Tryd.results17 (by kernel_rfl) (by kernel_rfl) (init2 _ _) ?_
  simp (disch := omega) only [↓SS, A, Nat.reduceEqDiff, Int.reduceToNat, Int.cast_ofNat_Int, Int.reduceSub, Int.reduceAdd, Nat.reduceAdd, Nat.reduceMul, Nat.reduceSub, ↓reduceIte, rd_eq, TyS]
  refine vcall_mk (idxfn r) ?_
  rintro _ h4 ⟨⟨i, rfl, hi⟩, g4⟩
  simp (disch := omega) only [↓SS, A, Nat.reduceEqDiff, Int.reduceToNat, Int.cast_ofNat_Int, Int.reduceSub, Int.reduceAdd, Nat.reduceAdd, Nat.reduceMul, Nat.reduceSub, ↓reduceIte, rd_eq, TyS]
  exact ⟨by simp [hi], g4⟩
theorem el22 : elT Tryd.prog 22 = some (29, 5, 56, .agg #[.int .i64 0, .int .i64 0, .int .i64 0, .int .i64 0, .slice none 0 0]) := by kernel_rfl
theorem search_none {h : Heap} {v : Value} {l : List TX} (r : Txs h v l) (steps : Int) (hs : steps ≤ 0) :
    Ct Tryd.prog 16 [v, .int .i64 steps] h fun v h' => (∃ a : Int, v = .tuple #[.int .i64 a, .slice none 0 0, .int .i64 0] ∧ (oks l l.length = 0 ∧ l.length ≤ 300 → a = 1) ∧ (¬ (oks l l.length = 0 ∧ l.length ≤ 300) → a = 2 ∨ a = 3)) ∧ Ge h h' := by
  by_cases hl : l.length ≤ 300
  · refine (search_few r hl steps hs).mono ?_
    rintro _ h' ⟨⟨a, rfl, h1, h2⟩, g⟩
    exact ⟨⟨a, rfl, fun q => h1 q.1, fun q => h2 fun e => q ⟨e, hl⟩⟩, g⟩
  · obtain ⟨a, c, rfl, hc, _⟩ := r.form
    refine (search_many (by omega) hc steps).mono ?_
    rintro _ h' ⟨rfl, g⟩
    exact ⟨⟨3, rfl, fun q => absurd q.2 hl, fun _ => .inr rfl⟩, g⟩
theorem law {h : Heap} {v : Value} {l : List TX} (r : Txs h v l) (steps : Int) :
    Ct Tryd.prog 3 [v, .int .i64 steps] h fun v h' => v = .bool true ∧ Ge h h' := by
  obtain ⟨a0, c0, rfl, hc0, _⟩ := r.form
  refine enter Tryd.func3 (by kernel_rfl) rfl Tryd.results3 (by kernel_rfl) (by kernel_rfl) (init2 _ _) ?_
  simp (disch := omega) only [↓SS, A, Nat.reduceEqDiff, Int.reduceToNat, Int.cast_ofNat_Int, Int.reduceSub, Int.reduceAdd, Nat.reduceAdd, Nat.reduceMul, Nat.reduceSub, ↓reduceIte, rd_eq, TyS]
  refine vcall_mk (search_none r _ (by split <;> omega)) ?_
  rintro _ h1 ⟨⟨a, rfl, ha1, ha2⟩, g1⟩
  simp (disch := omega) only [↓SS, A, Nat.reduceEqDiff, Int.reduceToNat, Int.cast_ofNat_Int, Int.reduceSub, Int.reduceAdd, Nat.reduceAdd, Nat.reduceMul, Nat.reduceSub, ↓reduceIte, rd_eq, TyS]
  refine vcall_mk (contfn (r.ge g1)) ?_
  rintro _ h2 ⟨rfl, g2⟩
  simp (disch := omega) only [↓SS, A, Nat.reduceEqDiff, Int.reduceToNat, Int.cast_ofNat_Int, Int.reduceSub, Int.reduceAdd, Nat.reduceAdd, Nat.reduceMul, Nat.reduceSub, ↓reduceIte, rd_eq, TyS]
  refine vmk_ok el22 (by omega) (by omega) (by omega) (by omega) ?_
  simp (disch := omega) only [↓SS, A, Nat.reduceEqDiff, Int.reduceToNat, Int.cast_ofNat_Int, Int.reduceSub, Int.reduceAdd, Nat.reduceAdd, Nat.reduceMul, Nat.reduceSub, ↓reduceIte, rd_eq, TyS]
  refine vcall_mk (search_many (by omega) (by omega) steps) ?_
  rintro _ h3 ⟨rfl, g3⟩
  have g4 := g1.trans (g2.trans ((Ge.push _ _).trans g3))
  by_cases h0 : oks l l.length = 0 ∧ l.length ≤ 300
  · rw [ha1 h0]
    obtain ⟨h4, h5⟩ := h0
    simp (disch := omega) only [↓SS, A, Nat.reduceEqDiff, Int.reduceToNat, Int.cast_ofNat_Int, Int.reduceSub, Int.reduceAdd, Nat.reduceAdd, Nat.reduceMul, Nat.reduceSub, ↓reduceIte, rd_eq, TyS, h4]
    exact g4
  · rcases ha2 h0 with rfl | rfl
    all_goals
      by_cases h4 : oks l l.length = 0
      · simp (disch := omega) only [↓SS, A, Nat.reduceEqDiff, Int.reduceToNat, Int.cast_ofNat_Int, Int.reduceSub, Int.reduceAdd, Nat.reduceAdd, Nat.reduceMul, Nat.reduceSub, ↓reduceIte, rd_eq, TyS, h4]
        exact g4
      · simp (disch := omega) only [↓SS, A, Nat.reduceEqDiff, Int.reduceToNat, Int.cast_ofNat_Int, Int.reduceSub, Int.reduceAdd, Nat.reduceAdd, Nat.reduceMul, Nat.reduceSub, ↓reduceIte, rd_eq, TyS, h4]
        exact g4
end Go.Proofs.YtgfljbplccekcaaDoor
