/-
  Package graph: New, as a contract; conditions: none.
-/
import Derived.Test.YtgfljbplccekcaaDoorGraph
set_option linter.unusedSimpArgs false
set_option linter.unusedVariables false
set_option maxRecDepth 100000
namespace Go.Proofs.YtgfljbplccekcaaDoor
open Go Go.V Go.Low

theorem Own.one {h : Heap} {base e sz n : Nat} {v : Value} {xs : List Value} (o : Own h base e sz v n xs) : v.cells = #[v] ∧ v.oneCell' = true := by
  rcases o.2 with ⟨rfl, _⟩ | ⟨_, _, _, rfl, _⟩ <;> exact ⟨rfl, rfl⟩
theorem gnew_st {h : Heap} {n : Nat} (hn : n ≤ 300) : Ct Tryd.prog 34 [.int .i64 n] h fun v h' => ∃ g vs L, v = .tuple #[ptr g 0, .int .i64 0] ∧ Gst h h' g n vs L ∧ ∀ i, i < 4 → (L i).length = n := by
  refine enter Tryd.func34 (by kernel_rfl) rfl Tryd.results34 (by kernel_rfl) (by kernel_rfl) (init1 _) ?_
  simp (disch := omega) only [↓SS, A, Nat.reduceEqDiff, Int.reduceToNat, Int.cast_ofNat_Int, Int.reduceSub, Int.reduceAdd, Nat.reduceAdd, Nat.reduceMul, Nat.reduceSub, ↓reduceIte, rd_eq, TyG]
  refine vbd_ok (cells := gcells n fun _ => .slice none 0 0) (by kernel_rfl) ?_
  simp (disch := omega) only [↓SS, A, Nat.reduceEqDiff, Int.reduceToNat, Int.cast_ofNat_Int, Int.reduceSub, Int.reduceAdd, Nat.reduceAdd, Nat.reduceMul, Nat.reduceSub, ↓reduceIte, rd_eq, TyG]
  have q0 : Gst h (h.push (.cells (Value.agg (gcells n fun _ => .slice none 0 0)).cells 70)) h.size n (fun _ => .slice none 0 0) (fun _ => []) :=
    ⟨Ge.push _ _, Nat.le_refl _, push_new _ _, fun _ _ => Own.nil _ _ _ _, by simp, by simp, by simp, by simp [Value.ownBlock], by simp⟩
  generalize h.push (.cells (Value.agg (gcells n fun _ => .slice none 0 0)).cells 70) = h0 at *
  generalize h.size = g at *
  refine vloop_mk (fun k fr h' => ∃ (i : Nat) (vs : Nat → Value) (L : Nat → List (Nat × Nat)), i + k = 4 ∧ fr = [(17, .int .i64 i), (4, ptr g 0), (0, .int .i64 n)] ∧ Gst h h' g n vs L ∧ ∀ j, j < 4 → (L j).length = if j < i then n else 0) 4
    [(17, .int .i64 0), (4, ptr g 0), (0, .int .i64 n)] (by simp only [↓SS, Nat.reduceEqDiff, Int.reduceToNat, Int.cast_ofNat_Int, Int.reduceSub, Int.reduceAdd, Nat.reduceAdd, Nat.reduceMul, Nat.reduceSub, ↓reduceIte, rd_eq, TyG]) ⟨0, _, _, rfl, rfl, q0, by simp⟩ ?_
  rintro k _ h1 ⟨i, vs, L, hik, rfl, q1, hL⟩
  by_cases hi : i < 4
  · simp (disch := omega) only [↓SS, A, Nat.reduceEqDiff, Int.reduceToNat, Int.cast_ofNat_Int, Int.reduceSub, Int.reduceAdd, Nat.reduceAdd, Nat.reduceMul, Nat.reduceSub, ↓reduceIte, rd_eq, TyG]
    refine vloop_mk (fun k' fr h' => ∃ (u : Nat) (vs : Nat → Value) (L : Nat → List (Nat × Nat)), u + k' = n ∧ fr = [(21, .int .i64 u), (20, .int .i64 n), (5, .int .i64 i), (17, .int .i64 i), (4, ptr g 0), (0, .int .i64 n)] ∧ Gst h h' g n vs L ∧ ∀ j, j < 4 → (L j).length = if j < i then n else if j = i then u else 0) n
      [(21, .int .i64 0), (20, .int .i64 n), (5, .int .i64 i), (17, .int .i64 i), (4, ptr g 0), (0, .int .i64 n)] (by simp only [↓SS, Nat.reduceEqDiff, Int.reduceToNat, Int.cast_ofNat_Int, Int.reduceSub, Int.reduceAdd, Nat.reduceAdd, Nat.reduceMul, Nat.reduceSub, ↓reduceIte, rd_eq, TyG]) ⟨0, vs, L, by omega, rfl, q1, by intro j hj; rw [hL j hj]; split <;> simp⟩ ?_
    rintro k' _ h2 ⟨u, vs, L, huk, rfl, q2, hL⟩
    by_cases hu : u < n
    · simp (disch := omega) only [↓SS, A, Nat.reduceEqDiff, Int.reduceToNat, Int.cast_ofNat_Int, Int.reduceSub, Int.reduceAdd, Nat.reduceAdd, Nat.reduceMul, Nat.reduceSub, ↓reduceIte, rd_eq, TyG]
      refine vcall_mk (new_ok (by omega)) ?_
      rintro _ h3 ⟨s, wb, hs, hw, rfl, qs, g3⟩
      have q3 := q2.mono g3
      have hwne : ∀ j (p : Nat × Nat), j < 4 → p ∈ L j → p.2 ≠ wb := by
        intro j p hj hp e
        have := Ge.lt (q2.set j p hj hp).words
        omega
      simp (disch := omega) only [↓SS, A, Nat.reduceEqDiff, Int.reduceToNat, Int.cast_ofNat_Int, Int.reduceSub, Int.reduceAdd, Nat.reduceAdd, Nat.reduceMul, Nat.reduceSub, ↓reduceIte, rd_eq, TyG]
      refine vdraw_fork [g, ((vs i).ownBlock).getD g] (.fork [(0, 0), (1, 0), (2, 0), (3, 0), (4, 0), (5, 0), (6, 0), (8, 0), (11, 0), (12, 0)] 7 9 (.line [(9, 2), (10, 2), (13, 0), (14, 2)]) (.line [(7, 2), (10, 2), (13, 0), (14, 2)])) mixed (by kernel_rfl) ?_
      have hc : ∀ h' : Heap, Gst h h' g n vs L → hcell h' g (1 + i) = some (vs i) := fun h' q => by rw [hcell, q.blk]; exact gcells_get n vs hi
      have hc3 := hc _ q3
      simp (disch := omega) only [↓SS, A, Nat.reduceEqDiff, Int.reduceToNat, Int.cast_ofNat_Int, Int.reduceSub, Int.reduceAdd, Nat.reduceAdd, Nat.reduceMul, Nat.reduceSub, ↓reduceIte, rd_eq, TyG, hc3]
      refine ⟨⟨Kb.refl _ _, ?_⟩, ?_⟩
      · simp (disch := omega) only [↓SS, A, Nat.reduceEqDiff, Int.reduceToNat, Int.cast_ofNat_Int, Int.reduceSub, Int.reduceAdd, Nat.reduceAdd, Nat.reduceMul, Nat.reduceSub, ↓reduceIte, rd_eq, TyG]
        refine vbs_one elSets rfl rfl (by omega) (by omega) ?_
        have g4 : Ge h3 (h3.push (.cells (ptr s 0).cells 98)) := Ge.push _ _
        have e4 : (h3.push (.cells (ptr s 0).cells 98))[h3.size]? = some (.cells (ptr s 0).cells 98 (0, 0)) := push_new _ _
        have q4 := q3.mono g4
        have hc4 := hc _ q4
        generalize h3.push (.cells (ptr s 0).cells 98) = h4 at *
        generalize h3.size = nb at *
        refine ⟨(Kb.refl _ _).ge g4, ?_⟩
        simp (disch := omega) only [↓SS, A, Nat.reduceEqDiff, Int.reduceToNat, Int.cast_ofNat_Int, Int.reduceSub, Int.reduceAdd, Nat.reduceAdd, Nat.reduceMul, Nat.reduceSub, ↓reduceIte, rd_eq, TyG]
        refine vapp_own' elSets rfl (by omega) (q4.row i hi) (rdRow_blk e4 (by simp [Value.cells])) (by simp [Value.cells]; rfl) (by have := hL i hi; simp at this; omega) (by have := hL i hi; simp at this; omega) q4.ge.size ?_
        intro x h5 ho5 gr5 hn5 hnew5
        have hxn : x ≠ .slice none 0 0 := fun e => by have := hn5.1 e; omega
        have kb5 : Kb [g, ((vs i).ownBlock).getD g] h3 h5 := by
          refine ⟨Nat.le_trans g4.size gr5.size, fun k hk hx => ?_⟩
          simp only [List.mem_cons, List.not_mem_nil, or_false, not_or] at hx
          rw [gr5.block k (Nat.lt_of_lt_of_le hk g4.size) (fun e => hx.2 (by rw [← e]; rfl))]
          exact g4.block k hk
        have gne : (vs i).ownBlock ≠ some g := by
          intro e
          obtain ⟨_, cur, hcur⟩ := Own.blk (q4.row i hi) e
          rw [q4.blk] at hcur
          simp only [Option.some.injEq, Obj.cells.injEq] at hcur
          exact absurd hcur.2.1 (by decide)
        have hb5 : h5[g]? = some (.cells (gcells n vs) 70 (0, 0)) := by
          rw [gr5.block g (Ge.lt q4.blk) (fun e => gne e.symm)]; exact q4.blk
        refine ⟨kb5, ?_⟩
        simp (disch := omega) only [↓SS, A, Nat.reduceEqDiff, Int.reduceToNat, Int.cast_ofNat_Int, Int.reduceSub, Int.reduceAdd, Nat.reduceAdd, Nat.reduceMul, Nat.reduceSub, ↓reduceIte, rd_eq, TyG]
        obtain ⟨x1, x2⟩ := Own.one ho5
        refine vst_up (by rw [x1]; kernel_rfl) (by rw [x1]; simp [one1, x2]) hb5 (by rw [x1]; simp [gcells]; omega) ?_
        intro h6 hb6 up6
        have e6 : h6[g]? = some (.cells (gcells n (upd vs i x)) 70 (0, 0)) := by
          rw [hb6, ← gcells_set n vs hi x, x1]
        refine ⟨kb5.up up6 (.inl (by simp)), ?_⟩
        have q6 := Gst.snoc hi q4 (qs.ge g4) hwne (Nat.le_trans q2.ge.size hw) ho5 gr5 hxn hnew5 e6 up6
        simp (disch := omega) only [↓SS, A, Nat.reduceEqDiff, Int.reduceToNat, Int.cast_ofNat_Int, Int.reduceSub, Int.reduceAdd, Nat.reduceAdd, Nat.reduceMul, Nat.reduceSub, ↓reduceIte, rd_eq, TyG]
        refine ⟨k' - 1, by omega, _, (by simp only [↓SS, Nat.reduceEqDiff, Int.reduceToNat, Int.cast_ofNat_Int, Int.reduceSub, Int.reduceAdd, Nat.reduceAdd, Nat.reduceMul, Nat.reduceSub, ↓reduceIte, rd_eq, Int.natCast_add, Int.cast_ofNat_Int]), u + 1, _, _, by omega, rfl, q6, fun j hj => ?_⟩
        by_cases e : j = i
        · subst e; rw [upd_same]; have := hL j hj; simp; rw [this]; simp
        · rw [upd_ne _ _ e, hL j hj]; simp [e]
      · refine vbs_one elSets rfl rfl (by omega) (by omega) ?_
        have g4 : Ge h3 (h3.push (.cells (ptr s 0).cells 98)) := Ge.push _ _
        have e4 : (h3.push (.cells (ptr s 0).cells 98))[h3.size]? = some (.cells (ptr s 0).cells 98 (0, 0)) := push_new _ _
        have q4 := q3.mono g4
        have hc4 := hc _ q4
        generalize h3.push (.cells (ptr s 0).cells 98) = h4 at *
        generalize h3.size = nb at *
        refine ⟨(Kb.refl _ _).ge g4, ?_⟩
        simp (disch := omega) only [↓SS, A, Nat.reduceEqDiff, Int.reduceToNat, Int.cast_ofNat_Int, Int.reduceSub, Int.reduceAdd, Nat.reduceAdd, Nat.reduceMul, Nat.reduceSub, ↓reduceIte, rd_eq, TyG, hc4]
        refine ⟨(Kb.refl _ _).ge g4, ?_⟩
        simp (disch := omega) only [↓SS, A, Nat.reduceEqDiff, Int.reduceToNat, Int.cast_ofNat_Int, Int.reduceSub, Int.reduceAdd, Nat.reduceAdd, Nat.reduceMul, Nat.reduceSub, ↓reduceIte, rd_eq, TyG]
        refine vapp_own' elSets rfl (by omega) (q4.row i hi) (rdRow_blk e4 (by simp [Value.cells])) (by simp [Value.cells]; rfl) (by have := hL i hi; simp at this; omega) (by have := hL i hi; simp at this; omega) q4.ge.size ?_
        intro x h5 ho5 gr5 hn5 hnew5
        have hxn : x ≠ .slice none 0 0 := fun e => by have := hn5.1 e; omega
        have kb5 : Kb [g, ((vs i).ownBlock).getD g] h3 h5 := by
          refine ⟨Nat.le_trans g4.size gr5.size, fun k hk hx => ?_⟩
          simp only [List.mem_cons, List.not_mem_nil, or_false, not_or] at hx
          rw [gr5.block k (Nat.lt_of_lt_of_le hk g4.size) (fun e => hx.2 (by rw [← e]; rfl))]
          exact g4.block k hk
        have gne : (vs i).ownBlock ≠ some g := by
          intro e
          obtain ⟨_, cur, hcur⟩ := Own.blk (q4.row i hi) e
          rw [q4.blk] at hcur
          simp only [Option.some.injEq, Obj.cells.injEq] at hcur
          exact absurd hcur.2.1 (by decide)
        have hb5 : h5[g]? = some (.cells (gcells n vs) 70 (0, 0)) := by
          rw [gr5.block g (Ge.lt q4.blk) (fun e => gne e.symm)]; exact q4.blk
        refine ⟨kb5, ?_⟩
        simp (disch := omega) only [↓SS, A, Nat.reduceEqDiff, Int.reduceToNat, Int.cast_ofNat_Int, Int.reduceSub, Int.reduceAdd, Nat.reduceAdd, Nat.reduceMul, Nat.reduceSub, ↓reduceIte, rd_eq, TyG]
        obtain ⟨x1, x2⟩ := Own.one ho5
        refine vst_up (by rw [x1]; kernel_rfl) (by rw [x1]; simp [one1, x2]) hb5 (by rw [x1]; simp [gcells]; omega) ?_
        intro h6 hb6 up6
        have e6 : h6[g]? = some (.cells (gcells n (upd vs i x)) 70 (0, 0)) := by
          rw [hb6, ← gcells_set n vs hi x, x1]
        refine ⟨kb5.up up6 (.inl (by simp)), ?_⟩
        have q6 := Gst.snoc hi q4 (qs.ge g4) hwne (Nat.le_trans q2.ge.size hw) ho5 gr5 hxn hnew5 e6 up6
        simp (disch := omega) only [↓SS, A, Nat.reduceEqDiff, Int.reduceToNat, Int.cast_ofNat_Int, Int.reduceSub, Int.reduceAdd, Nat.reduceAdd, Nat.reduceMul, Nat.reduceSub, ↓reduceIte, rd_eq, TyG]
        refine ⟨k' - 1, by omega, _, (by simp only [↓SS, Nat.reduceEqDiff, Int.reduceToNat, Int.cast_ofNat_Int, Int.reduceSub, Int.reduceAdd, Nat.reduceAdd, Nat.reduceMul, Nat.reduceSub, ↓reduceIte, rd_eq, Int.natCast_add, Int.cast_ofNat_Int]), u + 1, _, _, by omega, rfl, q6, fun j hj => ?_⟩
        by_cases e : j = i
        · subst e; rw [upd_same]; have := hL j hj; simp; rw [this]; simp
        · rw [upd_ne _ _ e, hL j hj]; simp [e]
    · have : u = n := by omega
      subst this
      simp (disch := omega) only [↓SS, A, Nat.reduceEqDiff, Int.reduceToNat, Int.cast_ofNat_Int, Int.reduceSub, Int.reduceAdd, Nat.reduceAdd, Nat.reduceMul, Nat.reduceSub, ↓reduceIte, rd_eq, TyG]
      refine ⟨k - 1, by omega, _, (by simp only [↓SS, Nat.reduceEqDiff, Int.reduceToNat, Int.cast_ofNat_Int, Int.reduceSub, Int.reduceAdd, Nat.reduceAdd, Nat.reduceMul, Nat.reduceSub, ↓reduceIte, rd_eq, Int.natCast_add, Int.cast_ofNat_Int]), i + 1, vs, L, by omega, rfl, q2, fun j hj => ?_⟩
      rw [hL j hj]
      by_cases e1 : j < i
      · rw [if_pos e1, if_pos (by omega)]
      · rw [if_neg e1]
        by_cases e2 : j = i
        · rw [if_pos e2, if_pos (by omega)]
        · rw [if_neg e2, if_neg (by omega)]
  · simp (disch := omega) only [↓SS, A, Nat.reduceEqDiff, Int.reduceToNat, Int.cast_ofNat_Int, Int.reduceSub, Int.reduceAdd, Nat.reduceAdd, Nat.reduceMul, Nat.reduceSub, ↓reduceIte, rd_eq, TyG]
    exact ⟨g, vs, L, rfl, q1, fun j hj => by rw [hL j hj, if_pos (by omega)]⟩
end Go.Proofs.YtgfljbplccekcaaDoor
