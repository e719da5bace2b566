/-
  Package assayerref06: New, as a contract; conditions: none.
-/
import Derived.Test.YtgfljbplccekcaaDoorRG2
set_option linter.unusedSimpArgs false
set_option linter.unusedVariables false
set_option maxRecDepth 100000
namespace Go.Proofs.YtgfljbplccekcaaDoor
open Go Go.V Go.Low

/-- a graph of the document while it is made -/
structure Rst (h0 h : Heap) (x n : Nat) (rv : Value) (bs : List Nat) : Prop where
  ge : Ge h0 h
  xl : h0.size ≤ x
  blk : h[x]? = some (.cells #[rv] 57 (0, 0))
  rows : Own h h0.size 23 1 rv bs.length (bs.map fun b => sl b 0 n n)
  row : ∀ b ∈ bs, h[b]? = some (.cells (arrI n fun _ => 0) 3 (0, 0)) ∧ h0.size ≤ b
  nodup : bs.Nodup
theorem Rst.mono {h0 h h' : Heap} (g : Ge h h') {x n : Nat} {rv : Value} {bs : List Nat} (q : Rst h0 h x n rv bs) : Rst h0 h' x n rv bs :=
  ⟨q.ge.trans g, q.xl, g.lookup q.blk, q.rows.ge g, fun b hb => ⟨g.lookup (q.row b hb).1, (q.row b hb).2⟩, q.nodup⟩
theorem Rst.snoc {h0 h1 h2 h3 : Heap} {x n nb : Nat} {rv w : Value} {bs : List Nat} (q : Rst h0 h1 x n rv bs) (hb : h1[nb]? = some (.cells (arrI n fun _ => 0) 3 (0, 0))) (hnb : h0.size ≤ nb) (hne : nb ∉ bs)
    (ho : Own h2 h0.size 23 1 w (bs.length + 1) ((bs.map fun b => sl b 0 n n) ++ [sl nb 0 n n])) (hg : Grow h1 h2 rv.ownBlock) (he : h3[x]? = some (.cells #[w] 57 (0, 0))) (up : Up h2 h3 x)
    (hnew : w.ownBlock = rv.ownBlock ∨ ∃ b, w.ownBlock = some b ∧ h1.size ≤ b) : Rst h0 h3 x n w (bs ++ [nb]) := by
  have rne : rv.ownBlock ≠ some x := by
    intro e
    obtain ⟨_, cur, hc⟩ := Own.blk q.rows e
    rw [q.blk] at hc
    simp only [Option.some.injEq, Obj.cells.injEq] at hc
    exact absurd hc.2.1 (by decide)
  have wne : w.ownBlock ≠ some x := by
    intro e
    rcases hnew with h | ⟨b, h, hle⟩
    · rw [e] at h; exact rne h.symm
    · rw [e] at h
      simp only [Option.some.injEq] at h
      have := Ge.lt q.blk; omega
  have key : ∀ (k : Nat) (c : Array Value) (f : Nat × Nat), h1[k]? = some (.cells c 3 f) → h3[k]? = some (.cells c 3 f) := by
    intro k c f hk
    have h1x : k ≠ x := by rintro rfl; rw [q.blk] at hk; simp only [Option.some.injEq, Obj.cells.injEq] at hk; exact absurd hk.2.1 (by decide)
    rw [up.other k h1x, hg.block k (Ge.lt hk) ?_]
    · exact hk
    · intro e
      obtain ⟨_, cur, hc⟩ := Own.blk q.rows e.symm
      rw [hk] at hc
      simp only [Option.some.injEq, Obj.cells.injEq] at hc
      exact absurd hc.2.1 (by decide)
  refine ⟨?_, q.xl, he, ?_, ?_, ?_⟩
  · refine up.ge ?_ q.xl
    exact q.rows.gee q.ge hg
  · rw [List.length_append, List.map_append]
    exact ho.grow up.grow (by right; exact wne)
  · intro b hb'
    rcases List.mem_append.1 hb' with hb' | hb'
    · exact ⟨key _ _ _ (q.row b hb').1, (q.row b hb').2⟩
    · simp only [List.mem_singleton] at hb'; subst hb'; exact ⟨key _ _ _ hb, hnb⟩
  · rw [List.nodup_append]; exact ⟨q.nodup, by simp, by intro a ha b hb; simp at hb; subst hb; rintro rfl; exact hne ha⟩
theorem rnew_ok {h : Heap} {n : Nat} (hn : n ≤ 300) : Ct Tryd.prog 64 [.int .i64 n] h fun v h' =>
    ∃ x rv rb, v = .tuple #[ptr x 0, .int .i64 0] ∧ isR h' x n rv rb (fun _ _ => 0) ∧ Ge h h' ∧ h.size ≤ x ∧ ∀ u, u < n → h.size ≤ rb u := by
  refine enter Tryd.func64 (by kernel_rfl) rfl Tryd.results64 (by kernel_rfl) (by kernel_rfl) (init1 _) ?_
  simp (disch := omega) only [↓SS, A, Nat.reduceEqDiff, Int.reduceToNat, Int.cast_ofNat_Int, Int.reduceSub, Int.reduceAdd, Nat.reduceAdd, Nat.reduceMul, Nat.reduceSub, ↓reduceIte, rd_eq, TyR]
  refine vbd_ok (cells := #[.slice none 0 0]) (by kernel_rfl) ?_
  simp (disch := omega) only [↓SS, A, Nat.reduceEqDiff, Int.reduceToNat, Int.cast_ofNat_Int, Int.reduceSub, Int.reduceAdd, Nat.reduceAdd, Nat.reduceMul, Nat.reduceSub, ↓reduceIte, rd_eq, TyR]
  have q0 : Rst h (h.push (.cells (Value.agg #[.slice none 0 0]).cells 57)) h.size n (.slice none 0 0) [] :=
    ⟨Ge.push _ _, Nat.le_refl _, push_new _ _, Own.nil _ _ _ _, by simp, by simp⟩
  generalize h.push (.cells (Value.agg #[.slice none 0 0]).cells 57) = h0 at *
  generalize hx : h.size = x at *
  refine vloop_mk (fun k fr h' => ∃ (j : Nat) (rv : Value) (bs : List Nat), bs.length = j ∧ j + k = n ∧ fr = [(14, .int .i64 j), (13, .int .i64 n), (4, ptr x 0), (0, .int .i64 n)] ∧ Rst h h' x n rv bs) n
    [(14, .int .i64 0), (13, .int .i64 n), (4, ptr x 0), (0, .int .i64 n)] (by simp only [↓SS, Nat.reduceEqDiff, Int.reduceToNat, Int.cast_ofNat_Int, Int.reduceSub, Int.reduceAdd, Nat.reduceAdd, Nat.reduceMul, Nat.reduceSub, ↓reduceIte, rd_eq, TyR]) ⟨0, _, [], rfl, by omega, rfl, q0⟩ ?_
  rintro k _ h1 ⟨j, rv, bs, hbl, hjk, rfl, q1⟩
  by_cases hj : j < n
  · simp (disch := omega) only [↓SS, A, Nat.reduceEqDiff, Int.reduceToNat, Int.cast_ofNat_Int, Int.reduceSub, Int.reduceAdd, Nat.reduceAdd, Nat.reduceMul, Nat.reduceSub, ↓reduceIte, rd_eq, TyR]
    refine vdraw_cut (fun s h' => ∃ (rv : Value) (nb : Nat), s = [(14, .int .i64 j), (13, .int .i64 n), (4, ptr x 0), (0, .int .i64 n)] ∧ Rst h h' x n rv (bs ++ [nb])) (by repeat' first | exact vround_mono _ _ | exact vend_mono _ _ | exact vexit_mono _ _ | refine vc_mono _ ?_ ?_ | refine inB_mono ?_ ?_ | refine jmp_mono ?_ ?_ | refine vl_mono ?_ _) ?_ ?_
    · have hc1 : hcell h1 x 0 = some rv := by simp [hcell, q1.blk]
      have hxb : ∀ b, rv.ownBlock = some b → b ≠ x := by
        rintro b e rfl
        obtain ⟨_, cur, hc⟩ := Own.blk q1.rows e
        rw [q1.blk] at hc
        simp only [Option.some.injEq, Obj.cells.injEq] at hc
        exact absurd hc.2.1 (by decide)
      -- the row is made, put into a slice, appended, stored
      have fin : ∀ (h3 : Heap) (nb sb : Nat) (k' : Value → Heap → Prop), Ge h1 h3 → h3[nb]? = some (.cells (arrI n fun _ => 0) 3 (0, 0)) → h1.size ≤ nb → h3[sb]? = some (.cells #[sl nb 0 n n] 23 (0, 0)) →
          (∀ w h4, Kb [x, (rv.ownBlock).getD x] h1 h4 → h4[x]? = some (.cells #[rv] 57 (0, 0)) → w.cells = #[w] → w.oneCell' = true → (∀ h5, h5[x]? = some (.cells #[w] 57 (0, 0)) → Up h4 h5 x → Rst h h5 x n w (bs ++ [nb])) → k' w h4) →
          vapp Tryd.prog #[51, 51] 51 rv (.slice (some ⟨sb, 0, none⟩) 1 1) h3 k' := by
        intro h3 nb sb k' g3 hnb hle hsb hk'
        have q3 := q1.mono g3
        refine vapp_own' elRows rfl (by omega) q3.rows (rdRow_blk hsb (by simp)) (by simp; rfl) (by omega) (by omega) q3.ge.size ?_
        intro w h4 ho4 gr4 hn4 hnew4
        obtain ⟨w1, w2⟩ := Own.one ho4
        refine hk' w h4 ⟨Nat.le_trans g3.size gr4.size, fun k hk hx' => ?_⟩ ?_ w1 w2 ?_
        · simp only [List.mem_cons, List.not_mem_nil, or_false, not_or] at hx'
          rw [gr4.block k (Nat.lt_of_lt_of_le hk g3.size) (fun e => hx'.2 (by rw [← e]; rfl))]
          exact g3.block k hk
        · rw [gr4.block x (Ge.lt q3.blk) (fun e => hxb x e.symm rfl)]; exact q3.blk
        · intro h5 e5 up5
          refine Rst.snoc q3 hnb (Nat.le_trans q1.ge.size hle) (fun hm => ?_) ho4 gr4 e5 up5 hnew4
          have := Ge.lt (q1.row nb hm).1
          omega
      refine vdraw_fork [x, (rv.ownBlock).getD x] (.fork [(0, 0), (1, 0), (2, 0), (3, 0), (5, 0)] 4 6 (.line [(6, 2), (7, 2), (8, 2), (9, 0), (10, 0), (11, 2)]) (.fork [] 4 7 (.line [(7, 2), (8, 2), (9, 0), (10, 0), (11, 2)]) (.line [(4, 2), (8, 2), (9, 0), (10, 0), (11, 2)]))) mixed (by kernel_rfl) ?_
      simp (disch := omega) only [↓SS, A, Nat.reduceEqDiff, Int.reduceToNat, Int.cast_ofNat_Int, Int.reduceSub, Int.reduceAdd, Nat.reduceAdd, Nat.reduceMul, Nat.reduceSub, ↓reduceIte, rd_eq, TyR, hc1]
      refine ⟨⟨Kb.refl _ _, ?_⟩, ?_⟩
      · simp (disch := omega) only [↓SS, A, Nat.reduceEqDiff, Int.reduceToNat, Int.cast_ofNat_Int, Int.reduceSub, Int.reduceAdd, Nat.reduceAdd, Nat.reduceMul, Nat.reduceSub, ↓reduceIte, rd_eq, TyR]
        refine vmk_ok elInts (by omega) (by omega) (by omega) (by omega) ?_
        rw [Int.toNat_natCast, arrV_made _ _ rfl]
        have gA : Ge h1 (h1.push (.cells (arrI n fun _ => 0) 3)) := Ge.push _ _
        have eA : (h1.push (.cells (arrI n fun _ => 0) 3))[h1.size]? = some (.cells (arrI n fun _ => 0) 3 (0, 0)) := push_new _ _
        have cA := Ge.cell gA hc1
        generalize h1.push (.cells (arrI n fun _ => 0) 3) = hA at *
        generalize hna : h1.size = na at *
        refine ⟨(Kb.refl _ _).ge gA, ?_⟩
        simp (disch := omega) only [↓SS, A, Nat.reduceEqDiff, Int.reduceToNat, Int.cast_ofNat_Int, Int.reduceSub, Int.reduceAdd, Nat.reduceAdd, Nat.reduceMul, Nat.reduceSub, ↓reduceIte, rd_eq, TyR]
        refine vbs_one elRows rfl rfl (by omega) (by omega) ?_
        have gB : Ge hA (hA.push (.cells (sl na 0 n n).cells 23)) := Ge.push _ _
        have eB : (hA.push (.cells (sl na 0 n n).cells 23))[hA.size]? = some (.cells #[sl na 0 n n] 23 (0, 0)) := push_new _ _
        have cB := Ge.cell gB cA
        have eA' := gB.lookup eA
        generalize hA.push (.cells (sl na 0 n n).cells 23) = hB at *
        generalize hA.size = sb at *
        refine ⟨(Kb.refl _ _).ge (gA.trans gB), ?_⟩
        simp (disch := omega) only [↓SS, A, Nat.reduceEqDiff, Int.reduceToNat, Int.cast_ofNat_Int, Int.reduceSub, Int.reduceAdd, Nat.reduceAdd, Nat.reduceMul, Nat.reduceSub, ↓reduceIte, rd_eq, TyR]
        refine fin hB na sb _ (gA.trans gB) eA' (by omega) eB ?_
        intro w h4 kb4 e4 w1 w2 hst
        refine ⟨kb4, ?_⟩
        simp (disch := omega) only [↓SS, A, Nat.reduceEqDiff, Int.reduceToNat, Int.cast_ofNat_Int, Int.reduceSub, Int.reduceAdd, Nat.reduceAdd, Nat.reduceMul, Nat.reduceSub, ↓reduceIte, rd_eq, TyR]
        refine vst_up (by rw [w1]; kernel_rfl) (by rw [w1]; simp [one1, w2]) e4 (by rw [w1]; simp) ?_
        intro h5 e5 up5
        replace e5 : h5[x]? = some (.cells #[w] 57 (0, 0)) := by rw [e5, w1]; rfl
        refine ⟨kb4.up up5 (.inl (by simp)), ?_⟩
        simp (disch := omega) only [↓SS, A, Nat.reduceEqDiff, Int.reduceToNat, Int.cast_ofNat_Int, Int.reduceSub, Int.reduceAdd, Nat.reduceAdd, Nat.reduceMul, Nat.reduceSub, ↓reduceIte, rd_eq, TyR]
        exact ⟨_, (by simp only [↓SS, Nat.reduceEqDiff, Int.reduceToNat, Int.cast_ofNat_Int, Int.reduceSub, Int.reduceAdd, Nat.reduceAdd, Nat.reduceMul, Nat.reduceSub, ↓reduceIte, rd_eq, Int.natCast_add, Int.cast_ofNat_Int]), w, na, rfl, hst h5 e5 up5⟩
      · refine vmk_ok elInts (by omega) (by omega) (by omega) (by omega) ?_
        rw [Int.toNat_natCast, arrV_made _ _ rfl]
        have gA : Ge h1 (h1.push (.cells (arrI n fun _ => 0) 3)) := Ge.push _ _
        have eA : (h1.push (.cells (arrI n fun _ => 0) 3))[h1.size]? = some (.cells (arrI n fun _ => 0) 3 (0, 0)) := push_new _ _
        have cA := Ge.cell gA hc1
        generalize h1.push (.cells (arrI n fun _ => 0) 3) = hA at *
        generalize hna : h1.size = na at *
        refine ⟨(Kb.refl _ _).ge gA, ?_⟩
        simp (disch := omega) only [↓SS, A, Nat.reduceEqDiff, Int.reduceToNat, Int.cast_ofNat_Int, Int.reduceSub, Int.reduceAdd, Nat.reduceAdd, Nat.reduceMul, Nat.reduceSub, ↓reduceIte, rd_eq, TyR, cA]
        refine ⟨⟨(Kb.refl _ _).ge gA, ?_⟩, ?_⟩
        · simp (disch := omega) only [↓SS, A, Nat.reduceEqDiff, Int.reduceToNat, Int.cast_ofNat_Int, Int.reduceSub, Int.reduceAdd, Nat.reduceAdd, Nat.reduceMul, Nat.reduceSub, ↓reduceIte, rd_eq, TyR]
          refine vbs_one elRows rfl rfl (by omega) (by omega) ?_
          have gB : Ge hA (hA.push (.cells (sl na 0 n n).cells 23)) := Ge.push _ _
          have eB : (hA.push (.cells (sl na 0 n n).cells 23))[hA.size]? = some (.cells #[sl na 0 n n] 23 (0, 0)) := push_new _ _
          have cB := Ge.cell gB cA
          have eA' := gB.lookup eA
          generalize hA.push (.cells (sl na 0 n n).cells 23) = hB at *
          generalize hA.size = sb at *
          refine ⟨(Kb.refl _ _).ge (gA.trans gB), ?_⟩
          simp (disch := omega) only [↓SS, A, Nat.reduceEqDiff, Int.reduceToNat, Int.cast_ofNat_Int, Int.reduceSub, Int.reduceAdd, Nat.reduceAdd, Nat.reduceMul, Nat.reduceSub, ↓reduceIte, rd_eq, TyR]
          refine fin hB na sb _ (gA.trans gB) eA' (by omega) eB ?_
          intro w h4 kb4 e4 w1 w2 hst
          refine ⟨kb4, ?_⟩
          simp (disch := omega) only [↓SS, A, Nat.reduceEqDiff, Int.reduceToNat, Int.cast_ofNat_Int, Int.reduceSub, Int.reduceAdd, Nat.reduceAdd, Nat.reduceMul, Nat.reduceSub, ↓reduceIte, rd_eq, TyR]
          refine vst_up (by rw [w1]; kernel_rfl) (by rw [w1]; simp [one1, w2]) e4 (by rw [w1]; simp) ?_
          intro h5 e5 up5
          replace e5 : h5[x]? = some (.cells #[w] 57 (0, 0)) := by rw [e5, w1]; rfl
          refine ⟨kb4.up up5 (.inl (by simp)), ?_⟩
          simp (disch := omega) only [↓SS, A, Nat.reduceEqDiff, Int.reduceToNat, Int.cast_ofNat_Int, Int.reduceSub, Int.reduceAdd, Nat.reduceAdd, Nat.reduceMul, Nat.reduceSub, ↓reduceIte, rd_eq, TyR]
          exact ⟨_, (by simp only [↓SS, Nat.reduceEqDiff, Int.reduceToNat, Int.cast_ofNat_Int, Int.reduceSub, Int.reduceAdd, Nat.reduceAdd, Nat.reduceMul, Nat.reduceSub, ↓reduceIte, rd_eq, Int.natCast_add, Int.cast_ofNat_Int]), w, na, rfl, hst h5 e5 up5⟩
        · refine vbs_one elRows rfl rfl (by omega) (by omega) ?_
          have gB : Ge hA (hA.push (.cells (sl na 0 n n).cells 23)) := Ge.push _ _
          have eB : (hA.push (.cells (sl na 0 n n).cells 23))[hA.size]? = some (.cells #[sl na 0 n n] 23 (0, 0)) := push_new _ _
          have cB := Ge.cell gB cA
          have eA' := gB.lookup eA
          generalize hA.push (.cells (sl na 0 n n).cells 23) = hB at *
          generalize hA.size = sb at *
          refine ⟨(Kb.refl _ _).ge (gA.trans gB), ?_⟩
          simp (disch := omega) only [↓SS, A, Nat.reduceEqDiff, Int.reduceToNat, Int.cast_ofNat_Int, Int.reduceSub, Int.reduceAdd, Nat.reduceAdd, Nat.reduceMul, Nat.reduceSub, ↓reduceIte, rd_eq, TyR, cB]
          refine ⟨(Kb.refl _ _).ge (gA.trans gB), ?_⟩
          simp (disch := omega) only [↓SS, A, Nat.reduceEqDiff, Int.reduceToNat, Int.cast_ofNat_Int, Int.reduceSub, Int.reduceAdd, Nat.reduceAdd, Nat.reduceMul, Nat.reduceSub, ↓reduceIte, rd_eq, TyR]
          refine fin hB na sb _ (gA.trans gB) eA' (by omega) eB ?_
          intro w h4 kb4 e4 w1 w2 hst
          refine ⟨kb4, ?_⟩
          simp (disch := omega) only [↓SS, A, Nat.reduceEqDiff, Int.reduceToNat, Int.cast_ofNat_Int, Int.reduceSub, Int.reduceAdd, Nat.reduceAdd, Nat.reduceMul, Nat.reduceSub, ↓reduceIte, rd_eq, TyR]
          refine vst_up (by rw [w1]; kernel_rfl) (by rw [w1]; simp [one1, w2]) e4 (by rw [w1]; simp) ?_
          intro h5 e5 up5
          replace e5 : h5[x]? = some (.cells #[w] 57 (0, 0)) := by rw [e5, w1]; rfl
          refine ⟨kb4.up up5 (.inl (by simp)), ?_⟩
          simp (disch := omega) only [↓SS, A, Nat.reduceEqDiff, Int.reduceToNat, Int.cast_ofNat_Int, Int.reduceSub, Int.reduceAdd, Nat.reduceAdd, Nat.reduceMul, Nat.reduceSub, ↓reduceIte, rd_eq, TyR]
          exact ⟨_, (by simp only [↓SS, Nat.reduceEqDiff, Int.reduceToNat, Int.cast_ofNat_Int, Int.reduceSub, Int.reduceAdd, Nat.reduceAdd, Nat.reduceMul, Nat.reduceSub, ↓reduceIte, rd_eq, Int.natCast_add, Int.cast_ofNat_Int]), w, na, rfl, hst h5 e5 up5⟩
    · rintro s h2 ⟨rv2, nb, rfl, q2⟩
      simp (disch := omega) only [↓SS, A, Nat.reduceEqDiff, Int.reduceToNat, Int.cast_ofNat_Int, Int.reduceSub, Int.reduceAdd, Nat.reduceAdd, Nat.reduceMul, Nat.reduceSub, ↓reduceIte, rd_eq, TyR]
      exact ⟨k - 1, by omega, _, (by simp only [↓SS, Nat.reduceEqDiff, Int.reduceToNat, Int.cast_ofNat_Int, Int.reduceSub, Int.reduceAdd, Nat.reduceAdd, Nat.reduceMul, Nat.reduceSub, ↓reduceIte, rd_eq, Int.natCast_add, Int.cast_ofNat_Int]), j + 1, rv2, bs ++ [nb], by simp [hbl], by omega, rfl, q2⟩
  · have : j = n := by omega
    subst this
    simp (disch := omega) only [↓SS, A, Nat.reduceEqDiff, Int.reduceToNat, Int.cast_ofNat_Int, Int.reduceSub, Int.reduceAdd, Nat.reduceAdd, Nat.reduceMul, Nat.reduceSub, ↓reduceIte, rd_eq, TyR]
    have hb : ∀ u, u < j → ∃ b, bs[u]? = some b := fun u hu => ⟨_, List.getElem?_eq_getElem (by omega)⟩
    have hrb : ∀ u b, bs[u]? = some b → bs.getD u 0 = b := fun u b hu => by simp [List.getD, hu]
    refine ⟨x, rv, fun u => bs.getD u 0, rfl, ⟨q1.blk, hn, ?_, fun u hu => ?_, fun u v hu hv e => ?_, by simp⟩, q1.ge, Nat.le_refl _, fun u hu => ?_⟩
    · have := Own.base q1.rows (Nat.zero_le _)
      rw [hbl] at this
      have e : (List.range j).map (fun u => sl (bs.getD u 0) 0 j j) = bs.map fun b => sl b 0 j j := by
        apply List.ext_getElem?
        intro i
        rw [List.getElem?_map, List.getElem?_map]
        rcases Nat.lt_or_ge i j with hi | hi
        · obtain ⟨b, hb'⟩ := hb i hi
          rw [hb', List.getElem?_range hi]; simp [List.getD, hb']
        · rw [List.getElem?_eq_none (by simpa using hi), List.getElem?_eq_none (by omega)]; rfl
      rw [e]; exact this
    · obtain ⟨b, hb'⟩ := hb u hu
      rw [hrb u b hb']
      exact (q1.row b (List.mem_of_getElem? hb')).1
    · obtain ⟨b, hb1⟩ := hb u hu
      obtain ⟨b', hb2⟩ := hb v hv
      rw [hrb u b hb1, hrb v b' hb2] at e
      subst e
      exact Tar.nodup_at q1.nodup hb1 hb2
    · obtain ⟨b, hb'⟩ := hb u hu
      have := (q1.row b (List.mem_of_getElem? hb')).2
      show x ≤ bs.getD u 0
      rw [hrb u b hb']
      omega
end Go.Proofs.YtgfljbplccekcaaDoor
