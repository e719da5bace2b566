/-
  Package comps: tarjan.enter, as a contract; conditions: the graph was made by graph.New, the table of math/bits lies in memory.
-/
import Derived.Test.YtgfljbplccekcaaDoorTj1
set_option linter.unusedSimpArgs false
set_option linter.unusedVariables false
set_option maxRecDepth 100000
namespace Go.Proofs.YtgfljbplccekcaaDoor
open Go Go.V Go.Low

/-- the node and the list, as a frame -/
theorem enter_ok {h0 h : Heap} (tb : Tab h0) {g : Nat} {vs : Nat → Value} {L : Nat → List (Nat × Nat)} {E : Nat → Nat → Nat → Bool} {t n nb lb ob : Nat} {of : Int} {opv outv : Value} {σ : Tar.St} (gq : isG h0 g n vs L E)
    (q : isT h0 h t n nb lb ob (ptr g 0) of opv outv σ) {m : Nat} (hm : m < n) (hnx : σ.next ≤ n) (hol : σ.op.length ≤ 300) (s : List (Nat × List Nat)) :
    Ct Tryd.prog 108 [ptr t 0, .int .i64 m] h fun v h' => ∃ ov opv', v = .agg #[.int .i64 m, ov] ∧ isT h0 h' t n nb lb ob (ptr g 0) of opv' outv (Tar.enter n (ed E of) σ s m) ∧
      IntsA (wX nb lb opv') h' ov (nats (Tar.succ n (ed E of) m)) ∧ ov.cells = #[ov] ∧ ov.oneCell' = true ∧ Kb (tX t nb lb ob opv outv) h h' ∧ ∀ b ∈ wX nb lb opv', b ∈ wX nb lb opv ∨ h.size ≤ b := by
  have hn := q.small
  refine enter Tryd.func108 (by kernel_rfl) rfl Tryd.results108 (by kernel_rfl) (by kernel_rfl) (init2 _ _) ?_
  simp (disch := omega) only [↓SS, A, Nat.reduceEqDiff, Int.reduceToNat, Int.cast_ofNat_Int, Int.reduceSub, Int.reduceAdd, Nat.reduceAdd, Nat.reduceMul, Nat.reduceSub, ↓reduceIte, rd_eq, TyT]
  have gA : Ge h (h.push (.cells #[.int .i64 0, .slice none 0 0] 185)) := Ge.push _ _
  have eA : (h.push (.cells #[.int .i64 0, .slice none 0 0] 185))[h.size]? = some (.cells #[.int .i64 0, .slice none 0 0] 185 (0, 0)) := push_new _ _
  have hzc : (Value.agg #[.int .i64 0, .slice none 0 0]).cells = #[.int .i64 0, .slice none 0 0] := rfl
  simp only [hzc]
  generalize h.push (.cells #[.int .i64 0, .slice none 0 0] 185) = hA at *
  generalize hfb : h.size = fb at *
  have qA := q.mono gA
  have cA2 : hcell hA t 2 = some (.int .i64 (σ.next : Nat)) := by simp [hcell, qA.blk]
  simp (disch := omega) only [↓SS, A, Nat.reduceEqDiff, Int.reduceToNat, Int.cast_ofNat_Int, Int.reduceSub, Int.reduceAdd, Nat.reduceAdd, Nat.reduceMul, Nat.reduceSub, ↓reduceIte, rd_eq, TyT, cA2]
  refine vst_up rfl rfl qA.blk (by simp [Value.cells]) ?_
  intro hB eB upB
  replace eB : hB[t]? = some (.cells #[ptr g 0, .int .i64 of, .int .i64 (σ.next + 1 : Nat), sl nb 0 n n, sl lb 0 n n, sl ob 0 n n, opv, outv] 120 (0, 0)) := by rw [eB]; rfl
  have tnb : t ≠ nb := other_type qA.blk qA.num (by decide)
  have tlb : t ≠ lb := other_type qA.blk qA.low (by decide)
  have tob : t ≠ ob := other_type qA.blk qA.on (by decide)
  have onb : ob ≠ nb := other_type qA.on qA.num (by decide)
  have olb : ob ≠ lb := other_type qA.on qA.low (by decide)
  have nlb : nb ≠ lb := qA.ne.1
  have b3 : hcell hB t 3 = some (sl nb 0 n n) := by simp [hcell, eB]
  have b4 : hcell hB t 4 = some (sl lb 0 n n) := by simp [hcell, eB]
  have b5 : hcell hB t 5 = some (sl ob 0 n n) := by simp [hcell, eB]
  have b2 : hcell hB t 2 = some (.int .i64 (σ.next + 1 : Nat)) := by simp [hcell, eB]
  have ot : V.outb [nb, lb, ob] t := by simp [V.outb, tnb, tlb, tob]
  simp (disch := omega) only [↓SS, A, Nat.reduceEqDiff, Int.reduceToNat, Int.cast_ofNat_Int, Int.reduceSub, Int.reduceAdd, Nat.reduceAdd, Nat.reduceMul, Nat.reduceSub, ↓reduceIte, rd_eq, TyT]
  refine vdraw_fork [nb, lb, ob] (.line [(0, 0), (1, 0), (2, 0), (3, 1), (4, 0), (5, 0), (6, 0), (7, 0), (8, 1), (9, 0), (10, 0), (11, 0), (12, 0), (13, 1), (14, 0), (15, 0), (16, 0), (17, 0), (18, 1), (19, 0), (20, 0), (21, 0), (22, 1), (23, 0), (24, 2), (25, 0), (26, 2), (27, 0), (28, 2)]) mixed (by kernel_rfl) ?_
  simp (disch := omega) only [↓SS, A, Nat.reduceEqDiff, Int.reduceToNat, Int.cast_ofNat_Int, Int.reduceSub, Int.reduceAdd, Nat.reduceAdd, Nat.reduceMul, Nat.reduceSub, ↓reduceIte, rd_eq, TyT, b3, b4, b5, b2, ot]
  refine vst_up rfl rfl (upB.keep qA.num (fun e => tnb e.symm)) (by simp [Value.cells, arrV_size]; omega) ?_
  intro hC eC upC
  replace eC : hC[nb]? = some (.cells (arrI n fun k => (upd σ.num m (σ.next + 1) k : Nat)) 3 (0, 0)) := by
    rw [eC]; simp only [Value.cells]; rw [arrI_set _ hm]; congr 2; apply arrV_congr; intro j _; simp only [upd, Tar.upd]; split <;> rfl
  have kbC : Kb [nb, lb, ob] hB hC := (Kb.refl _ _).up upC (.inl (by simp))
  refine ⟨kbC, ?_⟩
  simp (disch := omega) only [↓SS, A, Nat.reduceEqDiff, Int.reduceToNat, Int.cast_ofNat_Int, Int.reduceSub, Int.reduceAdd, Nat.reduceAdd, Nat.reduceMul, Nat.reduceSub, ↓reduceIte, rd_eq, TyT]
  refine vst_up rfl rfl (upC.keep (upB.keep qA.low (fun e => tlb e.symm)) (fun e => nlb e.symm)) (by simp [Value.cells, arrV_size]; omega) ?_
  intro hD eD upD
  replace eD : hD[lb]? = some (.cells (arrI n fun k => (upd σ.low m (σ.next + 1) k : Nat)) 3 (0, 0)) := by
    rw [eD]; simp only [Value.cells]; rw [arrI_set _ hm]; congr 2; apply arrV_congr; intro j _; simp only [upd, Tar.upd]; split <;> rfl
  have kbD := kbC.up upD (.inl (by simp))
  refine ⟨kbD, ?_⟩
  simp (disch := omega) only [↓SS, A, Nat.reduceEqDiff, Int.reduceToNat, Int.cast_ofNat_Int, Int.reduceSub, Int.reduceAdd, Nat.reduceAdd, Nat.reduceMul, Nat.reduceSub, ↓reduceIte, rd_eq, TyT]
  refine vst_up rfl rfl (upD.keep (upC.keep (upB.keep qA.on (fun e => tob e.symm)) onb) olb) (by simp [Value.cells, arrV_size]; omega) ?_
  intro hE eE upE
  replace eE : hE[ob]? = some (.cells (arrB n (upd σ.on m true)) 4 (0, 0)) := by
    rw [eE]; simp only [Value.cells]; rw [arrB_set _ hm]
  have kbE := kbD.up upE (.inl (by simp))
  refine ⟨kbE, ?_⟩
  have eE1 : hE[t]? = some (.cells #[ptr g 0, .int .i64 of, .int .i64 (σ.next + 1 : Nat), sl nb 0 n n, sl lb 0 n n, sl ob 0 n n, opv, outv] 120 (0, 0)) := kbE.lookup eB (by simp [tnb, tlb, tob])
  have b6 : hcell hE t 6 = some opv := by simp [hcell, eE1]
  simp (disch := omega) only [↓SS, A, Nat.reduceEqDiff, Int.reduceToNat, Int.cast_ofNat_Int, Int.reduceSub, Int.reduceAdd, Nat.reduceAdd, Nat.reduceMul, Nat.reduceSub, ↓reduceIte, rd_eq, TyT, b6]
  refine vbs_one elI rfl rfl (by omega) (by omega) ?_
  have oAop := qA.opr
  have hopne : ∀ b, opv.ownBlock = some b → b ≠ t ∧ b ≠ ob ∧ b ≠ nb ∧ b ≠ lb := by
    intro b hb
    obtain ⟨_, cur, hc⟩ := qA.opb hb
    refine ⟨other_type hc qA.blk (by decide), other_type hc qA.on (by decide), ?_, ?_⟩
    · rintro rfl; exact qA.ne.2.1 hb
    · rintro rfl; exact qA.ne.2.2 hb
  have kb1 : Kb (t :: ob :: wX nb lb opv) hA hE := by
    refine ((Kb.refl _ _).up upB (.inl (by simp))).trans (kbE.sub ?_)
    intro k hk
    simp only [List.mem_cons, List.not_mem_nil, or_false] at hk
    rcases hk with rfl | rfl | rfl <;> simp [wX]
  have kb0 : Kb [t, ob, nb, lb] hA hE := by
    refine ((Kb.refl _ _).up upB (.inl (by simp))).trans (kbE.sub ?_)
    intro k hk
    simp only [List.mem_cons, List.not_mem_nil, or_false] at hk
    rcases hk with rfl | rfl | rfl <;> simp
  have oE : Own hE h0.size 3 1 opv σ.op.length (ints σ.op) := V.Own.kb oAop kb0 (by
    intro b hb
    obtain ⟨n1, n2, n3, n4⟩ := hopne b hb
    simp [n1, n2, n3, n4])
  have gF : Ge hE (hE.push (.cells (Value.int .i64 m).cells 3)) := Ge.push _ _
  have eF : (hE.push (.cells (Value.int .i64 m).cells 3))[hE.size]? = some (.cells (Value.int .i64 m).cells 3 (0, 0)) := push_new _ _
  generalize hE.push (.cells (Value.int .i64 m).cells 3) = hF at *
  generalize hE.size = nk at *
  have hlo0 : h0.size ≤ hF.size := Nat.le_trans qA.ge.size (Nat.le_trans kb1.size gF.size)
  simp (disch := omega) only [↓SS, A, Nat.reduceEqDiff, Int.reduceToNat, Int.cast_ofNat_Int, Int.reduceSub, Int.reduceAdd, Nat.reduceAdd, Nat.reduceMul, Nat.reduceSub, ↓reduceIte, rd_eq, TyT]
  refine vapp_own' elI rfl (by omega) (oE.ge gF) (rdRow_blk eF (by simp [Value.cells])) (by simp [Value.cells]; rfl) (by omega) (by omega) hlo0 ?_
  intro opv' hG oG grG hnG hnewG
  obtain ⟨w1, w2⟩ := Own.one oG
  have kbG : Kb (t :: ob :: wX nb lb opv) hA hG := (kb1.ge gF).grow grG (fun k hk => .inl (by simp [wX, hk]))
  have eG1 : hG[t]? = some (.cells #[ptr g 0, .int .i64 of, .int .i64 (σ.next + 1 : Nat), sl nb 0 n n, sl lb 0 n n, sl ob 0 n n, opv, outv] 120 (0, 0)) := by
    rw [grG.block t (Ge.lt (gF.lookup eE1)) (fun e => (hopne t e.symm).1 rfl)]; exact gF.lookup eE1
  simp (disch := omega) only [↓SS, A, Nat.reduceEqDiff, Int.reduceToNat, Int.cast_ofNat_Int, Int.reduceSub, Int.reduceAdd, Nat.reduceAdd, Nat.reduceMul, Nat.reduceSub, ↓reduceIte, rd_eq, TyT]
  refine vst_up (by rw [w1]; kernel_rfl) (by rw [w1]; simp [one1, w2]) eG1 (by rw [w1]; simp) ?_
  intro hH eH upH
  replace eH : hH[t]? = some (.cells #[ptr g 0, .int .i64 of, .int .i64 (σ.next + 1 : Nat), sl nb 0 n n, sl lb 0 n n, sl ob 0 n n, opv', outv] 120 (0, 0)) := by rw [eH, w1]; rfl
  have kbH := kbG.up upH (.inl (by simp))
  have keepB : ∀ (b : Nat) (c : Array Value) (ty : Nat), hE[b]? = some (.cells c ty (0, 0)) → b ≠ t → (∀ k, opv.ownBlock = some k → b ≠ k) → hH[b]? = some (.cells c ty (0, 0)) := by
    intro b c ty hb h1 h2
    rw [upH.other b h1, grG.block b (Ge.lt (gF.lookup hb)) (fun e => h2 b e.symm rfl)]
    exact gF.lookup hb
  have numH := keepB nb _ _ (upE.keep (upD.keep eC nlb) (fun e => onb e.symm)) (fun e => tnb e.symm) (fun k hk e => (hopne k hk).2.2.1 e.symm)
  have lowH := keepB lb _ _ (upE.keep eD (fun e => olb e.symm)) (fun e => tlb e.symm) (fun k hk e => (hopne k hk).2.2.2 e.symm)
  have onH := keepB ob _ _ eE (fun e => tob e.symm) (fun k hk e => (hopne k hk).2.1 e.symm)
  have hnew : ∀ b, opv'.ownBlock = some b → opv.ownBlock = some b ∨ hF.size ≤ b := by
    intro b hb
    rcases hnewG with h1 | ⟨b', h1, h2⟩
    · left; rw [← h1]; exact hb
    · right; rw [hb] at h1; cases h1; exact h2
  have hFlt : hA.size ≤ hF.size := Nat.le_trans kb1.size gF.size
  have qH : isT h0 hH t n nb lb ob (ptr g 0) of opv' outv (Tar.enter n (ed E of) σ s m) := by
    refine ⟨?_, q.lo, eH, numH, lowH, onH, ?_, ?_, ⟨nlb, ?_, ?_⟩, hn⟩
    · exact qA.kbge (kbH.sub (by intro k hk; simp only [List.mem_cons] at hk; simp only [tX, List.mem_cons, List.mem_append]; rcases hk with h | h | h; exact .inl h; exact .inr (.inl h); exact .inr (.inr (.inr h))))
    · have oH := oG.grow upH.grow (by
        right
        intro e
        rcases hnew t e with h1 | h1
        · exact (hopne t h1).1 rfl
        · have := Ge.lt eE1; have := gF.size; omega)
      show Own hH h0.size 3 1 opv' (σ.op ++ [m]).length (ints (σ.op ++ [m]))
      rw [List.length_append]
      simpa [ints, Value.cells] using oH
    · obtain ⟨ovs, h1, h3⟩ := qA.outr
      refine ⟨ovs, V.Own.kb h1 kbH ?_, fun i v c hv hc => ?_⟩
      · intro b hb hm
        obtain ⟨_, cur, hc⟩ := qA.outb hb
        simp only [List.mem_cons, wX, Option.mem_toList] at hm
        rcases hm with rfl | rfl | rfl | rfl | hm
        · exact other_type hc qA.blk (by decide) rfl
        · exact other_type hc qA.on (by decide) rfl
        · exact other_type hc qA.num (by decide) rfl
        · exact other_type hc qA.low (by decide) rfl
        · obtain ⟨_, cur2, hc2⟩ := qA.opb hm
          exact other_type hc hc2 (by decide) rfl
      · refine ((h3 i v c hv hc).more (X' := wX nb lb opv ++ wX nb lb opv') (fun b hb => ?_)).kb kbH (fun z hz => ?_) |>.more ?_
        · simp only [wX, List.mem_append, List.mem_cons, Option.mem_toList] at hb ⊢
          rcases hb with hb | rfl | rfl | hb
          · exact .inl hb
          · exact .inl (.inl rfl)
          · exact .inl (.inr (.inl rfl))
          · rcases hnew b hb with h5 | h5
            · exact .inl (.inr (.inr h5))
            · right; omega
        · rcases qA.tint z (by simp only [List.mem_cons] at hz; simp only [tX, List.mem_cons, List.mem_append]; rcases hz with h | h | h; exact .inl h; exact .inr (.inl h); exact .inr (.inr (.inr h))) with h5 | h5
          · exact .inl (List.mem_append_left _ h5)
          · exact .inr h5
        · exact fun b hb => .inl (List.mem_append_right _ hb)
    · intro e
      rcases hnew nb e with h1 | h1
      · exact (hopne nb h1).2.2.1 rfl
      · have := Ge.lt qA.num; omega
    · intro e
      rcases hnew lb e with h1 | h1
      · exact (hopne lb h1).2.2.2 rfl
      · have := Ge.lt qA.low; omega
  have f0 : hcell hH t 0 = some (ptr g 0) := by simp [hcell, eH]
  have f1 : hcell hH t 1 = some (.int .i64 of) := by simp [hcell, eH]
  have fbt : t ≠ fb := by
    have := Ge.lt q.blk
    omega
  have ot2 : V.outb [fb] t := by simp [V.outb, fbt]
  have eHf : hH[fb]? = some (.cells #[.int .i64 0, .slice none 0 0] 185 (0, 0)) := by
    refine kbH.lookup eA ?_
    simp only [List.mem_cons, wX, Option.mem_toList, not_or]
    refine ⟨fun e => fbt e.symm, fun e => ?_, fun e => ?_, fun e => ?_, fun e => ?_⟩
    · have := Ge.lt q.on; omega
    · have := Ge.lt q.num; omega
    · have := Ge.lt q.low; omega
    · obtain ⟨_, cur, hc⟩ := q.opb e
      have := Ge.lt hc; omega
  simp (disch := omega) only [↓SS, A, Nat.reduceEqDiff, Int.reduceToNat, Int.cast_ofNat_Int, Int.reduceSub, Int.reduceAdd, Nat.reduceAdd, Nat.reduceMul, Nat.reduceSub, ↓reduceIte, rd_eq, TyT]
  refine vdraw_fork [fb] (.line [(0, 0), (1, 0), (2, 0), (3, 0), (4, 1), (5, 0), (6, 0), (7, 0), (8, 0), (9, 1), (10, 2), (11, 2), (12, 2)]) mixed (by kernel_rfl) ?_
  simp (disch := omega) only [↓SS, A, Nat.reduceEqDiff, Int.reduceToNat, Int.cast_ofNat_Int, Int.reduceSub, Int.reduceAdd, Nat.reduceAdd, Nat.reduceMul, Nat.reduceSub, ↓reduceIte, rd_eq, TyT, f0, f1, ot2]
  refine vcall_mk (gout_ok (tb.ge qH.ge) (gq.ge qH.ge) hm) ?_
  rintro ov hI ⟨ho, _, gI⟩
  obtain ⟨oa, oc, hov, _⟩ := V.Own.form ho
  subst hov
  refine ⟨(Kb.refl _ _).ge gI, ?_⟩
  simp (disch := omega) only [↓SS, A, Nat.reduceEqDiff, Int.reduceToNat, Int.cast_ofNat_Int, Int.reduceSub, Int.reduceAdd, Nat.reduceAdd, Nat.reduceMul, Nat.reduceSub, ↓reduceIte, rd_eq, TyT]
  refine vbd_ok (cells := #[.int .i64 m, .slice oa (outs n E of m).length oc]) (by kernel_rfl) ?_
  refine ⟨(Kb.refl _ _).ge gI, ?_⟩
  simp (disch := omega) only [↓SS, A, Nat.reduceEqDiff, Int.reduceToNat, Int.cast_ofNat_Int, Int.reduceSub, Int.reduceAdd, Nat.reduceAdd, Nat.reduceMul, Nat.reduceSub, ↓reduceIte, rd_eq, TyT]
  refine vst_up rfl (by simp [one1, Value.cells]; exact ⟨rfl, rfl⟩) (gI.lookup eHf) (by simp [Value.cells]) ?_
  intro hJ eJ upJ
  refine ⟨((Kb.refl _ _).ge gI).up upJ (.inl (by simp)), ?_⟩
  have j0 : hcell hJ fb 0 = some (.int .i64 m) := by rw [hcell, eJ]; rfl
  have j1 : hcell hJ fb 1 = some (.slice oa (outs n E of m).length oc) := by rw [hcell, eJ]; rfl
  simp (disch := omega) only [↓SS, A, Nat.reduceEqDiff, Int.reduceToNat, Int.cast_ofNat_Int, Int.reduceSub, Int.reduceAdd, Nat.reduceAdd, Nat.reduceMul, Nat.reduceSub, ↓reduceIte, rd_eq, TyT, rdRow, j0, j1]
  have gJ : Ge hH hJ ∨ True := .inr trivial
  have fbZ : ∀ b ∈ tX t nb lb ob opv' outv, b ≠ fb := by
    intro b hb
    have hh := qH.lo_all b hb
    rintro rfl
    simp only [tX, wX, List.mem_cons, List.mem_append, Option.mem_toList] at hb
    rcases hb with e | e | hb | e | e | hb
    · exact fbt e.symm
    · have := Ge.lt q.on; omega
    · obtain ⟨_, cur, hc⟩ := q.outb hb; have := Ge.lt hc; omega
    · have := Ge.lt q.num; omega
    · have := Ge.lt q.low; omega
    · rcases hnew b hb with h1 | h1
      · obtain ⟨_, cur, hc⟩ := q.opb h1; have := Ge.lt hc; omega
      · have := Ge.lt eA; omega
  -- behind the call, and the store into the result's own variable
  have qI := qH.mono gI
  have qJ : isT h0 hJ t n nb lb ob (ptr g 0) of opv' outv (Tar.enter n (ed E of) σ s m) := by
    have hne : ∀ b ∈ tX t nb lb ob opv' outv, hJ[b]? = hI[b]? := fun b hb => upJ.other b (fbZ b hb)
    have kbJ : Kb [fb] hI hJ := (Kb.refl _ _).up upJ (.inl (by simp))
    refine ⟨upJ.ge qI.ge (by have := q.ge.size; omega), qI.lo, ?_, ?_, ?_, ?_, V.Own.kb qI.opr kbJ ?_, ?_, qI.ne, hn⟩
    · rw [hne t (by simp [tX])]; exact qI.blk
    · rw [hne nb (by simp [tX, wX])]; exact qI.num
    · rw [hne lb (by simp [tX, wX])]; exact qI.low
    · rw [hne ob (by simp [tX])]; exact qI.on
    · intro b hb; simpa using fbZ b (by simp [tX, wX, hb])
    · obtain ⟨ovs, h1, h3⟩ := qI.outr
      refine ⟨ovs, V.Own.kb h1 kbJ ?_, fun i v c hv hc => (h3 i v c hv hc).kb kbJ ?_⟩
      · intro b hb; simpa using fbZ b (by simp [tX, hb])
      · intro z hz
        simp only [List.mem_singleton] at hz
        subst hz
        right
        intro c f e
        rw [gI.lookup eHf] at e
        simp only [Option.some.injEq, Obj.cells.injEq] at e
        exact absurd e.2.1 (by decide)
  have kbHJ : Kb [fb] hH hJ := ((Kb.refl _ _).ge gI).up upJ (.inl (by simp))
  refine ⟨_, opv', rfl, qJ, ?_, rfl, rfl, ?_, ?_⟩
  · have o1 : IntsA (wX nb lb opv') hI (.slice oa (outs n E of m).length oc) (nats (outs n E of m)) := IntsA.own ho (fun b hb hm => by
      have h1 := (Own.blk ho hb).1
      simp only [wX, List.mem_cons, Option.mem_toList] at hm
      rcases hm with rfl | rfl | hm
      · have := Ge.lt numH; omega
      · have := Ge.lt lowH; omega
      · obtain ⟨_, cur, hc⟩ := qH.opb hm
        have := Ge.lt hc; omega)
    refine o1.kb ((Kb.refl [fb] _).up upJ (.inl (by simp))) ?_
    intro z hz
    simp only [List.mem_singleton] at hz
    subst hz
    right
    intro c f e
    rw [gI.lookup eHf] at e
    simp only [Option.some.injEq, Obj.cells.injEq] at e
    exact absurd e.2.1 (by decide)
  · have k1 : Kb (tX t nb lb ob opv outv) h hH := (Kb.of_ge gA).trans (kbH.sub (by intro k hk; simp only [List.mem_cons] at hk; simp only [tX, List.mem_cons, List.mem_append]; rcases hk with h | h | h; exact .inl h; exact .inr (.inl h); exact .inr (.inr (.inr h))))
    exact (k1.ge gI).up upJ (.inr (by omega))
  · intro b hb
    simp only [wX, List.mem_cons, Option.mem_toList] at hb ⊢
    rcases hb with h1 | h1 | h1
    · exact .inl (.inl h1)
    · exact .inl (.inr (.inl h1))
    · rcases hnew b h1 with h2 | h2
      · exact .inl (.inr (.inr h2))
      · right; have := Ge.lt eA; omega
end Go.Proofs.YtgfljbplccekcaaDoor
