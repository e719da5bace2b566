/-
  Package comps: tarjan.leave, as a contract; conditions: Tarjan's state lies in memory.
-/
import Derived.Test.YtgfljbplccekcaaDoorTj2
import Derived.Test.YtgfljbplccekcaaDoorSorts
set_option linter.unusedSimpArgs false
set_option linter.unusedVariables false
set_option maxRecDepth 100000
namespace Go.Proofs.YtgfljbplccekcaaDoor
open Go Go.V Go.Low

theorem leave_a {h0 h : Heap} {t n nb lb ob : Nat} {gv : Value} {of : Int} {opv outv : Value} {σ : Tar.St} (q : isT h0 h t n nb lb ob gv of opv outv σ) {v : Nat} (hv : v < n) (hne : σ.low v ≠ σ.num v) :
    Ct Tryd.prog 109 [ptr t 0, .int .i64 v] h fun r h' => r = .tuple #[] ∧ h = h' := by
  have hn := q.small
  have b3 : hcell h t 3 = some (sl nb 0 n n) := by simp [hcell, q.blk]
  have b4 : hcell h t 4 = some (sl lb 0 n n) := by simp [hcell, q.blk]
  have c3 := arrI_cell q.num hv
  have c4 := arrI_cell q.low hv
  have hne' : ¬ ((σ.low v : Nat) : Int) = (σ.num v : Nat) := by omega
  refine enter Tryd.func109 (by kernel_rfl) rfl Tryd.results109 (by kernel_rfl) (by kernel_rfl) (init2 _ _) ?_
  simp (disch := omega) only [↓SS, A, Nat.reduceEqDiff, Int.reduceToNat, Int.cast_ofNat_Int, Int.reduceSub, Int.reduceAdd, Nat.reduceAdd, Nat.reduceMul, Nat.reduceSub, ↓reduceIte, rd_eq, TyT]
  refine vdraw_pure mixed (by kernel_rfl) ?_
  simp (disch := omega) only [↓SS, A, Nat.reduceEqDiff, Int.reduceToNat, Int.cast_ofNat_Int, Int.reduceSub, Int.reduceAdd, Nat.reduceAdd, Nat.reduceMul, Nat.reduceSub, ↓reduceIte, rd_eq, TyT, b3, b4, c3, c4]
def sortN (c : List Nat) : List Nat := c.mergeSort fun x y => decide (x ≤ y)
theorem nats_sort (c : List Nat) : nats (sortN c) = (nats c).mergeSort fun x y => decide (x ≤ y) := by
  unfold nats sortN
  exact List.map_mergeSort fun a _ b _ => by simp
theorem sortN_perm (c : List Nat) : (sortN c).Perm c := List.mergeSort_perm _ _
theorem sortN_sorted (c : List Nat) (h : c.Nodup) : (sortN c).Pairwise (· < ·) := by
  have h1 : (sortN c).Pairwise (fun x y => decide (x ≤ y) = true) := List.pairwise_mergeSort (fun a b c h1 h2 => by simp at *; omega) (fun a b => by simp; omega) c
  have h2 : (sortN c).Nodup := (sortN_perm c).nodup_iff.2 h
  exact (h1.and h2).imp fun ⟨h3, h4⟩ => by simp at h3; omega
/-- a component is told -/
def lvB (σ : Tar.St) (pre c cs : List Nat) : Tar.St := { σ with on := fun x => if x ∈ c then false else σ.on x, op := pre, out := σ.out ++ [cs] }
theorem leave_b {h0 h : Heap} {t n nb lb ob : Nat} {gv : Value} {of : Int} {opv outv : Value} {σ : Tar.St} (q : isT h0 h t n nb lb ob gv of opv outv σ) {v : Nat} (hv : v < n) (he : σ.low v = σ.num v)
    {pre c' : List Nat} (hop : σ.op = pre ++ v :: c') (hpre : v ∉ pre) (hcn : ∀ x ∈ v :: c', x < n) (hl1 : σ.op.length ≤ 300) (hl2 : σ.out.length ≤ 300) :
    Ct Tryd.prog 109 [ptr t 0, .int .i64 v] h fun r h' => r = .tuple #[] ∧ ∃ opv' outv', isT h0 h' t n nb lb ob gv of opv' outv' (lvB σ pre (v :: c') (sortN (v :: c'))) ∧
      Kb (tX t nb lb ob opv outv) h h' ∧ ∀ b ∈ wX nb lb opv', b ∈ wX nb lb opv := by
  have hn := q.small
  have b3 : hcell h t 3 = some (sl nb 0 n n) := by simp [hcell, q.blk]
  have b4 : hcell h t 4 = some (sl lb 0 n n) := by simp [hcell, q.blk]
  have b6 : hcell h t 6 = some opv := by simp [hcell, q.blk]
  have c3 := arrI_cell q.num hv
  have c4 := arrI_cell q.low hv
  have hlen : σ.op.length = pre.length + (c'.length + 1) := by rw [hop]; simp
  obtain ⟨pb, pc, rfl⟩ := q.opr.here (by omega)
  obtain ⟨hpc, hpm, _, pcur, hpb, hps, hpt⟩ := q.opr.cur
  simp only [Nat.mul_one] at hps hpt
  have hI : Ints h (sl pb 0 σ.op.length pc) (nats σ.op) := ownInts' q.opr
  refine enter Tryd.func109 (by kernel_rfl) rfl Tryd.results109 (by kernel_rfl) (by kernel_rfl) (init2 _ _) ?_
  simp (disch := omega) only [↓SS, A, Nat.reduceEqDiff, Int.reduceToNat, Int.cast_ofNat_Int, Int.reduceSub, Int.reduceAdd, Nat.reduceAdd, Nat.reduceMul, Nat.reduceSub, ↓reduceIte, rd_eq, TyT]
  refine vdraw_pure mixed (by kernel_rfl) ?_
  have he' : ((σ.low v : Nat) : Int) = (σ.num v : Nat) := by omega
  simp (disch := omega) only [↓SS, A, Nat.reduceEqDiff, Int.reduceToNat, Int.cast_ofNat_Int, Int.reduceSub, Int.reduceAdd, Nat.reduceAdd, Nat.reduceMul, Nat.reduceSub, ↓reduceIte, rd_eq, TyT, b3, b4, c3, c4, he']
  simp (disch := omega) only [↓SS, A, Nat.reduceEqDiff, Int.reduceToNat, Int.cast_ofNat_Int, Int.reduceSub, Int.reduceAdd, Nat.reduceAdd, Nat.reduceMul, Nat.reduceSub, ↓reduceIte, rd_eq, TyT, b6]
  refine vcall_mk (index_ok hI v) ?_
  rintro _ _ ⟨⟨kk, rfl, hkk⟩, rfl⟩
  have hat : σ.op[pre.length]? = some v := by rw [hop]; simp
  obtain rfl : kk = (pre.length : Nat) := by
    rcases hkk with ⟨_, hno⟩ | ⟨i, rfl, hi, hfirst⟩
    · exact absurd (List.mem_of_getElem? (nats_at hat)) hno
    · have hil : i < σ.op.length := by have := (List.getElem?_eq_some_iff.1 hi).1; rwa [nats_len] at this
      rcases Nat.lt_trichotomy i pre.length with h1 | h1 | h1
      · exfalso
        rw [hop] at hi
        simp only [nats, List.map_append, List.getElem?_append, List.length_map, h1, if_true, List.getElem?_map] at hi
        obtain ⟨y, hy, e⟩ := Option.map_eq_some_iff.1 hi
        have : y = v := by omega
        subst this
        exact hpre (List.mem_of_getElem? hy)
      · rw [h1]
      · exact absurd rfl (hfirst pre.length v h1 (nats_at hat))
  have hso : slOff 0 pre.length 1 pc = pre.length := by unfold slOff; rw [if_neg (by unfold maxLen at hpm; omega)]; omega
  unfold maxLen at hpm
  simp (disch := omega) only [↓SS, A, Nat.reduceEqDiff, Int.reduceToNat, Int.cast_ofNat_Int, Int.reduceSub, Int.reduceAdd, Nat.reduceAdd, Nat.reduceMul, Nat.reduceSub, ↓reduceIte, rd_eq, TyT, b6, hso]
  have hxs : ∀ (i x : Nat), (v :: c')[i]? = some x → hcell h pb (pre.length + i) = some (.int .i64 x) := by
    intro i x hx
    have h1 : σ.op[pre.length + i]? = some x := by rw [hop, List.getElem?_append_right (by omega)]; simpa using hx
    have h2 := q.opr.cell (i := pre.length + i) (u := .int .i64 x) (by simp [ints, h1])
    exact h2
  have hcl : σ.op.length - pre.length = (nats (v :: c')).length := by rw [nats_len]; simp; omega
  have hI2 : Ints h (sl pb pre.length (σ.op.length - pre.length) (pc - pre.length)) (nats (v :: c')) := by
    rw [hcl]
    refine Ints.mk (by rw [← hcl]; omega) (by omega) fun i x hx => ?_
    simp only [nats, List.getElem?_map] at hx
    obtain ⟨y, hy, rfl⟩ := Option.map_eq_some_iff.1 hx
    exact hxs i y hy
  refine vcall_mk (clone_ok hI2 (by rw [← hcl]; omega)) ?_
  rintro lv h1 ⟨ol, g1⟩
  have q1 := q.mono g1
  rw [nats_len] at ol
  obtain ⟨lbk, lc, rfl⟩ := ol.here (by simp)
  obtain ⟨hlc, hlm, hlb, lcur, hlcur, hls, hlt⟩ := ol.cur
  simp only [Nat.mul_one] at hls hlt
  have hcl2 : (v :: c').length = c'.length + 1 := rfl
  have b5 : hcell h1 t 5 = some (sl ob 0 n n) := by simp [hcell, q1.blk]
  have lob : lbk ≠ ob := by have := Ge.lt q.on; omega
  have lt' : lbk ≠ t := by have := Ge.lt q.blk; omega
  have tob : t ≠ ob := other_type q1.blk q1.on (by decide)
  simp (disch := omega) only [↓SS, A, Nat.reduceEqDiff, Int.reduceToNat, Int.cast_ofNat_Int, Int.reduceSub, Int.reduceAdd, Nat.reduceAdd, Nat.reduceMul, Nat.reduceSub, ↓reduceIte, rd_eq, TyT]
  refine vloop_mk (fun k fr h' => ∃ j : Nat, j + k = (v :: c').length ∧ fr = [(38, .int .i64 j), (37, .int .i64 (v :: c').length), (36, sl lbk 0 (v :: c').length lc), (5, sl lbk 0 (v :: c').length lc), (4, .int .i64 pre.length), (0, ptr t 0), (1, .int .i64 v)] ∧ Up h1 h' ob ∧
      h'[ob]? = some (.cells (arrB n fun x => if x ∈ (v :: c').take j then false else σ.on x) 4 (0, 0))) (v :: c').length
    [(38, .int .i64 0), (37, .int .i64 (v :: c').length), (36, sl lbk 0 (v :: c').length lc), (5, sl lbk 0 (v :: c').length lc), (4, .int .i64 pre.length), (0, ptr t 0), (1, .int .i64 v)] (by simp only [↓SS, Nat.reduceEqDiff, Int.reduceToNat, Int.cast_ofNat_Int, Int.reduceSub, Int.reduceAdd, Nat.reduceAdd, Nat.reduceMul, Nat.reduceSub, ↓reduceIte, rd_eq, TyT]) ⟨0, by omega, rfl, Up.refl _ _, by simpa using q1.on⟩ ?_
  rintro k _ h2 ⟨j, hjk, rfl, up2, e2⟩
  by_cases hj : j < (v :: c').length
  · obtain ⟨m, hm⟩ : ∃ m, (v :: c')[j]? = some m := ⟨_, List.getElem?_eq_getElem hj⟩
    have hmn := hcn m (List.mem_of_getElem? hm)
    have hc2 : hcell h2 lbk j = some (.int .i64 m) := by
      have := ol.cell (i := j) (u := .int .i64 m) (by simp only [ivals, nats, List.getElem?_map, hm]; rfl)
      unfold hcell at this ⊢
      rw [up2.other lbk lob]; exact this
    have b5' : hcell h2 t 5 = some (sl ob 0 n n) := by
      unfold hcell at b5 ⊢
      rw [up2.other t tob]; exact b5
    simp (disch := omega) only [↓SS, A, Nat.reduceEqDiff, Int.reduceToNat, Int.cast_ofNat_Int, Int.reduceSub, Int.reduceAdd, Nat.reduceAdd, Nat.reduceMul, Nat.reduceSub, ↓reduceIte, rd_eq, TyT, hc2, b5']
    refine vst_up rfl rfl e2 (by simp [Value.cells, arrV_size]; omega) ?_
    intro h3 e3 up3
    simp (disch := omega) only [↓SS, A, Nat.reduceEqDiff, Int.reduceToNat, Int.cast_ofNat_Int, Int.reduceSub, Int.reduceAdd, Nat.reduceAdd, Nat.reduceMul, Nat.reduceSub, ↓reduceIte, rd_eq, TyT]
    refine ⟨k - 1, by omega, _, (by simp only [↓SS, Nat.reduceEqDiff, Int.reduceToNat, Int.cast_ofNat_Int, Int.reduceSub, Int.reduceAdd, Nat.reduceAdd, Nat.reduceMul, Nat.reduceSub, ↓reduceIte, rd_eq, Int.natCast_add, Int.cast_ofNat_Int]), j + 1, by omega, rfl, up2.trans up3, ?_⟩
    rw [e3]
    simp only [Value.cells]
    rw [arrB_set _ hmn]
    congr 2
    apply arrV_congr
    intro x _
    simp only [upd, List.take_add_one, hm, Option.toList_some, List.mem_append, List.mem_singleton]
    by_cases ex : x = m
    · subst ex; simp
    · simp [ex]
  · have hj2 : j = (v :: c').length := by omega
    subst hj2
    have q2 : h2[t]? = some (.cells #[gv, .int .i64 of, .int .i64 (σ.next : Nat), sl nb 0 n n, sl lb 0 n n, sl ob 0 n n, sl pb 0 σ.op.length pc, outv] 120 (0, 0)) := up2.keep q1.blk tob
    have b6' : hcell h2 t 6 = some (sl pb 0 σ.op.length pc) := by simp [hcell, q2]
    simp (disch := omega) only [↓SS, A, Nat.reduceEqDiff, Int.reduceToNat, Int.cast_ofNat_Int, Int.reduceSub, Int.reduceAdd, Nat.reduceAdd, Nat.reduceMul, Nat.reduceSub, ↓reduceIte, rd_eq, TyT, b6']
    refine vst_up rfl rfl q2 (by simp [Value.cells]) ?_
    intro h3 e3 up3
    replace e3 : h3[t]? = some (.cells #[gv, .int .i64 of, .int .i64 (σ.next : Nat), sl nb 0 n n, sl lb 0 n n, sl ob 0 n n, sl pb 0 pre.length pc, outv] 120 (0, 0)) := by rw [e3]; rfl
    have hl3 : h3[lbk]? = some (.cells lcur 3 (0, 0)) := up3.keep (up2.keep hlcur lob) lt'
    simp (disch := omega) only [↓SS, A, Nat.reduceEqDiff, Int.reduceToNat, Int.cast_ofNat_Int, Int.reduceSub, Int.reduceAdd, Nat.reduceAdd, Nat.reduceMul, Nat.reduceSub, ↓reduceIte, rd_eq, TyT]
    have hnl : (nats (v :: c')).length = (v :: c').length := nats_len _
    have hsort := sort_ok (h := h3) (b := lbk) (off := 0) (c := lc) (cur := lcur) (zs := nats (v :: c')) hl3 (fun i x hx => by
      have hi : i < (v :: c').length := by have := (List.getElem?_eq_some_iff.1 hx).1; rwa [hnl] at this
      have : (lcur.toList.take (v :: c').length)[i]? = some (.int .i64 x) := by rw [hlt]; simp [ivals, hx]
      rw [List.getElem?_take, if_pos hi] at this
      simpa using this) (by rw [hnl]; omega) (by rw [hnl]; omega)
    rw [hnl] at hsort
    refine vcall_mk hsort ?_
    rintro _ h4 ⟨rfl, e4, kb4⟩
    rw [← nats_sort] at e4
    have e4t : h4[t]? = some (.cells #[gv, .int .i64 of, .int .i64 (σ.next : Nat), sl nb 0 n n, sl lb 0 n n, sl ob 0 n n, sl pb 0 pre.length pc, outv] 120 (0, 0)) := kb4.lookup e3 (by simpa using fun e => lt' e.symm)
    have b7 : hcell h4 t 7 = some outv := by simp [hcell, e4t]
    -- what was there, but for the three blocks
    have kbA : Kb [t, ob] h h4 := by
      refine ⟨Nat.le_trans g1.size (Nat.le_trans (Nat.le_of_eq up2.size.symm) (Nat.le_trans (Nat.le_of_eq up3.size.symm) kb4.size)), fun k hk hx => ?_⟩
      simp only [List.mem_cons, List.not_mem_nil, or_false, not_or] at hx
      have hk1 : k < h1.size := Nat.lt_of_lt_of_le hk g1.size
      rw [kb4.block k (by rw [up3.size, up2.size]; exact hk1) (by simp only [List.mem_singleton]; rintro rfl; omega), up3.other k hx.1, up2.other k hx.2]
      exact g1.block k hk
    obtain ⟨ovs, ho, hov⟩ := q.outr
    have hoT : ∀ b, outv.ownBlock = some b → b ∉ [t, ob] := by
      intro b hb
      obtain ⟨_, cur, hc⟩ := q.outb hb
      have n1 := other_type hc q.blk (by decide)
      have n2 := other_type hc q.on (by decide)
      simp [n1, n2]
    have ho4 := V.Own.kb ho kbA hoT
    simp (disch := omega) only [↓SS, A, Nat.reduceEqDiff, Int.reduceToNat, Int.cast_ofNat_Int, Int.reduceSub, Int.reduceAdd, Nat.reduceAdd, Nat.reduceMul, Nat.reduceSub, ↓reduceIte, rd_eq, TyT, b7]
    refine vbs_one elRows rfl rfl (by omega) (by omega) ?_
    have g5 : Ge h4 (h4.push (.cells (sl lbk 0 (v :: c').length lc).cells 23)) := Ge.push _ _
    have e5 : (h4.push (.cells (sl lbk 0 (v :: c').length lc).cells 23))[h4.size]? = some (.cells #[sl lbk 0 (v :: c').length lc] 23 (0, 0)) := push_new _ _
    generalize h4.push (.cells (sl lbk 0 (v :: c').length lc).cells 23) = h5 at *
    generalize h4.size = nk at *
    simp (disch := omega) only [↓SS, A, Nat.reduceEqDiff, Int.reduceToNat, Int.cast_ofNat_Int, Int.reduceSub, Int.reduceAdd, Nat.reduceAdd, Nat.reduceMul, Nat.reduceSub, ↓reduceIte, rd_eq, TyT]
    refine vapp_own' elRows rfl (by omega) (ho4.ge g5) (rdRow_blk e5 (by simp)) (by simp; rfl) (by omega) (by omega) (Nat.le_trans q.ge.size (Nat.le_trans kbA.size g5.size)) ?_
    intro outv' h6 oG grG hnG hnewG
    obtain ⟨w1, w2⟩ := Own.one oG
    have hot : ∀ b, outv.ownBlock = some b → b ≠ t := fun b hb e => hoT b hb (by simp [e])
    have e6 : h6[t]? = some (.cells #[gv, .int .i64 of, .int .i64 (σ.next : Nat), sl nb 0 n n, sl lb 0 n n, sl ob 0 n n, sl pb 0 pre.length pc, outv] 120 (0, 0)) := by
      rw [grG.block t (Ge.lt (g5.lookup e4t)) (fun e => hot t e.symm rfl)]; exact g5.lookup e4t
    simp (disch := omega) only [↓SS, A, Nat.reduceEqDiff, Int.reduceToNat, Int.cast_ofNat_Int, Int.reduceSub, Int.reduceAdd, Nat.reduceAdd, Nat.reduceMul, Nat.reduceSub, ↓reduceIte, rd_eq, TyT]
    refine vst_up (by rw [w1]; kernel_rfl) (by rw [w1]; simp [one1, w2]) e6 (by rw [w1]; simp) ?_
    intro h7 e7 up7
    replace e7 : h7[t]? = some (.cells #[gv, .int .i64 of, .int .i64 (σ.next : Nat), sl nb 0 n n, sl lb 0 n n, sl ob 0 n n, sl pb 0 pre.length pc, outv'] 120 (0, 0)) := by rw [e7, w1]; rfl
    simp (disch := omega) only [↓SS, A, Nat.reduceEqDiff, Int.reduceToNat, Int.cast_ofNat_Int, Int.reduceSub, Int.reduceAdd, Nat.reduceAdd, Nat.reduceMul, Nat.reduceSub, ↓reduceIte, rd_eq, TyT]
    have hnew : ∀ b, outv'.ownBlock = some b → outv.ownBlock = some b ∨ h5.size ≤ b := by
      intro b hb
      rcases hnewG with h8 | ⟨b', h8, h9⟩
      · left; rw [← h8]; exact hb
      · right; rw [hb] at h8; cases h8; exact h9
    -- all that has turned
    have kbB : Kb (t :: ob :: outv.ownBlock.toList) h h7 := by
      have k1 : Kb (t :: ob :: outv.ownBlock.toList) h h4 := kbA.sub (by intro k hk; simp only [List.mem_cons, List.not_mem_nil, or_false] at hk; rcases hk with rfl | rfl <;> simp)
      exact ((k1.ge g5).grow grG (fun k hk => .inl (by simp [hk]))).up up7 (.inl (by simp))
    have kbC : Kb (tX t nb lb ob (sl pb 0 σ.op.length pc) outv) h h7 := kbB.sub (by intro k hk; simp only [List.mem_cons] at hk; simp only [tX, List.mem_cons, List.mem_append]; rcases hk with h | h | h; exact .inl h; exact .inr (.inl h); exact .inr (.inr (.inl h)))
    have keepI : ∀ (b : Nat) (c : Array Value), h[b]? = some (.cells c 3 (0, 0)) → h7[b]? = some (.cells c 3 (0, 0)) := by
      intro b c hb
      refine kbB.lookup hb ?_
      simp only [List.mem_cons, Option.mem_toList, not_or]
      refine ⟨other_type hb q.blk (by decide), other_type hb q.on (by decide), fun e => ?_⟩
      obtain ⟨_, cur, hc⟩ := q.outb e
      exact other_type hb hc (by decide) rfl
    refine ⟨sl pb 0 pre.length pc, outv', ⟨q.kbge kbC, q.lo, e7, keepI nb _ q.num, keepI lb _ q.low, ?_, ?_, ?_, q.ne, hn⟩, kbC, fun b hb => hb⟩
    · -- on
      have h8 : h4[ob]? = some (.cells (arrB n fun x => if x ∈ v :: c' then false else σ.on x) 4 (0, 0)) := by
        have h9 := kb4.lookup (up3.keep e2 (fun e => tob e.symm)) (b := ob) (by simpa using fun e => lob e.symm)
        rw [h9]
        simp only [List.take_length]
      rw [up7.other ob (fun e => tob e.symm), grG.block ob (Ge.lt (g5.lookup h8)) ?_]
      · exact g5.lookup h8
      · intro e; exact hoT ob e.symm (by simp)
    · -- open
      have oc := q.opr.cut (m := pre.length) (by omega)
      have e : (ints σ.op).take (pre.length * 1) = ints pre := by
        rw [Nat.mul_one, hop]
        simp [ints, List.take_append]
      rw [e] at oc
      exact V.Own.kb oc kbB (by
        intro b hb
        simp only [Value.ownBlock, Option.some.injEq] at hb
        subst hb
        simp only [List.mem_cons, Option.mem_toList, not_or]
        refine ⟨other_type hpb q.blk (by decide), other_type hpb q.on (by decide), fun e => ?_⟩
        obtain ⟨_, cur, hc⟩ := q.outb e
        exact other_type hpb hc (by decide) rfl)
    · -- told
      refine ⟨ovs ++ [sl lbk 0 (v :: c').length lc], ?_, fun i w c hw hc => ?_⟩
      · have := oG.grow up7.grow (by
          right
          intro e
          rcases hnew t e with h8 | h8
          · exact hot t h8 rfl
          · have := Ge.lt q.blk; have := kbA.size; have := g5.size; omega)
        show Own h7 h0.size 23 1 outv' (σ.out ++ [sortN (v :: c')]).length _
        rw [List.length_append]
        exact this
      · have hlo : ovs.length = σ.out.length := by have := ho.1; omega
        rcases Nat.lt_or_ge i ovs.length with hi | hi
        · rw [List.getElem?_append_left hi] at hw
          have hc' : (σ.out ++ [sortN (v :: c')])[i]? = some c := hc
          rw [List.getElem?_append_left (by omega)] at hc'
          refine (hov i w c hw hc').kb kbB (fun z hz => ?_)
          simp only [List.mem_cons, Option.mem_toList] at hz
          right
          intro c f e
          rcases hz with rfl | rfl | hz
          · exact other_type e q.blk (by decide) rfl
          · exact other_type e q.on (by decide) rfl
          · obtain ⟨_, cur, hc⟩ := q.outb hz
            exact other_type e hc (by decide) rfl
        · have hi2 : i = ovs.length := by
            have := (List.getElem?_eq_some_iff.1 hw).1
            simp at this; omega
          subst hi2
          rw [List.getElem?_append_right (Nat.le_refl _)] at hw
          simp only [Nat.sub_self, List.getElem?_cons_zero, Option.some.injEq] at hw
          have hc' : (σ.out ++ [sortN (v :: c')])[ovs.length]? = some c := hc
          rw [hlo, List.getElem?_append_right (Nat.le_refl _)] at hc'
          simp only [Nat.sub_self, List.getElem?_cons_zero, Option.some.injEq] at hc'
          subst hw hc'
          have hl7 : h7[lbk]? = some (.cells (setL lcur 0 (ivals (nats (sortN (v :: c'))))) 3 (0, 0)) := by
            rw [up7.other lbk lt', grG.block lbk (Ge.lt (g5.lookup e4)) (fun e => ?_)]
            · exact g5.lookup e4
            · obtain ⟨_, cur, hc⟩ := q.outb e.symm
              have := Ge.lt hc; omega
          have hsl : (nats (sortN (v :: c'))).length = (v :: c').length := by rw [nats_len, (sortN_perm _).length_eq]
          refine ⟨?_, fun b o m c hv2 => ?_⟩
          · have := Ints.mk (h := h7) (b := lbk) (o := 0) (c := lc) (xs := nats (sortN (v :: c'))) (by omega) (by unfold maxLen at hlm; omega) (fun i x hx => by
              have hi : i < (v :: c').length := by have := (List.getElem?_eq_some_iff.1 hx).1; omega
              have hset := setL_take lcur 0 (ivals (nats (sortN (v :: c')))) (by simp [ivals]; omega)
              simp only [hcell, hl7, Nat.zero_add]
              have : (setL lcur 0 (ivals (nats (sortN (v :: c'))))).toList[i]? = some (.int .i64 x) := by
                rw [hset]
                simp only [List.take_zero, List.nil_append]
                rw [List.getElem?_append_left (by simp [ivals]; omega)]
                simp [ivals, hx]
              simpa using this)
            rw [hsl] at this
            exact this
          · simp only [Value.slice.injEq, Option.some.injEq, Addr.mk.injEq] at hv2
            obtain ⟨⟨rfl, _⟩, _⟩ := hv2
            refine ⟨?_, _, hl7⟩
            simp only [wX, Value.ownBlock, Option.toList_some, List.mem_cons, List.not_mem_nil, or_false, not_or]
            have := Ge.lt q.num
            have := Ge.lt q.low
            have := Ge.lt hpb
            exact ⟨by omega, by omega, by omega⟩
end Go.Proofs.YtgfljbplccekcaaDoor
