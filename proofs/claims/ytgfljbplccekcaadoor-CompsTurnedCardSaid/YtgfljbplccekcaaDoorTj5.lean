/-
  Package comps: tarjan.from, as a contract; conditions: the graph was made by graph.New, the table of math/bits lies in memory.
-/
import Derived.Test.YtgfljbplccekcaaDoorTj4
set_option linter.unusedSimpArgs false
set_option linter.unusedVariables false
set_option maxRecDepth 100000
namespace Go.Proofs.YtgfljbplccekcaaDoor
open Go Go.V Go.Low

theorem ed_lt {n : Nat} {E : Nat → Nat → Nat → Bool} {of : Int} (hE : ∀ i u k, E i u k = true → k < n) : ∀ x y, ed E of x y = true → y < n := by
  intro x y h
  simp only [ed, edge, List.any_eq_true, Bool.and_eq_true] at h
  obtain ⟨i, _, _, h⟩ := h
  exact hE i x y h
theorem from_ok {h0 h : Heap} (tb : Tab h0) {g : Nat} {vs : Nat → Value} {L : Nat → List (Nat × Nat)} {E : Nat → Nat → Nat → Bool} {t n nb lb ob : Nat} {of : Int} {opv outv : Value} {σ : Tar.St} (gq : isG h0 g n vs L E) (hE : ∀ i u k, E i u k = true → k < n)
    (q : isT h0 h t n nb lb ob (ptr g 0) of opv outv σ) (hI : Tar.Inv n (ed E of) σ) (hS : σ.stk = []) (hC : σ.next + Tar.whites n σ ≤ n) {m : Nat} (hm : m < n) (hw : σ.num m = 0) :
    Ct Tryd.prog 67 [ptr t 0, .int .i64 m] h fun r h' => r = .tuple #[] ∧ ∃ opv' outv' σ', isT h0 h' t n nb lb ob (ptr g 0) of opv' outv' σ' ∧ Tar.Inv n (ed E of) σ' ∧ σ'.stk = [] ∧ σ'.next + Tar.whites n σ' ≤ n ∧
      (∀ x, σ.num x ≠ 0 → σ'.num x ≠ 0) ∧ σ'.num m ≠ 0 := by
  have hn := q.small
  have hEd := ed_lt (of := of) hE
  refine enter Tryd.func67 (by kernel_rfl) rfl Tryd.results67 (by kernel_rfl) (by kernel_rfl) (init2 _ _) ?_
  simp (disch := omega) only [↓SS, A, Nat.reduceEqDiff, Int.reduceToNat, Int.cast_ofNat_Int, Int.reduceSub, Int.reduceAdd, Nat.reduceAdd, Nat.reduceMul, Nat.reduceSub, ↓reduceIte, rd_eq, TyT]
  refine sem_scope 0 (fun _ _ _ => False) rfl (sem_of_vc ?_) (fun _ _ _ q => False.elim q)
  simp (disch := omega) only [↓SS, A, Nat.reduceEqDiff, Int.reduceToNat, Int.cast_ofNat_Int, Int.reduceSub, Int.reduceAdd, Nat.reduceAdd, Nat.reduceMul, Nat.reduceSub, ↓reduceIte, rd_eq, TyT]
  refine vcall_mk (enter_ok tb gq q hm (by omega) (by have := hI.op_len; omega) []) ?_
  rintro _ h1 ⟨ov, opv1, rfl, q1, io, ov1, ov2, kb1, hX1⟩
  have I1 := hI.enter hEd hw hm (s := []) (.inl ⟨hS, rfl⟩)
  have W1 := Tar.whites_enter (E := ed E of) (s := []) hm hw
  simp (disch := omega) only [↓SS, A, Nat.reduceEqDiff, Int.reduceToNat, Int.cast_ofNat_Int, Int.reduceSub, Int.reduceAdd, Nat.reduceAdd, Nat.reduceMul, Nat.reduceSub, ↓reduceIte, rd_eq, TyT]
  refine vbs_one elFr (by simp [Value.cells]) rfl (by omega) (by omega) ?_
  have hcc : (Value.agg #[.int .i64 m, ov]).cells = #[.int .i64 m, ov] := rfl
  rw [hcc]
  have g2 : Ge h1 (h1.push (.cells #[.int .i64 m, ov] 185)) := Ge.push _ _
  have e2 : (h1.push (.cells #[.int .i64 m, ov] 185))[h1.size]? = some (.cells #[.int .i64 m, ov] 185 (0, 0)) := push_new _ _
  have hsb : h0.size ≤ h1.size := q1.ge.size
  generalize h1.push (.cells #[.int .i64 m, ov] 185) = h2 at *
  generalize h1.size = sb at *
  have S2 : Own h2 h0.size 185 2 (sl sb 0 1 1) 1 (frows [(m, ov, Tar.succ n (ed E of) m)]) := by
    have := Own.made (e := 185) (sz := 2) (n := 1) hsb e2 (by unfold maxLen; omega) rfl
    exact this
  have TS2 : isTS h0 h2 t n nb lb ob (ptr g 0) of (ed E of) opv1 outv (sl sb 0 1 1) (Tar.enter n (ed E of) σ [] m) [(m, ov, Tar.succ n (ed E of) m)] := by
    refine ⟨q1.mono g2, S2, ?_, rfl, I1, ?_⟩
    · intro f hf
      simp only [List.mem_singleton] at hf
      subst hf
      exact io.ge g2
    · show σ.next + 1 + _ ≤ n
      omega
  have hmono : ∀ x, σ.num x ≠ 0 → (Tar.enter n (ed E of) σ [] m).num x ≠ 0 := by
    intro x hx
    show Tar.upd σ.num m (σ.next + 1) x ≠ 0
    unfold Tar.upd
    split
    · omega
    · exact hx
  have hmm : (Tar.enter n (ed E of) σ [] m).num m ≠ 0 := by
    show Tar.upd σ.num m (σ.next + 1) m ≠ 0
    rw [Tar.upd_same]; omega
  generalize Tar.enter n (ed E of) σ [] m = σ1 at *
  simp (disch := omega) only [↓SS, A, Nat.reduceEqDiff, Int.reduceToNat, Int.cast_ofNat_Int, Int.reduceSub, Int.reduceAdd, Nat.reduceAdd, Nat.reduceMul, Nat.reduceSub, ↓reduceIte, rd_eq, TyT]
  refine vloop_mk (fun k fr h' => ∃ (opv outv sv : Value) (σ' : Tar.St) (fs : List (Nat × Value × List Nat)), k = Tar.phi n (ed E of) σ' ∧ fr = [(4, sv), (0, ptr t 0)] ∧ isTS h0 h' t n nb lb ob (ptr g 0) of (ed E of) opv outv sv σ' fs ∧
      (∀ x, σ1.num x ≠ 0 → σ'.num x ≠ 0)) (Tar.phi n (ed E of) σ1)
    [(4, sl sb 0 1 1), (0, ptr t 0)] (by simp only [↓SS, Nat.reduceEqDiff, Int.reduceToNat, Int.cast_ofNat_Int, Int.reduceSub, Int.reduceAdd, Nat.reduceAdd, Nat.reduceMul, Nat.reduceSub, ↓reduceIte, rd_eq, TyT]) ⟨opv1, outv, _, σ1, _, rfl, rfl, TS2, fun _ h => h⟩ ?_
  rintro k _ h3 ⟨opv2, outv2, sv, σ2, fs, rfl, rfl, Q, hmn⟩
  obtain ⟨sa, sc, hsv, hl1, hl2, hl3⟩ := V.Own.form Q.S
  have hsl := Q.slen
  rcases List.eq_nil_or_concat fs with hfs | ⟨fs, ⟨v, ov, rest⟩, hfs⟩
  · subst hfs
    subst hsv
    simp (disch := omega) only [↓SS, A, Nat.reduceEqDiff, Int.reduceToNat, Int.cast_ofNat_Int, Int.reduceSub, Int.reduceAdd, Nat.reduceAdd, Nat.reduceMul, Nat.reduceSub, ↓reduceIte, rd_eq, TyT]
    exact ⟨rfl, opv2, outv2, σ2, Q.T, Q.I, by rw [Q.K]; rfl, Q.C, fun x hx => hmn x (hmono x hx), hmn m hmm⟩
  · rw [List.concat_eq_append] at hfs
    subst hfs
    have hl : ∀ (ov : Value) (rest : List Nat), (fs ++ [(v, ov, rest)]).length = fs.length + 1 := by simp
    have hS := Q.S
    rw [hl] at hS hsl
    obtain ⟨sb2, cap2, rfl⟩ := V.Own.here hS (by omega)
    have hidx : (((fs.length + 1 : Nat) : Int) - 1).toNat = fs.length := by omega
    have hsize : sb2 < h3.size := by obtain ⟨_, _, _, cur, hc, _⟩ := V.Own.cur hS; exact Ge.lt hc
    simp (disch := omega) only [↓SS, A, Nat.reduceEqDiff, Int.reduceToNat, Int.cast_ofNat_Int, Int.reduceSub, Int.reduceAdd, Nat.reduceAdd, Nat.reduceMul, Nat.reduceSub, ↓reduceIte, rd_eq, TyT, hidx]
    refine vloop_mk (fun k' fr h' => ∃ (σ' : Tar.St) (ov : Value) (rest : List Nat), k' = rest.length ∧ fr = [(5, ptr sb2 (fs.length * 2)), (4, sl sb2 0 (fs.length + 1) cap2), (0, ptr t 0)] ∧
        isTS h0 h' t n nb lb ob (ptr g 0) of (ed E of) opv2 outv2 (sl sb2 0 (fs.length + 1) cap2) σ' (fs ++ [(v, ov, rest)]) ∧ Tar.phi n (ed E of) σ' ≤ Tar.phi n (ed E of) σ2 ∧ (∀ x, σ1.num x ≠ 0 → σ'.num x ≠ 0)) rest.length
      [(5, ptr sb2 (fs.length * 2)), (4, sl sb2 0 (fs.length + 1) cap2), (0, ptr t 0)] (by simp only [↓SS, Nat.reduceEqDiff, Int.reduceToNat, Int.cast_ofNat_Int, Int.reduceSub, Int.reduceAdd, Nat.reduceAdd, Nat.reduceMul, Nat.reduceSub, ↓reduceIte, rd_eq, TyT]) ⟨σ2, ov, rest, rfl, rfl, Q, Nat.le_refl _, hmn⟩ ?_
    clear Q hS hsize hmn
    rintro k' _ h4 ⟨σ3, ov, rest, rfl, rfl, Q, hphi, hmn⟩
    have hS := Q.S
    rw [hl] at hS
    obtain ⟨hcl1, hcl2, hcl3, cur, hcur, hcs, hct⟩ := V.Own.cur hS
    unfold maxLen at hcl2
    have hv0 : hcell h4 sb2 (fs.length * 2 + 0) = some (.int .i64 (v : Nat)) := hS.cell frows_at.1
    have hv1 : hcell h4 sb2 (fs.length * 2 + 1) = some ov := hS.cell frows_at.2
    have hIo := Q.F (v, ov, rest) (by simp)
    simp only at hIo
    have hK : σ3.stk = (v, rest) :: fstk fs := by rw [Q.K, fstk_snoc]
    have hvop : v ∈ σ3.op := Q.I.st2 (v, rest) (by rw [hK]; simp)
    have hvn : v < n := Q.I.a3 v (Q.I.op2 v hvop)
    have t3 : hcell h4 t 3 = some (sl nb 0 n n) := by simp [hcell, Q.T.blk]
    have t4 : hcell h4 t 4 = some (sl lb 0 n n) := by simp [hcell, Q.T.blk]
    have t5 : hcell h4 t 5 = some (sl ob 0 n n) := by simp [hcell, Q.T.blk]
    cases rest with
    | cons m' rest =>
      obtain ⟨ob', oo, oc, hov, hoc1, hoc2, hoc⟩ := hIo.r.out (by simp [nats])
      have hnl : (nats (m' :: rest)).length = rest.length + 1 := by simp [nats]
      rw [hnl] at hov hoc1
      subst hov
      have hc0 := hoc 0 (m' : Nat) (by simp [nats])
      have hEv : ed E of v m' = true := Q.I.st3 (v, m' :: rest) (by rw [hK]; simp) m' (by simp)
      have hm'n := hEd v m' hEv
      simp (disch := omega) only [↓SS, A, Nat.reduceEqDiff, Int.reduceToNat, Int.cast_ofNat_Int, Int.reduceSub, Int.reduceAdd, Nat.reduceAdd, Nat.reduceMul, Nat.reduceSub, ↓reduceIte, rd_eq, TyT, hv1, hc0]
      refine vst_up rfl rfl hcur (by simp [Value.cells]; omega) ?_
      intro h5 e5 up5
      have S5 : Own h5 h0.size 185 2 (sl sb2 0 (fs.length + 1) cap2) (fs.length + 1) (frows (fs ++ [(v, sl ob' (slOff oo 1 1 oc) rest.length (oc - 1), rest)])) := by
        have := hS.set (h' := h5) (j := fs.length * 2 + 1) (x := sl ob' (slOff oo 1 1 oc) rest.length (oc - 1)) (by omega) (fun cur2 hc2 => by
          rw [hcur] at hc2
          cases hc2
          exact e5)
        rw [frows_set (r' := rest)] at this
        exact this
      have hne5 : ∀ b, b ≠ sb2 → h5[b]? = h4[b]? := up5.other
      have hsZ : sb2 ∉ tX t nb lb ob opv2 outv2 := Q.sout rfl
      have kb5 : Kb [sb2] h4 h5 := (Kb.refl _ _).up up5 (.inl (by simp))
      have hsT : ∀ z ∈ [sb2], z ∈ wX nb lb opv2 ∨ ∀ c f, h4[z]? ≠ some (.cells c 3 f) := by
        intro z hz
        simp only [List.mem_singleton] at hz
        subst hz
        right
        intro c f e
        exact other_type e hcur (by decide) rfl
      have hside : ∀ z ∈ [sb2], z ∉ tX t nb lb ob opv2 outv2 ∧ h0.size ≤ z ∧ ∀ c f, h4[z]? ≠ some (.cells c 3 f) := by
        intro z hz
        simp only [List.mem_singleton] at hz
        subst hz
        exact ⟨hsZ, hcl3, fun c f e => other_type e hcur (by decide) rfl⟩
      have T5 : isT h0 h5 t n nb lb ob (ptr g 0) of opv2 outv2 σ3 := Q.T.aside kb5 hside
      have F5 : ∀ f ∈ fs ++ [(v, sl ob' (slOff oo 1 1 oc) rest.length (oc - 1), rest)], IntsA (wX nb lb opv2) h5 f.2.1 (nats f.2.2) := by
        intro f hf
        rcases List.mem_append.1 hf with hf | hf
        · exact (Q.F f (List.mem_append_left _ hf)).kb kb5 hsT
        · simp only [List.mem_singleton] at hf
          subst hf
          have h6 : IntsA (wX nb lb opv2) h4 (sl ob' oo ((m' : Nat) :: nats rest : List Int).length oc) ((m' : Nat) :: nats rest) := by
            have := hIo
            simp only [nats, List.map_cons, List.length_cons, List.length_map] at this ⊢
            exact this
          have h7 := h6.tail
          rw [nats_len] at h7
          exact h7.kb kb5 hsT
      have t3' : hcell h5 t 3 = some (sl nb 0 n n) := by simp [hcell, T5.blk]
      have t4' : hcell h5 t 4 = some (sl lb 0 n n) := by simp [hcell, T5.blk]
      have t5' : hcell h5 t 5 = some (sl ob 0 n n) := by simp [hcell, T5.blk]
      have cn := arrI_cell T5.num hm'n
      have co := arrB_cell T5.on hm'n
      have hopl := Q.I.op_len
      have hCn := Q.C
      by_cases hw' : σ3.num m' = 0
      · -- a node that was not met
        have hz : ((σ3.num m' : Nat) : Int) = 0 := by omega
        simp (disch := omega) only [↓SS, A, Nat.reduceEqDiff, Int.reduceToNat, Int.cast_ofNat_Int, Int.reduceSub, Int.reduceAdd, Nat.reduceAdd, Nat.reduceMul, Nat.reduceSub, ↓reduceIte, rd_eq, TyT, t3', cn, hz]
        refine vcall_mk (enter_ok tb gq T5 hm'n (by omega) (by omega) ((v, rest) :: fstk fs)) ?_
        rintro _ h6 ⟨ov6, opv6, rfl, q6, io6, v61, v62, kb6, hX6⟩
        have I6 := Q.I.enter hEd hw' hm'n (s := (v, rest) :: fstk fs) (.inr ⟨v, rest, fstk fs, hK, rfl⟩)
        have W6 := Tar.whites_enter (E := ed E of) (s := (v, rest) :: fstk fs) hm'n hw'
        have P6 := Tar.phi_enter (E := ed E of) (n := n) hm'n hw' hK
        have hb6 : ∀ b ∈ tX t nb lb ob opv6 outv2, b ∈ tX t nb lb ob opv2 outv2 ∨ h5.size ≤ b := by
          intro b hb
          simp only [tX, List.mem_cons, List.mem_append] at hb ⊢
          rcases hb with hb | hb | hb | hb
          · exact .inl (.inl hb)
          · exact .inl (.inr (.inl hb))
          · exact .inl (.inr (.inr (.inl hb)))
          · rcases hX6 b hb with h9 | h9
            · exact .inl (.inr (.inr (.inr h9)))
            · exact .inr h9
        have e5' : h5[sb2]? = some (.cells (setL cur (fs.length * 2 + 1) [sl ob' (slOff oo 1 1 oc) rest.length (oc - 1)]) 185 (0, 0)) := e5
        have hs5 := Ge.lt e5'
        have hsZ6 : sb2 ∉ tX t nb lb ob opv6 outv2 := fun hm => by
          rcases hb6 sb2 hm with h9 | h9
          · exact hsZ h9
          · omega
        have S6 := V.Own.kb S5 kb6 (fun b hb => by simp only [Value.ownBlock, Option.some.injEq] at hb; subst hb; exact hsZ)
        simp (disch := omega) only [↓SS, A, Nat.reduceEqDiff, Int.reduceToNat, Int.cast_ofNat_Int, Int.reduceSub, Int.reduceAdd, Nat.reduceAdd, Nat.reduceMul, Nat.reduceSub, ↓reduceIte, rd_eq, TyT]
        refine vbs_one elFr (by simp [Value.cells]) rfl (by omega) (by omega) ?_
        have hcc6 : (Value.agg #[.int .i64 (m' : Nat), ov6]).cells = #[.int .i64 (m' : Nat), ov6] := rfl
        rw [hcc6]
        have g7 : Ge h6 (h6.push (.cells #[.int .i64 (m' : Nat), ov6] 185)) := Ge.push _ _
        have e7 : (h6.push (.cells #[.int .i64 (m' : Nat), ov6] 185))[h6.size]? = some (.cells #[.int .i64 (m' : Nat), ov6] 185 (0, 0)) := push_new _ _
        generalize h6.push (.cells #[.int .i64 (m' : Nat), ov6] 185) = h7 at *
        generalize h6.size = nk at *
        have q7 := q6.mono g7
        have S7 := S6.ge g7
        simp (disch := omega) only [↓SS, A, Nat.reduceEqDiff, Int.reduceToNat, Int.cast_ofNat_Int, Int.reduceSub, Int.reduceAdd, Nat.reduceAdd, Nat.reduceMul, Nat.reduceSub, ↓reduceIte, rd_eq, TyT]
        refine vapp_own' elFr rfl (by omega) S7 (rdRow_blk e7 (by simp)) (by simp [v62]; rfl) (by omega) (by omega) q7.ge.size ?_
        intro sv8 h8 S8 gr8 hn8 hnew8
        have kb8 : Kb [sb2] h7 h8 := (Kb.refl _ _).grow gr8 (fun k hk => by simp only [Value.ownBlock, Option.some.injEq] at hk; left; simp [hk])
        have hs7 : h7[sb2]? = some (.cells (setL cur (fs.length * 2 + 1) [sl ob' (slOff oo 1 1 oc) rest.length (oc - 1)]) 185 (0, 0)) := g7.lookup (kb6.lookup e5' hsZ)
        have q8 := q7.aside kb8 (fun z hz => by
          simp only [List.mem_singleton] at hz
          subst hz
          exact ⟨hsZ6, hcl3, fun c f e => other_type e hs7 (by decide) rfl⟩)
        have hs7T : ∀ z ∈ [sb2], z ∈ wX nb lb opv6 ∨ ∀ c f, h7[z]? ≠ some (.cells c 3 f) := fun z hz => by
          simp only [List.mem_singleton] at hz
          subst hz
          exact .inr fun c f e => other_type e hs7 (by decide) rfl
        simp (disch := omega) only [↓SS, A, Nat.reduceEqDiff, Int.reduceToNat, Int.cast_ofNat_Int, Int.reduceSub, Int.reduceAdd, Nat.reduceAdd, Nat.reduceMul, Nat.reduceSub, ↓reduceIte, rd_eq, TyT]
        refine ⟨_, Nat.lt_of_lt_of_le P6 hphi, _, (by simp only [↓SS, Nat.reduceEqDiff, Int.reduceToNat, Int.cast_ofNat_Int, Int.reduceSub, Int.reduceAdd, Nat.reduceAdd, Nat.reduceMul, Nat.reduceSub, ↓reduceIte, rd_eq, Int.natCast_add, Int.cast_ofNat_Int]), opv6, outv2, sv8, _, (fs ++ [(v, sl ob' (slOff oo 1 1 oc) rest.length (oc - 1), rest)]) ++ [(m', ov6, Tar.succ n (ed E of) m')], rfl, rfl, ⟨q8, ?_, ?_, ?_, I6, ?_⟩, ?_⟩
        · have : ((fs ++ [(v, sl ob' (slOff oo 1 1 oc) rest.length (oc - 1), rest)]) ++ [(m', ov6, Tar.succ n (ed E of) m')]).length = fs.length + 1 + 1 := by simp
          rw [this, frows_snoc]
          exact S8
        · intro f hf
          rcases List.mem_append.1 hf with hf | hf
          · have h9 : IntsA (wX nb lb opv2) h6 f.2.1 (nats f.2.2) := (F5 f hf).kb kb6 T5.tint
            have h10 : IntsA (wX nb lb opv6) h5 f.2.1 (nats f.2.2) := (F5 f hf).more hX6
            have h11 : IntsA (wX nb lb opv2 ++ wX nb lb opv6) h5 f.2.1 (nats f.2.2) := (F5 f hf).more (fun b hb => by
              rcases List.mem_append.1 hb with hb | hb
              · exact .inl hb
              · exact hX6 b hb)
            have h12 : IntsA (wX nb lb opv2 ++ wX nb lb opv6) h6 f.2.1 (nats f.2.2) := h11.kb kb6 (fun z hz => by
              rcases T5.tint z hz with h | h
              · exact .inl (List.mem_append_left _ h)
              · exact .inr h)
            have h13 : IntsA (wX nb lb opv6) h6 f.2.1 (nats f.2.2) := h12.more (fun b hb => .inl (List.mem_append_right _ hb))
            exact (h13.ge g7).kb kb8 hs7T
          · simp only [List.mem_singleton] at hf
            subst hf
            exact (io6.ge g7).kb kb8 hs7T
        · rw [fstk_snoc, fstk_snoc]; rfl
        · show σ3.next + 1 + _ ≤ n
          omega
        · intro x hx
          have := hmn x hx
          show Tar.upd σ3.num m' (σ3.next + 1) x ≠ 0
          unfold Tar.upd
          split
          · omega
          · exact this
      · -- a node that was met
        have hz : ¬ ((σ3.num m' : Nat) : Int) = 0 := by omega
        have IL := Q.I.look hK hw'
        have PL := Tar.phi_look (E := ed E of) (n := n) hK
        have CL : (Tar.look σ3 v m' rest (fstk fs)).next + Tar.whites n (Tar.look σ3 v m' rest (fstk fs)) ≤ n := Q.C
        have KL : (Tar.look σ3 v m' rest (fstk fs)).stk = fstk (fs ++ [(v, sl ob' (slOff oo 1 1 oc) rest.length (oc - 1), rest)]) := by rw [fstk_snoc]; rfl
        cases hon : σ3.on m' with
        | false =>
          have e : Tar.look σ3 v m' rest (fstk fs) = { σ3 with stk := (v, rest) :: fstk fs } := by simp [Tar.look, hon]
          rw [hon] at co
          simp (disch := omega) only [↓SS, A, Nat.reduceEqDiff, Int.reduceToNat, Int.cast_ofNat_Int, Int.reduceSub, Int.reduceAdd, Nat.reduceAdd, Nat.reduceMul, Nat.reduceSub, ↓reduceIte, rd_eq, TyT, t3', cn, hz, t5', co]
          refine ⟨rest.length, by simp, _, (by simp only [↓SS, Nat.reduceEqDiff, Int.reduceToNat, Int.cast_ofNat_Int, Int.reduceSub, Int.reduceAdd, Nat.reduceAdd, Nat.reduceMul, Nat.reduceSub, ↓reduceIte, rd_eq, Int.natCast_add, Int.cast_ofNat_Int]), Tar.look σ3 v m' rest (fstk fs), _, rest, rfl, rfl, ⟨?_, by rw [hl]; exact S5, F5, KL, IL, CL⟩, by omega, hmn⟩
          rw [e]
          exact T5.stk _
        | true =>
          have e : Tar.look σ3 v m' rest (fstk fs) = { σ3 with low := Tar.upd σ3.low v (min (σ3.low v) (σ3.num m')), stk := (v, rest) :: fstk fs } := by simp [Tar.look, hon]
          rw [hon] at co
          have cl := arrI_cell T5.low hvn
          have cv : hcell h5 sb2 (fs.length * 2 + 0) = some (.int .i64 (v : Nat)) := S5.cell frows_at.1
          have o1 : V.outb [lb] t := by simp only [V.outb, List.mem_singleton]; exact other_type T5.blk T5.low (by decide)
          have o2 : V.outb [lb] sb2 := by simp only [V.outb, List.mem_singleton]; rintro rfl; exact hsZ (by simp [tX, wX])
          have o3 : V.outb [lb] nb := by simp only [V.outb, List.mem_singleton]; exact T5.ne.1
          have hmin : (if ((σ3.num m' : Nat) : Int) < ((σ3.low v : Nat) : Int) then ((σ3.num m' : Nat) : Int) else ((σ3.low v : Nat) : Int)) = ((min (σ3.low v) (σ3.num m') : Nat) : Int) := by split <;> omega
          simp (disch := omega) only [↓SS, A, Nat.reduceEqDiff, Int.reduceToNat, Int.cast_ofNat_Int, Int.reduceSub, Int.reduceAdd, Nat.reduceAdd, Nat.reduceMul, Nat.reduceSub, ↓reduceIte, rd_eq, TyT, t3', cn, hz, t5', co]
          refine vdraw_fork [lb] (.line [(0, 0), (1, 0), (2, 0), (3, 1), (4, 0), (5, 0), (6, 0), (7, 1), (8, 0), (9, 0), (10, 0), (11, 1), (12, 0), (13, 0), (14, 0), (15, 1), (16, 0), (18, 0), (19, 0), (20, 0), (21, 1), (22, 0), (23, 0), (24, 1), (17, 2), (25, 0), (26, 0), (27, 2)]) mixed (by kernel_rfl) ?_
          simp (disch := omega) only [↓SS, A, Nat.reduceEqDiff, Int.reduceToNat, Int.cast_ofNat_Int, Int.reduceSub, Int.reduceAdd, Nat.reduceAdd, Nat.reduceMul, Nat.reduceSub, ↓reduceIte, rd_eq, TyT, t3', t4', cn, cv, cl, o1, o2, o3]
          refine ⟨Kb.refl _ _, ?_⟩
          simp (disch := omega) only [↓SS, A, Nat.reduceEqDiff, Int.reduceToNat, Int.cast_ofNat_Int, Int.reduceSub, Int.reduceAdd, Nat.reduceAdd, Nat.reduceMul, Nat.reduceSub, ↓reduceIte, rd_eq, TyT, hmin]
          refine vst_up rfl rfl T5.low (by simp [Value.cells, arrV_size]; omega) ?_
          intro h6 e6 up6
          refine ⟨(Kb.refl _ _).up up6 (.inl (by simp)), ?_⟩
          have T6 := T5.lowSet hvn up6 e6
          have kb6 : Kb [lb] h5 h6 := (Kb.refl _ _).up up6 (.inl (by simp))
          have hlbT : ∀ z ∈ [lb], z ∈ wX nb lb opv2 ∨ ∀ c f, h5[z]? ≠ some (.cells c 3 f) := fun z hz => by
            simp only [List.mem_singleton] at hz
            subst hz
            exact .inl (by simp [wX])
          have S6 := V.Own.kb S5 kb6 (fun b hb => by
            simp only [Value.ownBlock, Option.some.injEq] at hb
            subst hb
            exact o2)
          simp (disch := omega) only [↓SS, A, Nat.reduceEqDiff, Int.reduceToNat, Int.cast_ofNat_Int, Int.reduceSub, Int.reduceAdd, Nat.reduceAdd, Nat.reduceMul, Nat.reduceSub, ↓reduceIte, rd_eq, TyT]
          refine ⟨rest.length, by simp, _, (by simp only [↓SS, Nat.reduceEqDiff, Int.reduceToNat, Int.cast_ofNat_Int, Int.reduceSub, Int.reduceAdd, Nat.reduceAdd, Nat.reduceMul, Nat.reduceSub, ↓reduceIte, rd_eq, Int.natCast_add, Int.cast_ofNat_Int]), Tar.look σ3 v m' rest (fstk fs), _, rest, rfl, rfl, ⟨?_, by rw [hl]; exact S6, fun f hf => (F5 f hf).kb kb6 hlbT, KL, IL, CL⟩, by omega, hmn⟩
          rw [e]
          exact T6.stk _
    | nil =>
      have hn0 : ov = ov := rfl
      obtain ⟨oa, oc, hov, _⟩ := hIo.r
      simp only [nats, List.map_nil, List.length_nil] at hov
      subst hov
      have hopl := Q.I.op_len
      have hCn := Q.C
      have hPhi := fun σ' hn hs => Tar.phi_leave (E := ed E of) (n := n) (σ := σ3) (σ' := σ') hK hn hs
      simp (disch := omega) only [↓SS, A, Nat.reduceEqDiff, Int.reduceToNat, Int.cast_ofNat_Int, Int.reduceSub, Int.reduceAdd, Nat.reduceAdd, Nat.reduceMul, Nat.reduceSub, ↓reduceIte, rd_eq, TyT, hv1, hv0]
      have hleave : Ct Tryd.prog 109 [ptr t 0, .int .i64 (v : Nat)] h4 fun r h' => r = .tuple #[] ∧ ∃ opv5 outv5 σ5, isT h0 h' t n nb lb ob (ptr g 0) of opv5 outv5 σ5 ∧ Kb (tX t nb lb ob opv2 outv2) h4 h' ∧
          (∀ b ∈ wX nb lb opv5, b ∈ wX nb lb opv2) ∧ σ5.low = σ3.low ∧ σ5.num = σ3.num ∧ σ5.next = σ3.next ∧ Tar.Inv n (ed E of) { σ5 with low := Tar.lowUp σ3.low v (fstk fs), stk := fstk fs } := by
        by_cases hle : σ3.low v = σ3.num v
        · -- a component
          obtain ⟨pre, c', hop, hpre⟩ := Q.I.split hvop
          refine (leave_b Q.T hvn hle hop hpre (fun x hx => Q.I.a3 x (Q.I.op2 x (by rw [hop]; exact List.mem_append_right _ hx))) (by omega) (by have := Q.I.out_len; omega)).mono ?_
          rintro _ h5 ⟨rfl, opv5, outv5, T5, kb5, hX5⟩
          refine ⟨rfl, opv5, outv5, _, T5, kb5, hX5, rfl, rfl, rfl, ?_⟩
          have hcn : (v :: c').Nodup := by
            have := Q.I.op_nodup
            rw [hop, List.nodup_append] at this
            exact this.2.1
          exact Q.I.leaveB hK hle hop rfl (sortN_perm _) (sortN_sorted _ hcn)
        · refine (leave_a Q.T hvn hle).mono ?_
          rintro _ _ ⟨rfl, rfl⟩
          exact ⟨rfl, opv2, outv2, σ3, Q.T, Kb.refl _ _, fun b hb => hb, rfl, rfl, rfl, (Q.I.leaveA hK hle).1⟩
      refine vcall_mk hleave ?_
      rintro _ h5 ⟨rfl, opv5, outv5, σ5, T5, kb5, hX5, el, en, ex, I5⟩
      have hsZ : sb2 ∉ tX t nb lb ob opv2 outv2 := Q.sout rfl
      have S5 := V.Own.kb hS kb5 (fun b hb => by simp only [Value.ownBlock, Option.some.injEq] at hb; subst hb; exact hsZ)
      have cut5 := S5.cut (m := fs.length) (by omega)
      have etake : (frows (fs ++ [(v, .slice oa 0 oc, [])])).take (fs.length * 2) = frows fs := by
        rw [frows_snoc, List.take_append_of_le_length (by rw [frows_len]; omega), List.take_of_length_le (by rw [frows_len]; omega)]
      rw [etake] at cut5
      have cv5 : hcell h5 sb2 (fs.length * 2 + 0) = some (.int .i64 (v : Nat)) := kb5.cell hv0 hsZ
      have F5 : ∀ f ∈ fs, IntsA (wX nb lb opv5) h5 f.2.1 (nats f.2.2) := fun f hf => ((Q.F f (List.mem_append_left _ hf)).kb kb5 Q.T.tint).more (fun b hb => .inl (hX5 b hb))
      have C5 : ∀ (l : Nat → Nat) (s : List (Nat × List Nat)), ({ σ5 with low := l, stk := s } : Tar.St).next + Tar.whites n { σ5 with low := l, stk := s } ≤ n := by
        intro l s
        show σ5.next + ((List.range n).countP fun x => σ5.num x == 0) ≤ n
        rw [ex, en]; exact hCn
      have P5 := hPhi { σ5 with low := Tar.lowUp σ3.low v (fstk fs), stk := fstk fs } en rfl
      have M5 : ∀ x, σ1.num x ≠ 0 → ({ σ5 with low := Tar.lowUp σ3.low v (fstk fs), stk := fstk fs } : Tar.St).num x ≠ 0 := by
        intro x hx
        show σ5.num x ≠ 0
        rw [en]; exact hmn x hx
      rcases List.eq_nil_or_concat fs with hfs | ⟨fs2, ⟨u, ou, ru⟩, hfs⟩
      · have hfl : fs.length = 0 := by rw [hfs]; rfl
        simp (disch := omega) only [↓SS, A, Nat.reduceEqDiff, Int.reduceToNat, Int.cast_ofNat_Int, Int.reduceSub, Int.reduceAdd, Nat.reduceAdd, Nat.reduceMul, Nat.reduceSub, ↓reduceIte, rd_eq, TyT, hidx]
        refine ⟨_, Nat.lt_of_lt_of_le P5 hphi, _, (by simp only [↓SS, Nat.reduceEqDiff, Int.reduceToNat, Int.cast_ofNat_Int, Int.reduceSub, Int.reduceAdd, Nat.reduceAdd, Nat.reduceMul, Nat.reduceSub, ↓reduceIte, rd_eq, Int.natCast_add, Int.cast_ofNat_Int]), opv5, outv5, sl sb2 0 fs.length cap2, _, fs, rfl, rfl, ⟨?_, cut5, F5, rfl, I5, C5 _ _⟩, M5⟩
        have e : ({ σ5 with low := Tar.lowUp σ3.low v (fstk fs), stk := fstk fs } : Tar.St) = { σ5 with stk := fstk fs } := by
          rw [hfs]
          show ({ σ5 with low := σ3.low, stk := fstk [] } : Tar.St) = _
          rw [← el]
        rw [e]
        exact T5.stk _
      · rw [List.concat_eq_append] at hfs
        have hfl : fs.length = fs2.length + 1 := by rw [hfs]; simp
        have hidx2 : (((fs.length : Nat) : Int) - 1).toNat = fs2.length := by omega
        have cu5 : hcell h5 sb2 (fs2.length * 2 + 0) = some (.int .i64 (u : Nat)) := by
          have := cut5
          rw [hfs] at this
          exact this.cell frows_at.1
        have huop : u ∈ σ3.op := Q.I.st2 (u, ru) (by rw [hK, hfs, fstk_snoc]; simp)
        have hun : u < n := Q.I.a3 u (Q.I.op2 u huop)
        have t4' : hcell h5 t 4 = some (sl lb 0 n n) := by simp [hcell, T5.blk]
        have clu := arrI_cell T5.low hun
        have clv := arrI_cell T5.low hvn
        have hs5 : ∃ cur, h5[sb2]? = some (.cells cur 185 (0, 0)) := ⟨_, kb5.lookup hcur hsZ⟩
        have o1 : V.outb [lb] t := by simp only [V.outb, List.mem_singleton]; exact other_type T5.blk T5.low (by decide)
        have o2 : V.outb [lb] sb2 := by
          obtain ⟨cur5, hcur5⟩ := hs5
          simp only [V.outb, List.mem_singleton]
          exact other_type hcur5 T5.low (by decide)
        have hmin : (if ((σ5.low v : Nat) : Int) < ((σ5.low u : Nat) : Int) then ((σ5.low v : Nat) : Int) else ((σ5.low u : Nat) : Int)) = ((min (σ5.low u) (σ5.low v) : Nat) : Int) := by split <;> omega
        simp (disch := omega) only [↓SS, A, Nat.reduceEqDiff, Int.reduceToNat, Int.cast_ofNat_Int, Int.reduceSub, Int.reduceAdd, Nat.reduceAdd, Nat.reduceMul, Nat.reduceSub, ↓reduceIte, rd_eq, TyT, hidx, hidx2, cu5]
        refine vdraw_cut (fun s h' => s = [(4, sl sb2 0 fs.length cap2), (0, ptr t 0)] ∧ Up h5 h' lb ∧ h'[lb]? = some (.cells (setL (arrI n fun m => (σ5.low m : Nat)) u [.int .i64 (min (σ5.low u) (σ5.low v) : Nat)]) 3 (0, 0))) (by repeat' first | exact vround_mono _ _ | exact vend_mono _ _ | exact vexit_mono _ _ | refine vc_mono _ ?_ ?_ | refine inB_mono ?_ ?_ | refine jmp_mono ?_ ?_ | refine vl_mono ?_ _) ?_ ?_
        · refine vdraw_fork [lb] (.fork [(0, 0), (1, 0), (2, 0), (3, 1), (4, 0), (5, 0), (6, 0), (7, 0), (8, 1), (9, 0), (10, 0), (12, 0), (13, 0), (14, 0), (15, 1), (16, 0), (17, 0), (18, 0), (19, 1), (20, 0)] 11 21 (.line [(21, 2), (22, 0), (23, 0), (24, 2)]) (.line [(11, 2), (22, 0), (23, 0), (24, 2)])) mixed (by kernel_rfl) ?_
          simp (disch := omega) only [↓SS, A, Nat.reduceEqDiff, Int.reduceToNat, Int.cast_ofNat_Int, Int.reduceSub, Int.reduceAdd, Nat.reduceAdd, Nat.reduceMul, Nat.reduceSub, ↓reduceIte, rd_eq, TyT, t4', cv5, clu, clv, o1, o2]
          refine ⟨⟨Kb.refl _ _, ?_⟩, ⟨Kb.refl _ _, ?_⟩⟩
          · simp (disch := omega) only [↓SS, A, Nat.reduceEqDiff, Int.reduceToNat, Int.cast_ofNat_Int, Int.reduceSub, Int.reduceAdd, Nat.reduceAdd, Nat.reduceMul, Nat.reduceSub, ↓reduceIte, rd_eq, TyT, clv]
            refine ⟨Kb.refl _ _, ?_⟩
            simp (disch := omega) only [↓SS, A, Nat.reduceEqDiff, Int.reduceToNat, Int.cast_ofNat_Int, Int.reduceSub, Int.reduceAdd, Nat.reduceAdd, Nat.reduceMul, Nat.reduceSub, ↓reduceIte, rd_eq, TyT, hmin]
            refine vst_up rfl rfl T5.low (by simp [Value.cells, arrV_size]; omega) ?_
            intro h6 e6 up6
            refine ⟨(Kb.refl _ _).up up6 (.inl (by simp)), ?_⟩
            simp (disch := omega) only [↓SS, A, Nat.reduceEqDiff, Int.reduceToNat, Int.cast_ofNat_Int, Int.reduceSub, Int.reduceAdd, Nat.reduceAdd, Nat.reduceMul, Nat.reduceSub, ↓reduceIte, rd_eq, TyT]
            exact ⟨_, (by simp only [↓SS, Nat.reduceEqDiff, Int.reduceToNat, Int.cast_ofNat_Int, Int.reduceSub, Int.reduceAdd, Nat.reduceAdd, Nat.reduceMul, Nat.reduceSub, ↓reduceIte, rd_eq, Int.natCast_add, Int.cast_ofNat_Int]), rfl, up6, e6⟩
          · simp (disch := omega) only [↓SS, A, Nat.reduceEqDiff, Int.reduceToNat, Int.cast_ofNat_Int, Int.reduceSub, Int.reduceAdd, Nat.reduceAdd, Nat.reduceMul, Nat.reduceSub, ↓reduceIte, rd_eq, TyT, clu]
            refine ⟨Kb.refl _ _, ?_⟩
            simp (disch := omega) only [↓SS, A, Nat.reduceEqDiff, Int.reduceToNat, Int.cast_ofNat_Int, Int.reduceSub, Int.reduceAdd, Nat.reduceAdd, Nat.reduceMul, Nat.reduceSub, ↓reduceIte, rd_eq, TyT, hmin]
            refine vst_up rfl rfl T5.low (by simp [Value.cells, arrV_size]; omega) ?_
            intro h6 e6 up6
            refine ⟨(Kb.refl _ _).up up6 (.inl (by simp)), ?_⟩
            simp (disch := omega) only [↓SS, A, Nat.reduceEqDiff, Int.reduceToNat, Int.cast_ofNat_Int, Int.reduceSub, Int.reduceAdd, Nat.reduceAdd, Nat.reduceMul, Nat.reduceSub, ↓reduceIte, rd_eq, TyT]
            exact ⟨_, (by simp only [↓SS, Nat.reduceEqDiff, Int.reduceToNat, Int.cast_ofNat_Int, Int.reduceSub, Int.reduceAdd, Nat.reduceAdd, Nat.reduceMul, Nat.reduceSub, ↓reduceIte, rd_eq, Int.natCast_add, Int.cast_ofNat_Int]), rfl, up6, e6⟩
        · rintro s h6 ⟨rfl, up6, e6⟩
          have T6 := T5.lowSet hun up6 e6
          have kb6 : Kb [lb] h5 h6 := (Kb.refl _ _).up up6 (.inl (by simp))
          have S6 := V.Own.kb cut5 kb6 (fun b hb => by
            simp only [Value.ownBlock, Option.some.injEq] at hb
            subst hb
            exact o2)
          have hlbT : ∀ z ∈ [lb], z ∈ wX nb lb opv5 ∨ ∀ c f, h5[z]? ≠ some (.cells c 3 f) := fun z hz => by
            simp only [List.mem_singleton] at hz
            subst hz
            exact .inl (by simp [wX])
          refine ⟨_, Nat.lt_of_lt_of_le P5 hphi, _, (by simp only [↓SS, Nat.reduceEqDiff, Int.reduceToNat, Int.cast_ofNat_Int, Int.reduceSub, Int.reduceAdd, Nat.reduceAdd, Nat.reduceMul, Nat.reduceSub, ↓reduceIte, rd_eq, Int.natCast_add, Int.cast_ofNat_Int]), opv5, outv5, sl sb2 0 fs.length cap2, _, fs, rfl, rfl, ⟨?_, S6, fun f hf => (F5 f hf).kb kb6 hlbT, rfl, I5, C5 _ _⟩, M5⟩
          have e : ({ σ5 with low := Tar.lowUp σ3.low v (fstk fs), stk := fstk fs } : Tar.St) = { σ5 with low := Tar.upd σ5.low u (min (σ5.low u) (σ5.low v)), stk := fstk fs } := by
            rw [hfs, fstk_snoc, el]; rfl
          rw [e]
          exact T6.stk _
end Go.Proofs.YtgfljbplccekcaaDoor
