/-
  assayerlaw07.CompsRing, as a contract; conditions: the table of math/bits lies in memory.
-/
import Derived.Test.YtgfljbplccekcaaDoorRing
set_option linter.unusedSimpArgs false
set_option linter.unusedVariables false
set_option maxRecDepth 100000
namespace Go.Proofs.YtgfljbplccekcaaDoor
open Go Go.V Go.Low

theorem isG.kb2 {h h' : Heap} {g n : Nat} {vs : Nat → Value} {L : Nat → List (Nat × Nat)} {E : Nat → Nat → Nat → Bool} (q : isG h g n vs L E) {X : List Nat} (kb : Kb X h h') (hX : ∀ b ∈ X, (∃ c f, h[b]? = some (.cells c 192 f)) ∧ b ∉ wl L) : isG h' g n vs L E := by
  have key : ∀ {b : Nat} {c : Array Value} {t : Nat} {f : Nat × Nat}, h[b]? = some (.cells c t f) → t ≠ 192 → b ∉ X := by
    intro b c t f hb ht hm
    obtain ⟨⟨c', f', hb'⟩, _⟩ := hX b hm
    rw [hb] at hb'
    simp only [Option.some.injEq, Obj.cells.injEq] at hb'
    exact ht hb'.2.1
  refine ⟨kb.lookup q.blk (key q.blk (by decide)), q.le, fun i hi => V.Own.kb (q.row i hi) kb (fun b hb => ?_), q.len, fun i u p hi hp => ?_, q.inj⟩
  · obtain ⟨_, cur, hc⟩ := Own.blk (q.row i hi) hb
    exact key hc (by decide)
  · obtain ⟨ws, h1, h2⟩ := q.set i u p hi hp
    exact ⟨ws, h1.kb kb (key h1.blk (by decide)) (fun hm => (hX _ hm).2 (mem_wl.2 ⟨i, hi, p, List.mem_of_getElem? hp, rfl⟩)), h2⟩
theorem lbit_one (i : Nat) : lbit 1 i = decide (i = 0) := by
  rw [show (1 : Int) = ((1 : Nat) : Int) from rfl, lbit_nat]
  cases i with
  | zero => rfl
  | succ i => simp [Nat.testBit_succ]
theorem lbit_two (i : Nat) : lbit 2 i = decide (i = 1) := by
  rw [show (2 : Int) = ((2 : Nat) : Int) from rfl, lbit_nat]
  match i with
  | 0 => rfl
  | 1 => rfl
  | i + 2 => simp [Nat.testBit_succ]
/-- the edges of the first j numbers, but for those without -/
def rE1 (n j : Nat) (out : Nat → Bool) : Nat → Nat → Nat → Bool := fun i u k => decide (i = 0) && decide (u < j) && decide (k = (u + 1) % n) && !out u
theorem rE1_add {n j : Nat} {out : Nat → Bool} (ho : out j = false) : addE (rE1 n j out) j ((j + 1) % n) 1 4 = rE1 n (j + 1) out := by
  funext i u k
  unfold addE rE1
  rw [lbit_one]
  rw [Bool.eq_iff_iff]
  simp only [Bool.or_eq_true, Bool.and_eq_true, decide_eq_true_eq, Bool.not_eq_true']
  constructor
  · rintro (⟨⟨⟨rfl, h1⟩, h2⟩, h3⟩ | ⟨⟨⟨_, rfl⟩, rfl⟩, rfl⟩)
    · exact ⟨⟨⟨rfl, by omega⟩, h2⟩, h3⟩
    · exact ⟨⟨⟨rfl, by omega⟩, rfl⟩, ho⟩
  · rintro ⟨⟨⟨rfl, h1⟩, h2⟩, h3⟩
    rcases Nat.lt_or_ge u j with h | h
    · exact .inl ⟨⟨⟨rfl, h⟩, h2⟩, h3⟩
    · obtain rfl : u = j := by omega
      exact .inr ⟨⟨⟨by omega, rfl⟩, rfl⟩, h2⟩
theorem rE1_skip {n j : Nat} {out : Nat → Bool} (ho : out j = true) : rE1 n j out = rE1 n (j + 1) out := by
  funext i u k
  unfold rE1
  by_cases e : u = j
  · subst e; simp [ho]
  · have : decide (u < j) = decide (u < j + 1) := decide_eq_decide.2 (by omega)
    rw [this]
theorem ed_ring (n : Nat) : ed (rE1 n n fun _ => false) 1 = Tar.ring n := by
  funext u k
  rw [Bool.eq_iff_iff]
  show (List.range 4).any _ = true ↔ _
  rw [List.any_eq_true, Tar.ring_iff]
  simp only [lbit_one, rE1, Bool.and_eq_true, decide_eq_true_eq, List.mem_range]
  constructor
  · rintro ⟨i, _, _, ⟨⟨_, h1⟩, h2⟩, _⟩; exact ⟨h1, h2⟩
  · rintro ⟨h1, h2⟩; exact ⟨0, by omega, rfl, ⟨⟨rfl, h1⟩, h2⟩, rfl⟩
theorem ed_cut (n c : Nat) : ed (rE1 n n fun u => decide (u = c)) 1 = Tar.cutr n c := by
  funext u k
  rw [Bool.eq_iff_iff]
  show (List.range 4).any _ = true ↔ _
  rw [List.any_eq_true, Tar.cutr_iff]
  simp only [lbit_one, rE1, Bool.and_eq_true, decide_eq_true_eq, List.mem_range, Bool.not_eq_true', decide_eq_false_iff_not]
  constructor
  · rintro ⟨i, _, _, ⟨⟨_, h1⟩, h2⟩, h3⟩; exact ⟨h1, h2, h3⟩
  · rintro ⟨h1, h2, h3⟩; exact ⟨0, by omega, rfl, ⟨⟨rfl, h1⟩, h2⟩, h3⟩
theorem ed_two (n : Nat) (out : Nat → Bool) : ∀ x y, ed (rE1 n n out) 2 x y = false := by
  intro x y
  cases h : ed (rE1 n n out) 2 x y with
  | false => rfl
  | true =>
    have h' : (List.range 4).any (fun i => lbit 2 i && rE1 n n out i x y) = true := h
    rw [List.any_eq_true] at h'
    obtain ⟨i, _, h2⟩ := h'
    simp only [lbit_two, rE1, Bool.and_eq_true, decide_eq_true_eq] at h2
    omega
theorem rE1_lt {n : Nat} (hn : 0 < n) {out : Nat → Bool} : ∀ i u k, rE1 n n out i u k = true → k < n := by
  intro i u k h
  simp only [rE1, Bool.and_eq_true, decide_eq_true_eq] at h
  rw [h.1.2]
  exact Nat.mod_lt _ hn
theorem ring_nums (z c : Int) : ∃ n k : Nat, IntKind.i64.wrap (2 + IntKind.i64.wrap ((IntKind.u64.wrap z).tmod 50)) = (n : Nat) ∧ 2 ≤ n ∧ n < 52 ∧ IntKind.i64.wrap ((IntKind.u64.wrap c).tmod ((n : Nat) : Int)) = (k : Nat) ∧ k < n := by
  have h1 : (IntKind.u64.wrap z).tmod 50 = IntKind.u64.wrap z % 50 := Int.tmod_eq_emod_of_nonneg (u64_nonneg z)
  have h0 := u64_nonneg z
  have hc0 := u64_nonneg c
  have hw : ∀ m : Nat, m < 100 → IntKind.i64.wrap (m : Int) = m ∧ IntKind.u64.wrap (m : Int) = m := by
    intro m hm
    constructor
    · simp only [IntKind.wrap, IntKind.bits, IntKind.signed]; simp; omega
    · simp only [IntKind.wrap, IntKind.bits, IntKind.signed]; simp; omega
  obtain ⟨m, hm⟩ : ∃ m : Nat, IntKind.u64.wrap z % 50 = m := ⟨(IntKind.u64.wrap z % 50).toNat, by omega⟩
  have hm50 : m < 50 := by omega
  refine ⟨2 + m, ((IntKind.u64.wrap c) % ((2 + m : Nat) : Int)).toNat, ?_, by omega, by omega, ?_, ?_⟩
  · rw [h1, hm, (hw m (by omega)).1]
    rw [show (2 : Int) + (m : Int) = ((2 + m : Nat) : Int) by omega, (hw (2 + m) (by omega)).1]
  · rw [Int.tmod_eq_emod_of_nonneg hc0]
    have hp : (0 : Int) < ((2 + m : Nat) : Int) := by omega
    have a1 := Int.emod_nonneg (IntKind.u64.wrap c) (Int.ne_of_gt hp)
    have a2 := Int.emod_lt_of_pos (IntKind.u64.wrap c) hp
    generalize IntKind.u64.wrap c % ((2 + m : Nat) : Int) = r at *
    obtain ⟨r', rfl⟩ : ∃ r' : Nat, r = r' := ⟨r.toNat, by omega⟩
    rw [(hw r' (by omega)).1]; rfl
  · have hp : (0 : Int) < ((2 + m : Nat) : Int) := by omega
    have a2 := Int.emod_lt_of_pos (IntKind.u64.wrap c) hp
    have a1 := Int.emod_nonneg (IntKind.u64.wrap c) (Int.ne_of_gt hp)
    omega
theorem TyR2 : aggT Tryd.prog 51 = some false ∧
  szT Tryd.prog 51 = some 1 ∧
  zeroT Tryd.prog 51 = some (.slice none 0 0) ∧
  slT Tryd.prog 51 = some 1 ∧
  aggT Tryd.prog 23 = some false ∧
  szT Tryd.prog 23 = some 1 ∧
  zeroT Tryd.prog 23 = some (.slice none 0 0) ∧
  slT Tryd.prog 23 = some 1 ∧
  aggT Tryd.prog 3 = some false ∧
  szT Tryd.prog 3 = some 1 ∧
  zeroT Tryd.prog 3 = some (.int .i64 0) ∧
  intT Tryd.prog 3 = some .i64 ∧
  (Tryd.prog.underlying 3).isSome = true ∧
  aggT Tryd.prog 59 = some false ∧
  szT Tryd.prog 59 = some 1 ∧
  zeroT Tryd.prog 59 = some (.int .u64 0) ∧
  intT Tryd.prog 59 = some .u64 ∧
  (Tryd.prog.underlying 59).isSome = true ∧
  aggT Tryd.prog 4 = some false ∧
  szT Tryd.prog 4 = some 1 ∧
  zeroT Tryd.prog 4 = some (.bool false) ∧
  boolT Tryd.prog 4 = true ∧
  aggT Tryd.prog 60 = some false ∧
  szT Tryd.prog 60 = some 1 ∧
  zeroT Tryd.prog 60 = some (.int .i64 0) ∧
  intT Tryd.prog 60 = some .i64 ∧
  (Tryd.prog.underlying 60).isSome = true ∧
  aggT Tryd.prog 46 = some false ∧
  szT Tryd.prog 46 = some 1 ∧
  zeroT Tryd.prog 46 = some (.pointer none) ∧
  ptrT Tryd.prog 46 = true := by
  refine ⟨?_, ?_, ?_, ?_, ?_, ?_, ?_, ?_, ?_, ?_, ?_, ?_, ?_, ?_, ?_, ?_, ?_, ?_, ?_, ?_, ?_, ?_, ?_, ?_, ?_, ?_, ?_, ?_, ?_, ?_, ?_⟩ <;> kernel_rfl
theorem ring_ok {h : Heap} (tb : Tab h) {z c : Int} : Ct Tryd.prog 9 [.int .i64 z, .int .i64 c] h fun v h' => v = .bool true ∧ Ge h h' := by
  obtain ⟨n, k, hn, hn2, hn52, hk, hkn⟩ := ring_nums z c
  refine enter Tryd.func9 (by kernel_rfl) rfl Tryd.results9 (by kernel_rfl) (by kernel_rfl) (init2 _ _) ?_
  simp (disch := omega) only [↓SS, A, Nat.reduceEqDiff, Int.reduceToNat, Int.cast_ofNat_Int, Int.reduceSub, Int.reduceAdd, Nat.reduceAdd, Nat.reduceMul, Nat.reduceSub, ↓reduceIte, rd_eq, TyR2, hn, hk]
  refine vcall_mk (gnew_ok (by omega)) ?_
  rintro _ h1 ⟨g, vs, L, rfl, G1, g1, hg, hw⟩
  simp (disch := omega) only [↓SS, A, Nat.reduceEqDiff, Int.reduceToNat, Int.cast_ofNat_Int, Int.reduceSub, Int.reduceAdd, Nat.reduceAdd, Nat.reduceMul, Nat.reduceSub, ↓reduceIte, rd_eq, TyR2]
  refine vcall_mk (gnew_ok (by omega)) ?_
  rintro _ h2 ⟨y, vs2, L2, rfl, G2, g2, hg2, hw2⟩
  have hapart : ∀ b ∈ wl L, b ∉ wl L2 := fun b hb hb2 => by
    obtain ⟨c, f, hc⟩ := G1.words b hb
    have := Ge.lt hc
    have := hw2 b hb2
    omega
  simp (disch := omega) only [↓SS, A, Nat.reduceEqDiff, Int.reduceToNat, Int.cast_ofNat_Int, Int.reduceSub, Int.reduceAdd, Nat.reduceAdd, Nat.reduceMul, Nat.reduceSub, ↓reduceIte, rd_eq, TyR2]
  have E0 : ∀ out, (fun _ _ _ => false) = rE1 n 0 out := by intro out; funext i u k; simp [rE1]
  refine vloop_mk (fun q fr h' => ∃ j : Nat, j + q = n ∧ fr = [(42, .int .i64 j), (41, .int .i64 n), (7, ptr y 0), (5, ptr g 0), (1, .int .i64 k), (0, .int .i64 n), (4, .bool false)] ∧ Ge h h' ∧
      isG h' g n vs L (rE1 n j fun _ => false) ∧ isG h' y n vs2 L2 (rE1 n j fun u => decide (u = k))) n
    [(42, .int .i64 0), (41, .int .i64 n), (7, ptr y 0), (5, ptr g 0), (1, .int .i64 k), (0, .int .i64 n), (4, .bool false)] (by simp only [↓SS, Nat.reduceEqDiff, Int.reduceToNat, Int.cast_ofNat_Int, Int.reduceSub, Int.reduceAdd, Nat.reduceAdd, Nat.reduceMul, Nat.reduceSub, ↓reduceIte, rd_eq, TyR2]) ⟨0, by omega, rfl, g1.trans g2, by rw [← E0]; exact G1.ge g2, by rw [← E0]; exact G2⟩ ?_
  rintro q _ h3 ⟨j, hjq, rfl, g3, A3, B3⟩
  have hout : ∀ b ∈ wl L, h.size ≤ b := hw
  have hout2 : ∀ b ∈ wl L2, h.size ≤ b := fun b hb => by have := hw2 b hb; have := g1.size; omega
  by_cases hj : j < n
  · have hm1 : (((j : Nat) : Int) + 1).tmod (n : Nat) = (((j + 1) % n : Nat) : Int) := by
      rw [Int.tmod_eq_emod_of_nonneg (by omega)]; push_cast; rfl
    have hlt : (j + 1) % n < n := Nat.mod_lt _ (by omega)
    have hne : j ≠ (j + 1) % n := by
      intro e
      rcases Nat.lt_or_ge (j + 1) n with h | h
      · rw [Nat.mod_eq_of_lt h] at e; omega
      · rw [show j + 1 = n from by omega, Nat.mod_self] at e; omega
    simp (disch := omega) only [↓SS, A, Nat.reduceEqDiff, Int.reduceToNat, Int.cast_ofNat_Int, Int.reduceSub, Int.reduceAdd, Nat.reduceAdd, Nat.reduceMul, Nat.reduceSub, ↓reduceIte, rd_eq, TyR2, hm1]
    refine vcall_mk (gadd_ok (b := (j + 1) % n) A3 hj hlt (by omega) (by omega) hne) ?_
    rintro _ h4 ⟨rfl, A4, kb4, _⟩
    rw [rE1_add rfl] at A4
    have B4 := B3.kb2 kb4 (fun b hb => ⟨A3.words b hb, hapart b hb⟩)
    have g4 : Ge h h4 := ⟨Nat.le_trans g3.size kb4.size, fun z hz => by
      rw [kb4.block z (Nat.lt_of_lt_of_le hz g3.size) (fun hm => by have := hout z hm; omega)]
      exact g3.block z hz⟩
    by_cases hjk : j = k
    · subst hjk
      rw [rE1_skip (by simp)] at B4
      simp (disch := omega) only [↓SS, A, Nat.reduceEqDiff, Int.reduceToNat, Int.cast_ofNat_Int, Int.reduceSub, Int.reduceAdd, Nat.reduceAdd, Nat.reduceMul, Nat.reduceSub, ↓reduceIte, rd_eq, TyR2]
      exact ⟨q - 1, by omega, _, (by simp only [↓SS, Nat.reduceEqDiff, Int.reduceToNat, Int.cast_ofNat_Int, Int.reduceSub, Int.reduceAdd, Nat.reduceAdd, Nat.reduceMul, Nat.reduceSub, ↓reduceIte, rd_eq, Int.natCast_add, Int.cast_ofNat_Int]), j + 1, by omega, rfl, g4, A4, B4⟩
    · have hjk' : ¬ ((j : Nat) : Int) = (k : Nat) := by omega
      simp (disch := omega) only [↓SS, A, Nat.reduceEqDiff, Int.reduceToNat, Int.cast_ofNat_Int, Int.reduceSub, Int.reduceAdd, Nat.reduceAdd, Nat.reduceMul, Nat.reduceSub, ↓reduceIte, rd_eq, TyR2, hjk', hm1]
      refine vcall_mk (gadd_ok (b := (j + 1) % n) B4 hj hlt (by omega) (by omega) hne) ?_
      rintro _ h5 ⟨rfl, B5, kb5, _⟩
      rw [rE1_add (by simp [hjk])] at B5
      have A5 := A4.kb2 kb5 (fun b hb => ⟨B4.words b hb, fun hm => hapart b hm hb⟩)
      have g5 : Ge h h5 := ⟨Nat.le_trans g4.size kb5.size, fun z hz => by
        rw [kb5.block z (Nat.lt_of_lt_of_le hz g4.size) (fun hm => by have := hout2 z hm; omega)]
        exact g4.block z hz⟩
      simp (disch := omega) only [↓SS, A, Nat.reduceEqDiff, Int.reduceToNat, Int.cast_ofNat_Int, Int.reduceSub, Int.reduceAdd, Nat.reduceAdd, Nat.reduceMul, Nat.reduceSub, ↓reduceIte, rd_eq, TyR2]
      exact ⟨q - 1, by omega, _, (by simp only [↓SS, Nat.reduceEqDiff, Int.reduceToNat, Int.cast_ofNat_Int, Int.reduceSub, Int.reduceAdd, Nat.reduceAdd, Nat.reduceMul, Nat.reduceSub, ↓reduceIte, rd_eq, Int.natCast_add, Int.cast_ofNat_Int]), j + 1, by omega, rfl, g5, A5, B5⟩
  · obtain rfl : j = n := by omega
    simp (disch := omega) only [↓SS, A, Nat.reduceEqDiff, Int.reduceToNat, Int.cast_ofNat_Int, Int.reduceSub, Int.reduceAdd, Nat.reduceAdd, Nat.reduceMul, Nat.reduceSub, ↓reduceIte, rd_eq, TyR2]
    have tb3 := tb.ge g3
    refine vcall_mk (order_ok tb3 B3) ?_
    intro r4 h4 ⟨ho4, g4⟩
    rw [ed_cut, Tar.cut_order hn2 hkn] at ho4
    obtain ⟨lv, rfl, ow, _⟩ := ho4
    have hcl : (Tar.chain j k j).length = j := by simp [Tar.chain]
    rw [hcl] at ow
    obtain ⟨la, lc, rfl, _⟩ := ow.form
    simp (disch := omega) only [↓SS, A, Nat.reduceEqDiff, Int.reduceToNat, Int.cast_ofNat_Int, Int.reduceSub, Int.reduceAdd, Nat.reduceAdd, Nat.reduceMul, Nat.reduceSub, ↓reduceIte, rd_eq, TyR2]
    refine vcall_mk (comps_ok (tb3.ge g4) (B3.ge g4) (rE1_lt (by omega))) ?_
    rintro v5 h5 ⟨C, hC, hC1, _, g5⟩
    rw [ed_cut] at hC1
    have hCl := Tar.cut_len hn2 hkn hC1
    obtain ⟨ca, cc, _, rfl, hcc1, hcc2, _⟩ := id hC
    rw [List.length_map, hCl] at hcc1
    rw [List.length_map, hCl]
    simp (disch := omega) only [↓SS, A, Nat.reduceEqDiff, Int.reduceToNat, Int.cast_ofNat_Int, Int.reduceSub, Int.reduceAdd, Nat.reduceAdd, Nat.reduceMul, Nat.reduceSub, ↓reduceIte, rd_eq, TyR2]
    refine vcall_mk (comps_ok ((tb3.ge g4).ge g5) ((A3.ge g4).ge g5) (rE1_lt (by omega))) ?_
    rintro v6 h6 ⟨D, hD, hD1, _, g6⟩
    rw [ed_ring] at hD1
    have hDl := Tar.ring_one (by omega) hD1
    obtain ⟨da, dc, _, rfl, hdc1, hdc2, _⟩ := id hD
    rw [List.length_map, hDl] at hdc1
    rw [List.length_map, hDl]
    simp (disch := omega) only [↓SS, A, Nat.reduceEqDiff, Int.reduceToNat, Int.cast_ofNat_Int, Int.reduceSub, Int.reduceAdd, Nat.reduceAdd, Nat.reduceMul, Nat.reduceSub, ↓reduceIte, rd_eq, TyR2]
    refine vcall_mk (cyclic_ok (((tb3.ge g4).ge g5).ge g6) (((A3.ge g4).ge g5).ge g6)) ?_
    rintro _ h7 ⟨rfl, g7⟩
    have hcy : (Tar.ordF j (ed (rE1 j j fun _ => false) 1) j []).isNone = true := by
      rw [ed_ring]
      have := Tar.ord_comps (fun x y hxy => by
        obtain ⟨h8, h9⟩ := Tar.ring_iff.1 hxy
        exact ⟨h8, by rw [h9]; exact Nat.mod_lt _ (by omega)⟩) (Tar.ring_irr hn2) hD1
      cases hO : Tar.ordF j (Tar.ring j) j [] with
      | none => rfl
      | some l =>
        rw [hO] at this
        obtain ⟨c, hc, h1⟩ := Tar.ring_great hn2 hD1
        exact absurd h1 (this.1 rfl c hc)
    rw [hcy]
    simp (disch := omega) only [↓SS, A, Nat.reduceEqDiff, Int.reduceToNat, Int.cast_ofNat_Int, Int.reduceSub, Int.reduceAdd, Nat.reduceAdd, Nat.reduceMul, Nat.reduceSub, ↓reduceIte, rd_eq, TyR2]
    refine vcall_mk (cyclic_ok ((((tb3.ge g4).ge g5).ge g6).ge g7) ((((A3.ge g4).ge g5).ge g6).ge g7)) ?_
    rintro _ h8 ⟨rfl, g8⟩
    have hcy2 : (Tar.ordF j (ed (rE1 j j fun _ => false) 2) j []).isNone = false := by
      have := Tar.none_ord (n := j) (ed_two j fun _ => false)
      cases hO : Tar.ordF j (ed (rE1 j j fun _ => false) 2) j [] with
      | none => rw [hO] at this; cases this
      | some l => rfl
    rw [hcy2]
    have g48 := ((g5.trans g6).trans g7).trans g8
    have hI : Ints h8 (.slice la j lc) (nats (Tar.chain j k j)) := (ownInts' (by rw [hcl]; exact ow)).ge g48
    have hfit : j ≤ lc ∧ lc ≤ 9223372036854775807 := by
      obtain ⟨a9, c9, e, h9, h10, _⟩ := hI
      simp only [Value.slice.injEq] at e
      rw [nats_len, hcl] at h9
      omega
    simp (disch := omega) only [↓SS, A, Nat.reduceEqDiff, Int.reduceToNat, Int.cast_ofNat_Int, Int.reduceSub, Int.reduceAdd, Nat.reduceAdd, Nat.reduceMul, Nat.reduceSub, ↓reduceIte, rd_eq, TyR2]
    refine vloop_mk (fun q fr h' => ∃ i : Nat, i + q = j ∧ fr = [(100, .int .i64 i), (99, .int .i64 j), (98, .slice la j lc), (1, .int .i64 k), (0, .int .i64 j), (4, .bool false)] ∧ h8 = h') j
      [(100, .int .i64 0), (99, .int .i64 j), (98, .slice la j lc), (1, .int .i64 k), (0, .int .i64 j), (4, .bool false)] (by simp only [↓SS, Nat.reduceEqDiff, Int.reduceToNat, Int.cast_ofNat_Int, Int.reduceSub, Int.reduceAdd, Nat.reduceAdd, Nat.reduceMul, Nat.reduceSub, ↓reduceIte, rd_eq, TyR2]) ⟨0, by omega, rfl, rfl⟩ ?_
    rintro q2 _ _ ⟨i, hiq, rfl, rfl⟩
    by_cases hi : i < j
    · obtain ⟨b, o, c', e, _, _, hcell1⟩ := hI.out (by rw [nats_len, hcl]; omega)
      rw [nats_len, hcl] at e
      cases e
      have hv := hcell1 i (((k + 1 + i) % j : Nat) : Int) (nats_at (by simp [Tar.chain, hi]))
      have hcast : (((k + 1 + i) % j : Nat) : Int) = ((k : Int) + 1 + i) % j := by push_cast; rfl
      rw [hcast] at hv
      simp (disch := omega) only [↓SS, A, Nat.reduceEqDiff, Int.reduceToNat, Int.cast_ofNat_Int, Int.reduceSub, Int.reduceAdd, Nat.reduceAdd, Nat.reduceMul, Nat.reduceSub, ↓reduceIte, rd_eq, TyR2, hv]
      exact ⟨q2 - 1, by omega, _, (by simp only [↓SS, Nat.reduceEqDiff, Int.reduceToNat, Int.cast_ofNat_Int, Int.reduceSub, Int.reduceAdd, Nat.reduceAdd, Nat.reduceMul, Nat.reduceSub, ↓reduceIte, rd_eq, Int.natCast_add, Int.cast_ofNat_Int]), i + 1, by omega, rfl⟩
    · obtain rfl : i = j := by omega
      simp (disch := omega) only [↓SS, A, Nat.reduceEqDiff, Int.reduceToNat, Int.cast_ofNat_Int, Int.reduceSub, Int.reduceAdd, Nat.reduceAdd, Nat.reduceMul, Nat.reduceSub, ↓reduceIte, rd_eq, TyR2]
      exact (g3.trans g4).trans g48
end Go.Proofs.YtgfljbplccekcaaDoor
