/-
  Package assayerref07: Reaches, Components, as contracts; conditions: the graph was made by assayerref06.New.
-/
import Derived.Test.YtgfljbplccekcaaDoorRC1
import Derived.Test.YtgfljbplccekcaaDoorReach
import Derived.Test.YtgfljbplccekcaaDoorV9
import Derived.Test.YtgfljbplccekcaaDoorComps3
set_option linter.unusedSimpArgs false
set_option linter.unusedVariables false
set_option maxRecDepth 100000
namespace Go.Proofs.YtgfljbplccekcaaDoor
open Go Go.V Go.Low

/-- the edges with some of the labels, among the nodes -/
def rE (n : Nat) (M : Nat → Nat → Nat) (of : Int) (u k : Nat) : Bool := decide (k < n) && redge M of u k
theorem routs_mem {n : Nat} {M : Nat → Nat → Nat} {of : Int} {u k : Nat} : k ∈ routs n (redge M of) u n ↔ rE n M of u k = true := by simp [routs, rE]
theorem routs_len (n : Nat) (R : Nat → Nat → Bool) (u : Nat) : (routs n R u n).length ≤ n := by
  have := List.length_filter_le (fun k => R u k) (List.range n)
  simpa [routs] using this
theorem rE_lt {n : Nat} {M : Nat → Nat → Nat} {of : Int} : ∀ x y, rE n M of x y = true → y < n := by
  intro x y h
  simp only [rE, Bool.and_eq_true, decide_eq_true_eq] at h
  exact h.1
theorem ints_app (a b : List Nat) : ints (a ++ b) = ints a ++ ints b := by simp [ints]
theorem ints_one (a : List Nat) : (ints a).all (·.oneCell') = true := by simp [ints, Value.oneCell']
theorem ints_len (a : List Nat) : (ints a).length = a.length := by simp [ints]
theorem reaches_ok {h : Heap} {x n : Nat} {rv : Value} {rb : Nat → Nat} {M : Nat → Nat → Nat} (q : isR h x n rv rb M) {of : Int} {s : Nat} (hs : s < n) :
    Ct Tryd.prog 71 [ptr x 0, .int .i64 of, .int .i64 s] h fun v h' => ∃ b D, v = sl b 0 n n ∧ h'[b]? = some (.cells (arrB n D) 4 (0, 0)) ∧ h.size ≤ b ∧ (∀ y, D y = true ↔ Tar.Rp (rE n M of) s y) ∧ Ge h h' := by
  obtain ⟨ra, rc, hrv, hn⟩ := q.len
  have c0 := q.c0
  rw [hrv] at c0
  refine enter Tryd.func71 (by kernel_rfl) rfl Tryd.results71 (by kernel_rfl) (by kernel_rfl) (init3 _ _ _) ?_
  simp (disch := omega) only [↓SS, A, Nat.reduceEqDiff, Int.reduceToNat, Int.cast_ofNat_Int, Int.reduceSub, Int.reduceAdd, Nat.reduceAdd, Nat.reduceMul, Nat.reduceSub, ↓reduceIte, rd_eq, TyR, c0]
  refine vmk_ok elBools (by omega) (by omega) (by omega) (by omega) ?_
  rw [Int.toNat_natCast, arrV_made _ _ rfl]
  simp (disch := omega) only [↓SS, A, Nat.reduceEqDiff, Int.reduceToNat, Int.cast_ofNat_Int, Int.reduceSub, Int.reduceAdd, Nat.reduceAdd, Nat.reduceMul, Nat.reduceSub, ↓reduceIte, rd_eq, TyR]
  have g1 : Ge h (h.push (.cells (arrB n fun _ => false) 4)) := Ge.push _ _
  have e1 : (h.push (.cells (arrB n fun _ => false) 4))[h.size]? = some (.cells (arrB n fun _ => false) 4 (0, 0)) := push_new _ _
  have hs1 : (h.push (.cells (arrB n fun _ => false) 4)).size = h.size + 1 := Array.size_push _
  generalize h.push (.cells (arrB n fun _ => false) 4) = h1 at *
  generalize hbs : h.size = b at *
  refine vcall_mk (rout_ok (q.ge g1) hs) ?_
  rintro ov h2 ⟨ho, _, g2⟩
  have Q2 : Que h2 b 3 ov (ints (routs n (redge M of) s n)) := by
    rcases Own.que ho with hq | ⟨g, o, cap, cur, e, hb, r⟩
    · exact .inl hq
    · exact .inr ⟨g, o, cap, cur, e, by omega, r⟩
  have e2 := g2.lookup e1
  have W2 : Tar.Wl n (rE n M of) s (fun _ => false) (routs n (redge M of) s n) := Tar.Wl.start (fun _ => routs_mem) rE_lt
  have L2 := Tar.wlm_start (routs_len n (redge M of) s)
  have hnn : n * (n + 1) + n ≤ 300 * 301 + 300 := by
    have : n * (n + 1) ≤ 300 * 301 := Nat.mul_le_mul hn (by omega)
    omega
  simp (disch := omega) only [↓SS, A, Nat.reduceEqDiff, Int.reduceToNat, Int.cast_ofNat_Int, Int.reduceSub, Int.reduceAdd, Nat.reduceAdd, Nat.reduceMul, Nat.reduceSub, ↓reduceIte, rd_eq, TyR]
  refine vloop_mk (fun k fr h' => ∃ (qv : Value) (D : Nat → Bool) (l : List Nat), fr = [(8, qv), (7, sl b 0 n n), (6, .slice none 0 0), (0, ptr x 0), (1, .int .i64 of), (2, .int .i64 s)] ∧ Ge h h' ∧ h'[b]? = some (.cells (arrB n D) 4 (0, 0)) ∧
      Que h' b 3 qv (ints l) ∧ Tar.Wl n (rE n M of) s D l ∧ k = Tar.wlm n D l ∧ k ≤ n * (n + 1) + n) _
    [(8, ov), (7, sl b 0 n n), (6, .slice none 0 0), (0, ptr x 0), (1, .int .i64 of), (2, .int .i64 s)] (by simp only [↓SS, Nat.reduceEqDiff, Int.reduceToNat, Int.cast_ofNat_Int, Int.reduceSub, Int.reduceAdd, Nat.reduceAdd, Nat.reduceMul, Nat.reduceSub, ↓reduceIte, rd_eq, TyR]) ⟨ov, _, _, rfl, g1.trans g2, e2, Q2, W2, rfl, L2⟩ ?_
  rintro k _ h3 ⟨qv, D, l, rfl, g3, e3, Q3, W3, rfl, L3⟩
  cases l with
  | nil =>
    obtain ⟨a, c, rfl, _, _⟩ := Q3.shape
    simp (disch := omega) only [↓SS, A, Nat.reduceEqDiff, Int.reduceToNat, Int.cast_ofNat_Int, Int.reduceSub, Int.reduceAdd, Nat.reduceAdd, Nat.reduceMul, Nat.reduceSub, ↓reduceIte, rd_eq, TyR]
    exact ⟨b, D, rfl, e3, Nat.le_refl _, fun y => W3.done y, g3⟩
  | cons m l =>
    have Q3' : Que h3 b 3 qv (.int .i64 m :: ints l) := Q3
    obtain ⟨gb, go, gc, rfl, hc1, hc2, hcell1, Q4⟩ := Q3'.head
    have hcell0 : hcell h3 gb (go + 0) = some (.int .i64 m) := hcell1
    have hm := W3.lt m (by simp)
    have cD := arrB_cell e3 hm
    simp only [ints_len] at hc1 hc2 Q3 Q4
    rw [ints_len]
    have hlen := Tar.wlm_len (n := n) (met := D) (q := m :: l)
    simp only [List.length_cons] at hlen
    cases hD : D m with
    | true =>
      rw [hD] at cD
      simp (disch := omega) only [↓SS, A, Nat.reduceEqDiff, Int.reduceToNat, Int.cast_ofNat_Int, Int.reduceSub, Int.reduceAdd, Nat.reduceAdd, Nat.reduceMul, Nat.reduceSub, ↓reduceIte, rd_eq, TyR, hcell0, cD]
      refine ⟨_, Tar.wlm_skip, _, (by simp only [↓SS, Nat.reduceEqDiff, Int.reduceToNat, Int.cast_ofNat_Int, Int.reduceSub, Int.reduceAdd, Nat.reduceAdd, Nat.reduceMul, Nat.reduceSub, ↓reduceIte, rd_eq, Int.natCast_add, Int.cast_ofNat_Int]), sl gb (slOff go 1 1 gc) (l.length + 1 - 1) (gc - 1), D, l, rfl, g3, e3, Q4, W3.skip hD, rfl, Nat.le_of_lt (Nat.lt_of_lt_of_le Tar.wlm_skip L3)⟩
    | false =>
      rw [hD] at cD
      simp (disch := omega) only [↓SS, A, Nat.reduceEqDiff, Int.reduceToNat, Int.cast_ofNat_Int, Int.reduceSub, Int.reduceAdd, Nat.reduceAdd, Nat.reduceMul, Nat.reduceSub, ↓reduceIte, rd_eq, TyR, hcell0, cD]
      refine vst_up rfl rfl e3 (by simp [Value.cells, arrV_size]; omega) ?_
      intro h4 e4 up4
      have hgb : gb ≠ b := by
        obtain ⟨_, cur, hcur⟩ := Q4.blk (b := gb) rfl
        exact other_type hcur e3 (by decide)
      have g4 := up4.ge g3 (by omega)
      have Q5 := Q4.mono (h' := h4) (fun b' hb' => by
        simp only [Value.ownBlock, Option.some.injEq] at hb'
        subst hb'
        exact up4.other gb hgb)
      simp only [Value.cells] at e4
      rw [arrB_set _ hm] at e4
      simp (disch := omega) only [↓SS, A, Nat.reduceEqDiff, Int.reduceToNat, Int.cast_ofNat_Int, Int.reduceSub, Int.reduceAdd, Nat.reduceAdd, Nat.reduceMul, Nat.reduceSub, ↓reduceIte, rd_eq, TyR]
      refine vcall_mk (rout_ok (q.ge g4) hm) ?_
      rintro ov5 h5 ⟨ho5, _, g5⟩
      have hI5 := ownInts' ho5
      obtain ⟨a5, c5, hv5, _, _, hr5⟩ := hI5
      rw [nats_len] at hv5 hr5
      subst hv5
      simp (disch := omega) only [↓SS, A, Nat.reduceEqDiff, Int.reduceToNat, Int.cast_ofNat_Int, Int.reduceSub, Int.reduceAdd, Nat.reduceAdd, Nat.reduceMul, Nat.reduceSub, ↓reduceIte, rd_eq, TyR]
      have hlo := routs_len n (redge M of) m
      have hds := Tar.wlm_take (q := l) hm hD hlo
      refine vapp_que elInts rfl (Q5.ge g5) (news := ints (routs n (redge M of) m n)) (by rw [ints_len]) ?_ (ints_one _) (by rw [ints_len, ints_len]; omega) (by rw [ints_len, ints_len]; omega) ?_ ?_
      · rcases Nat.eq_zero_or_pos (routs n (redge M of) m n).length with h0 | h0
        · exact .inl h0
        · obtain ⟨b5, o5, rfl, hr⟩ := hr5 h0
          rw [← ints_nats] at hr
          exact .inr ⟨b5, o5, rfl, hr⟩
      · have := (g4.trans g5).size; omega
      · intro v6 h6 Q6 gr6 _
        rw [← ints_app] at Q6
        simp (disch := omega) only [↓SS, A, Nat.reduceEqDiff, Int.reduceToNat, Int.cast_ofNat_Int, Int.reduceSub, Int.reduceAdd, Nat.reduceAdd, Nat.reduceMul, Nat.reduceSub, ↓reduceIte, rd_eq, TyR]
        have e5 := g5.lookup e4
        refine ⟨_, hds, _, (by simp only [↓SS, Nat.reduceEqDiff, Int.reduceToNat, Int.cast_ofNat_Int, Int.reduceSub, Int.reduceAdd, Nat.reduceAdd, Nat.reduceMul, Nat.reduceSub, ↓reduceIte, rd_eq, Int.natCast_add, Int.cast_ofNat_Int]), v6, _, _, rfl, ?_, ?_, Q6, W3.take (fun _ => routs_mem) rE_lt, rfl, Nat.le_of_lt (Nat.lt_of_lt_of_le hds L3)⟩
        · have g45 := g4.trans g5
          refine ⟨Nat.le_trans g45.size gr6.size, fun k hk => ?_⟩
          rw [gr6.block k (Nat.lt_of_lt_of_le hk g45.size) (fun e => ?_)]
          · exact g45.block k hk
          · obtain ⟨hb', _⟩ := Q4.blk e.symm
            omega
        · rw [gr6.block b (Ge.lt e5) (fun e => by simp only [Value.ownBlock, Option.some.injEq] at e; exact hgb e.symm)]
          exact e5

/-- what reaches what, as rows of truth values -/
def allA (h : Heap) (B : Nat) (v : Value) (n : Nat) (A : Nat → Nat → Bool) : Prop :=
  ∃ a c, v = .slice a n c ∧ n ≤ c ∧ c ≤ 9223372036854775807 ∧ (0 < n → ∃ (ab : Nat) (rA : Nat → Nat), a = some ⟨ab, 0, none⟩ ∧ ab < B ∧ ∀ j, j < n → hcell h ab j = some (sl (rA j) 0 n n) ∧ rA j < B ∧ ∀ m, m < n → hcell h (rA j) m = some (.bool (A j m)))
theorem allA.kb {h h' : Heap} {B : Nat} {v : Value} {n : Nat} {A : Nat → Nat → Bool} (q : allA h B v n A) {X : List Nat} (kb : Kb X h h') (hX : ∀ x ∈ X, B ≤ x) : allA h' B v n A := by
  obtain ⟨a, c, e, h1, h2, h3⟩ := q
  refine ⟨a, c, e, h1, h2, fun hn => ?_⟩
  obtain ⟨ab, rA, e2, h4, h5⟩ := h3 hn
  refine ⟨ab, rA, e2, h4, fun j hj => ?_⟩
  obtain ⟨h6, h7, h8⟩ := h5 j hj
  exact ⟨kb.cell h6 (fun hx => by have := hX _ hx; omega), h7, fun m hm => kb.cell (h8 m hm) (fun hx => by have := hX _ hx; omega)⟩
theorem withN_succ (A : Nat → Nat → Bool) (n m : Nat) : Tar.withN A n (m + 1) = Tar.withN A n m ++ if m == n || A n m && A m n then [m] else [] := by
  simp only [Tar.withN, List.range_succ, List.filter_append]
  cases h : (m == n || A n m && A m n) <;> simp [h]
theorem withN_len (A : Nat → Nat → Bool) (n m : Nat) : (Tar.withN A n m).length ≤ m := by
  have := List.length_filter_le (fun x => x == n || A n x && A x n) (List.range m)
  simpa [Tar.withN] using this
theorem outN_len (A : Nat → Nat → Bool) (n : Nat) : ∀ i, (Tar.outN A n i).length ≤ i
  | 0 => by simp [Tar.outN]
  | i + 1 => by
    have := outN_len A n i
    simp only [Tar.outN]
    split
    · omega
    · simp; omega
/-- rows of integers that the call has made -/
structure outA (h : Heap) (base : Nat) (v : Value) (L : List (List Nat)) : Prop where
  own : ∃ ovs, Own h base 23 1 v L.length ovs ∧ ∀ (i : Nat) (w : Value) (c : List Nat), ovs[i]? = some w → L[i]? = some c → IntsA [] h w (nats c)
theorem outA.isLL {h : Heap} {base : Nat} {v : Value} {L : List (List Nat)} (q : outA h base v L) : isLL h v (L.map nats) := by
  obtain ⟨ovs, o, hr⟩ := q.own
  have hl : ovs.length = L.length := by simpa using o.1
  obtain ⟨a, c, rfl, _, h1, h2⟩ := o.form
  refine ⟨a, c, ovs, by simp, by simpa using h1, h2, by simpa using hl, fun h0 => ?_, fun i w xs hw hx => ?_⟩
  · obtain ⟨g, c', hv⟩ := o.here (by simpa using h0)
    cases hv
    obtain ⟨_, _, _, cur, hc, hs, ht⟩ := o.cur
    refine ⟨g, 0, rfl, ?_⟩
    have := rdRow_take (n := (L.map nats).length) hc (by simp; omega)
    rw [this]
    simpa using ht
  · simp only [List.getElem?_map, Option.map_eq_some_iff] at hx
    obtain ⟨z, hz, rfl⟩ := hx
    exact (hr i w z hw hz).r
theorem outA.kb {h h' : Heap} {base : Nat} {v : Value} {L : List (List Nat)} (q : outA h base v L) {X : List Nat} (kb : Kb X h h') (hX : ∀ x ∈ X, ∃ c t f, h[x]? = some (.cells c t f) ∧ t ≠ 3 ∧ t ≠ 23) : outA h' base v L := by
  obtain ⟨ovs, o, hr⟩ := q.own
  refine ⟨ovs, V.Own.kb o kb (fun b hb => ?_), fun i w c hw hc => (hr i w c hw hc).kb kb (fun z hz => .inr fun c f e => ?_)⟩
  · intro hx
    obtain ⟨c, t, f, e, _, h2⟩ := hX b hx
    obtain ⟨_, cur, hc⟩ := Own.blk o hb
    rw [hc] at e
    simp only [Option.some.injEq, Obj.cells.injEq] at e
    exact h2 e.2.1.symm
  · obtain ⟨c', t, f', e', h1, _⟩ := hX z hz
    rw [e] at e'
    simp only [Option.some.injEq, Obj.cells.injEq] at e'
    exact h1 e'.2.1.symm
theorem outA.snoc {h h' : Heap} {base : Nat} {v w v' : Value} {L : List (List Nat)} {l : List Nat} (q : outA h base v L) (hw : IntsA [] h w (nats l)) {ovs : List Value} (hr : ∀ (i : Nat) (w : Value) (c : List Nat), ovs[i]? = some w → L[i]? = some c → IntsA [] h w (nats c))
    (hl : ovs.length = L.length) (o' : Own h' base 23 1 v' (L.length + 1) (ovs ++ [w])) (gr : Grow h h' v.ownBlock) (hv : ∀ b, v.ownBlock = some b → ∃ cur f, h[b]? = some (.cells cur 23 f)) : outA h' base v' (L ++ [l]) := by
  have kb : Kb v.ownBlock.toList h h' := ⟨gr.size, fun k hk hx => gr.block k hk (fun e => hx (by rw [← e]; simp))⟩
  have hty : ∀ z ∈ v.ownBlock.toList, z ∈ ([] : List Nat) ∨ ∀ c f, h[z]? ≠ some (.cells c 3 f) := fun z hz => .inr fun c f e => by
    obtain ⟨cur, f', e'⟩ := hv z (by simpa using hz)
    rw [e] at e'
    simp only [Option.some.injEq, Obj.cells.injEq] at e'
    exact absurd e'.2.1 (by decide)
  refine ⟨ovs ++ [w], by simpa using o', fun i w' c hw' hc => ?_⟩
  rcases Nat.lt_or_ge i L.length with h1 | h1
  · rw [List.getElem?_append_left (by omega)] at hw' hc
    exact (hr i w' c hw' hc).kb kb hty
  · rw [List.getElem?_append_right (by omega)] at hw' hc
    rw [hl] at hw'
    obtain ⟨h2, e1⟩ : i - L.length = 0 ∧ w = w' := by
      cases h3 : i - L.length with
      | zero => rw [h3] at hw'; simpa using hw'
      | succ k => rw [h3] at hw'; simp at hw'
    rw [h2] at hc
    simp only [List.getElem?_cons_zero, Option.some.injEq] at hc
    subst hc e1
    exact hw.kb kb hty
theorem elBools2 : elT Tryd.prog 125 = some (111, 1, 24, .slice none 0 0) := by kernel_rfl
theorem rcomps_ok {h : Heap} {x n : Nat} {rv : Value} {rb : Nat → Nat} {M : Nat → Nat → Nat} (q : isR h x n rv rb M) {of : Int} :
    Ct Tryd.prog 32 [ptr x 0, .int .i64 of] h fun v h' => ∃ C, isLL h' v (C.map nats) ∧ Tar.Comps n (rE n M of) C ∧ Tar.Heads C ∧ Ge h h' := by
  obtain ⟨ra, rc, hrv, hn⟩ := q.len
  have c0 := q.c0
  rw [hrv] at c0
  refine enter Tryd.func32 (by kernel_rfl) rfl Tryd.results32 (by kernel_rfl) (by kernel_rfl) (init2 _ _) ?_
  simp (disch := omega) only [↓SS, A, Nat.reduceEqDiff, Int.reduceToNat, Int.cast_ofNat_Int, Int.reduceSub, Int.reduceAdd, Nat.reduceAdd, Nat.reduceMul, Nat.reduceSub, ↓reduceIte, rd_eq, TyR, c0]
  -- who reaches whom
  refine vloop_mk (fun k fr h' => ∃ (i : Nat) (av : Value) (rows : List Value), i + k = n ∧ fr = [(19, .int .i64 i), (18, .int .i64 n), (5, av), (4, .slice none 0 0), (0, ptr x 0), (1, .int .i64 of)] ∧ Ge h h' ∧
      Own h' h.size 111 1 av i rows ∧ ∀ (j : Nat) (w : Value), rows[j]? = some w → ∃ b D, w = sl b 0 n n ∧ h'[b]? = some (.cells (arrB n D) 4 (0, 0)) ∧ h.size ≤ b ∧ ∀ y, D y = true ↔ Tar.Rp (rE n M of) j y) n
    [(19, .int .i64 0), (18, .int .i64 n), (5, .slice none 0 0), (4, .slice none 0 0), (0, ptr x 0), (1, .int .i64 of)] (by simp only [↓SS, Nat.reduceEqDiff, Int.reduceToNat, Int.cast_ofNat_Int, Int.reduceSub, Int.reduceAdd, Nat.reduceAdd, Nat.reduceMul, Nat.reduceSub, ↓reduceIte, rd_eq, TyR]) ⟨0, _, [], by omega, rfl, Ge.refl _, Own.nil _ _ _ _, by simp⟩ ?_
  rintro k _ h1 ⟨i, av, rows, hik, rfl, g1, oA, hR⟩
  by_cases hi : i < n
  · simp (disch := omega) only [↓SS, A, Nat.reduceEqDiff, Int.reduceToNat, Int.cast_ofNat_Int, Int.reduceSub, Int.reduceAdd, Nat.reduceAdd, Nat.reduceMul, Nat.reduceSub, ↓reduceIte, rd_eq, TyR]
    refine vcall_mk (reaches_ok (q.ge g1) hi) ?_
    rintro _ h2 ⟨b, D, rfl, e2, hb, hD, g2⟩
    simp (disch := omega) only [↓SS, A, Nat.reduceEqDiff, Int.reduceToNat, Int.cast_ofNat_Int, Int.reduceSub, Int.reduceAdd, Nat.reduceAdd, Nat.reduceMul, Nat.reduceSub, ↓reduceIte, rd_eq, TyR]
    refine vbs_one elBools2 rfl rfl (by omega) (by omega) ?_
    have g3 : Ge h2 (h2.push (Obj.cells (sl b 0 n n).cells 111)) := Ge.push _ _
    have e3 : (h2.push (Obj.cells (sl b 0 n n).cells 111))[h2.size]? = some (Obj.cells #[sl b 0 n n] 111 (0, 0)) := push_new _ _
    generalize h2.push (Obj.cells (sl b 0 n n).cells 111) = h3 at *
    generalize h2.size = sb at *
    simp (disch := omega) only [↓SS, A, Nat.reduceEqDiff, Int.reduceToNat, Int.cast_ofNat_Int, Int.reduceSub, Int.reduceAdd, Nat.reduceAdd, Nat.reduceMul, Nat.reduceSub, ↓reduceIte, rd_eq, TyR]
    have g13 := (g1.trans g2).trans g3
    refine vapp_own elBools2 rfl (by omega) ((oA.ge g2).ge g3) (rdRow_blk e3 (by simp)) (by simp; rfl) (by omega) (by omega) g13.size ?_
    intro w h4 o4 gr4 hn4
    simp (disch := omega) only [↓SS, A, Nat.reduceEqDiff, Int.reduceToNat, Int.cast_ofNat_Int, Int.reduceSub, Int.reduceAdd, Nat.reduceAdd, Nat.reduceMul, Nat.reduceSub, ↓reduceIte, rd_eq, TyR]
    have hrl : rows.length = i := by simpa using oA.1
    have hav : ∀ b', av.ownBlock = some b' → h.size ≤ b' ∧ ∃ cur, h3[b']? = some (.cells cur 111 (0, 0)) := fun b' hb' => Own.blk ((oA.ge g2).ge g3) hb'
    refine ⟨k - 1, by omega, _, (by simp only [↓SS, Nat.reduceEqDiff, Int.reduceToNat, Int.cast_ofNat_Int, Int.reduceSub, Int.reduceAdd, Nat.reduceAdd, Nat.reduceMul, Nat.reduceSub, ↓reduceIte, rd_eq, Int.natCast_add, Int.cast_ofNat_Int]), i + 1, w, _, by omega, rfl, ?_, o4, ?_⟩
    · refine ⟨Nat.le_trans g13.size gr4.size, fun k hk => ?_⟩
      rw [gr4.block k (Nat.lt_of_lt_of_le hk g13.size) (fun e => ?_)]
      · exact g13.block k hk
      · have := (hav k e.symm).1; omega
    · intro j w' hw'
      have keep : ∀ (b' : Nat) (D' : Nat → Bool), h3[b']? = some (.cells (arrB n D') 4 (0, 0)) → h4[b']? = some (.cells (arrB n D') 4 (0, 0)) := by
        intro b' D' hb'
        rw [gr4.block b' (Ge.lt hb') (fun e => ?_)]
        · exact hb'
        · obtain ⟨_, cur, hc⟩ := hav b' e.symm
          rw [hb'] at hc
          simp only [Option.some.injEq, Obj.cells.injEq] at hc
          exact absurd hc.2.1 (by decide)
      rcases Nat.lt_or_ge j i with h5 | h5
      · rw [List.getElem?_append_left (by omega)] at hw'
        obtain ⟨b', D', e1, e2', h6, h7⟩ := hR j w' hw'
        exact ⟨b', D', e1, keep b' D' (g3.lookup (g2.lookup e2')), h6, h7⟩
      · rw [List.getElem?_append_right (by omega), hrl] at hw'
        cases h8 : j - i with
        | succ z => rw [h8] at hw'; simp at hw'
        | zero =>
          rw [h8] at hw'
          have : j = i := by omega
          subst this
          have hw2 : some (sl b 0 n n) = some w' := hw'
          simp only [Option.some.injEq] at hw2
          exact ⟨b, D, hw2.symm, keep b D (g3.lookup e2), by have := g1.size; omega, hD⟩
  · obtain rfl : i = n := by omega
    -- the rows as one relation
    have hrl : rows.length = i := by simpa using oA.1
    have hAx : ∃ AA : Nat → Nat → Bool, (∀ a b, a < i → b < i → (AA a b = true ↔ Tar.Rp (rE i M of) a b)) ∧ allA h1 h1.size av i AA := by
      have hch : ∀ j : Nat, ∃ p : Nat × (Nat → Bool), j < i → rows[j]? = some (sl p.1 0 i i) ∧ h1[p.1]? = some (.cells (arrB i p.2) 4 (0, 0)) ∧ ∀ y, p.2 y = true ↔ Tar.Rp (rE i M of) j y := by
        intro j
        by_cases hj : j < i
        · obtain ⟨b, D, e1, e2, _, h4⟩ := hR j _ (List.getElem?_eq_getElem (by omega : j < rows.length))
          exact ⟨(b, D), fun _ => ⟨by rw [← e1]; exact List.getElem?_eq_getElem (by omega), e2, h4⟩⟩
        · exact ⟨(0, fun _ => false), fun h => absurd h hj⟩
      obtain ⟨f, hf⟩ := Classical.axiomOfChoice hch
      obtain ⟨a, c, rfl, _, h2, h3⟩ := oA.form
      refine ⟨fun a b => (f a).2 b, fun a b ha _ => (hf a ha).2.2 b, a, c, rfl, h2, h3, fun h0 => ?_⟩
      obtain ⟨g, c', hv⟩ := oA.here h0
      cases hv
      obtain ⟨_, _, _, cur, hc, _, _⟩ := oA.cur
      refine ⟨g, fun j => (f j).1, rfl, Ge.lt hc, fun j hj => ?_⟩
      obtain ⟨h4, h5, _⟩ := hf j hj
      exact ⟨oA.cell h4, Ge.lt h5, fun m hm => arrB_cell h5 hm⟩
    obtain ⟨AA, hA, qA⟩ := hAx
    have c1 := Ge.cell g1 c0
    simp (disch := omega) only [↓SS, A, Nat.reduceEqDiff, Int.reduceToNat, Int.cast_ofNat_Int, Int.reduceSub, Int.reduceAdd, Nat.reduceAdd, Nat.reduceMul, Nat.reduceSub, ↓reduceIte, rd_eq, TyR, c1]
    refine vmk_ok elBools (by omega) (by omega) (by omega) (by omega) ?_
    rw [Int.toNat_natCast, arrV_made _ _ rfl]
    simp (disch := omega) only [↓SS, A, Nat.reduceEqDiff, Int.reduceToNat, Int.cast_ofNat_Int, Int.reduceSub, Int.reduceAdd, Nat.reduceAdd, Nat.reduceMul, Nat.reduceSub, ↓reduceIte, rd_eq, TyR]
    have g2 : Ge h1 (h1.push (Obj.cells (arrB i fun _ => false) 4)) := Ge.push _ _
    have e2 : (h1.push (Obj.cells (arrB i fun _ => false) 4))[h1.size]? = some (.cells (arrB i fun _ => false) 4 (0, 0)) := push_new _ _
    generalize h1.push (Obj.cells (arrB i fun _ => false) 4) = h2 at *
    have qA2 := qA.kb (Kb.refl [] _ |>.ge g2) (by simp)
    generalize hbs : h1.size = b at *
    have c2 := Ge.cell g2 c1
    simp (disch := omega) only [↓SS, A, Nat.reduceEqDiff, Int.reduceToNat, Int.cast_ofNat_Int, Int.reduceSub, Int.reduceAdd, Nat.reduceAdd, Nat.reduceMul, Nat.reduceSub, ↓reduceIte, rd_eq, TyR, c2]
    obtain ⟨aa, ac, rfl, ha1, ha2, _⟩ := id qA2
    have hlo : h.size ≤ b := by have := g1.size; omega
    have hlt1 : b < h2.size := Ge.lt e2
    have g02 := g1.trans g2
    refine vloop_mk (fun k fr h' => ∃ (j : Nat) (outv : Value), j + k = i ∧ fr = [(41, .int .i64 j), (40, .int .i64 i), (8, outv), (7, sl b 0 i i), (5, .slice aa i ac), (4, .slice none 0 0), (0, ptr x 0), (1, .int .i64 of)] ∧ Ge h h' ∧
        allA h' b (.slice aa i ac) i AA ∧ h'[b]? = some (.cells (arrB i fun m => (Tar.outN AA i j).any fun c => c.contains m) 4 (0, 0)) ∧ outA h' b outv (Tar.outN AA i j)) i
      [(41, .int .i64 0), (40, .int .i64 i), (8, .slice none 0 0), (7, sl b 0 i i), (5, .slice aa i ac), (4, .slice none 0 0), (0, ptr x 0), (1, .int .i64 of)] (by simp only [↓SS, Nat.reduceEqDiff, Int.reduceToNat, Int.cast_ofNat_Int, Int.reduceSub, Int.reduceAdd, Nat.reduceAdd, Nat.reduceMul, Nat.reduceSub, ↓reduceIte, rd_eq, TyR]) ⟨0, _, by omega, rfl, g02, qA2, by simpa [Tar.outN] using e2, ⟨[], Own.nil _ _ _ _, by simp⟩⟩ ?_
    rintro k _ h3 ⟨j, outv, hjk, rfl, g3, qA3, e3, oO⟩
    have c3 := Ge.cell g3 c0
    by_cases hj : j < i
    · have cD := arrB_cell e3 hj
      cases hD : ((Tar.outN AA i j).any fun c => c.contains j) with
      | true =>
        rw [hD] at cD
        simp (disch := omega) only [↓SS, A, Nat.reduceEqDiff, Int.reduceToNat, Int.cast_ofNat_Int, Int.reduceSub, Int.reduceAdd, Nat.reduceAdd, Nat.reduceMul, Nat.reduceSub, ↓reduceIte, rd_eq, TyR, c3, cD]
        have e : Tar.outN AA i (j + 1) = Tar.outN AA i j := by simp only [Tar.outN]; rw [if_pos hD]
        exact ⟨k - 1, by omega, _, (by simp only [↓SS, Nat.reduceEqDiff, Int.reduceToNat, Int.cast_ofNat_Int, Int.reduceSub, Int.reduceAdd, Nat.reduceAdd, Nat.reduceMul, Nat.reduceSub, ↓reduceIte, rd_eq, Int.natCast_add, Int.cast_ofNat_Int]), j + 1, outv, by omega, rfl, g3, qA3, by rw [e]; exact e3, by rw [e]; exact oO⟩
      | false =>
        rw [hD] at cD
        have e : Tar.outN AA i (j + 1) = Tar.outN AA i j ++ [Tar.withN AA j i] := by simp only [Tar.outN]; rw [if_neg (by rw [hD]; simp)]
        simp (disch := omega) only [↓SS, A, Nat.reduceEqDiff, Int.reduceToNat, Int.cast_ofNat_Int, Int.reduceSub, Int.reduceAdd, Nat.reduceAdd, Nat.reduceMul, Nat.reduceSub, ↓reduceIte, rd_eq, TyR, c3, cD]
        have hb3 : b < h3.size := Ge.lt e3
        refine vloop_mk (fun k' fr h' => ∃ (m : Nat) (lv : Value), m + k' = i ∧ fr = [(53, .int .i64 m), (52, .int .i64 i), (10, lv), (9, .int .i64 j), (41, .int .i64 j), (40, .int .i64 i), (8, outv), (7, sl b 0 i i), (5, .slice aa i ac), (4, .slice none 0 0), (0, ptr x 0), (1, .int .i64 of)] ∧ Kb [b] h3 h' ∧
            h'[b]? = some (.cells (arrB i fun z => (Tar.outN AA i j).any (fun c => c.contains z) || (Tar.withN AA j m).contains z) 4 (0, 0)) ∧ Own h' h3.size 3 1 lv (Tar.withN AA j m).length (ints (Tar.withN AA j m))) i
          [(53, .int .i64 0), (52, .int .i64 i), (10, .slice none 0 0), (9, .int .i64 j), (41, .int .i64 j), (40, .int .i64 i), (8, outv), (7, sl b 0 i i), (5, .slice aa i ac), (4, .slice none 0 0), (0, ptr x 0), (1, .int .i64 of)] (by simp only [↓SS, Nat.reduceEqDiff, Int.reduceToNat, Int.cast_ofNat_Int, Int.reduceSub, Int.reduceAdd, Nat.reduceAdd, Nat.reduceMul, Nat.reduceSub, ↓reduceIte, rd_eq, TyR]) ⟨0, _, by omega, rfl, Kb.refl _ _, by simpa [Tar.withN] using e3, Own.nil _ _ _ _⟩ ?_
        rintro k' _ h4 ⟨m, lv, hmk, rfl, kb4, e4, oL⟩
        have qA4 := qA3.kb kb4 (by simp)
        have hwl := withN_len AA j m
        have hst : ∀ (yes : Bool), (m == j || AA j m && AA m j) = yes → Tar.withN AA j (m + 1) = Tar.withN AA j m ++ if yes then [m] else [] := fun yes h => by rw [withN_succ, h]
        by_cases hm : m < i
        · obtain ⟨ab, rA, hab, _, hcA⟩ : ∃ (ab : Nat) (rA : Nat → Nat), aa = some ⟨ab, 0, none⟩ ∧ ab < b ∧ ∀ j, j < i → hcell h4 ab j = some (sl (rA j) 0 i i) ∧ rA j < b ∧ ∀ m, m < i → hcell h4 (rA j) m = some (.bool (AA j m)) := by
            obtain ⟨a', c', ee, _, _, h7⟩ := qA4
            cases ee
            exact h7 (by omega)
          subst hab
          obtain ⟨r1, _, r2⟩ := hcA j hj
          obtain ⟨r3, _, r4⟩ := hcA m hm
          have r5 := r2 m hm
          have r6 := r4 j hj
          have skip : (m == j || AA j m && AA m j) = false → Tar.withN AA j (m + 1) = Tar.withN AA j m := fun h => by rw [hst false h]; simp
          -- the number is taken
          have tk : (m == j || AA j m && AA m j) = true → Tar.withN AA j (m + 1) = Tar.withN AA j m ++ [m] := fun h => by rw [hst true h]; simp
          by_cases hmj : m = j
          · subst hmj
            simp (disch := omega) only [↓SS, A, Nat.reduceEqDiff, Int.reduceToNat, Int.cast_ofNat_Int, Int.reduceSub, Int.reduceAdd, Nat.reduceAdd, Nat.reduceMul, Nat.reduceSub, ↓reduceIte, rd_eq, TyR, r1, r3, r5, r6]
            refine vbs_one elInts rfl rfl (by omega) (by omega) ?_
            have g5 : Ge h4 (h4.push (Obj.cells (Value.int .i64 m).cells 3)) := Ge.push _ _
            have e5 : (h4.push (Obj.cells (Value.int .i64 m).cells 3))[h4.size]? = some (Obj.cells #[.int .i64 m] 3 (0, 0)) := push_new _ _
            generalize h4.push (Obj.cells (Value.int .i64 m).cells 3) = h5 at *
            generalize h4.size = sb at *
            simp (disch := omega) only [↓SS, A, Nat.reduceEqDiff, Int.reduceToNat, Int.cast_ofNat_Int, Int.reduceSub, Int.reduceAdd, Nat.reduceAdd, Nat.reduceMul, Nat.reduceSub, ↓reduceIte, rd_eq, TyR]
            refine vapp_own elInts rfl (by omega) (oL.ge g5) (rdRow_blk e5 (by simp)) (by simp; rfl) (by omega) (by omega) (Nat.le_trans kb4.size g5.size) ?_
            intro w h6 o6 gr6 _
            have e6 : h6[b]? = _ := (gr6.block b (Ge.lt (g5.lookup e4)) (fun e => by have := (Own.blk oL e.symm).1; omega)).trans (g5.lookup e4)
            simp (disch := omega) only [↓SS, A, Nat.reduceEqDiff, Int.reduceToNat, Int.cast_ofNat_Int, Int.reduceSub, Int.reduceAdd, Nat.reduceAdd, Nat.reduceMul, Nat.reduceSub, ↓reduceIte, rd_eq, TyR]
            refine vst_up rfl rfl e6 (by simp [Value.cells, arrV_size]; omega) ?_
            intro h7 e7 up7
            simp (disch := omega) only [↓SS, A, Nat.reduceEqDiff, Int.reduceToNat, Int.cast_ofNat_Int, Int.reduceSub, Int.reduceAdd, Nat.reduceAdd, Nat.reduceMul, Nat.reduceSub, ↓reduceIte, rd_eq, TyR]
            have o6' : Own h6 h3.size 3 1 w (Tar.withN AA m (m + 1)).length (ints (Tar.withN AA m (m + 1))) := by
              rw [tk (by simp), List.length_append, ints_app]
              exact o6
            have k67 : Kb [b] h6 h7 := (Kb.refl _ _).up up7 (.inl (by simp))
            have kb6 : Kb [b] h3 h6 := ⟨Nat.le_trans kb4.size (Nat.le_trans g5.size gr6.size), fun z hz hx => by
              rw [gr6.block z (Nat.lt_of_lt_of_le hz (Nat.le_trans kb4.size g5.size)) (fun e => by have := (Own.blk oL e.symm).1; omega), g5.block z (Nat.lt_of_lt_of_le hz kb4.size)]
              exact kb4.block z hz hx⟩
            refine ⟨k' - 1, by omega, _, (by simp only [↓SS, Nat.reduceEqDiff, Int.reduceToNat, Int.cast_ofNat_Int, Int.reduceSub, Int.reduceAdd, Nat.reduceAdd, Nat.reduceMul, Nat.reduceSub, ↓reduceIte, rd_eq, Int.natCast_add, Int.cast_ofNat_Int]), m + 1, w, by omega, rfl, kb6.trans k67, ?_, V.Own.kb o6' k67 (fun b' hb' => ?_)⟩
            · rw [e7]
              simp only [Value.cells]
              rw [arrB_set _ hm]
              congr 2
              apply arrV_congr
              intro z _
              rw [tk (by simp)]
              simp only [upd]
              by_cases ez : z = m
              · subst ez; simp
              · simp [ez]
            · obtain ⟨_, cur, hcur⟩ := Own.blk o6' hb'
              simp only [List.mem_singleton]
              exact other_type hcur e6 (by decide)
          · have hmj' : ¬ ((m : Nat) : Int) = (j : Nat) := by omega
            cases h1' : AA j m with
            | false =>
              rw [h1'] at r5
              simp (disch := omega) only [↓SS, A, Nat.reduceEqDiff, Int.reduceToNat, Int.cast_ofNat_Int, Int.reduceSub, Int.reduceAdd, Nat.reduceAdd, Nat.reduceMul, Nat.reduceSub, ↓reduceIte, rd_eq, TyR, r1, r3, r5, r6, hmj']
              have hsk := skip (by simp [hmj, h1'])
              exact ⟨k' - 1, by omega, _, (by simp only [↓SS, Nat.reduceEqDiff, Int.reduceToNat, Int.cast_ofNat_Int, Int.reduceSub, Int.reduceAdd, Nat.reduceAdd, Nat.reduceMul, Nat.reduceSub, ↓reduceIte, rd_eq, Int.natCast_add, Int.cast_ofNat_Int]), m + 1, lv, by omega, rfl, kb4, by rw [hsk]; exact e4, by rw [hsk]; exact oL⟩
            | true =>
              rw [h1'] at r5
              cases h2' : AA m j with
              | false =>
                rw [h2'] at r6
                simp (disch := omega) only [↓SS, A, Nat.reduceEqDiff, Int.reduceToNat, Int.cast_ofNat_Int, Int.reduceSub, Int.reduceAdd, Nat.reduceAdd, Nat.reduceMul, Nat.reduceSub, ↓reduceIte, rd_eq, TyR, r1, r3, r5, r6, hmj']
                have hsk := skip (by simp [hmj, h1', h2'])
                exact ⟨k' - 1, by omega, _, (by simp only [↓SS, Nat.reduceEqDiff, Int.reduceToNat, Int.cast_ofNat_Int, Int.reduceSub, Int.reduceAdd, Nat.reduceAdd, Nat.reduceMul, Nat.reduceSub, ↓reduceIte, rd_eq, Int.natCast_add, Int.cast_ofNat_Int]), m + 1, lv, by omega, rfl, kb4, by rw [hsk]; exact e4, by rw [hsk]; exact oL⟩
              | true =>
                rw [h2'] at r6
                simp (disch := omega) only [↓SS, A, Nat.reduceEqDiff, Int.reduceToNat, Int.cast_ofNat_Int, Int.reduceSub, Int.reduceAdd, Nat.reduceAdd, Nat.reduceMul, Nat.reduceSub, ↓reduceIte, rd_eq, TyR, r1, r3, r5, r6, hmj']
                refine vbs_one elInts rfl rfl (by omega) (by omega) ?_
                have g5 : Ge h4 (h4.push (Obj.cells (Value.int .i64 m).cells 3)) := Ge.push _ _
                have e5 : (h4.push (Obj.cells (Value.int .i64 m).cells 3))[h4.size]? = some (Obj.cells #[.int .i64 m] 3 (0, 0)) := push_new _ _
                generalize h4.push (Obj.cells (Value.int .i64 m).cells 3) = h5 at *
                generalize h4.size = sb at *
                simp (disch := omega) only [↓SS, A, Nat.reduceEqDiff, Int.reduceToNat, Int.cast_ofNat_Int, Int.reduceSub, Int.reduceAdd, Nat.reduceAdd, Nat.reduceMul, Nat.reduceSub, ↓reduceIte, rd_eq, TyR]
                refine vapp_own elInts rfl (by omega) (oL.ge g5) (rdRow_blk e5 (by simp)) (by simp; rfl) (by omega) (by omega) (Nat.le_trans kb4.size g5.size) ?_
                intro w h6 o6 gr6 _
                have e6 : h6[b]? = _ := (gr6.block b (Ge.lt (g5.lookup e4)) (fun e => by have := (Own.blk oL e.symm).1; omega)).trans (g5.lookup e4)
                simp (disch := omega) only [↓SS, A, Nat.reduceEqDiff, Int.reduceToNat, Int.cast_ofNat_Int, Int.reduceSub, Int.reduceAdd, Nat.reduceAdd, Nat.reduceMul, Nat.reduceSub, ↓reduceIte, rd_eq, TyR]
                refine vst_up rfl rfl e6 (by simp [Value.cells, arrV_size]; omega) ?_
                intro h7 e7 up7
                simp (disch := omega) only [↓SS, A, Nat.reduceEqDiff, Int.reduceToNat, Int.cast_ofNat_Int, Int.reduceSub, Int.reduceAdd, Nat.reduceAdd, Nat.reduceMul, Nat.reduceSub, ↓reduceIte, rd_eq, TyR]
                have o6' : Own h6 h3.size 3 1 w (Tar.withN AA j (m + 1)).length (ints (Tar.withN AA j (m + 1))) := by
                  rw [tk (by simp [h1', h2']), List.length_append, ints_app]
                  exact o6
                have k67 : Kb [b] h6 h7 := (Kb.refl _ _).up up7 (.inl (by simp))
                have kb6 : Kb [b] h3 h6 := ⟨Nat.le_trans kb4.size (Nat.le_trans g5.size gr6.size), fun z hz hx => by
                  rw [gr6.block z (Nat.lt_of_lt_of_le hz (Nat.le_trans kb4.size g5.size)) (fun e => by have := (Own.blk oL e.symm).1; omega), g5.block z (Nat.lt_of_lt_of_le hz kb4.size)]
                  exact kb4.block z hz hx⟩
                refine ⟨k' - 1, by omega, _, (by simp only [↓SS, Nat.reduceEqDiff, Int.reduceToNat, Int.cast_ofNat_Int, Int.reduceSub, Int.reduceAdd, Nat.reduceAdd, Nat.reduceMul, Nat.reduceSub, ↓reduceIte, rd_eq, Int.natCast_add, Int.cast_ofNat_Int]), m + 1, w, by omega, rfl, kb6.trans k67, ?_, V.Own.kb o6' k67 (fun b' hb' => ?_)⟩
                · rw [e7]
                  simp only [Value.cells]
                  rw [arrB_set _ hm]
                  congr 2
                  apply arrV_congr
                  intro z _
                  rw [tk (by simp [h1', h2'])]
                  simp only [upd]
                  by_cases ez : z = m
                  · subst ez; simp
                  · simp [ez]
                · obtain ⟨_, cur, hcur⟩ := Own.blk o6' hb'
                  simp only [List.mem_singleton]
                  exact other_type hcur e6 (by decide)
        · obtain rfl : m = i := by omega
          have hIL : IntsA [] h4 lv (nats (Tar.withN AA j m)) := IntsA.own oL (by simp)
          obtain ⟨la, lc, rfl, _⟩ := oL.form
          simp (disch := omega) only [↓SS, A, Nat.reduceEqDiff, Int.reduceToNat, Int.cast_ofNat_Int, Int.reduceSub, Int.reduceAdd, Nat.reduceAdd, Nat.reduceMul, Nat.reduceSub, ↓reduceIte, rd_eq, TyR]
          refine vbs_one elRows3 rfl rfl (by omega) (by omega) ?_
          have g5 : Ge h4 (h4.push (Obj.cells (Value.slice la (Tar.withN AA j m).length lc).cells 23)) := Ge.push _ _
          have e5 : (h4.push (Obj.cells (Value.slice la (Tar.withN AA j m).length lc).cells 23))[h4.size]? = some (Obj.cells #[Value.slice la (Tar.withN AA j m).length lc] 23 (0, 0)) := push_new _ _
          generalize h4.push (Obj.cells (Value.slice la (Tar.withN AA j m).length lc).cells 23) = h5 at *
          generalize h4.size = sb at *
          simp (disch := omega) only [↓SS, A, Nat.reduceEqDiff, Int.reduceToNat, Int.cast_ofNat_Int, Int.reduceSub, Int.reduceAdd, Nat.reduceAdd, Nat.reduceMul, Nat.reduceSub, ↓reduceIte, rd_eq, TyR]
          have oO4 := oO.kb kb4 (fun z hz => by simp only [List.mem_singleton] at hz; subst hz; exact ⟨_, _, _, e3, by decide, by decide⟩)
          have oO5 := oO4.kb ((Kb.refl [] _).ge g5) (by simp)
          obtain ⟨ovs, oV, hV⟩ := oO5.own
          have hol : ovs.length = (Tar.outN AA m j).length := by simpa using oV.1
          have hlen := outN_len AA m j
          have g35 : Kb [b] h3 h5 := kb4.ge g5
          refine vapp_own elRows3 rfl (by omega) oV (rdRow_blk e5 (by simp)) (by simp; rfl) (by omega) (by omega) (by have := g35.size; omega) ?_
          intro w h6 o6 gr6 _
          simp (disch := omega) only [↓SS, A, Nat.reduceEqDiff, Int.reduceToNat, Int.cast_ofNat_Int, Int.reduceSub, Int.reduceAdd, Nat.reduceAdd, Nat.reduceMul, Nat.reduceSub, ↓reduceIte, rd_eq, TyR]
          have g4' : Ge h h5 := ⟨Nat.le_trans g3.size g35.size, fun z hz => (g35.block z (Nat.lt_of_lt_of_le hz g3.size) (by simp only [List.mem_singleton]; omega)).trans (g3.block z hz)⟩
          have hov : ∀ b', outv.ownBlock = some b' → b ≤ b' ∧ ∃ cur f, h5[b']? = some (.cells cur 23 f) := fun b' hb' => by
            obtain ⟨h8, cur, h9⟩ := Own.blk oV hb'
            exact ⟨h8, cur, _, h9⟩
          have e55 := g5.lookup e4
          have nb : outv.ownBlock ≠ some b := fun e => by
            obtain ⟨_, cur, f, h9⟩ := hov b e
            rw [e55] at h9
            simp only [Option.some.injEq, Obj.cells.injEq] at h9
            exact absurd h9.2.1 (by decide)
          have g6 : Ge h h6 := ⟨Nat.le_trans g4'.size gr6.size, fun z hz => (gr6.block z (Nat.lt_of_lt_of_le hz g4'.size) (fun e => by have := (hov z e.symm).1; omega)).trans (g4'.block z hz)⟩
          have kbv : Kb outv.ownBlock.toList h5 h6 := ⟨gr6.size, fun z hz hx => gr6.block z hz (fun e => hx (by rw [← e]; simp))⟩
          refine ⟨k - 1, by omega, _, (by simp only [↓SS, Nat.reduceEqDiff, Int.reduceToNat, Int.cast_ofNat_Int, Int.reduceSub, Int.reduceAdd, Nat.reduceAdd, Nat.reduceMul, Nat.reduceSub, ↓reduceIte, rd_eq, Int.natCast_add, Int.cast_ofNat_Int]), j + 1, w, by omega, rfl, g6, ?_, ?_, ?_⟩
          · exact (qA4.kb ((Kb.refl [] _).ge g5) (by simp)).kb kbv (fun z hz => (hov z (by simpa using hz)).1)
          · rw [gr6.block b (Ge.lt e55) (fun e => nb e.symm), e55, e]
            congr 3
            apply funext
            intro z
            simp [List.any_append]
          · rw [e]
            exact oO5.snoc (hIL.ge g5) hV hol o6 gr6 (fun b' hb' => (hov b' hb').2)
    · obtain rfl : j = i := by omega
      simp (disch := omega) only [↓SS, A, Nat.reduceEqDiff, Int.reduceToNat, Int.cast_ofNat_Int, Int.reduceSub, Int.reduceAdd, Nat.reduceAdd, Nat.reduceMul, Nat.reduceSub, ↓reduceIte, rd_eq, TyR]
      obtain ⟨C1, C2⟩ := Tar.outN_all hA rE_lt
      exact ⟨_, oO.isLL, C1, C2, g3⟩
end Go.Proofs.YtgfljbplccekcaaDoor
