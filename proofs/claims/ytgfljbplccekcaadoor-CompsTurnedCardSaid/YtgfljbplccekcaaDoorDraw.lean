/-
  assayerlaw07.drawn: a graph of the program beside one of the document; conditions: the argument reads.
-/
import Derived.Test.YtgfljbplccekcaaDoorRC2
import Derived.Test.YtgfljbplccekcaaDoorEqs
set_option linter.unusedSimpArgs false
set_option linter.unusedVariables false
set_option maxRecDepth 100000
namespace Go.Proofs.YtgfljbplccekcaaDoor
open Go Go.V Go.Low

/-- the two graphs bear the same edges -/
structure Pair (h : Heap) (g x n : Nat) (vs : Nat → Value) (L : Nat → List (Nat × Nat)) (E : Nat → Nat → Nat → Bool) (rv : Value) (rb : Nat → Nat) (M : Nat → Nat → Nat) : Prop where
  G : isG h g n vs L E
  X : isR h x n rv rb M
  lk : ∀ i u k, i < 4 → (M u k).testBit i = E i u k
  lt : ∀ i u k, E i u k = true → u < n ∧ k < n
  irr : ∀ i u, E i u u = false
section
variable {h h' : Heap} {g x n : Nat} {vs : Nat → Value} {L : Nat → List (Nat × Nat)} {E : Nat → Nat → Nat → Bool} {rv : Value} {rb : Nat → Nat} {M : Nat → Nat → Nat}
theorem isG.kb (q : isG h g n vs L E) {X : List Nat} (kb : Kb X h h') (hX : ∀ b ∈ X, ∃ c t f, h[b]? = some (.cells c t f) ∧ t ≠ 70 ∧ t ≠ 98 ∧ t ≠ 170 ∧ t ≠ 192) : isG h' g n vs L E := by
  have key : ∀ {b : Nat} {c : Array Value} {t : Nat} {f : Nat × Nat}, h[b]? = some (.cells c t f) → (t = 70 ∨ t = 98 ∨ t = 170 ∨ t = 192) → b ∉ X := by
    intro b c t f hb ht hm
    obtain ⟨c', t', f', hb', h1, h2, h3, h4⟩ := hX b hm
    rw [hb] at hb'
    simp only [Option.some.injEq, Obj.cells.injEq] at hb'
    obtain ⟨_, rfl, _⟩ := hb'
    rcases ht with rfl | rfl | rfl | rfl <;> contradiction
  refine ⟨kb.lookup q.blk (key q.blk (.inl rfl)), q.le, fun i hi => V.Own.kb (q.row i hi) kb (fun b hb => ?_), q.len, fun i u p hi hp => ?_, q.inj⟩
  · obtain ⟨_, cur, hc⟩ := Own.blk (q.row i hi) hb
    exact key hc (.inr (.inl rfl))
  · obtain ⟨ws, h1, h2⟩ := q.set i u p hi hp
    exact ⟨ws, h1.kb kb (key h1.blk (.inr (.inr (.inl rfl)))) (key h1.words (.inr (.inr (.inr rfl)))), h2⟩
theorem isR.kb (q : isR h x n rv rb M) {X : List Nat} (kb : Kb X h h') (hX : ∀ b ∈ X, ∃ c t f, h[b]? = some (.cells c t f) ∧ t ≠ 57 ∧ t ≠ 23 ∧ t ≠ 3) : isR h' x n rv rb M := by
  have key : ∀ {b : Nat} {c : Array Value} {t : Nat} {f : Nat × Nat}, h[b]? = some (.cells c t f) → (t = 57 ∨ t = 23 ∨ t = 3) → b ∉ X := by
    intro b c t f hb ht hm
    obtain ⟨c', t', f', hb', h1, h2, h3⟩ := hX b hm
    rw [hb] at hb'
    simp only [Option.some.injEq, Obj.cells.injEq] at hb'
    obtain ⟨_, rfl, _⟩ := hb'
    rcases ht with rfl | rfl | rfl <;> contradiction
  refine ⟨kb.lookup q.blk (key q.blk (.inl rfl)), q.le, V.Own.kb q.rows kb (fun b hb => ?_), fun u hu => kb.lookup (q.row u hu) (key (q.row u hu) (.inr (.inr rfl))), q.inj, q.small⟩
  obtain ⟨_, cur, hc⟩ := Own.blk q.rows hb
  exact key hc (.inr (.inl rfl))
theorem isG.words (q : isG h g n vs L E) : ∀ b ∈ wl L, ∃ c f, h[b]? = some (.cells c 192 f) := by
  intro b hb
  obtain ⟨i, hi, p, hp, rfl⟩ := mem_wl.1 hb
  obtain ⟨u, hu⟩ := List.getElem?_of_mem hp
  obtain ⟨ws, h1, _⟩ := q.set i u p hi hu
  exact ⟨_, _, h1.words⟩
theorem Pair.ge (p : Pair h g x n vs L E rv rb M) (ge : Ge h h') : Pair h' g x n vs L E rv rb M := ⟨p.G.ge ge, p.X.ge ge, p.lk, p.lt, p.irr⟩
theorem Pair.redge (p : Pair h g x n vs L E rv rb M) (of : Int) : YtgfljbplccekcaaDoor.redge M of = ed E of := by
    funext u k
    show (List.range 4).any (fun i => lbit of i && (M u k).testBit i) = (List.range 4).any (fun i => lbit of i && E i u k)
    refine Bool.eq_iff_iff.2 ?_
    rw [List.any_eq_true, List.any_eq_true]
    constructor
    · rintro ⟨i, hi, h1⟩; exact ⟨i, hi, by rw [← p.lk i u k (List.mem_range.1 hi)]; exact h1⟩
    · rintro ⟨i, hi, h1⟩; exact ⟨i, hi, by rw [p.lk i u k (List.mem_range.1 hi)]; exact h1⟩
theorem Pair.edge (p : Pair h g x n vs L E rv rb M) (of : Int) : rE n M of = ed E of := by
  funext u k
  rw [rE, p.redge of]
  cases he : ed E of u k with
  | false => simp
  | true =>
    have he' : (List.range 4).any (fun i => lbit of i && E i u k) = true := he
    rw [List.any_eq_true] at he'
    obtain ⟨i, _, h2⟩ := he'
    simp only [Bool.and_eq_true] at h2
    simp [(p.lt i u k h2.2).2]
theorem lbit_nat (of i : Nat) : lbit (of : Int) i = of.testBit i := by
  unfold lbit
  rw [Nat.testBit_eq_decide_div_mod_eq]
  have : ((of : Int) / 2 ^ i % 2 = 1) ↔ (of / 2 ^ i % 2 = 1) := by
    have e : (of : Int) / 2 ^ i % 2 = ((of / 2 ^ i % 2 : Nat) : Int) := by push_cast; rfl
    rw [e]; omega
  exact decide_eq_decide.2 this
theorem addE_pair {a b of : Nat} (hM : ∀ i u k, i < 4 → (M u k).testBit i = E i u k) : ∀ i u k, i < 4 → (addM M a b of u k).testBit i = addE E a b of 4 i u k := by
  intro i u k hi
  unfold addM addE
  rw [lbit_nat]
  by_cases h : u = a ∧ k = b
  · obtain ⟨rfl, rfl⟩ := h
    simp [hM i u k hi, hi]
  · rw [if_neg h, hM i u k hi]
    have : (decide (u = a) && decide (k = b)) = false := by
      simp only [Bool.and_eq_false_iff, decide_eq_false_iff_not]
      by_cases e : u = a
      · exact .inr fun e2 => h ⟨e, e2⟩
      · exact .inl e
    rw [Bool.and_assoc, Bool.and_assoc, this]
    simp
end

theorem TyD : aggT Tryd.prog 117 = some true ∧
  szT Tryd.prog 117 = some 3 ∧
  zeroT Tryd.prog 117 = some (.agg #[(.int .i64 0), (.int .i64 0), (.int .i64 0)]) ∧
  fieldT Tryd.prog 117 0 = some 0 ∧
  fieldT Tryd.prog 117 1 = some 1 ∧
  fieldT Tryd.prog 117 2 = some 2 ∧
  aggT Tryd.prog 45 = some false ∧
  szT Tryd.prog 45 = some 1 ∧
  zeroT Tryd.prog 45 = some (.slice none 0 0) ∧
  slT Tryd.prog 45 = some 3 ∧
  aggT Tryd.prog 46 = some false ∧
  szT Tryd.prog 46 = some 1 ∧
  zeroT Tryd.prog 46 = some (.pointer none) ∧
  ptrT Tryd.prog 46 = true ∧
  aggT Tryd.prog 47 = some false ∧
  szT Tryd.prog 47 = some 1 ∧
  zeroT Tryd.prog 47 = some (.pointer none) ∧
  ptrT Tryd.prog 47 = true ∧
  aggT Tryd.prog 3 = some false ∧
  szT Tryd.prog 3 = some 1 ∧
  zeroT Tryd.prog 3 = some (.int .i64 0) ∧
  intT Tryd.prog 3 = some .i64 ∧
  (Tryd.prog.underlying 3).isSome = true ∧
  aggT Tryd.prog 59 = some false ∧
  szT Tryd.prog 59 = some 1 ∧
  zeroT Tryd.prog 59 = some (.int .u64 0) ∧
  intT Tryd.prog 59 = some .u64 ∧
  (Tryd.prog.underlying 59).isSome = true ∧
  aggT Tryd.prog 4 = some false ∧
  szT Tryd.prog 4 = some 1 ∧
  zeroT Tryd.prog 4 = some (.bool false) ∧
  boolT Tryd.prog 4 = true ∧
  aggT Tryd.prog 60 = some false ∧
  szT Tryd.prog 60 = some 1 ∧
  zeroT Tryd.prog 60 = some (.int .i64 0) ∧
  intT Tryd.prog 60 = some .i64 ∧
  (Tryd.prog.underlying 60).isSome = true := by
  refine ⟨?_, ?_, ?_, ?_, ?_, ?_, ?_, ?_, ?_, ?_, ?_, ?_, ?_, ?_, ?_, ?_, ?_, ?_, ?_, ?_, ?_, ?_, ?_, ?_, ?_, ?_, ?_, ?_, ?_, ?_, ?_, ?_, ?_, ?_, ?_, ?_, ?_⟩ <;> kernel_rfl
/-- an edge's cells -/
def edgeCells (e : Int × Int × Int) : List Value := [.int .i64 e.1, .int .i64 e.2.1, .int .i64 e.2.2]
def edgesAt (h : Heap) (v : Value) (l : List (Int × Int × Int)) : Prop :=
  ∃ a c, v = .slice a l.length c ∧ l.length ≤ c ∧ c ≤ 9223372036854775807 ∧ (0 < l.length → ∃ b o, a = some ⟨b, o, none⟩ ∧ ∀ (i : Nat) (e : Int × Int × Int), l[i]? = some e → hcell h b (o + i * 3) = some (.int .i64 e.1) ∧ hcell h b (o + i * 3 + 1) = some (.int .i64 e.2.1) ∧ hcell h b (o + i * 3 + 2) = some (.int .i64 e.2.2))
def drawnTo (h h' : Heap) (v : Value) (n : Nat) : Prop :=
  ∃ g x vs L E rv rb M, v = .tuple #[ptr g 0, ptr x 0, .bool true] ∧ Pair h' g x n vs L E rv rb M ∧ Ge h h'
/-- how many nodes -/
def nodesOf (z : Int) : Nat := (IntKind.u64.wrap z % 60).toNat
theorem nodesOf_lt (z : Int) : nodesOf z < 60 := by unfold nodesOf; omega
theorem u64_nonneg (z : Int) : 0 ≤ IntKind.u64.wrap z := by
  simp only [IntKind.wrap, IntKind.bits, IntKind.signed]
  simp
  omega
theorem nodesOf_eq (z : Int) : IntKind.i64.wrap ((IntKind.u64.wrap z).tmod 60) = (nodesOf z : Nat) := by
  rw [Int.tmod_eq_emod_of_nonneg (u64_nonneg z)]
  have h1 : (nodesOf z : Int) = IntKind.u64.wrap z % 60 := by unfold nodesOf; omega
  rw [← h1]
  have := nodesOf_lt z
  generalize nodesOf z = m at *
  simp only [IntKind.wrap, IntKind.bits, IntKind.signed]
  simp
  omega
theorem drawn_ok {h : Heap} {z : Int} {lv : Value} {l : List (Int × Int × Int)} (hl : edgesAt h lv l) :
    Ct Tryd.prog 29 [.int .i64 z, lv] h fun v h' => drawnTo h h' v (nodesOf z) := by
  obtain ⟨la, lc, rfl, hlc, hlm, hle⟩ := hl
  refine enter Tryd.func29 (by kernel_rfl) rfl Tryd.results29 (by kernel_rfl) (by kernel_rfl) (init2 _ _) ?_
  simp (disch := omega) only [↓SS, A, Nat.reduceEqDiff, Int.reduceToNat, Int.cast_ofNat_Int, Int.reduceSub, Int.reduceAdd, Nat.reduceAdd, Nat.reduceMul, Nat.reduceSub, ↓reduceIte, rd_eq, TyD]
  rw [nodesOf_eq]
  have hn := nodesOf_lt z
  generalize nodesOf z = n at *
  refine vcall_mk (gnew_ok (by omega)) ?_
  rintro _ h1 ⟨g, vs, L, rfl, G1, g1, hg, hw⟩
  simp (disch := omega) only [↓SS, A, Nat.reduceEqDiff, Int.reduceToNat, Int.cast_ofNat_Int, Int.reduceSub, Int.reduceAdd, Nat.reduceAdd, Nat.reduceMul, Nat.reduceSub, ↓reduceIte, rd_eq, TyD]
  refine vcall_mk (rnew_ok (by omega)) ?_
  rintro _ h2 ⟨x, rv, rb, rfl, X2, g2, hx, hrb⟩
  have p2 : Pair h2 g x n vs L (fun _ _ _ => false) rv rb (fun _ _ => 0) := ⟨G1.ge g2, X2, by simp, by simp, by simp⟩
  simp (disch := omega) only [↓SS, A, Nat.reduceEqDiff, Int.reduceToNat, Int.cast_ofNat_Int, Int.reduceSub, Int.reduceAdd, Nat.reduceAdd, Nat.reduceMul, Nat.reduceSub, ↓reduceIte, rd_eq, TyD]
  refine vloop_mk (fun k fr h' => ∃ (i : Nat) (E : Nat → Nat → Nat → Bool) (M : Nat → Nat → Nat), i + k = l.length ∧ fr = [(35, .int .i64 i), (34, .int .i64 l.length), (33, .slice la l.length lc), (9, ptr x 0), (7, ptr g 0), (6, .bool false), (5, .pointer none), (4, .pointer none)] ∧ Ge h h' ∧
      Pair h' g x n vs L E rv rb M) l.length
    [(35, .int .i64 0), (34, .int .i64 l.length), (33, .slice la l.length lc), (9, ptr x 0), (7, ptr g 0), (6, .bool false), (5, .pointer none), (4, .pointer none)] (by simp only [↓SS, Nat.reduceEqDiff, Int.reduceToNat, Int.cast_ofNat_Int, Int.reduceSub, Int.reduceAdd, Nat.reduceAdd, Nat.reduceMul, Nat.reduceSub, ↓reduceIte, rd_eq, TyD]) ⟨0, _, _, by omega, rfl, g1.trans g2, p2⟩ ?_
  rintro k _ h3 ⟨i, E, M, hik, rfl, g3, p3⟩
  by_cases hi : i < l.length
  · obtain ⟨b, o, rfl, hc⟩ := hle (by omega)
    obtain ⟨⟨ea, eb, eo⟩, he⟩ : ∃ e, l[i]? = some e := ⟨_, List.getElem?_eq_getElem hi⟩
    obtain ⟨c0, c1, c2⟩ := hc i _ he
    have hrow : rdRow h3 b (o + i * 3) 3 = some [.int .i64 ea, .int .i64 eb, .int .i64 eo] := by
      simp only [rdRow, g3.cell c0, Option.bind_some]
      rw [g3.cell c1]
      simp only [Option.bind_some]
      rw [show o + i * 3 + 1 + 1 = o + i * 3 + 2 from rfl, g3.cell c2]
      rfl
    simp (disch := omega) only [↓SS, A, Nat.reduceEqDiff, Int.reduceToNat, Int.cast_ofNat_Int, Int.reduceSub, Int.reduceAdd, Nat.reduceAdd, Nat.reduceMul, Nat.reduceSub, ↓reduceIte, rd_eq, TyD, hrow]
    refine vst_new rfl rfl rfl ?_
    have g4 : Ge h3 (h3.push (Obj.cells (Value.agg #[.int .i64 ea, .int .i64 eb, .int .i64 eo]).cells 117)) := Ge.push _ _
    have e4 : (h3.push (Obj.cells (Value.agg #[.int .i64 ea, .int .i64 eb, .int .i64 eo]).cells 117))[h3.size]? = some (Obj.cells #[.int .i64 ea, .int .i64 eb, .int .i64 eo] 117 (0, 0)) := push_new _ _
    generalize h3.push (Obj.cells (Value.agg #[.int .i64 ea, .int .i64 eb, .int .i64 eo]).cells 117) = h4 at *
    generalize h3.size = eb' at *
    have p4 := p3.ge g4
    have g04 := g3.trans g4
    have k0 : hcell h4 eb' 0 = some (.int .i64 ea) := by simp [hcell, e4]
    have k1 : hcell h4 eb' 1 = some (.int .i64 eb) := by simp [hcell, e4]
    have k2 : hcell h4 eb' 2 = some (.int .i64 eo) := by simp [hcell, e4]
    have oX : V.outb (wl L ++ (List.range n).map rb) eb' := by
      simp only [V.outb, List.mem_append, List.mem_map, List.mem_range, not_or, not_exists, not_and]
      refine ⟨p4.G.out e4 (by decide), fun u hu => ?_⟩
      exact fun e => other_type (p4.X.row u hu) e4 (by decide) e
    simp (disch := omega) only [↓SS, A, Nat.reduceEqDiff, Int.reduceToNat, Int.cast_ofNat_Int, Int.reduceSub, Int.reduceAdd, Nat.reduceAdd, Nat.reduceMul, Nat.reduceSub, ↓reduceIte, rd_eq, TyD]
    refine vdraw_cut (fun s h' => ∃ E' M', s = [(55, .bool false), (35, .int .i64 i), (34, .int .i64 l.length), (33, sl b o l.length lc), (9, ptr x 0), (7, ptr g 0), (6, .bool false), (5, .pointer none), (4, .pointer none)] ∧ Kb (wl L ++ (List.range n).map rb) h4 h' ∧
        Pair h' g x n vs L E' rv rb M') (by repeat' first | exact vround_mono _ _ | exact vend_mono _ _ | exact vexit_mono _ _ | refine vc_mono _ ?_ ?_ | refine inB_mono ?_ ?_ | refine jmp_mono ?_ ?_ | refine vl_mono ?_ _) ?_ ?_
    · refine vdraw_held (wl L ++ (List.range n).map rb) [(0, 0), (1, 0), (2, 1), (3, 0), (4, 1), (5, 0), (6, 1), (8, 0), (9, 0), (10, 1), (11, 0), (12, 1), (13, 0), (14, 1), (7, 2), (15, 2), (16, 0)] mixed (by kernel_rfl) ?_
      simp (disch := omega) only [↓SS, A, Nat.reduceEqDiff, Int.reduceToNat, Int.cast_ofNat_Int, Int.reduceSub, Int.reduceAdd, Nat.reduceAdd, Nat.reduceMul, Nat.reduceSub, ↓reduceIte, rd_eq, TyD, k0, k1, k2, oX]
      by_cases hab : (0 ≤ ea ∧ ea < n) ∧ 0 ≤ eb ∧ eb < n
      · obtain ⟨a, rfl⟩ : ∃ a : Nat, ea = a := ⟨ea.toNat, by omega⟩
        obtain ⟨b2, rfl⟩ : ∃ a : Nat, eb = a := ⟨eb.toNat, by omega⟩
        have ha : a < n := by omega
        have hb2 : b2 < n := by omega
        by_cases hof : eo < 1 ∨ 15 < eo ∨ a = b2
        · refine vcall_mk (gadd_arg p4.G ha hb2 hof) ?_
          rintro _ _ ⟨rfl, rfl⟩
          refine ⟨Kb.refl _ _, ?_⟩
          simp (disch := omega) only [↓SS, A, Nat.reduceEqDiff, Int.reduceToNat, Int.cast_ofNat_Int, Int.reduceSub, Int.reduceAdd, Nat.reduceAdd, Nat.reduceMul, Nat.reduceSub, ↓reduceIte, rd_eq, TyD]
          refine vcall_mk (radd_arg p4.X ha hb2 hof) ?_
          rintro _ _ ⟨rfl, rfl⟩
          refine ⟨Kb.refl _ _, ?_⟩
          simp (disch := omega) only [↓SS, A, Nat.reduceEqDiff, Int.reduceToNat, Int.cast_ofNat_Int, Int.reduceSub, Int.reduceAdd, Nat.reduceAdd, Nat.reduceMul, Nat.reduceSub, ↓reduceIte, rd_eq, TyD]
          exact ⟨_, (by simp only [↓SS, Nat.reduceEqDiff, Int.reduceToNat, Int.cast_ofNat_Int, Int.reduceSub, Int.reduceAdd, Nat.reduceAdd, Nat.reduceMul, Nat.reduceSub, ↓reduceIte, rd_eq, Int.natCast_add, Int.cast_ofNat_Int]), E, M, rfl, Kb.refl _ _, p4⟩
        · simp only [not_or, Int.not_lt] at hof
          obtain ⟨of, rfl⟩ : ∃ a : Nat, eo = a := ⟨eo.toNat, by omega⟩
          refine vcall_mk (gadd_ok p4.G ha hb2 hof.1 hof.2.1 hof.2.2) ?_
          rintro _ h5 ⟨rfl, G5, kb5, _⟩
          refine ⟨⟨kb5.size, fun k hk hx => kb5.block k hk (fun hm => hx (by simp [hm]))⟩, ?_⟩
          have X5 := p4.X.kb kb5 (fun b hb => by
            obtain ⟨c, f, hc⟩ := p4.G.words b hb
            exact ⟨c, _, f, hc, by decide, by decide, by decide⟩)
          simp (disch := omega) only [↓SS, A, Nat.reduceEqDiff, Int.reduceToNat, Int.cast_ofNat_Int, Int.reduceSub, Int.reduceAdd, Nat.reduceAdd, Nat.reduceMul, Nat.reduceSub, ↓reduceIte, rd_eq, TyD]
          refine vcall_mk (radd_ok X5 ha hb2 (by omega) (by omega) hof.2.2) ?_
          rintro _ h6 ⟨rfl, X6, up6⟩
          have G6 := G5.kb ((Kb.refl [rb a] _).up up6 (.inl (by simp))) (fun b hb => by
            simp only [List.mem_singleton] at hb
            subst hb
            exact ⟨_, _, _, X5.row a ha, by decide, by decide, by decide, by decide⟩)
          have kb6 : Kb (wl L ++ (List.range n).map rb) h4 h6 := ⟨by rw [up6.size]; exact kb5.size, fun k hk hx => by
            have hk2 : k ≠ rb a := fun e => hx (by rw [e]; simp only [List.mem_append, List.mem_map, List.mem_range]; exact .inr ⟨a, ha, rfl⟩)
            rw [up6.other k hk2]
            exact kb5.block k hk (fun hm => hx (by simp [hm]))⟩
          refine ⟨kb6, ?_⟩
          simp (disch := omega) only [↓SS, A, Nat.reduceEqDiff, Int.reduceToNat, Int.cast_ofNat_Int, Int.reduceSub, Int.reduceAdd, Nat.reduceAdd, Nat.reduceMul, Nat.reduceSub, ↓reduceIte, rd_eq, TyD]
          refine ⟨_, (by simp only [↓SS, Nat.reduceEqDiff, Int.reduceToNat, Int.cast_ofNat_Int, Int.reduceSub, Int.reduceAdd, Nat.reduceAdd, Nat.reduceMul, Nat.reduceSub, ↓reduceIte, rd_eq, Int.natCast_add, Int.cast_ofNat_Int]), _, _, rfl, kb6, G6, X6, addE_pair p4.lk, ?_, ?_⟩
          · intro i u k hik'
            simp only [addE, Bool.or_eq_true, Bool.and_eq_true, decide_eq_true_eq] at hik'
            rcases hik' with h7 | ⟨⟨_, rfl⟩, rfl⟩
            · exact p4.lt i u k h7
            · exact ⟨ha, hb2⟩
          · intro i u
            simp only [addE, p4.irr i u, Bool.false_or]
            by_cases e : u = a
            · subst e
              have : ¬ u = b2 := hof.2.2
              simp [this]
            · simp [e]
      · refine vcall_mk (gadd_node p4.G hab) ?_
        rintro _ _ ⟨rfl, rfl⟩
        refine ⟨Kb.refl _ _, ?_⟩
        simp (disch := omega) only [↓SS, A, Nat.reduceEqDiff, Int.reduceToNat, Int.cast_ofNat_Int, Int.reduceSub, Int.reduceAdd, Nat.reduceAdd, Nat.reduceMul, Nat.reduceSub, ↓reduceIte, rd_eq, TyD]
        refine vcall_mk (radd_node p4.X hab) ?_
        rintro _ _ ⟨rfl, rfl⟩
        refine ⟨Kb.refl _ _, ?_⟩
        simp (disch := omega) only [↓SS, A, Nat.reduceEqDiff, Int.reduceToNat, Int.cast_ofNat_Int, Int.reduceSub, Int.reduceAdd, Nat.reduceAdd, Nat.reduceMul, Nat.reduceSub, ↓reduceIte, rd_eq, TyD]
        exact ⟨_, (by simp only [↓SS, Nat.reduceEqDiff, Int.reduceToNat, Int.cast_ofNat_Int, Int.reduceSub, Int.reduceAdd, Nat.reduceAdd, Nat.reduceMul, Nat.reduceSub, ↓reduceIte, rd_eq, Int.natCast_add, Int.cast_ofNat_Int]), E, M, rfl, Kb.refl _ _, p4⟩
    · rintro s h5 ⟨E', M', rfl, kb5, p5⟩
      simp (disch := omega) only [↓SS, A, Nat.reduceEqDiff, Int.reduceToNat, Int.cast_ofNat_Int, Int.reduceSub, Int.reduceAdd, Nat.reduceAdd, Nat.reduceMul, Nat.reduceSub, ↓reduceIte, rd_eq, TyD]
      refine ⟨k - 1, by omega, _, (by simp only [↓SS, Nat.reduceEqDiff, Int.reduceToNat, Int.cast_ofNat_Int, Int.reduceSub, Int.reduceAdd, Nat.reduceAdd, Nat.reduceMul, Nat.reduceSub, ↓reduceIte, rd_eq, Int.natCast_add, Int.cast_ofNat_Int]), i + 1, E', M', by omega, rfl, ?_, p5⟩
      refine ⟨Nat.le_trans g04.size kb5.size, fun z hz => ?_⟩
      rw [kb5.block z (Nat.lt_of_lt_of_le hz g04.size) (fun hm => ?_)]
      · exact g04.block z hz
      · simp only [List.mem_append, List.mem_map, List.mem_range] at hm
        rcases hm with hm | ⟨u, hu, rfl⟩
        · have := hw z hm; omega
        · have := hrb u hu; have := g1.size; omega
  · obtain rfl : i = l.length := by omega
    simp (disch := omega) only [↓SS, A, Nat.reduceEqDiff, Int.reduceToNat, Int.cast_ofNat_Int, Int.reduceSub, Int.reduceAdd, Nat.reduceAdd, Nat.reduceMul, Nat.reduceSub, ↓reduceIte, rd_eq, TyD]
    exact ⟨g, x, vs, L, E, rv, rb, M, rfl, p3, g3⟩
end Go.Proofs.YtgfljbplccekcaaDoor
