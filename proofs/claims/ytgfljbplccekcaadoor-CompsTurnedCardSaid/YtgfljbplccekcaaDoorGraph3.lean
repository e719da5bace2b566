/-
  Package graph: Add, Out, as contracts; conditions: the graph was made by graph.New.
-/
import Derived.Test.YtgfljbplccekcaaDoorGraph2
set_option linter.unusedSimpArgs false
set_option linter.unusedVariables false
set_option maxRecDepth 100000
namespace Go.Proofs.YtgfljbplccekcaaDoor
open Go Go.V Go.Low

/-- bit i of a number of labels -/
def lbit (of : Int) (i : Nat) : Bool := decide (of / 2 ^ i % 2 = 1)
theorem and_one (x : Int) : bitV .and .i64 x 1 = x % 2 := by
  have h1 : (BitVec.ofInt 64 x &&& BitVec.ofInt 64 1).toNat = (x % 2).toNat := by
    rw [BitVec.toNat_and]
    have : (BitVec.ofInt 64 (1 : Int)).toNat = 1 := rfl
    rw [this, Nat.and_one_is_mod, BitVec.toNat_ofInt]
    omega
  show IntKind.i64.wrap (((BitVec.ofInt 64 x &&& BitVec.ofInt 64 1).toNat : Nat) : Int) = _
  rw [h1, IntWalk.i64_in] <;> omega
theorem shr_bit (of : Int) (i : Nat) (hi : i < 4) : (bitV .and .i64 (of.fdiv (2 ^ min i IntKind.i64.bits)) 1 = 1) ↔ lbit of i = true := by
  have e : min i IntKind.i64.bits = i := by simp [IntKind.bits]; omega
  rw [and_one, e, Int.fdiv_eq_ediv_of_nonneg _ (Int.pow_nonneg (by omega))]
  simp [lbit]

/-- the words of a graph's sets -/
def wl (L : Nat → List (Nat × Nat)) : List Nat := ([0, 1, 2, 3] : List Nat).flatMap fun i => (L i).map (·.2)
theorem mem_wl {L : Nat → List (Nat × Nat)} {b : Nat} : b ∈ wl L ↔ ∃ i, i < 4 ∧ ∃ p ∈ L i, p.2 = b := by
  simp only [wl, List.mem_flatMap, List.mem_map]
  constructor
  · rintro ⟨i, hi, p, hp, e⟩
    refine ⟨i, ?_, p, hp, e⟩
    simp only [List.mem_cons, List.not_mem_nil, or_false] at hi
    omega
  · rintro ⟨i, hi, p, hp, e⟩
    refine ⟨i, ?_, p, hp, e⟩
    simp only [List.mem_cons, List.not_mem_nil, or_false]
    omega
/-- A graph: vs the rows' values, L their sets and words, E whether an edge with label bit i leads from u to k. -/
structure isG (h : Heap) (g n : Nat) (vs : Nat → Value) (L : Nat → List (Nat × Nat)) (E : Nat → Nat → Nat → Bool) : Prop where
  blk : h[g]? = some (.cells (gcells n vs) 70 (0, 0))
  le : n ≤ 300
  row : ∀ i, i < 4 → Own h 0 98 1 (vs i) (L i).length ((L i).map fun p => ptr p.1 0)
  len : ∀ i, i < 4 → (L i).length = n
  set : ∀ (i u : Nat) (p : Nat × Nat), i < 4 → (L i)[u]? = some p → ∃ ws, isSet h p.1 p.2 n ws ∧ ∀ k, mem ws k = E i u k
  inj : ∀ (i i' u u' : Nat) (p p' : Nat × Nat), i < 4 → i' < 4 → (L i)[u]? = some p → (L i')[u']? = some p' → p.2 = p'.2 → i = i' ∧ u = u'
theorem Own.base {h : Heap} {base b e sz n : Nat} {v : Value} {xs : List Value} (o : Own h base e sz v n xs) (hb : b ≤ base) : Own h b e sz v n xs := by
  refine ⟨o.1, ?_⟩
  rcases o.2 with h0 | ⟨g, cap, cur, h1, h2, h3⟩
  · exact .inl h0
  · exact .inr ⟨g, cap, cur, h1, by omega, h3⟩
theorem isG.ge {h h' : Heap} (ge : Ge h h') {g n : Nat} {vs : Nat → Value} {L : Nat → List (Nat × Nat)} {E : Nat → Nat → Nat → Bool} (q : isG h g n vs L E) : isG h' g n vs L E :=
  ⟨ge.lookup q.blk, q.le, fun i hi => (q.row i hi).ge ge, q.len, fun i u p hi hp => by obtain ⟨ws, h1, h2⟩ := q.set i u p hi hp; exact ⟨ws, h1.ge ge, h2⟩, q.inj⟩
/-- what lies in a block that is no set's words is not one of them -/
theorem isG.out {h : Heap} {g n : Nat} {vs : Nat → Value} {L : Nat → List (Nat × Nat)} {E : Nat → Nat → Nat → Bool} (q : isG h g n vs L E) {b : Nat} {c : Array Value} {t : Nat} {f : Nat × Nat} (hb : h[b]? = some (.cells c t f)) (ht : t ≠ 192) : b ∉ wl L := by
  intro hm
  obtain ⟨i, hi, p, hp, rfl⟩ := mem_wl.1 hm
  obtain ⟨u, hu⟩ := List.getElem?_of_mem hp
  obtain ⟨ws, h1, _⟩ := q.set i u p hi hu
  rw [h1.words] at hb
  simp only [Option.some.injEq, Obj.cells.injEq] at hb
  exact ht hb.2.1.symm
theorem Own.kb {X : List Nat} {h h' : Heap} {base e sz n : Nat} {v : Value} {xs : List Value} (o : Own h base e sz v n xs) (g : Kb X h h') (hx : ∀ b, v.ownBlock = some b → b ∉ X) : Own h' base e sz v n xs := by
  refine ⟨o.1, ?_⟩
  rcases o.2 with h0 | ⟨b, cap, cur, rfl, h2, h3, h4⟩
  · exact .inl h0
  · exact .inr ⟨b, cap, cur, rfl, h2, g.lookup h3 (hx b rfl), h4⟩
theorem isSet.kb {X : List Nat} {h h' : Heap} {s wb n : Nat} {ws : List Nat} (q : isSet h s wb n ws) (g : Kb X h h') (h1 : s ∉ X) (h2 : wb ∉ X) : isSet h' s wb n ws :=
  ⟨g.lookup q.blk h1, g.lookup q.words h2, q.len, q.le, q.small, q.high⟩
theorem isG.lt {h : Heap} {g n : Nat} {vs : Nat → Value} {L : Nat → List (Nat × Nat)} {E : Nat → Nat → Nat → Bool} (q : isG h g n vs L E) {i u : Nat} (hi : i < 4) (hu : u < n) : ∃ p, (L i)[u]? = some p := ⟨_, List.getElem?_eq_getElem (by rw [q.len i hi]; exact hu)⟩
/-- a row's set, read -/
theorem isG.at {h : Heap} {g n : Nat} {vs : Nat → Value} {L : Nat → List (Nat × Nat)} {E : Nat → Nat → Nat → Bool} (q : isG h g n vs L E) {i u : Nat} (hi : i < 4) (hu : u < n) :
    ∃ b c s wb ws, vs i = sl b 0 n c ∧ n ≤ c ∧ hcell h b u = some (ptr s 0) ∧ (L i)[u]? = some (s, wb) ∧ isSet h s wb n ws ∧ ∀ k, mem ws k = E i u k := by
  obtain ⟨⟨s, wb⟩, hp⟩ := q.lt hi hu
  obtain ⟨ws, h1, h2⟩ := q.set i u _ hi hp
  have hl := q.len i hi
  rcases (q.row i hi).2 with ⟨_, h0⟩ | ⟨b, cap, cur, hv, hb, hg, hc, _⟩
  · omega
  · have ho := q.row i hi
    rw [hl] at hv hc
    rw [hl, hv] at ho
    exact ⟨b, cap, s, wb, ws, hv, hc, ho.cell (i := u) (by rw [List.getElem?_map, hp]; rfl), hp, h1, h2⟩
theorem gnew_ok {h : Heap} {n : Nat} (hn : n ≤ 300) : Ct Tryd.prog 34 [.int .i64 n] h fun v h' => ∃ g vs L, v = .tuple #[ptr g 0, .int .i64 0] ∧ isG h' g n vs L (fun _ _ _ => false) ∧ Ge h h' ∧ h.size ≤ g ∧ ∀ b ∈ wl L, h.size ≤ b := by
  refine (gnew_st hn).mono ?_
  rintro v h' ⟨g, vs, L, rfl, q, hl⟩
  refine ⟨g, vs, L, rfl, ⟨q.blk, hn, fun i hi => Own.base (q.row i hi) (Nat.zero_le _), hl, fun i u p hi hp => ⟨_, q.set i p hi (List.mem_of_getElem? hp), fun k => by simp [mem, List.getElem?_replicate]; split <;> simp⟩, q.inj⟩, q.ge, q.gl, fun b hb => ?_⟩
  obtain ⟨i, hi, p, hp, rfl⟩ := mem_wl.1 hb
  exact q.wlo i p hi hp
theorem gadd_node {h : Heap} {g n : Nat} {vs : Nat → Value} {L : Nat → List (Nat × Nat)} {E : Nat → Nat → Nat → Bool} (q : isG h g n vs L E) {a b of : Int} (hab : ¬ ((0 ≤ a ∧ a < n) ∧ 0 ≤ b ∧ b < n)) :
    Ct Tryd.prog 35 [ptr g 0, .int .i64 a, .int .i64 b, .int .i64 of] h fun v h' => v = .int .i64 60 ∧ h = h' := by
  have c0 : hcell h g 0 = some (.int .i64 n) := by simp [hcell, q.blk, gcells]
  have c5 : hcell h g 5 = some (.bool true) := by simp [hcell, q.blk, gcells]
  refine enter Tryd.func35 (by kernel_rfl) rfl Tryd.results35 (by kernel_rfl) (by kernel_rfl) (init4 _ _ _ _) ?_
  simp (disch := omega) only [↓SS, A, Nat.reduceEqDiff, Int.reduceToNat, Int.cast_ofNat_Int, Int.reduceSub, Int.reduceAdd, Nat.reduceAdd, Nat.reduceMul, Nat.reduceSub, ↓reduceIte, rd_eq, TyG, c5]
  refine vcall_mk (ghas_ok c0) ?_
  rintro _ _ ⟨rfl, rfl⟩
  by_cases ha : 0 ≤ a ∧ a < n
  · simp (disch := omega) only [↓SS, A, Nat.reduceEqDiff, Int.reduceToNat, Int.cast_ofNat_Int, Int.reduceSub, Int.reduceAdd, Nat.reduceAdd, Nat.reduceMul, Nat.reduceSub, ↓reduceIte, rd_eq, TyG, ha]
    refine vcall_mk (ghas_ok c0) ?_
    rintro _ _ ⟨rfl, rfl⟩
    simp (disch := omega) only [↓SS, A, Nat.reduceEqDiff, Int.reduceToNat, Int.cast_ofNat_Int, Int.reduceSub, Int.reduceAdd, Nat.reduceAdd, Nat.reduceMul, Nat.reduceSub, ↓reduceIte, rd_eq, TyG]
  · simp (disch := omega) only [↓SS, A, Nat.reduceEqDiff, Int.reduceToNat, Int.cast_ofNat_Int, Int.reduceSub, Int.reduceAdd, Nat.reduceAdd, Nat.reduceMul, Nat.reduceSub, ↓reduceIte, rd_eq, TyG, ha]
theorem gadd_arg {h : Heap} {g n : Nat} {vs : Nat → Value} {L : Nat → List (Nat × Nat)} {E : Nat → Nat → Nat → Bool} (q : isG h g n vs L E) {a b : Nat} {of : Int} (ha : a < n) (hb : b < n) (hof : of < 1 ∨ 15 < of ∨ a = b) :
    Ct Tryd.prog 35 [ptr g 0, .int .i64 a, .int .i64 b, .int .i64 of] h fun v h' => v = .int .i64 1 ∧ h = h' := by
  have c0 : hcell h g 0 = some (.int .i64 n) := by simp [hcell, q.blk, gcells]
  have c5 : hcell h g 5 = some (.bool true) := by simp [hcell, q.blk, gcells]
  refine enter Tryd.func35 (by kernel_rfl) rfl Tryd.results35 (by kernel_rfl) (by kernel_rfl) (init4 _ _ _ _) ?_
  simp (disch := omega) only [↓SS, A, Nat.reduceEqDiff, Int.reduceToNat, Int.cast_ofNat_Int, Int.reduceSub, Int.reduceAdd, Nat.reduceAdd, Nat.reduceMul, Nat.reduceSub, ↓reduceIte, rd_eq, TyG, c5]
  refine vcall_mk (ghas_ok c0) ?_
  rintro _ _ ⟨rfl, rfl⟩
  simp (disch := omega) only [↓SS, A, Nat.reduceEqDiff, Int.reduceToNat, Int.cast_ofNat_Int, Int.reduceSub, Int.reduceAdd, Nat.reduceAdd, Nat.reduceMul, Nat.reduceSub, ↓reduceIte, rd_eq, TyG]
  refine vcall_mk (ghas_ok c0) ?_
  rintro _ _ ⟨rfl, rfl⟩
  by_cases h1 : of < 1
  · simp (disch := omega) only [↓SS, A, Nat.reduceEqDiff, Int.reduceToNat, Int.cast_ofNat_Int, Int.reduceSub, Int.reduceAdd, Nat.reduceAdd, Nat.reduceMul, Nat.reduceSub, ↓reduceIte, rd_eq, TyG]
  · by_cases h2 : 15 < of
    · simp (disch := omega) only [↓SS, A, Nat.reduceEqDiff, Int.reduceToNat, Int.cast_ofNat_Int, Int.reduceSub, Int.reduceAdd, Nat.reduceAdd, Nat.reduceMul, Nat.reduceSub, ↓reduceIte, rd_eq, TyG]
    · have h3 : (a : Int) = b := by omega
      simp (disch := omega) only [↓SS, A, Nat.reduceEqDiff, Int.reduceToNat, Int.cast_ofNat_Int, Int.reduceSub, Int.reduceAdd, Nat.reduceAdd, Nat.reduceMul, Nat.reduceSub, ↓reduceIte, rd_eq, TyG]
/-- the edges behind an edge more -/
def addE (E : Nat → Nat → Nat → Bool) (a b : Nat) (of : Int) (m : Nat) : Nat → Nat → Nat → Bool := fun i u k => E i u k || (decide (i < m) && lbit of i && decide (u = a) && decide (k = b))
theorem gadd_ok {h : Heap} {g n : Nat} {vs : Nat → Value} {L : Nat → List (Nat × Nat)} {E : Nat → Nat → Nat → Bool} (q : isG h g n vs L E) {a b : Nat} {of : Int} (ha : a < n) (hb : b < n) (h1 : 1 ≤ of) (h15 : of ≤ 15) (hne : a ≠ b) :
    Ct Tryd.prog 35 [ptr g 0, .int .i64 a, .int .i64 b, .int .i64 of] h fun v h' => v = .int .i64 0 ∧ isG h' g n vs L (addE E a b of 4) ∧ Kb (wl L) h h' ∧ h'.size = h.size := by
  have c0 : hcell h g 0 = some (.int .i64 n) := by simp [hcell, q.blk, gcells]
  have c5 : hcell h g 5 = some (.bool true) := by simp [hcell, q.blk, gcells]
  refine enter Tryd.func35 (by kernel_rfl) rfl Tryd.results35 (by kernel_rfl) (by kernel_rfl) (init4 _ _ _ _) ?_
  simp (disch := omega) only [↓SS, A, Nat.reduceEqDiff, Int.reduceToNat, Int.cast_ofNat_Int, Int.reduceSub, Int.reduceAdd, Nat.reduceAdd, Nat.reduceMul, Nat.reduceSub, ↓reduceIte, rd_eq, TyG, c5]
  refine vcall_mk (ghas_ok c0) ?_
  rintro _ _ ⟨rfl, rfl⟩
  simp (disch := omega) only [↓SS, A, Nat.reduceEqDiff, Int.reduceToNat, Int.cast_ofNat_Int, Int.reduceSub, Int.reduceAdd, Nat.reduceAdd, Nat.reduceMul, Nat.reduceSub, ↓reduceIte, rd_eq, TyG]
  refine vcall_mk (ghas_ok c0) ?_
  rintro _ _ ⟨rfl, rfl⟩
  have hne' : ¬ (a : Int) = b := by omega
  simp (disch := omega) only [↓SS, A, Nat.reduceEqDiff, Int.reduceToNat, Int.cast_ofNat_Int, Int.reduceSub, Int.reduceAdd, Nat.reduceAdd, Nat.reduceMul, Nat.reduceSub, ↓reduceIte, rd_eq, TyG]
  refine vloop_mk (fun k fr h' => ∃ i : Nat, i + k = 4 ∧ fr = [(43, .int .i64 i), (0, ptr g 0), (1, .int .i64 a), (2, .int .i64 b), (3, .int .i64 of)] ∧ isG h' g n vs L (addE E a b of i) ∧ Kb (wl L) h h' ∧ h'.size = h.size) 4
    [(43, .int .i64 0), (0, ptr g 0), (1, .int .i64 a), (2, .int .i64 b), (3, .int .i64 of)] (by simp only [↓SS, Nat.reduceEqDiff, Int.reduceToNat, Int.cast_ofNat_Int, Int.reduceSub, Int.reduceAdd, Nat.reduceAdd, Nat.reduceMul, Nat.reduceSub, ↓reduceIte, rd_eq, TyG]) ⟨0, rfl, rfl, by
      have : addE E a b of 0 = E := by funext i u k; simp [addE]
      rw [this]; exact q, Kb.refl _ _, rfl⟩ ?_
  rintro k _ h1' ⟨i, hik, rfl, q1, kb1, hs1⟩
  by_cases hi : i < 4
  · have hbit := shr_bit of i hi
    by_cases hl : lbit of i = true
    · have hb1 : bitV .and .i64 (of.fdiv (2 ^ min i IntKind.i64.bits)) 1 = 1 := hbit.2 hl
      obtain ⟨rb, c, s, wb, ws, hv, hc, hcu, hp, hset, hmem⟩ := q1.at hi ha
      have hrow : hcell h1' g (1 + i) = some (vs i) := by rw [hcell, q1.blk]; exact gcells_get n vs hi
      rw [hv] at hrow
      have hl63 := q.le
      simp (disch := omega) only [↓SS, A, Nat.reduceEqDiff, Int.reduceToNat, Int.cast_ofNat_Int, Int.reduceSub, Int.reduceAdd, Nat.reduceAdd, Nat.reduceMul, Nat.reduceSub, ↓reduceIte, rd_eq, TyG, hb1, hrow, hcu]
      refine vcall_mk (add_ok hset hb) ?_
      rintro _ h2 ⟨rfl, up, ws', hset', hmem'⟩
      simp (disch := omega) only [↓SS, A, Nat.reduceEqDiff, Int.reduceToNat, Int.cast_ofNat_Int, Int.reduceSub, Int.reduceAdd, Nat.reduceAdd, Nat.reduceMul, Nat.reduceSub, ↓reduceIte, rd_eq, TyG]
      have hwb : wb ∈ wl L := mem_wl.2 ⟨i, hi, _, List.mem_of_getElem? hp, rfl⟩
      have kb2 := (Kb.refl (wl L) h1').up up (.inl hwb)
      refine ⟨k - 1, by omega, _, (by simp only [↓SS, Nat.reduceEqDiff, Int.reduceToNat, Int.cast_ofNat_Int, Int.reduceSub, Int.reduceAdd, Nat.reduceAdd, Nat.reduceMul, Nat.reduceSub, ↓reduceIte, rd_eq, Int.natCast_add, Int.cast_ofNat_Int]), i + 1, by omega, rfl, ?_, kb1.up up (.inl hwb), by rw [up.size, hs1]⟩
      refine ⟨kb2.lookup q1.blk (q1.out q1.blk (by decide)), q1.le, fun j hj => Own.kb (q1.row j hj) kb2 (fun x hx => ?_), q1.len, fun j u p hj hp' => ?_, q1.inj⟩
      · obtain ⟨_, cur, hcur⟩ := Own.blk (q1.row j hj) hx
        exact q1.out hcur (by decide)
      · by_cases e : p.2 = wb
        · obtain ⟨rfl, rfl⟩ := q1.inj j i u a p (s, wb) hj hi hp' hp e
          rw [hp] at hp'
          simp only [Option.some.injEq] at hp'
          subst hp'
          refine ⟨ws', hset', fun k => ?_⟩
          rw [hmem' k, hmem k]
          simp only [addE, hl]
          by_cases ek : k = b <;> simp [ek]
        · obtain ⟨ws1, h3, h4⟩ := q1.set j u p hj hp'
          have hsb : p.1 ≠ wb := by
            intro e2
            have := h3.blk
            rw [e2, hset.words] at this
            simp only [Option.some.injEq, Obj.cells.injEq] at this
            exact absurd this.2.1 (by decide)
          refine ⟨ws1, ⟨up.keep h3.blk hsb, up.keep h3.words e, h3.len, h3.le, h3.small, h3.high⟩, fun k => ?_⟩
          rw [h4 k]
          simp only [addE]
          by_cases ej : j = i
          · subst ej
            have hu : u ≠ a := by
              rintro rfl
              rw [hp] at hp'
              simp only [Option.some.injEq] at hp'
              exact e (by rw [← hp'])
            simp [hu]
          · have : (decide (j < i + 1)) = decide (j < i) := decide_eq_decide.2 (by omega)
            rw [this]
    · have hb1 : ¬ bitV .and .i64 (of.fdiv (2 ^ min i IntKind.i64.bits)) 1 = 1 := fun e => hl (hbit.1 e)
      simp (disch := omega) only [↓SS, A, Nat.reduceEqDiff, Int.reduceToNat, Int.cast_ofNat_Int, Int.reduceSub, Int.reduceAdd, Nat.reduceAdd, Nat.reduceMul, Nat.reduceSub, ↓reduceIte, rd_eq, TyG, hb1]
      refine ⟨k - 1, by omega, _, (by simp only [↓SS, Nat.reduceEqDiff, Int.reduceToNat, Int.cast_ofNat_Int, Int.reduceSub, Int.reduceAdd, Nat.reduceAdd, Nat.reduceMul, Nat.reduceSub, ↓reduceIte, rd_eq, Int.natCast_add, Int.cast_ofNat_Int]), i + 1, by omega, rfl, ?_, kb1, hs1⟩
      have : addE E a b of (i + 1) = addE E a b of i := by
        funext j u k
        simp only [addE]
        by_cases ej : j = i
        · subst ej; simp [hl]
        · have : (decide (j < i + 1)) = decide (j < i) := decide_eq_decide.2 (by omega)
          rw [this]
      rw [this]; exact q1
  · have : i = 4 := by omega
    subst this
    simp (disch := omega) only [↓SS, A, Nat.reduceEqDiff, Int.reduceToNat, Int.cast_ofNat_Int, Int.reduceSub, Int.reduceAdd, Nat.reduceAdd, Nat.reduceMul, Nat.reduceSub, ↓reduceIte, rd_eq, TyG]
    exact ⟨q1, kb1, hs1⟩
end Go.Proofs.YtgfljbplccekcaaDoor
