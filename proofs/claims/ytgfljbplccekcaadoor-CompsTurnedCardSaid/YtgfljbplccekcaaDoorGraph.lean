/-
  Package graph: its functions as contracts; conditions: the graph was made by graph.New.
-/
import Derived.Test.YtgfljbplccekcaaDoorBits4
set_option linter.unusedSimpArgs false
set_option linter.unusedVariables false
set_option maxRecDepth 100000
namespace Go.Proofs.YtgfljbplccekcaaDoor
open Go Go.V Go.Low

theorem TyG : aggT Tryd.prog 46 = some false ∧
  szT Tryd.prog 46 = some 1 ∧
  zeroT Tryd.prog 46 = some (.pointer none) ∧
  ptrT Tryd.prog 46 = true ∧
  aggT Tryd.prog 70 = some true ∧
  szT Tryd.prog 70 = some 6 ∧
  zeroT Tryd.prog 70 = some (.agg #[(.int .i64 0), (.slice none 0 0), (.slice none 0 0), (.slice none 0 0), (.slice none 0 0), (.bool false)]) ∧
  fieldT Tryd.prog 70 0 = some 0 ∧
  fieldT Tryd.prog 70 1 = some 1 ∧
  fieldT Tryd.prog 70 2 = some 5 ∧
  aggT Tryd.prog 68 = some true ∧
  szT Tryd.prog 68 = some 4 ∧
  zeroT Tryd.prog 68 = some (.agg #[(.slice none 0 0), (.slice none 0 0), (.slice none 0 0), (.slice none 0 0)]) ∧
  arT Tryd.prog 68 = some (4, 1) ∧
  aggT Tryd.prog 67 = some false ∧
  szT Tryd.prog 67 = some 1 ∧
  zeroT Tryd.prog 67 = some (.slice none 0 0) ∧
  slT Tryd.prog 67 = some 1 ∧
  aggT Tryd.prog 98 = some false ∧
  szT Tryd.prog 98 = some 1 ∧
  zeroT Tryd.prog 98 = some (.pointer none) ∧
  ptrT Tryd.prog 98 = true ∧
  aggT Tryd.prog 3 = some false ∧
  szT Tryd.prog 3 = some 1 ∧
  zeroT Tryd.prog 3 = some (.int .i64 0) ∧
  intT Tryd.prog 3 = some .i64 ∧
  (Tryd.prog.underlying 3).isSome = true ∧
  aggT Tryd.prog 4 = some false ∧
  szT Tryd.prog 4 = some 1 ∧
  zeroT Tryd.prog 4 = some (.bool false) ∧
  boolT Tryd.prog 4 = true ∧
  aggT Tryd.prog 60 = some false ∧
  szT Tryd.prog 60 = some 1 ∧
  zeroT Tryd.prog 60 = some (.int .i64 0) ∧
  intT Tryd.prog 60 = some .i64 ∧
  (Tryd.prog.underlying 60).isSome = true ∧
  aggT Tryd.prog 23 = some false ∧
  szT Tryd.prog 23 = some 1 ∧
  zeroT Tryd.prog 23 = some (.slice none 0 0) ∧
  slT Tryd.prog 23 = some 1 := by
  refine ⟨?_, ?_, ?_, ?_, ?_, ?_, ?_, ?_, ?_, ?_, ?_, ?_, ?_, ?_, ?_, ?_, ?_, ?_, ?_, ?_, ?_, ?_, ?_, ?_, ?_, ?_, ?_, ?_, ?_, ?_, ?_, ?_, ?_, ?_, ?_, ?_, ?_, ?_, ?_, ?_⟩ <;> kernel_rfl
theorem elSets : elT Tryd.prog 67 = some (98, 1, 8, .pointer none) := by kernel_rfl
theorem nodes_nil {h : Heap} : Ct Tryd.prog 66 [.pointer none] h fun v h' => v = .int .i64 0 ∧ h = h' := by
  refine enter Tryd.func66 (by kernel_rfl) rfl Tryd.results66 (by kernel_rfl) (by kernel_rfl) (init1 _) ?_
  simp (disch := omega) only [↓SS, A, Nat.reduceEqDiff, Int.reduceToNat, Int.cast_ofNat_Int, Int.reduceSub, Int.reduceAdd, Nat.reduceAdd, Nat.reduceMul, Nat.reduceSub, ↓reduceIte, rd_eq, TyG]
theorem made_nil {h : Heap} : Ct Tryd.prog 72 [.pointer none] h fun v h' => v = .bool false ∧ h = h' := by
  refine enter Tryd.func72 (by kernel_rfl) rfl Tryd.results72 (by kernel_rfl) (by kernel_rfl) (init1 _) ?_
  simp (disch := omega) only [↓SS, A, Nat.reduceEqDiff, Int.reduceToNat, Int.cast_ofNat_Int, Int.reduceSub, Int.reduceAdd, Nat.reduceAdd, Nat.reduceMul, Nat.reduceSub, ↓reduceIte, rd_eq, TyG]
theorem nodes_ok {h : Heap} {g : Nat} {n : Int} (hn : hcell h g 0 = some (.int .i64 n)) : Ct Tryd.prog 66 [ptr g 0] h fun v h' => v = .int .i64 n ∧ h = h' := by
  refine enter Tryd.func66 (by kernel_rfl) rfl Tryd.results66 (by kernel_rfl) (by kernel_rfl) (init1 _) ?_
  simp (disch := omega) only [↓SS, A, Nat.reduceEqDiff, Int.reduceToNat, Int.cast_ofNat_Int, Int.reduceSub, Int.reduceAdd, Nat.reduceAdd, Nat.reduceMul, Nat.reduceSub, ↓reduceIte, rd_eq, TyG, hn]
theorem made_ok {h : Heap} {g : Nat} {b : Bool} (hn : hcell h g 5 = some (.bool b)) : Ct Tryd.prog 72 [ptr g 0] h fun v h' => v = .bool b ∧ h = h' := by
  refine enter Tryd.func72 (by kernel_rfl) rfl Tryd.results72 (by kernel_rfl) (by kernel_rfl) (init1 _) ?_
  simp (disch := omega) only [↓SS, A, Nat.reduceEqDiff, Int.reduceToNat, Int.cast_ofNat_Int, Int.reduceSub, Int.reduceAdd, Nat.reduceAdd, Nat.reduceMul, Nat.reduceSub, ↓reduceIte, rd_eq, TyG, hn]
theorem ghas_ok {h : Heap} {g : Nat} {n i : Int} (hn : hcell h g 0 = some (.int .i64 n)) : Ct Tryd.prog 73 [ptr g 0, .int .i64 i] h fun v h' => v = .bool (decide (0 ≤ i ∧ i < n)) ∧ h = h' := by
  refine enter Tryd.func73 (by kernel_rfl) rfl Tryd.results73 (by kernel_rfl) (by kernel_rfl) (init2 _ _) ?_
  by_cases h0 : 0 ≤ i
  · by_cases h1 : i < n
    · simp (disch := omega) only [↓SS, A, Nat.reduceEqDiff, Int.reduceToNat, Int.cast_ofNat_Int, Int.reduceSub, Int.reduceAdd, Nat.reduceAdd, Nat.reduceMul, Nat.reduceSub, ↓reduceIte, rd_eq, TyG, hn]
    · simp (disch := omega) only [↓SS, A, Nat.reduceEqDiff, Int.reduceToNat, Int.cast_ofNat_Int, Int.reduceSub, Int.reduceAdd, Nat.reduceAdd, Nat.reduceMul, Nat.reduceSub, ↓reduceIte, rd_eq, TyG, hn]
  · simp (disch := omega) only [↓SS, A, Nat.reduceEqDiff, Int.reduceToNat, Int.cast_ofNat_Int, Int.reduceSub, Int.reduceAdd, Nat.reduceAdd, Nat.reduceMul, Nat.reduceSub, ↓reduceIte, rd_eq, TyG, hn]
/-- A graph: R the rows' blocks, S the sets, W their words, E whether an edge with label bit i leads from u to k. -/
structure isGraph (h : Heap) (g n : Nat) (rows : Nat → Value) (S W : Nat → Nat → Nat) (E : Nat → Nat → Nat → Bool) : Prop where
  blk : h[g]? = some (.cells #[.int .i64 n, rows 0, rows 1, rows 2, rows 3, .bool true] 70 (0, 0))
  le : n ≤ 300
  row : ∀ i, i < 4 → (n = 0 → rows i = .slice none 0 0) ∧ (0 < n → ∃ r c, rows i = sl r 0 n c ∧ n ≤ c ∧ c ≤ 9223372036854775807 ∧ ∀ u, u < n → hcell h r u = some (ptr (S i u) 0))
  set : ∀ i u, i < 4 → u < n → ∃ ws, isSet h (S i u) (W i u) n ws ∧ ∀ k, mem ws k = E i u k
  inj : ∀ i u i' u', i < 4 → u < n → i' < 4 → u' < n → W i u = W i' u' → i = i' ∧ u = u'
theorem isGraph.ge {h h' : Heap} (ge : Ge h h') {g n : Nat} {rows : Nat → Value} {S W : Nat → Nat → Nat} {E : Nat → Nat → Nat → Bool} (q : isGraph h g n rows S W E) : isGraph h' g n rows S W E := by
  refine ⟨ge.lookup q.blk, q.le, fun i hi => ⟨(q.row i hi).1, fun hn => ?_⟩, fun i u hi hu => ?_, q.inj⟩
  · obtain ⟨r, c, e, h1, h2, h3⟩ := (q.row i hi).2 hn
    exact ⟨r, c, e, h1, h2, fun u hu => ge.cell (h3 u hu)⟩
  · obtain ⟨ws, h1, h2⟩ := q.set i u hi hu
    exact ⟨ws, h1.ge ge, h2⟩
theorem gnew_bad {h : Heap} {n : Int} (hn : n < 0 ∨ 300 < n) : Ct Tryd.prog 34 [.int .i64 n] h fun v h' => v = .tuple #[.pointer none, .int .i64 1] ∧ h = h' := by
  refine enter Tryd.func34 (by kernel_rfl) rfl Tryd.results34 (by kernel_rfl) (by kernel_rfl) (init1 _) ?_
  by_cases h0 : n < 0
  · simp (disch := omega) only [↓SS, A, Nat.reduceEqDiff, Int.reduceToNat, Int.cast_ofNat_Int, Int.reduceSub, Int.reduceAdd, Nat.reduceAdd, Nat.reduceMul, Nat.reduceSub, ↓reduceIte, rd_eq, TyG]
  · simp (disch := omega) only [↓SS, A, Nat.reduceEqDiff, Int.reduceToNat, Int.cast_ofNat_Int, Int.reduceSub, Int.reduceAdd, Nat.reduceAdd, Nat.reduceMul, Nat.reduceSub, ↓reduceIte, rd_eq, TyG]
/-- a function turned at one place -/
def upd {α : Type} (f : Nat → α) (i : Nat) (x : α) : Nat → α := fun k => if k = i then x else f k
theorem upd_same {α : Type} (f : Nat → α) (i : Nat) (x : α) : upd f i x i = x := if_pos rfl
theorem upd_ne {α : Type} (f : Nat → α) {i k : Nat} (x : α) (h : k ≠ i) : upd f i x k = f k := if_neg h
def gcells (n : Nat) (v : Nat → Value) : Array Value := #[.int .i64 n, v 0, v 1, v 2, v 3, .bool true]
/-- a graph while it is made: the rows' values, and what each holds: sets and their words -/
structure Gst (h0 h : Heap) (g n : Nat) (v : Nat → Value) (L : Nat → List (Nat × Nat)) : Prop where
  ge : Ge h0 h
  gl : h0.size ≤ g
  blk : h[g]? = some (.cells (gcells n v) 70 (0, 0))
  row : ∀ i, i < 4 → Own h h0.size 98 1 (v i) (L i).length ((L i).map fun p => ptr p.1 0)
  set : ∀ i (p : Nat × Nat), i < 4 → p ∈ L i → isSet h p.1 p.2 n (List.replicate ((n + 63) / 64) 0)
  wlo : ∀ i (p : Nat × Nat), i < 4 → p ∈ L i → h0.size ≤ p.2
  nilr : ∀ i, i < 4 → (v i = .slice none 0 0 ↔ L i = [])
  apart : ∀ i j, i < 4 → j < 4 → i ≠ j → (v i).ownBlock = none ∨ (v i).ownBlock ≠ (v j).ownBlock
  inj : ∀ (i i' u u' : Nat) (p p' : Nat × Nat), i < 4 → i' < 4 → (L i)[u]? = some p → (L i')[u']? = some p' → p.2 = p'.2 → i = i' ∧ u = u'
theorem Gst.mono {h0 h h' : Heap} (g' : Ge h h') {g n : Nat} {v : Nat → Value} {L : Nat → List (Nat × Nat)} (q : Gst h0 h g n v L) : Gst h0 h' g n v L :=
  ⟨q.ge.trans g', q.gl, g'.lookup q.blk, fun i hi => (q.row i hi).ge g', fun i p hi hp => (q.set i p hi hp).ge g', q.wlo, q.nilr, q.apart, q.inj⟩
theorem Own.blk {h : Heap} {base e sz n : Nat} {v : Value} {xs : List Value} (o : Own h base e sz v n xs) {b : Nat} (hb : v.ownBlock = some b) : base ≤ b ∧ ∃ cur, h[b]? = some (.cells cur e (0, 0)) := by
  rcases o.2 with ⟨hv, _⟩ | ⟨g, cap, cur, hv, hbg, hg, _⟩
  · rw [hv] at hb; cases hb
  · rw [hv] at hb
    simp only [Value.ownBlock, Option.some.injEq] at hb
    subst hb
    exact ⟨hbg, cur, hg⟩
theorem gcells_get (n : Nat) (v : Nat → Value) {i : Nat} (hi : i < 4) : (gcells n v)[1 + i]? = some (v i) := by
  match i, hi with
  | 0, _ => rfl
  | 1, _ => rfl
  | 2, _ => rfl
  | 3, _ => rfl
theorem gcells_set (n : Nat) (v : Nat → Value) {i : Nat} (hi : i < 4) (x : Value) : setL (gcells n v) (1 + i) [x] = gcells n (upd v i x) := by
  match i, hi with
  | 0, _ => rfl
  | 1, _ => rfl
  | 2, _ => rfl
  | 3, _ => rfl
/-- a set is put behind a row -/
theorem Gst.snoc {h0 h1 h2 h3 : Heap} {g n : Nat} {v : Nat → Value} {L : Nat → List (Nat × Nat)} {i : Nat} (hi : i < 4) (q : Gst h0 h1 g n v L) {s wb : Nat} (hs : isSet h1 s wb n (List.replicate ((n + 63) / 64) 0))
    (hw : ∀ j (p : Nat × Nat), j < 4 → p ∈ L j → p.2 ≠ wb) (hwb : h0.size ≤ wb) {x : Value} (ho : Own h2 h0.size 98 1 x ((L i).length + 1) (((L i).map fun p => ptr p.1 0) ++ [ptr s 0])) (hg : Grow h1 h2 (v i).ownBlock)
    (hnx : x ≠ .slice none 0 0) (hnew : x.ownBlock = (v i).ownBlock ∨ ∃ b, x.ownBlock = some b ∧ h1.size ≤ b) (hb : h3[g]? = some (.cells (gcells n (upd v i x)) 70 (0, 0))) (up : Up h2 h3 g) :
    Gst h0 h3 g n (upd v i x) (upd L i (L i ++ [(s, wb)])) := by
  have gne : ∀ j, j < 4 → (v j).ownBlock ≠ some g := by
    intro j hj e
    obtain ⟨_, cur, hc⟩ := Own.blk (q.row j hj) e
    rw [q.blk] at hc
    simp only [Option.some.injEq, Obj.cells.injEq] at hc
    exact absurd hc.2.1 (by decide)
  have xne : x.ownBlock ≠ some g := by
    intro e
    rcases hnew with h | ⟨b, h, hle⟩
    · rw [e] at h; exact gne i hi h.symm
    · rw [e] at h
      simp only [Option.some.injEq] at h
      have := Ge.lt q.blk; omega
  have g12 : Kb [g, ((v i).ownBlock).getD g] h1 h3 := by
    refine ⟨Nat.le_trans hg.size (Nat.le_of_eq up.size.symm), fun k hk hx => ?_⟩
    simp only [List.mem_cons, List.not_mem_nil, or_false, not_or] at hx
    rw [up.other k hx.1]
    exact hg.block k hk (fun e => hx.2 (by rw [← e]; rfl))
  have hsets : ∀ {a b ws}, isSet h1 a b n ws → isSet h3 a b n ws := by
    intro a b ws r
    have key : ∀ (k : Nat) (c : Array Value) (t : Nat) (f : Nat × Nat), h1[k]? = some (.cells c t f) → t ≠ 70 → t ≠ 98 → h3[k]? = some (.cells c t f) := by
      intro k c t f hk h4 h5
      refine g12.lookup hk ?_
      simp only [List.mem_cons, List.not_mem_nil, or_false, not_or]
      refine ⟨?_, ?_⟩
      · rintro rfl; rw [q.blk] at hk; simp only [Option.some.injEq, Obj.cells.injEq] at hk; exact h4 hk.2.1.symm
      · intro e
        cases hv : (v i).ownBlock with
        | none => rw [hv] at e; simp only [Option.getD_none] at e; rw [e, q.blk] at hk; simp only [Option.some.injEq, Obj.cells.injEq] at hk; exact h4 hk.2.1.symm
        | some b =>
          rw [hv] at e; simp only [Option.getD_some] at e
          obtain ⟨_, cur, hc⟩ := Own.blk (q.row i hi) hv
          rw [e, hc] at hk; simp only [Option.some.injEq, Obj.cells.injEq] at hk; exact h5 hk.2.1.symm
    exact ⟨key _ _ _ _ r.blk (by decide) (by decide), key _ _ _ _ r.words (by decide) (by decide), r.len, r.le, r.small, r.high⟩
  have hLi : ∀ j, j ≠ i → upd L i (L i ++ [(s, wb)]) j = L j := fun j h => upd_ne _ _ h
  have hvi : ∀ j, j ≠ i → upd v i x j = v j := fun j h => upd_ne _ _ h
  refine ⟨?_, q.gl, hb, fun j hj => ?_, fun j p hj hp => ?_, fun j p hj hp => ?_, fun j hj => ?_, fun j k hj hk hne => ?_, ?_⟩
  · refine ⟨Nat.le_trans q.ge.size g12.size, fun k hk => ?_⟩
    rw [g12.block k (Nat.lt_of_lt_of_le hk q.ge.size) ?_]
    · exact q.ge.block k hk
    · simp only [List.mem_cons, List.not_mem_nil, or_false, not_or]
      refine ⟨by have := q.gl; omega, ?_⟩
      cases hv : (v i).ownBlock with
      | none => have := q.gl; simp; omega
      | some b => have := (Own.blk (q.row i hi) hv).1; simp; omega
  · by_cases e : j = i
    · subst e
      rw [upd_same, upd_same, List.length_append, List.map_append]
      exact ho.grow up.grow (by right; exact xne)
    · rw [hLi j e, hvi j e]
      refine ((q.row j hj).grow hg ?_).grow up.grow (by right; exact gne j hj)
      rcases q.apart j i hj hi e with h | h
      · exact .inl h
      · exact .inr h
  · by_cases e : j = i
    · subst e
      rw [upd_same] at hp
      rcases List.mem_append.1 hp with hp | hp
      · exact hsets (q.set j p hj hp)
      · simp only [List.mem_singleton] at hp; subst hp; exact hsets hs
    · rw [hLi j e] at hp; exact hsets (q.set j p hj hp)
  · by_cases e : j = i
    · subst e
      rw [upd_same] at hp
      rcases List.mem_append.1 hp with hp | hp
      · exact q.wlo j p hj hp
      · simp only [List.mem_singleton] at hp; subst hp; exact hwb
    · rw [hLi j e] at hp; exact q.wlo j p hj hp
  · by_cases e : j = i
    · subst e; rw [upd_same, upd_same]; simp [hnx]
    · rw [hLi j e, hvi j e]; exact q.nilr j hj
  · -- rows apart
    have new_apart : ∀ m, m < 4 → m ≠ i → x.ownBlock = none ∨ x.ownBlock ≠ (v m).ownBlock := by
      intro m hm hmi
      rcases hnew with h | ⟨b, h, hle⟩
      · rw [h]; exact q.apart i m hi hm (fun e => hmi e.symm)
      · right
        rw [h]
        intro e
        obtain ⟨_, cur, hc⟩ := Own.blk (q.row m hm) e.symm
        have := Ge.lt hc; omega
    by_cases e : j = i
    · subst e
      rw [upd_same, hvi k (fun e => hne e.symm)]
      exact new_apart k hk (fun e => hne e.symm)
    · rw [hvi j e]
      by_cases e' : k = i
      · subst e'
        rw [upd_same]
        cases hv : (v j).ownBlock with
        | none => exact .inl rfl
        | some b =>
          right
          rcases new_apart j hj e with h | h
          · rw [h]; simp
          · rw [hv] at h; exact fun e2 => h e2.symm
      · rw [hvi k e']; exact q.apart j k hj hk hne
  · intro j j' u u' p p' hj hj' hp hp' he
    have cases_of : ∀ (j u : Nat) (p : Nat × Nat), (upd L i (L i ++ [(s, wb)]) j)[u]? = some p → (L j)[u]? = some p ∨ (j = i ∧ u = (L i).length ∧ p = (s, wb)) := by
      intro j u p hp
      by_cases e : j = i
      · subst e
        rw [upd_same] at hp
        rcases Nat.lt_or_ge u (L j).length with h | h
        · rw [List.getElem?_append_left h] at hp; exact .inl hp
        · rw [List.getElem?_append_right h] at hp
          have h0 : u - (L j).length = 0 := by
            have := (List.getElem?_eq_some_iff.1 hp).1
            simp at this; omega
          rw [h0] at hp
          simp at hp
          exact .inr ⟨rfl, by omega, hp.symm⟩
      · rw [hLi j e] at hp; exact .inl hp
    rcases cases_of j u p hp with h1 | ⟨rfl, rfl, rfl⟩ <;> rcases cases_of j' u' p' hp' with h2 | ⟨e1, e2, e3⟩
    · exact q.inj j j' u u' p p' hj hj' h1 h2 he
    · rw [e3] at he; exact absurd he (hw j p hj (List.mem_of_getElem? h1))
    · exact absurd he.symm (hw j' p' hj' (List.mem_of_getElem? h2))
    · exact ⟨e1.symm, e2.symm⟩
end Go.Proofs.YtgfljbplccekcaaDoor
