/-
  Package comps: Tarjan's state in memory; enter, as a contract; conditions: the graph was made by graph.New, the table of math/bits lies in memory.
-/
import Derived.Test.YtgfljbplccekcaaDoorSl
import Derived.Test.YtgfljbplccekcaaDoorRC1
set_option linter.unusedSimpArgs false
set_option linter.unusedVariables false
set_option maxRecDepth 100000
namespace Go.Proofs.YtgfljbplccekcaaDoor
open Go Go.V Go.Low

theorem TyT : aggT Tryd.prog 118 = some false ∧
  szT Tryd.prog 118 = some 1 ∧
  zeroT Tryd.prog 118 = some (.pointer none) ∧
  ptrT Tryd.prog 118 = true ∧
  aggT Tryd.prog 120 = some true ∧
  szT Tryd.prog 120 = some 8 ∧
  zeroT Tryd.prog 120 = some (.agg #[(.pointer none), (.int .i64 0), (.int .i64 0), (.slice none 0 0), (.slice none 0 0), (.slice none 0 0), (.slice none 0 0), (.slice none 0 0)]) ∧
  fieldT Tryd.prog 120 0 = some 0 ∧
  fieldT Tryd.prog 120 1 = some 1 ∧
  fieldT Tryd.prog 120 2 = some 2 ∧
  fieldT Tryd.prog 120 3 = some 3 ∧
  fieldT Tryd.prog 120 4 = some 4 ∧
  fieldT Tryd.prog 120 5 = some 5 ∧
  fieldT Tryd.prog 120 6 = some 6 ∧
  fieldT Tryd.prog 120 7 = some 7 ∧
  aggT Tryd.prog 185 = some true ∧
  szT Tryd.prog 185 = some 2 ∧
  zeroT Tryd.prog 185 = some (.agg #[(.int .i64 0), (.slice none 0 0)]) ∧
  fieldT Tryd.prog 185 0 = some 0 ∧
  fieldT Tryd.prog 185 1 = some 1 ∧
  aggT Tryd.prog 187 = some false ∧
  szT Tryd.prog 187 = some 1 ∧
  zeroT Tryd.prog 187 = some (.slice none 0 0) ∧
  slT Tryd.prog 187 = some 2 ∧
  aggT Tryd.prog 46 = some false ∧
  szT Tryd.prog 46 = some 1 ∧
  zeroT Tryd.prog 46 = some (.pointer none) ∧
  ptrT Tryd.prog 46 = true ∧
  aggT Tryd.prog 3 = some false ∧
  szT Tryd.prog 3 = some 1 ∧
  zeroT Tryd.prog 3 = some (.int .i64 0) ∧
  intT Tryd.prog 3 = some .i64 ∧
  (Tryd.prog.underlying 3).isSome = true ∧
  aggT Tryd.prog 4 = some false ∧
  szT Tryd.prog 4 = some 1 ∧
  zeroT Tryd.prog 4 = some (.bool false) ∧
  boolT Tryd.prog 4 = true ∧
  aggT Tryd.prog 23 = some false ∧
  szT Tryd.prog 23 = some 1 ∧
  zeroT Tryd.prog 23 = some (.slice none 0 0) ∧
  slT Tryd.prog 23 = some 1 ∧
  aggT Tryd.prog 111 = some false ∧
  szT Tryd.prog 111 = some 1 ∧
  zeroT Tryd.prog 111 = some (.slice none 0 0) ∧
  slT Tryd.prog 111 = some 1 ∧
  aggT Tryd.prog 51 = some false ∧
  szT Tryd.prog 51 = some 1 ∧
  zeroT Tryd.prog 51 = some (.slice none 0 0) ∧
  slT Tryd.prog 51 = some 1 := by
  refine ⟨?_, ?_, ?_, ?_, ?_, ?_, ?_, ?_, ?_, ?_, ?_, ?_, ?_, ?_, ?_, ?_, ?_, ?_, ?_, ?_, ?_, ?_, ?_, ?_, ?_, ?_, ?_, ?_, ?_, ?_, ?_, ?_, ?_, ?_, ?_, ?_, ?_, ?_, ?_, ?_, ?_, ?_, ?_, ?_, ?_, ?_, ?_, ?_, ?_⟩ <;> kernel_rfl
theorem elFr : elT Tryd.prog 187 = some (185, 2, 32, .agg #[.int .i64 0, .slice none 0 0]) := by kernel_rfl
/-- integers that lie in a row which none of X is -/
structure IntsA (X : List Nat) (h : Heap) (v : Value) (xs : List Int) : Prop where
  r : Ints h v xs
  away : ∀ b o n c, v = .slice (some ⟨b, o, none⟩) n c → b ∉ X ∧ ∃ cur, h[b]? = some (.cells cur 3 (0, 0))
theorem IntsA.kb {X Z : List Nat} {h h' : Heap} {v : Value} {xs : List Int} (q : IntsA X h v xs) (kb : Kb Z h h') (hZ : ∀ z ∈ Z, z ∈ X ∨ ∀ c f, h[z]? ≠ some (.cells c 3 f)) : IntsA X h' v xs := by
  have hout : ∀ b o n c, v = .slice (some ⟨b, o, none⟩) n c → b ∉ Z := by
    intro b o n c hv hz
    obtain ⟨h1, cur, h2⟩ := q.away b o n c hv
    rcases hZ b hz with h3 | h3
    · exact h1 h3
    · exact h3 _ _ h2
  refine ⟨?_, fun b o n c hv => ?_⟩
  · obtain ⟨a, c, e, h1, h2, h3⟩ := q.r
    refine ⟨a, c, e, h1, h2, fun hl => ?_⟩
    obtain ⟨b, o, rfl, h4⟩ := h3 hl
    exact ⟨b, o, rfl, kb.rdRow (hout b o _ _ e) h4⟩
  · obtain ⟨h1, cur, h2⟩ := q.away b o n c hv
    exact ⟨h1, cur, kb.lookup h2 (hout b o n c hv)⟩
theorem IntsA.ge {X : List Nat} {h h' : Heap} {v : Value} {xs : List Int} (q : IntsA X h v xs) (g : Ge h h') : IntsA X h' v xs :=
  ⟨q.r.ge g, fun b o n c hv => by obtain ⟨h1, cur, h2⟩ := q.away b o n c hv; exact ⟨h1, cur, g.lookup h2⟩⟩
theorem IntsA.more {X X' : List Nat} {h : Heap} {v : Value} {xs : List Int} (q : IntsA X h v xs) (hX : ∀ b ∈ X', b ∈ X ∨ h.size ≤ b) : IntsA X' h v xs :=
  ⟨q.r, fun b o n c hv => by
    obtain ⟨h1, cur, h2⟩ := q.away b o n c hv
    refine ⟨fun hb => ?_, cur, h2⟩
    rcases hX b hb with h3 | h3
    · exact h1 h3
    · have := Ge.lt h2; omega⟩
theorem IntsA.own {X : List Nat} {h : Heap} {base : Nat} {v : Value} {l : List Nat} (o : Own h base 3 1 v l.length (ints l)) (hX : ∀ b, v.ownBlock = some b → b ∉ X) : IntsA X h v (nats l) :=
  ⟨ownInts' o, fun b q n c hv => by
    subst hv
    refine ⟨hX b rfl, ?_⟩
    obtain ⟨_, cur, hc⟩ := Own.blk o (b := b) rfl
    exact ⟨cur, hc⟩⟩

/-- the rows of integers that are written -/
def wX (nb lb : Nat) (opv : Value) : List Nat := nb :: lb :: opv.ownBlock.toList
/-- all that is written -/
def tX (t nb lb ob : Nat) (opv outv : Value) : List Nat := t :: ob :: (outv.ownBlock.toList ++ wX nb lb opv)
/-- Tarjan's state in memory, but for the stack -/
structure isT (h0 h : Heap) (t n nb lb ob : Nat) (gv : Value) (of : Int) (opv outv : Value) (σ : Tar.St) : Prop where
  ge : Ge h0 h
  lo : h0.size ≤ t ∧ h0.size ≤ nb ∧ h0.size ≤ lb ∧ h0.size ≤ ob
  blk : h[t]? = some (.cells #[gv, .int .i64 of, .int .i64 (σ.next : Nat), sl nb 0 n n, sl lb 0 n n, sl ob 0 n n, opv, outv] 120 (0, 0))
  num : h[nb]? = some (.cells (arrI n fun m => (σ.num m : Nat)) 3 (0, 0))
  low : h[lb]? = some (.cells (arrI n fun m => (σ.low m : Nat)) 3 (0, 0))
  on : h[ob]? = some (.cells (arrB n σ.on) 4 (0, 0))
  opr : Own h h0.size 3 1 opv σ.op.length (ints σ.op)
  outr : ∃ ovs, Own h h0.size 23 1 outv σ.out.length ovs ∧ ∀ (i : Nat) (v : Value) (c : List Nat), ovs[i]? = some v → σ.out[i]? = some c → IntsA (wX nb lb opv) h v (nats c)
  ne : nb ≠ lb ∧ opv.ownBlock ≠ some nb ∧ opv.ownBlock ≠ some lb
  small : n ≤ 300
section
variable {h0 h h' : Heap} {t n nb lb ob : Nat} {gv : Value} {of : Int} {opv outv : Value} {σ : Tar.St}
theorem other_type {h : Heap} {b b' : Nat} {c c' : Array Value} {t t' : Nat} {f f' : Nat × Nat} (h1 : h[b]? = some (.cells c t f)) (h2 : h[b']? = some (.cells c' t' f')) (hne : t ≠ t') : b ≠ b' := by
  rintro rfl
  rw [h1] at h2
  simp only [Option.some.injEq, Obj.cells.injEq] at h2
  exact hne h2.2.1
theorem isT.opb (q : isT h0 h t n nb lb ob gv of opv outv σ) {b : Nat} (hb : opv.ownBlock = some b) : h0.size ≤ b ∧ ∃ cur, h[b]? = some (.cells cur 3 (0, 0)) := Own.blk q.opr hb
theorem isT.outb (q : isT h0 h t n nb lb ob gv of opv outv σ) {b : Nat} (hb : outv.ownBlock = some b) : h0.size ≤ b ∧ ∃ cur, h[b]? = some (.cells cur 23 (0, 0)) := by
  obtain ⟨ovs, ho, _⟩ := q.outr
  exact Own.blk ho hb
/-- what is written lies behind what was there -/
theorem isT.lo_all (q : isT h0 h t n nb lb ob gv of opv outv σ) : ∀ b ∈ tX t nb lb ob opv outv, h0.size ≤ b ∧ b < h.size := by
  intro b hb
  simp only [tX, wX, List.mem_cons, List.mem_append, Option.mem_toList] at hb
  obtain ⟨l1, l2, l3, l4⟩ := q.lo
  rcases hb with rfl | rfl | hb | rfl | rfl | hb
  · exact ⟨l1, Ge.lt q.blk⟩
  · exact ⟨l4, Ge.lt q.on⟩
  · obtain ⟨h1, cur, h2⟩ := q.outb hb; exact ⟨h1, Ge.lt h2⟩
  · exact ⟨l2, Ge.lt q.num⟩
  · exact ⟨l3, Ge.lt q.low⟩
  · obtain ⟨h1, cur, h2⟩ := q.opb hb; exact ⟨h1, Ge.lt h2⟩
theorem isT.kbge (q : isT h0 h t n nb lb ob gv of opv outv σ) (kb : Kb (tX t nb lb ob opv outv) h h') : Ge h0 h' := by
  refine ⟨Nat.le_trans q.ge.size kb.size, fun k hk => ?_⟩
  rw [kb.block k (Nat.lt_of_lt_of_le hk q.ge.size) (fun hm => by have := (q.lo_all k hm).1; omega)]
  exact q.ge.block k hk
/-- what is written is no row of integers, or is told among those -/
theorem isT.tint (q : isT h0 h t n nb lb ob gv of opv outv σ) : ∀ z ∈ tX t nb lb ob opv outv, z ∈ wX nb lb opv ∨ ∀ c f, h[z]? ≠ some (.cells c 3 f) := by
  intro b hb
  simp only [tX, List.mem_cons, List.mem_append, Option.mem_toList] at hb
  rcases hb with rfl | rfl | hb | hb
  · right; intro c f e; rw [q.blk] at e; simp only [Option.some.injEq, Obj.cells.injEq] at e; exact absurd e.2.1 (by decide)
  · right; intro c f e; rw [q.on] at e; simp only [Option.some.injEq, Obj.cells.injEq] at e; exact absurd e.2.1 (by decide)
  · right; intro c f e; obtain ⟨_, cur, h2⟩ := q.outb hb; rw [h2] at e; simp only [Option.some.injEq, Obj.cells.injEq] at e; exact absurd e.2.1 (by decide)
  · exact .inl (by simpa [wX] using hb)
theorem isT.mono (q : isT h0 h t n nb lb ob gv of opv outv σ) (g : Ge h h') : isT h0 h' t n nb lb ob gv of opv outv σ := by
  obtain ⟨ovs, h1, h3⟩ := q.outr
  exact ⟨q.ge.trans g, q.lo, g.lookup q.blk, g.lookup q.num, g.lookup q.low, g.lookup q.on, q.opr.ge g, ⟨ovs, h1.ge g, fun i v c hv hc => (h3 i v c hv hc).ge g⟩, q.ne, q.small⟩
end
end Go.Proofs.YtgfljbplccekcaaDoor
