/-
  Package comps: Tarjan's stack in memory; conditions: none.
-/
import Derived.Test.YtgfljbplccekcaaDoorTj3
import Derived.Test.YtgfljbplccekcaaDoorTarjan2
set_option linter.unusedSimpArgs false
set_option linter.unusedVariables false
set_option maxRecDepth 100000
namespace Go.Proofs.YtgfljbplccekcaaDoor
open Go Go.V Go.Low

theorem isT.stk {h0 h : Heap} {t n nb lb ob : Nat} {gv : Value} {of : Int} {opv outv : Value} {σ : Tar.St} (q : isT h0 h t n nb lb ob gv of opv outv σ) (s : List (Nat × List Nat)) : isT h0 h t n nb lb ob gv of opv outv { σ with stk := s } :=
  ⟨q.ge, q.lo, q.blk, q.num, q.low, q.on, q.opr, q.outr, q.ne, q.small⟩
/-- what is written aside -/
theorem isT.aside {Z : List Nat} {h0 h h' : Heap} {t n nb lb ob : Nat} {gv : Value} {of : Int} {opv outv : Value} {σ : Tar.St} (q : isT h0 h t n nb lb ob gv of opv outv σ) (kb : Kb Z h h')
    (hZ : ∀ z ∈ Z, z ∉ tX t nb lb ob opv outv ∧ h0.size ≤ z ∧ ∀ c f, h[z]? ≠ some (.cells c 3 f)) : isT h0 h' t n nb lb ob gv of opv outv σ := by
  have hout : ∀ x ∈ tX t nb lb ob opv outv, x ∉ Z := fun x hx hz => (hZ x hz).1 hx
  have hT : ∀ z ∈ Z, z ∈ wX nb lb opv ∨ ∀ c f, h[z]? ≠ some (.cells c 3 f) := fun z hz => .inr (hZ z hz).2.2
  obtain ⟨ovs, ho, hov⟩ := q.outr
  refine ⟨⟨Nat.le_trans q.ge.size kb.size, fun k hk => ?_⟩, q.lo, kb.lookup q.blk (hout t (by simp [tX])), kb.lookup q.num (hout nb (by simp [tX, wX])), kb.lookup q.low (hout lb (by simp [tX, wX])), kb.lookup q.on (hout ob (by simp [tX])),
    V.Own.kb q.opr kb (fun b hb => hout b (by simp [tX, wX, hb])), ⟨ovs, V.Own.kb ho kb (fun b hb => hout b (by simp [tX, hb])), fun i w c hw hc => (hov i w c hw hc).kb kb hT⟩, q.ne, q.small⟩
  rw [kb.block k (Nat.lt_of_lt_of_le hk q.ge.size) (fun hz => by have := (hZ k hz).2.1; omega)]
  exact q.ge.block k hk
/-- a store into the row of the low numbers -/
theorem isT.lowSet {h0 h h' : Heap} {t n nb lb ob : Nat} {gv : Value} {of : Int} {opv outv : Value} {σ : Tar.St} (q : isT h0 h t n nb lb ob gv of opv outv σ) {v x : Nat} (hv : v < n) (up : Up h h' lb)
    (e : h'[lb]? = some (.cells (setL (arrI n fun m => (σ.low m : Nat)) v [.int .i64 (x : Nat)]) 3 (0, 0))) : isT h0 h' t n nb lb ob gv of opv outv { σ with low := Tar.upd σ.low v x } := by
  have hne : ∀ b, b ≠ lb → h'[b]? = h[b]? := up.other
  have kb : Kb [lb] h h' := (Kb.refl _ _).up up (.inl (by simp))
  have tlb : t ≠ lb := other_type q.blk q.low (by decide)
  have olb : ob ≠ lb := other_type q.on q.low (by decide)
  refine ⟨up.ge q.ge q.lo.2.2.1, q.lo, by rw [hne t tlb]; exact q.blk, by rw [hne nb q.ne.1]; exact q.num, ?_, by rw [hne ob olb]; exact q.on, V.Own.kb q.opr kb ?_, ?_, q.ne, q.small⟩
  · rw [e, arrI_set _ hv]
    congr 2
    apply arrV_congr
    intro j _
    simp only [upd, Tar.upd]
    split <;> rfl
  · intro b hb
    simp only [List.mem_singleton]
    rintro rfl; exact q.ne.2.2 hb
  · obtain ⟨ovs, ho, hov⟩ := q.outr
    refine ⟨ovs, V.Own.kb ho kb ?_, fun i w c hw hc => (hov i w c hw hc).kb kb (fun z hz => ?_)⟩
    · intro b hb
      obtain ⟨_, cur, hc⟩ := q.outb hb
      simpa using other_type hc q.low (by decide)
    · simp only [List.mem_singleton] at hz
      subst hz
      exact .inl (by simp [wX])
theorem IntsA.tail {X : List Nat} {h : Heap} {b o c : Nat} {x : Int} {xs : List Int} (q : IntsA X h (sl b o (x :: xs).length c) (x :: xs)) : IntsA X h (sl b (slOff o 1 1 c) xs.length (c - 1)) xs := by
  obtain ⟨a, c', e, h1, h2, h3⟩ := q.r
  cases e
  obtain ⟨b', o', e, hr⟩ := h3 (by simp)
  cases e
  simp only [List.length_cons] at h1
  refine ⟨?_, fun b'' o'' m c'' hv => ?_⟩
  · by_cases hx : 0 < xs.length
    · have : slOff o 1 1 c = o + 1 := by unfold slOff; rw [if_neg (by omega)]
      rw [this]
      refine Ints.mk (by omega) (by omega) fun i y hy => ?_
      have := rdRow_cell hr (j := i + 1) (v := .int .i64 y) (by simp [ivals, hy])
      rw [show o + 1 + i = o + (i + 1) from by omega]
      exact this
    · have : xs = [] := List.eq_nil_of_length_eq_zero (by omega)
      subst this
      exact ⟨_, c - 1, rfl, by simp, by omega, by simp⟩
  · simp only [Value.slice.injEq, Option.some.injEq, Addr.mk.injEq] at hv
    obtain ⟨⟨rfl, _⟩, _⟩ := hv
    exact q.away b o _ _ rfl
/-- frames as rows of memory, the bottom first -/
def frows (fs : List (Nat × Value × List Nat)) : List Value := fs.flatMap fun f => [.int .i64 (f.1 : Nat), f.2.1]
theorem frows_len (fs : List (Nat × Value × List Nat)) : (frows fs).length = fs.length * 2 := by
  induction fs with
  | nil => rfl
  | cons f r ih => simp only [frows, List.flatMap_cons, List.length_append, List.length_cons, List.length_nil] at ih ⊢; omega
theorem frows_snoc (fs : List (Nat × Value × List Nat)) (f : Nat × Value × List Nat) : frows (fs ++ [f]) = frows fs ++ [.int .i64 (f.1 : Nat), f.2.1] := by simp [frows]
theorem frows_at {fs : List (Nat × Value × List Nat)} {f : Nat × Value × List Nat} : (frows (fs ++ [f]))[fs.length * 2]? = some (.int .i64 (f.1 : Nat)) ∧ (frows (fs ++ [f]))[fs.length * 2 + 1]? = some f.2.1 := by
  rw [frows_snoc]
  constructor
  · rw [List.getElem?_append_right (by rw [frows_len]; omega), frows_len]; simp
  · rw [List.getElem?_append_right (by rw [frows_len]; omega), frows_len]
    have : fs.length * 2 + 1 - fs.length * 2 = 1 := by omega
    rw [this]; rfl
theorem frows_set {fs : List (Nat × Value × List Nat)} {v : Nat} {ov ov' : Value} {r r' : List Nat} : (frows (fs ++ [(v, ov, r)])).set (fs.length * 2 + 1) ov' = frows (fs ++ [(v, ov', r')]) := by
  rw [frows_snoc, frows_snoc, List.set_append, if_neg (by rw [frows_len]; omega), frows_len]
  have : fs.length * 2 + 1 - fs.length * 2 = 1 := by omega
  rw [this]; rfl
/-- the stack, top first, as Tarjan's way has it -/
def fstk (fs : List (Nat × Value × List Nat)) : List (Nat × List Nat) := (fs.map fun f => (f.1, f.2.2)).reverse
theorem fstk_snoc (fs : List (Nat × Value × List Nat)) (f : Nat × Value × List Nat) : fstk (fs ++ [f]) = (f.1, f.2.2) :: fstk fs := by simp [fstk]
/-- Tarjan's state and stack in memory -/
structure isTS (h0 h : Heap) (t n nb lb ob : Nat) (gv : Value) (of : Int) (E : Nat → Nat → Bool) (opv outv sv : Value) (σ : Tar.St) (fs : List (Nat × Value × List Nat)) : Prop where
  T : isT h0 h t n nb lb ob gv of opv outv σ
  S : Own h h0.size 185 2 sv fs.length (frows fs)
  F : ∀ f ∈ fs, IntsA (wX nb lb opv) h f.2.1 (nats f.2.2)
  K : σ.stk = fstk fs
  I : Tar.Inv n E σ
  C : σ.next + Tar.whites n σ ≤ n
theorem isTS.slen {h0 h : Heap} {t n nb lb ob : Nat} {gv : Value} {of : Int} {E : Nat → Nat → Bool} {opv outv sv : Value} {σ : Tar.St} {fs : List (Nat × Value × List Nat)} (q : isTS h0 h t n nb lb ob gv of E opv outv sv σ fs) : fs.length ≤ n := by
  have h1 : (σ.stk.map fun f => f.1).Nodup := by
    rw [List.nodup_iff_pairwise_ne, List.pairwise_map]
    exact q.I.st1.imp fun h e => by rw [e] at h; omega
  have h2 : (σ.stk.map fun f => f.1) ⊆ List.range n := fun x hx => by
    obtain ⟨f, hf, rfl⟩ := List.mem_map.1 hx
    exact List.mem_range.2 (q.I.a3 _ (q.I.op2 _ (q.I.st2 f hf)))
  have := List.Nodup.length_le_of_subset h1 h2
  rw [q.K] at this
  simpa [fstk] using this
/-- the stack's block is none of those that the state's functions write -/
theorem isTS.sout {h0 h : Heap} {t n nb lb ob : Nat} {gv : Value} {of : Int} {E : Nat → Nat → Bool} {opv outv sv : Value} {σ : Tar.St} {fs : List (Nat × Value × List Nat)} (q : isTS h0 h t n nb lb ob gv of E opv outv sv σ fs) {b : Nat} (hb : sv.ownBlock = some b) : b ∉ tX t nb lb ob opv outv := by
  obtain ⟨_, cur, hc⟩ := Own.blk q.S hb
  simp only [tX, wX, List.mem_cons, List.mem_append, Option.mem_toList, not_or]
  refine ⟨other_type hc q.T.blk (by decide), other_type hc q.T.on (by decide), fun e => ?_, other_type hc q.T.num (by decide), other_type hc q.T.low (by decide), fun e => ?_⟩
  · obtain ⟨_, cur2, hc2⟩ := q.T.outb e; exact other_type hc hc2 (by decide) rfl
  · obtain ⟨_, cur2, hc2⟩ := q.T.opb e; exact other_type hc hc2 (by decide) rfl
end Go.Proofs.YtgfljbplccekcaaDoor
