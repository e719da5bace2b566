/-
  Arguments opened: a slice of transactions as rows of memory; conditions: the argument reads.
-/
import Derived.Test.YtgfljbplccekcaaDoorPost
import Derived.Test.YtgfljbplccekcaaDoorSearch0
set_option linter.unusedSimpArgs false
set_option linter.unusedVariables false
set_option maxRecDepth 100000
namespace Go.Proofs.YtgfljbplccekcaaDoor
open Go Go.V Go.ChangeShapes Go.WideShapes Go.RowKit Go.Deep

section
variable {H : Type} {enc : TypeId × Value → H} {P : Program} {w : World} {base : Nat} {spare : Nat → Bool} {held : Bool}
theorem open_slice_fields {t e : TypeId} {fs : Array Field} {fuel : Nat} {cs : List Value} {x : DataW H × List MemPlace} (ht : P.underlying t = some (.slice e)) (he : P.underlying e = some (.struct fs))
    (hone : oneCellFields P fs = true) (hC : P.cellsOf e = fs.size) (h : DataW.trod enc P w base spare held fuel t cs = some x) :
    (cs = [.slice none 0 0] ∧ x = (.nil, [])) ∨
    ∃ (a : Addr) (len cap m : Nat) (D : Nat → DataW H) (Pl : Nat → List MemPlace), cs = [.slice (some a) len cap] ∧ base ≤ a.block ∧ len ≤ cap ∧ cap ≤ maxLen ∧ m = (if spare a.block then cap else len) ∧
      x = (.slice ((List.range len).map D) ((List.range (m - len)).map fun j => D (len + j)), MemPlace.row a (m * fs.size) ++ (List.range m).flatMap Pl) ∧
      ∀ i, i < m → ∃ (ys : List (DataW H × List MemPlace)) (n : Nat), D i = .agg (ys.map (·.1)) ∧ Pl i = ys.flatMap (·.2) ∧ ys.length = fs.size ∧
        ∀ (j : Nat) (f : Field), fs[j]? = some f → ∃ (v : Value) (y : DataW H × List MemPlace), w.cell? (a.add (i * fs.size + j)) = some v ∧ ys[j]? = some y ∧ DataW.trod enc P w base spare held n f.type [v] = some y := by
  rcases open_slice ht h with h0 | ⟨a, len, cap, m, n, D, Pl, hcs, hb, hl, hm, hmm, hx, hi⟩
  · exact .inl h0
  · refine .inr ⟨a, len, cap, m, D, Pl, hcs, hb, hl, hm, hmm, by rw [hC] at hx; exact hx, fun i him => ?_⟩
    obtain ⟨cs', hc, ht'⟩ := hi i him
    rw [hC] at hc
    obtain ⟨ys, n', hn', hy, hlen, hyl, hf⟩ := DataW.trod_struct he ht'
    obtain ⟨_, hcl, hat⟩ := World.cells?_some hc
    simp only [Prod.mk.injEq] at hy
    refine ⟨ys, n', hy.1, hy.2, hyl, fun j f hj => ?_⟩
    obtain ⟨ho, hk⟩ := hone_of hone j f hj
    have hjl : j < fs.size := (Array.getElem?_eq_some_iff.1 hj).1
    have hcell := hat j hjl
    have hv : cs'[j]? = some (cs'[j]'(by omega)) := List.getElem?_eq_getElem (by omega)
    have h1 := hf j f hj
    rw [ho, hk] at h1
    have hone' : (cs'.drop j).take 1 = [cs'[j]'(by omega)] := by
      rw [List.drop_eq_getElem_cons (by omega)]
      rfl
    rw [hone'] at h1
    have hys : ys[j]? = some (ys[j]'(by omega)) := List.getElem?_eq_getElem (by omega)
    refine ⟨_, _, ?_, hys, h1.trans hys⟩
    rw [← Go.Deep.add_add, hcell, hv]
end

noncomputable def fieldsOf (t : TypeId) : Array Field := match Tryd.prog.underlying t with | some (.struct fs) => fs | _ => #[]
theorem uTxns : Tryd.prog.underlying 22 = some (.slice 29) := by kernel_rfl
theorem uTxn : Tryd.prog.underlying 29 = some (.struct (fieldsOf 29)) := by kernel_rfl
theorem oTxn : oneCellFields Tryd.prog (fieldsOf 29) = true := by kernel_rfl
theorem cTxn : Tryd.prog.cellsOf 29 = (fieldsOf 29).size := by kernel_rfl
theorem sTxn : (fieldsOf 29).size = 5 := by kernel_rfl
theorem fTxn : ((fieldsOf 29)[0]?).map (·.type) = some 3 ∧ ((fieldsOf 29)[1]?).map (·.type) = some 3 ∧ ((fieldsOf 29)[2]?).map (·.type) = some 3 ∧
  ((fieldsOf 29)[3]?).map (·.type) = some 3 ∧ ((fieldsOf 29)[4]?).map (·.type) = some 27 := by refine ⟨?_, ?_, ?_, ?_, ?_⟩ <;> kernel_rfl
theorem uInt : Tryd.prog.underlying 3 = some (.int .i64) := by kernel_rfl
theorem uOps : Tryd.prog.underlying 27 = some (.slice 39) := by kernel_rfl

theorem cell_hcell {w : World} {a : Addr} {v : Value} (h : w.cell? a = some v) : hcell w.heap a.block a.off = some v ∧ a.spot = none := by
  unfold World.cell? at h
  unfold hcell
  split at h
  · rename_i c _ _ e
    rw [e]
    split at h
    · cases h
    · rename_i hs
      exact ⟨h, by simpa using hs⟩
  · cases h

section
variable {H : Type} {enc : TypeId × Value → H} {W : World} {base : Nat} {spare : Nat → Bool} {held : Bool}
theorem txs_of {fuel : Nat} {v : Value} {x : DataW H × List MemPlace} (hv : ∃ a l c, v = .slice a l c) (h : DataW.trod enc Tryd.prog W base spare held fuel 22 v.cells.toList = some x) : ∃ l, Txs W.heap v l := by
  obtain ⟨a0, l0, c0, rfl⟩ := hv
  rcases open_slice_fields uTxns uTxn oTxn cTxn h with ⟨e, _⟩ | ⟨a, len, cap, m, D, Pl, e, _, h1, h2, h3, _, h4⟩
  · simp only [Value.cells, List.cons.injEq, Value.slice.injEq, and_true] at e
    obtain ⟨rfl, rfl, rfl⟩ := e
    exact ⟨[], none, 0, rfl, Nat.le_refl _, by omega, fun h => absurd h (by simp)⟩
  · simp only [Value.cells, List.cons.injEq, Value.slice.injEq, and_true] at e
    obtain ⟨rfl, rfl, rfl⟩ := e
    have hm : l0 ≤ m := by rw [h3]; split <;> omega
    have hc : c0 ≤ 9223372036854775807 := h2
    have key : ∀ i, i < l0 → ∃ t : TX, ∀ j v, t.cells[j]? = some v → W.cell? (a.add (i * 5 + j)) = some v := by
      intro i hi
      obtain ⟨ys, n, _, _, _, hf⟩ := h4 i (by omega)
      rw [sTxn] at hf
      obtain ⟨f0, f1, f2, f3, f4⟩ := fTxn
      have gi : ∀ j : Nat, ((fieldsOf 29)[j]?).map (·.type) = some 3 → ∃ n : Int, W.cell? (a.add (i * 5 + j)) = some (.int .i64 n) := by
        intro j hj
        obtain ⟨f, hfj, ht⟩ := Option.map_eq_some_iff.1 hj
        obtain ⟨v, y, hc, _, hy⟩ := hf j f hfj
        rw [ht] at hy
        obtain ⟨k, hk, _⟩ := DataW.trod_int uInt hy
        simp only [List.cons.injEq, and_true] at hk
        exact ⟨k, by rw [hc, hk]⟩
      have gs : ∃ oa on oc, W.cell? (a.add (i * 5 + 4)) = some (.slice oa on oc) := by
        obtain ⟨f, hfj, ht⟩ := Option.map_eq_some_iff.1 f4
        obtain ⟨v, y, hc, _, hy⟩ := hf 4 f hfj
        rw [ht] at hy
        rcases DataW.trod_slice uOps hy with ⟨hk, _⟩ | ⟨b, ln, cp, _, _, _, _, hk, _⟩
        · simp only [List.cons.injEq, and_true] at hk
          exact ⟨_, _, _, by rw [hc, hk]⟩
        · simp only [List.cons.injEq, and_true] at hk
          exact ⟨_, _, _, by rw [hc, hk]⟩
      obtain ⟨p, g0⟩ := gi 0 f0
      obtain ⟨s, g1⟩ := gi 1 f1
      obtain ⟨fr, g2⟩ := gi 2 f2
      obtain ⟨to, g3⟩ := gi 3 f3
      obtain ⟨oa, on, oc, g4⟩ := gs
      refine ⟨⟨p, s, fr, to, oa, on, oc⟩, fun j v hj => ?_⟩
      match j, hj with
      | 0, hj => simp only [TX.cells, List.getElem?_cons_zero, Option.some.injEq] at hj; subst hj; exact g0
      | 1, hj => simp only [TX.cells, List.getElem?_cons_succ, List.getElem?_cons_zero, Option.some.injEq] at hj; subst hj; exact g1
      | 2, hj => simp only [TX.cells, List.getElem?_cons_succ, List.getElem?_cons_zero, Option.some.injEq] at hj; subst hj; exact g2
      | 3, hj => simp only [TX.cells, List.getElem?_cons_succ, List.getElem?_cons_zero, Option.some.injEq] at hj; subst hj; exact g3
      | 4, hj => simp only [TX.cells, List.getElem?_cons_succ, List.getElem?_cons_zero, Option.some.injEq] at hj; subst hj; exact g4
      | n + 5, hj => simp [TX.cells] at hj
    have pick : ∃ l : List TX, l.length = l0 ∧ ∀ i t, l[i]? = some t → ∀ j v, t.cells[j]? = some v → W.cell? (a.add (i * 5 + j)) = some v := by
      have : ∀ k, k ≤ l0 → ∃ l : List TX, l.length = k ∧ ∀ i t, l[i]? = some t → ∀ j v, t.cells[j]? = some v → W.cell? (a.add (i * 5 + j)) = some v := by
        intro k
        induction k with
        | zero => exact fun _ => ⟨[], rfl, by simp⟩
        | succ k ih =>
          intro hk
          obtain ⟨l, hl, hr⟩ := ih (by omega)
          obtain ⟨t, ht⟩ := key k (by omega)
          refine ⟨l ++ [t], by simp [hl], fun i u hu => ?_⟩
          by_cases hi : i < l.length
          · rw [List.getElem?_append_left hi] at hu
            exact hr i u hu
          · rw [List.getElem?_append_right (by omega)] at hu
            have h0 : i - l.length = 0 := by
              have := (List.getElem?_eq_some_iff.1 hu).1
              simp at this
              omega
            have e : i = k := by omega
            rw [h0] at hu
            simp only [List.getElem?_cons_zero, Option.some.injEq] at hu
            subst e hu
            exact ht
      exact this l0 (Nat.le_refl _)
    obtain ⟨l, hl, hr⟩ := pick
    subst hl
    refine ⟨l, some a, c0, by simp, by simpa using h1, hc, fun hpos => ?_⟩
    obtain ⟨ab, ao, asp⟩ := a
    have hsp : asp = none := by
      have hpos' : 0 < l.length := by simpa using hpos
      obtain ⟨t, ht⟩ : ∃ t, l[0]? = some t := ⟨_, List.getElem?_eq_getElem hpos'⟩
      have h5 := hr 0 t ht 0 _ rfl
      exact (cell_hcell h5).2
    subst hsp
    refine ⟨ab, ao, rfl, fun i r hi => ?_⟩
    rw [List.getElem?_map] at hi
    obtain ⟨t, ht, rfl⟩ := Option.map_eq_some_iff.1 hi
    have h6 := hr i t ht
    have cell : ∀ j v, t.cells[j]? = some v → hcell W.heap ab (ao + i * 5 + j) = some v := by
      intro j v hj
      have h7 := (cell_hcell (h6 j v hj)).1
      unfold Addr.add at h7
      split at h7
      · rename_i h0
        have e1 : i = 0 := by omega
        have e2 : j = 0 := by omega
        subst e1 e2
        simpa using h7
      · simpa [Nat.add_assoc] using h7
    have c0 := cell 0 _ rfl
    have c1 := cell 1 _ rfl
    have c2 := cell 2 _ rfl
    have c3 := cell 3 _ rfl
    have c4 := cell 4 _ rfl
    simp only [Nat.add_zero] at c0
    simp only [rdRow, c0, c1, c2, c3, c4, Option.bind_some, Nat.add_assoc, TX.cells]
    simp only [Nat.add_assoc] at c1 c2 c3 c4
    simp [c0, c1, c2, c3, c4]
end
end Go.Proofs.YtgfljbplccekcaaDoor
