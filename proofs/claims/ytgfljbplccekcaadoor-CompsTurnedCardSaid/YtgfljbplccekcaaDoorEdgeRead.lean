/-
  Arguments opened: a slice of edges as rows of memory; the table of math/bits out of a row's premise; conditions: the argument reads.
-/
import Derived.Test.YtgfljbplccekcaaDoorRead
import Derived.Test.YtgfljbplccekcaaDoorDraw
import Derived.Test.YtgfljbplccekcaaDoorCards
import Derived.Lib.LaidTab
set_option linter.unusedSimpArgs false
set_option linter.unusedVariables false
set_option maxRecDepth 100000
namespace Go.Proofs.YtgfljbplccekcaaDoor
open Go Go.V Go.ChangeShapes Go.WideShapes Go.RowKit Go.Deep

theorem tab_of {W : World} {r : List (String × DataW Unit)} (h : laidMet Tryd.prog (("math/bits.deBruijn64tab", Rows.laid_math_bits_deBruijn64tab) :: r) W) : Tab W.heap := by
  have h' : laidMet Tryd.prog (("math/bits.deBruijn64tab", Go.Lib.tabData .u8 (tab.map fun n : Nat => (n : Int))) :: r) W := h
  have t := Go.Lib.tabIs_of_head (g := 0) (t := 295) (e := 5) (n := 64) (k := .u8) (by kernel_rfl) (by kernel_rfl) (by kernel_rfl) (by kernel_rfl) (by kernel_rfl) (by kernel_rfl) h'
  unfold Go.Lib.TabIs World.var? at t
  rw [show Tryd.prog.globalNamed "math/bits.deBruijn64tab" = some 0 from by kernel_rfl] at t
  simp only [Option.bind_some] at t
  intro i n hi
  unfold hcell
  split at t
  · rename_i cs _ _ e
    rw [e]
    simp only [Option.some.injEq] at t
    subst t
    simp [hi]
  · cases t
theorem uEdges : Tryd.prog.underlying 45 = some (.slice 117) := by kernel_rfl
theorem uEdge : Tryd.prog.underlying 117 = some (.struct (fieldsOf 117)) := by kernel_rfl
theorem oEdge : oneCellFields Tryd.prog (fieldsOf 117) = true := by kernel_rfl
theorem cEdge : Tryd.prog.cellsOf 117 = (fieldsOf 117).size := by kernel_rfl
theorem sEdge : (fieldsOf 117).size = 3 := by kernel_rfl
theorem fEdge : ((fieldsOf 117)[0]?).map (·.type) = some 3 ∧ ((fieldsOf 117)[1]?).map (·.type) = some 3 ∧ ((fieldsOf 117)[2]?).map (·.type) = some 3 := by refine ⟨?_, ?_, ?_⟩ <;> kernel_rfl
section
variable {H : Type} {enc : TypeId × Value → H} {W : World} {base : Nat} {spare : Nat → Bool} {held : Bool}
theorem edges_of {fuel : Nat} {v : Value} {x : DataW H × List MemPlace} (hv : ∃ a l c, v = .slice a l c) (h : DataW.trod enc Tryd.prog W base spare held fuel 45 v.cells.toList = some x) : ∃ l, edgesAt W.heap v l := by
  obtain ⟨a0, l0, c0, rfl⟩ := hv
  rcases open_slice_fields uEdges uEdge oEdge cEdge h with ⟨e, _⟩ | ⟨a, len, cap, m, D, Pl, e, _, h1, h2, h3, _, h4⟩
  · simp only [Value.cells, List.cons.injEq, Value.slice.injEq, and_true] at e
    obtain ⟨rfl, rfl, rfl⟩ := e
    exact ⟨[], none, 0, rfl, Nat.le_refl _, by omega, fun h => absurd h (by simp)⟩
  · simp only [Value.cells, List.cons.injEq, Value.slice.injEq, and_true] at e
    obtain ⟨rfl, rfl, rfl⟩ := e
    have hm : l0 ≤ m := by rw [h3]; split <;> omega
    have hc : c0 ≤ 9223372036854775807 := h2
    have key : ∀ i : Nat, ∃ t : Int × Int × Int, i < l0 → W.cell? (a.add (i * 3 + 0)) = some (.int .i64 t.1) ∧ W.cell? (a.add (i * 3 + 1)) = some (.int .i64 t.2.1) ∧ W.cell? (a.add (i * 3 + 2)) = some (.int .i64 t.2.2) := by
      intro i
      by_cases hi : i < l0
      · obtain ⟨ys, n, _, _, _, hf⟩ := h4 i (by omega)
        rw [sEdge] at hf
        obtain ⟨f0, f1, f2⟩ := fEdge
        have gi : ∀ j : Nat, ((fieldsOf 117)[j]?).map (·.type) = some 3 → ∃ n : Int, W.cell? (a.add (i * 3 + j)) = some (.int .i64 n) := by
          intro j hj
          obtain ⟨f, hfj, ht⟩ := Option.map_eq_some_iff.1 hj
          obtain ⟨v, y, hc, _, hy⟩ := hf j f hfj
          rw [ht] at hy
          obtain ⟨k, hk, _⟩ := DataW.trod_int uInt hy
          simp only [List.cons.injEq, and_true] at hk
          exact ⟨k, by rw [hc, hk]⟩
        obtain ⟨p, g0⟩ := gi 0 f0
        obtain ⟨s, g1⟩ := gi 1 f1
        obtain ⟨fr, g2⟩ := gi 2 f2
        exact ⟨(p, s, fr), fun _ => ⟨g0, g1, g2⟩⟩
      · exact ⟨(0, 0, 0), fun h => absurd h hi⟩
    obtain ⟨T, hT⟩ := Classical.axiomOfChoice key
    refine ⟨(List.range l0).map T, some a, c0, by simp, by simpa using h1, hc, fun hl => ?_⟩
    have hpos : 0 < l0 := by simpa using hl
    have hsp : a.spot = none := (cell_hcell (hT 0 hpos).1).2 |> fun h => by
      unfold Addr.add at h
      split at h
      · simpa using h
      · rename_i e; simp_all
    obtain ⟨ab, ao, asp⟩ := a
    simp only at hsp
    subst hsp
    refine ⟨ab, ao, rfl, fun i e he => ?_⟩
    simp only [List.getElem?_map, Option.map_eq_some_iff] at he
    obtain ⟨i', hi', rfl⟩ := he
    obtain ⟨hi1, rfl⟩ : i < l0 ∧ i' = i := by
      obtain ⟨h5, h6⟩ := List.getElem?_eq_some_iff.1 hi'
      simp at h5 h6
      exact ⟨h5, h6.symm⟩
    have cnv : ∀ (j : Nat) (v : Value), W.cell? ((⟨ab, ao, none⟩ : Addr).add j) = some v → hcell W.heap ab (ao + j) = some v := by
      intro j v hv
      have hadd : (⟨ab, ao, none⟩ : Addr).add j = ⟨ab, ao + j, none⟩ := by unfold Addr.add; split <;> simp_all
      rw [hadd] at hv
      exact (cell_hcell hv).1
    obtain ⟨g0, g1, g2⟩ := hT i' hi1
    exact ⟨cnv _ _ g0, by have := cnv _ _ g1; rwa [← Nat.add_assoc] at this, by have := cnv _ _ g2; rwa [← Nat.add_assoc] at this⟩
end
end Go.Proofs.YtgfljbplccekcaaDoor
