/-
  The framework at this program: its rules, rows of memory; conditions: none.
-/
import Derived.Test.YtgfljbplccekcaaDoorV3
import Derived.Test.YtgfljbplccekcaaDoorProg
import Derived.KernelRfl
set_option linter.unusedSimpArgs false
set_option linter.unusedVariables false
set_option maxRecDepth 100000
namespace Go.Proofs.YtgfljbplccekcaaDoor
open Go Go.V

theorem SS0 : V0T ∧ W0T ∧ B0T ∧ (tick0 = tick1) ∧ VPT Tryd.prog ∧ OT Tryd.prog ∧ WPT Tryd.prog := S Tryd.prog
theorem SS : (HT0 ∧ HT Tryd.prog) ∧ V0T ∧ W0T ∧ B0T ∧ (tick0 = tick1) ∧ VPT Tryd.prog ∧ OT Tryd.prog ∧ WPT Tryd.prog := ⟨⟨HV0, HV⟩, SS0⟩
theorem mixed : Tryd.prog.follows .mixedOrders = true := by kernel_rfl

/-! rows of memory -/
/-- v is a slice over rows of sz cells. -/
def Rows (h : Heap) (v : Value) (sz : Nat) (rows : List (List Value)) : Prop :=
  ∃ a c, v = .slice a rows.length c ∧ rows.length ≤ c ∧ c ≤ 9223372036854775807 ∧ (0 < rows.length → ∃ b o, a = some ⟨b, o, none⟩ ∧ ∀ i r, rows[i]? = some r → rdRow h b (o + i * sz) sz = some r)
theorem Rows.ge {h h' : Heap} (g : Ge h h') {v : Value} {sz : Nat} {rows : List (List Value)} (r : Rows h v sz rows) : Rows h' v sz rows := by
  obtain ⟨a, c, hv, hc, hc2, hr⟩ := r
  refine ⟨a, c, hv, hc, hc2, fun hl => ?_⟩
  obtain ⟨b, o, ha, h1⟩ := hr hl
  exact ⟨b, o, ha, fun i r hi => g.rdRow (h1 i r hi)⟩
theorem rdRow_cell {h : Heap} {b : Nat} : ∀ {n o : Nat} {l : List Value} {j : Nat} {v : Value}, rdRow h b o n = some l → l[j]? = some v → hcell h b (o + j) = some v
  | 0, o, l, j, v, h1, h2 => by simp only [rdRow, Option.some.injEq] at h1; subst h1; simp at h2
  | n + 1, o, l, j, v, h1, h2 => by
    simp only [rdRow, Option.bind_eq_some_iff, Option.some.injEq] at h1
    obtain ⟨u, hu, vs, hvs, rfl⟩ := h1
    cases j with
    | zero => simp at h2; subst h2; exact hu
    | succ j => rw [show o + (j + 1) = o + 1 + j from by omega]; exact rdRow_cell hvs (by simpa using h2)
theorem rdRow_len {h : Heap} {b : Nat} : ∀ {n o : Nat} {l : List Value}, rdRow h b o n = some l → l.length = n
  | 0, o, l, h1 => by simp only [rdRow, Option.some.injEq] at h1; subst h1; rfl
  | n + 1, o, l, h1 => by
    simp only [rdRow, Option.bind_eq_some_iff, Option.some.injEq] at h1
    obtain ⟨u, hu, vs, hvs, rfl⟩ := h1
    simp [rdRow_len hvs]
theorem rdRow_blk {h : Heap} {b : Nat} {c : Array Value} {e : TypeId} {f : Nat × Nat} (hb : h[b]? = some (.cells c e f)) : ∀ {n o : Nat}, o + n ≤ c.size → rdRow h b o n = some ((c.toList.drop o).take n)
  | 0, o, _ => by simp [rdRow]
  | n + 1, o, hc => by
    have h1 : hcell h b o = some (c[o]'(by omega)) := by simp [hcell, hb]
    have h2 := rdRow_blk hb (n := n) (o := o + 1) (by omega)
    have h3 : c.toList.drop o = (c[o]'(by omega)) :: c.toList.drop (o + 1) := by
      rw [List.drop_eq_getElem_cons (by simp; omega)]; simp
    rw [rdRow, h1, Option.bind_some, h2, Option.bind_some, h3, List.take_succ_cons]
end Go.Proofs.YtgfljbplccekcaaDoor
