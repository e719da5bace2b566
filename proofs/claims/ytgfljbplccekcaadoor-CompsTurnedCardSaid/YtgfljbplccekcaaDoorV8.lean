/-
  The framework, eighth part: a region that draws, where three may come up in any order; conditions: none.
-/
import Derived.Test.YtgfljbplccekcaaDoorV7
set_option linter.unusedSimpArgs false
set_option linter.unusedVariables false
set_option maxRecDepth 100000
namespace Go.V
open Go

def fork3B (l : List Oper) (s : List (Nat × Nat)) (i j k : Nat) (a b c : Sch) : Bool := Region.noSelect l.toArray && decide (s.length + (1 + a.len) = l.length) && decide (a.len = b.len) && decide (a.len = c.len) &&
  match schR l.toArray s (Array.replicate l.length false) with
  | some r => decide (Region.ready .any l.toArray r = [i, j, k]) && a.ok l.toArray (r.setIfInBounds i true) && b.ok l.toArray (r.setIfInBounds j true) && c.ok l.toArray (r.setIfInBounds k true)
  | none => false
/-- a region that draws its order and writes: a line, then three in any order, each with its own rest -/
theorem vdraw_fork3 {P : Program} {l : List Oper} {K : Fr → Heap → Prop} {fr : Fr} {h : Heap} (X : List Nat) (s : List (Nat × Nat)) (i j k : Nat) (a b c : Sch) (hm : P.follows .mixedOrders = true) (hB : fork3B l s i j k a b c = true)
    (hv : vs P X l (fun fr h' => vso P X l (vt P X l K h a) h 2 (nthO l i) fr h' ∧ vso P X l (vt P X l K h b) h 2 (nthO l j) fr h' ∧ vso P X l (vt P X l K h c) h 2 (nthO l k) fr h') h s fr h) : vdraw P l.toArray K fr h := by
  intro n id w0 w ac E hd hA hs hw
  subst hw
  simp only [fork3B, Bool.and_eq_true, decide_eq_true_eq] at hB
  obtain ⟨⟨⟨⟨h1, h2⟩, hab⟩, hac⟩, h3⟩ := hB
  split at h3
  · rename_i last e
    simp only [Bool.and_eq_true, decide_eq_true_eq] at h3
    obtain ⟨⟨⟨hr, ha⟩, hb⟩, hc⟩ := h3
    have hd' : dstB n l = true := by simpa using hd
    have key : Goes P X n l K E w0 w.heap (s.length + (1 + a.len)) (Array.replicate l.length false) ac { w with drawn := w.drawn + 1 } := by
      refine vs_gen (K' := fun fr h' => vso P X l (vt P X l K w.heap a) w.heap 2 (nthO l i) fr h' ∧ vso P X l (vt P X l K w.heap b) w.heap 2 (nthO l j) fr h' ∧ vso P X l (vt P X l K w.heap c) w.heap 2 (nthO l k) fr h') h1 hd' (fun {fr a' w'} hA hw hkb q => ?_) e hA ⟨hs.os, hs.tape, hs.output⟩ (Kb.refl _ _) hv
      rw [Nat.add_comm 1]
      refine wpAnyH_all hr (by simp) ?_
      intro z hz
      rcases List.mem_cons.1 hz with rfl | hz
      · exact alone_sound hd' hA hw hkb (fun hA hw hkb h => vt_sound h1 hd' ha hA hw hkb h) q.1
      rcases List.mem_cons.1 hz with rfl | hz
      · rw [hab]; exact alone_sound hd' hA hw hkb (fun hA hw hkb h => vt_sound h1 hd' hb hA hw hkb h) q.2.1
      · obtain rfl : z = k := by simpa using hz
        rw [hac]; exact alone_sound hd' hA hw hkb (fun hA hw hkb h => vt_sound h1 hd' hc hA hw hkb h) q.2.2
    rw [h2] at key
    have h4 := wp_region_held (id := id) hm (by rw [List.size_toArray]; exact key)
    exact wp_mono h4 fun e a w q => q.2
  · cases h3
end Go.V
