/-
  slices.Sort at []int as a contract; conditions: sizes.
-/
import Derived.Test.YtgfljbplccekcaaDoorSl
import Derived.Test.YtgfljbplccekcaaDoorShelf
set_option linter.unusedSimpArgs false
set_option linter.unusedVariables false
set_option maxRecDepth 100000
namespace Go.Proofs.YtgfljbplccekcaaDoor
open Go Go.V Go.Low

theorem sorted_heap {α : Type} [Inhabited α] {enc : α → Value} {w : World} {blk off n : Nat} {d : Array α} {os : Array Obj} {cur : Array Value} {e : TypeId} (hb : w.heap[blk]? = some (.cells cur e (0, 0))) (hfit : off + d.size ≤ cur.size) :
    (Sort.grow (Sort.putRow enc (Sort.ahead w n) blk off d) os).heap[blk]? = some (.cells (setL cur off (d.toList.map enc)) e (0, 0)) ∧ Kb [blk] w.heap (Sort.grow (Sort.putRow enc (Sort.ahead w n) blk off d) os).heap ∧ Same w (Sort.grow (Sort.putRow enc (Sort.ahead w n) blk off d) os) := by
  have hlt : blk < w.heap.size := Ge.lt hb
  have hh : (Sort.grow (Sort.putRow enc (Sort.ahead w n) blk off d) os).heap = (w.heap.modify blk (Sort.onCells (Sort.putCells enc off d))) ++ os := rfl
  have hput : Sort.putCells enc off d cur = setL cur off (d.toList.map enc) := by
    rw [← Array.toList_inj, setL_take _ _ _ (by simpa using hfit)]
    apply List.ext_getElem?
    intro k
    simp only [Sort.putCells, Array.toList_mapIdx, List.getElem?_mapIdx, List.length_map, Array.length_toList]
    by_cases h1 : k < off
    · rw [List.getElem?_append_left (by simp; omega), List.getElem?_append_left (by simp; omega), List.getElem?_take, if_pos h1]
      have h3 : ¬ (off ≤ k ∧ k < off + d.size) := by omega
      simp only [h3, if_false]
      cases cur.toList[k]? <;> rfl
    · by_cases h2 : k < off + d.size
      · rw [List.getElem?_append_left (by simp; omega), List.getElem?_append_right (by simp; omega)]
        have h3 : off ≤ k ∧ k < off + d.size := by omega
        have hk : k < cur.toList.length := by simp; omega
        have h4 : min off cur.toList.length = off := by simp; omega
        rw [List.getElem?_eq_getElem hk]
        simp only [Option.map_some, h3, and_self, if_true, List.length_take, h4, List.getElem?_map]
        have h5 : k - off < d.size := by omega
        rw [getElem!_pos d (k - off) h5]
        simp [h5]
      · rw [List.getElem?_append_right (by simp; omega), List.getElem?_drop]
        have h3 : ¬ (off ≤ k ∧ k < off + d.size) := by omega
        have h4 : min off cur.toList.length = off := by simp; omega
        simp only [h3, if_false, List.length_append, List.length_take, List.length_map, Array.length_toList]
        have h6 : off + d.size + (k - (min off cur.size + d.size)) = k := by omega
        rw [h6]
        cases cur.toList[k]? <;> rfl
  refine ⟨?_, ⟨?_, fun k hk hx => ?_⟩, ⟨rfl, rfl, rfl⟩⟩
  · rw [hh, Array.getElem?_append_left (by simpa using hlt), Array.getElem?_modify, if_pos rfl, hb]
    simp only [Option.map_some, Sort.onCells, hput]
  · rw [hh]; simp
  · simp only [List.mem_singleton] at hx
    rw [hh, Array.getElem?_append_left (by simpa using hk), Array.getElem?_modify, if_neg (fun e => hx e.symm)]
theorem sort_ok {h : Heap} {b off c : Nat} {cur : Array Value} {zs : List Int} (hb : h[b]? = some (.cells cur 3 (0, 0))) (hz : ∀ (i : Nat) (x : Int), zs[i]? = some x → cur[off + i]? = some (.int .i64 x)) (hfit : off + zs.length ≤ cur.size) (hs : zs.length < 4611686018427387904) :
    Ct Tryd.prog 147 [sl b off zs.length c] h fun v h' => v = .tuple #[] ∧ h'[b]? = some (.cells (setL cur off (ivals (zs.mergeSort fun x y => decide (x ≤ y)))) 3 (0, 0)) ∧ Kb [b] h h' := by
  refine ⟨⟨Tryd.f147, by kernel_rfl, by kernel_rfl, by kernel_rfl⟩, fun w hw => ?_⟩
  subst hw
  refine (Tryd.slices_Sort_int b off c zs w ?_ (Ge.lt hb) hs).mono ?_
  · intro j hj
    have hj' : j < zs.length := by simpa using hj
    have hc := hz j (zs[j]) (List.getElem?_eq_getElem hj')
    refine ⟨?_, by simp [World.frozen?, hb]⟩
    rw [cell_eq]
    simp only [hcell, hb, hc]
    rw [getElem!_pos zs.toArray j hj]
    simp
  · rintro e w' ⟨rfl, n, os, rfl⟩
    have := sorted_heap (enc := Value.int .i64) (n := n) (os := os) (d := (zs.mergeSort fun x y => decide (x ≤ y)).toArray) hb (by simpa using hfit)
    obtain ⟨h1, h2, h3⟩ := this
    exact ⟨_, rfl, h3, rfl, by simpa [ivals] using h1, h2⟩
end Go.Proofs.YtgfljbplccekcaaDoor
