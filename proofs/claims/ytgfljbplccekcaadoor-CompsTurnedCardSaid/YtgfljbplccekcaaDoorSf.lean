/-
  slices.SortFunc at rows of ints, by their first int, as a contract; conditions: sizes.
-/
import Derived.Test.YtgfljbplccekcaaDoorSorts
import Derived.Deep.QuietTactic
import Derived.BigQuiet
set_option linter.unusedSimpArgs false
set_option linter.unusedVariables false
set_option maxRecDepth 100000
namespace Go.Proofs.YtgfljbplccekcaaDoor
open Go Go.V Go.Low

set_option maxHeartbeats 2000000 in
theorem heads_cmp (b1 o1 n1 c1 b2 o2 n2 c2 : Nat) (x y : Int) (W : World) (h1 : W.cell? ⟨b1, o1, none⟩ = some (.int .i64 x)) (h2 : W.cell? ⟨b2, o2, none⟩ = some (.int .i64 y)) (p1 : 0 < n1) (p2 : 0 < n2) :
    Calls Tryd.prog 69 #[.slice (some ⟨b1, o1, none⟩) n1 c1, .slice (some ⟨b2, o2, none⟩) n2 c2] W fun e w' => e = .returned (.int .i64 (Go.Lib.compareInt x y)) ∧ ∃ q, w' = W.drewN q := by
  have hcon := fun W => Tryd.cmp_Compare_int x y W
  generalize Go.Lib.compareInt x y = r at hcon ⊢
  have h1' : W.cell? ⟨b1, o1 + 0, none⟩ = some (.int .i64 x) := h1
  have h2' : W.cell? ⟨b2, o2 + 0, none⟩ = some (.int .i64 y) := h2
  go_enter Tryd.func69, Tryd.ntmps69
  go_wp2
  go_quiet (first | (go_at_call 70; exact Calls.quiet_of_same (hcon _)))
  go_wp2
  go_ret
  exact ⟨rfl, nq, rfl⟩

/-- a value that is a row whose first int is p.2, in another block than blk -/
def isHead (h : Heap) (blk : Nat) (p : Value × Int) : Prop := ∃ b o n c cur e, p.1 = sl b o n c ∧ 0 < n ∧ b ≠ blk ∧ h[b]? = some (.cells cur e (0, 0)) ∧ cur[o]? = some (.int .i64 p.2)
theorem compare_lt (x y : Int) : decide (Go.Lib.compareInt x y < 0) = decide (x < y) := by
  unfold Go.Lib.compareInt
  by_cases h1 : x < y
  · simp [h1]
  · by_cases h2 : y < x <;> simp [h1, h2]
theorem heads_swo {α : Type} (f : α → Int) : Go.Sort.SWO (ltOf fun x y : α => Go.Lib.compareInt (f x) (f y)) where
  irrefl x := by simp [ltOf, compare_lt]
  trans x y z h1 h2 := by simp only [ltOf, compare_lt, decide_eq_true_eq] at *; omega
  ntrans x y z h1 h2 := by simp only [ltOf, compare_lt, decide_eq_false_iff_not] at *; omega
theorem perm_lists {α : Type} [Inhabited α] {d d' : Array α} (h : Go.Sort.PermIn 0 d.size d d') : d'.toList.Perm d.toList := by
  obtain ⟨h1, _, h3⟩ := h
  have e1 : d'.extract 0 d.size = d' := by rw [← h1]; simp
  have e2 : d.extract 0 d.size = d := by simp
  rwa [e1, e2] at h3
theorem sortHeads_ok {h : Heap} {b off c : Nat} {cur : Array Value} {e : TypeId} {ps : List (Value × Int)} (hb : h[b]? = some (.cells cur e (0, 0))) (hz : ∀ (i : Nat) (p : Value × Int), ps[i]? = some p → cur[off + i]? = some p.1) (hfit : off + ps.length ≤ cur.size)
    (hs : ps.length < 4611686018427387904) (hd : ∀ p ∈ ps, isHead h b p) (hne : ps ≠ []) :
    Ct Tryd.prog 68 [sl b off ps.length c, .func (.func 69) #[] #[]] h fun v h' => v = .tuple #[] ∧ ∃ qs : List (Value × Int), qs.Perm ps ∧ (qs.Pairwise fun x y => x.2 ≤ y.2) ∧
      h'[b]? = some (.cells (setL cur off (qs.map (·.1))) e (0, 0)) ∧ Kb [b] h h' := by
  refine ⟨⟨Tryd.f68, by kernel_rfl, by kernel_rfl, by kernel_rfl⟩, fun w hw => ?_⟩
  subst hw
  let α := {p : Value × Int // isHead w.heap b p}
  let ds : List α := ps.attach.map fun p => ⟨p.1, hd p.1 p.2⟩
  have hds : ds.map (·.1) = ps := by
    show (ps.attach.map _).map _ = ps
    rw [List.map_map]
    exact (List.attach_map_val (f := fun x => x)).trans (List.map_id' ps)
  have hdl : ds.length = ps.length := by simp [ds]
  haveI : Inhabited α := ⟨⟨ps.head hne, hd _ (List.head_mem hne)⟩⟩
  let enc : α → Value := fun a => a.1.1
  have h1 : Go.Proofs.OneCell enc := by
    rintro ⟨p, b', o', n', c', cur', e', hp, _⟩
    show p.1.oneCell' = true
    rw [hp]; rfl
  have eg : ∀ args w, (callFunc 69 args).run Tryd.prog w = .ok (.enter 69 args) w := enters_of Tryd.func69 (by kernel_rfl) rfl
  have cellOther : ∀ (m : Nat) (dk : Array α) (os : Array Obj) (b' o' : Nat) (cur' : Array Value) (e' : TypeId) (v : Value), b' ≠ b → w.heap[b']? = some (.cells cur' e' (0, 0)) → cur'[o']? = some v →
      (Go.Sort.grow (Go.Sort.putRow enc (Go.Sort.ahead w m) b off dk) os).cell? ⟨b', o', none⟩ = some v := by
    intro m dk os b' o' cur' e' v hne hb' hv
    have hlt : b' < w.heap.size := Ge.lt hb'
    have hh : (Go.Sort.grow (Go.Sort.putRow enc (Go.Sort.ahead w m) b off dk) os).heap = (w.heap.modify b (Go.Sort.onCells (Go.Sort.putCells enc off dk))) ++ os := rfl
    rw [cell_eq]
    simp only [hcell]
    rw [hh, Array.getElem?_append_left (by simpa using hlt), Array.getElem?_modify, if_neg (fun e => hne e.symm), hb']
    exact hv
  have hcmp : CmpLays1 Tryd.prog 69 #[] enc (fun x y : α => Go.Lib.compareInt x.1.2 y.1.2) b off ds.toArray.size w := by
    refine CmpReads.lays ?_
    intro m os dk hdk x y
    obtain ⟨x, b1, o1, n1, c1, cur1, e1, hx, p1, q1, r1, s1⟩ := x
    obtain ⟨y, b2, o2, n2, c2, cur2, e2, hy, p2, q2, r2, s2⟩ := y
    have := heads_cmp b1 o1 n1 c1 b2 o2 n2 c2 x.2 y.2 (sortWorld enc w b off m dk os) (cellOther m dk os _ _ _ _ _ q1 r1 s1) (cellOther m dk os _ _ _ _ _ q2 r2 s2) p1 p2
    have ex : (#[enc ⟨x, b1, o1, n1, c1, cur1, e1, hx, p1, q1, r1, s1⟩, enc ⟨y, b2, o2, n2, c2, cur2, e2, hy, p2, q2, r2, s2⟩] ++ #[] : Array Value) = #[.slice (some ⟨b1, o1, none⟩) n1 c1, .slice (some ⟨b2, o2, none⟩) n2 c2] := by
      simp only [enc, hx, hy]; rfl
    rw [ex]
    exact this
  have hH : Go.Sort.Holds enc w b off ds.toArray := by
    intro j hj
    have hj' : j < ds.length := by simpa using hj
    have hj2 : j < ps.length := by omega
    have hc := hz j ps[j] (List.getElem?_eq_getElem hj2)
    refine ⟨?_, by simp [World.frozen?, hb]⟩
    rw [cell_eq]
    simp only [hcell, hb, hc]
    rw [getElem!_pos ds.toArray j hj]
    simp [enc, ds]
  have key := Tryd.slices_SortFunc enc h1 _ (heads_swo fun a : α => a.1.2) 69 #[] b off c ds.toArray w eg hcmp hH (Ge.lt hb) (by simpa [hdl] using hs)
  have esz : ds.toArray.size = ps.length := by simp [hdl]
  rw [esz] at key
  refine key.mono ?_
  rintro e' w' ⟨rfl, d', n, os, hp, hso, rfl⟩
  have hsz : d'.size = ps.length := by rw [hp.1, esz]
  obtain ⟨k1, k2, k3⟩ := sorted_heap (off := off) (enc := enc) (n := n) (os := os) (d := d') hb (by rw [hsz]; exact hfit)
  refine ⟨_, rfl, k3, rfl, d'.toList.map (·.1), ?_, ?_, ?_, k2⟩
  · have := perm_lists (by rw [esz]; exact hp)
    rw [← hds]
    exact this.map _
  · rw [List.pairwise_map, List.pairwise_iff_getElem]
    intro i j hi hj hij
    have := hso i j (Nat.zero_le _) hij (hsz ▸ (by simpa using hj))
    simp only [ltOf, compare_lt, decide_eq_false_iff_not] at this
    rw [getElem!_pos d' i (by simpa using hi), getElem!_pos d' j (by simpa using hj)] at this
    simp only [Array.getElem_toList]
    omega
  · rw [List.map_map]; exact k1
end Go.Proofs.YtgfljbplccekcaaDoor
