/-
  Laws of the framework: composite literals of several elements, rows that are cut or written; conditions: as each theorem states.
-/
import Derived.Test.YtgfljbplccekcaaDoorV6
set_option linter.unusedSimpArgs false
set_option linter.unusedVariables false
set_option maxRecDepth 100000
namespace Go.V
open Go

theorem Kb.sub {X Y : List Nat} {a b : Heap} (h : Kb X a b) (hs : ∀ k ∈ X, k ∈ Y) : Kb Y a b := ⟨h.size, fun k hk hn => h.block k hk fun hx => hn (hs k hx)⟩
theorem Kb.grow {X : List Nat} {a b c : Heap} {row : Option Nat} (h : Kb X a b) (g : Grow b c row) (hr : ∀ k, row = some k → k ∈ X ∨ a.size ≤ k) : Kb X a c :=
  ⟨Nat.le_trans h.size g.size, fun k hk hn => by
    rw [g.block k (Nat.lt_of_lt_of_le hk h.size) (fun e => by rcases hr k e.symm with h1 | h1; exact hn h1; omega)]
    exact h.block k hk hn⟩
theorem Kb.of_ge {X : List Nat} {a b : Heap} (g : Ge a b) : Kb X a b := ⟨g.size, fun k hk _ => g.block k hk⟩
theorem Own.kb {X : List Nat} {h h' : Heap} {base e sz n : Nat} {v : Value} {xs : List Value} (o : Own h base e sz v n xs) (g : Kb X h h') (hx : ∀ b, v.ownBlock = some b → b ∉ X) : Own h' base e sz v n xs := by
  refine ⟨o.1, ?_⟩
  rcases o.2 with h0 | ⟨b, cap, cur, rfl, h2, h3, h4⟩
  · exact .inl h0
  · exact .inr ⟨b, cap, cur, rfl, h2, g.lookup h3 (hx b rfl), h4⟩
section
variable {P : Program} {h : Heap} {k : Value → Heap → Prop}
theorem vbs_ok {t e sz by_ n : Nat} {z : Value} {parts : List (Nat × Value)} {cells : Array Value} (he : elT P t = some (e, sz, by_, z)) (h1 : n * sz ≤ 16777216) (h0 : n * sz ≠ 0)
    (hf : Instr.fill (fun i => some (i * sz, sz)) ((Array.range (n * sz)).map (z.cells[· % z.cells.size]!)) parts = some cells)
    (hk : k (sl h.size 0 n n) (h.push (.cells cells e))) : vbs P t n parts h k := by
  obtain ⟨hu, i, hi, hzz, rfl, rfl⟩ := elT_parts he
  intro w hw
  subst hw
  refine ⟨_, w.alloc (.cells cells e), ?_, ⟨rfl, rfl, rfl⟩, hk⟩
  have h2 : ¬ (16777216 < n * i.size) := by omega
  simp only [Instr.buildSlice, Sem.run_bind, run_underlying hu, Result.andThen_ok, sizeOf, typeInfo, run_program, hi, Sem.run_pure, Nat.reducePow, gt_iff_lt, h2, if_false, h0, zeroValue, hzz]
  simp [hf, newRow]
theorem vbs_zero {t e sz by_ : Nat} {z : Value} (he : elT P t = some (e, sz, by_, z)) (hk : k (sl h.size 0 0 0) (h.push (.cells #[] e))) : vbs P t 0 [] h k := by
  obtain ⟨hu, i, hi, hzz, rfl, rfl⟩ := elT_parts he
  intro w hw
  subst hw
  refine ⟨_, w.alloc (.cells #[] e), ?_, ⟨rfl, rfl, rfl⟩, hk⟩
  simp only [Instr.buildSlice, Sem.run_bind, run_underlying hu, Result.andThen_ok, sizeOf, typeInfo, run_program, hi, Sem.run_pure, Nat.zero_mul]
  have e0 : ∀ f : Nat → Value, Array.map f (Array.range 0) = #[] := fun f => Array.eq_empty_of_size_eq_zero (by simp)
  simp [Instr.fill, newRow, e0]
theorem vapp_zero {t e sz by_ : Nat} {z : Value} (he : elT P t = some (e, sz, by_, z)) {ty base n c : Nat} {v : Value} {xs : List Value} {a : Option Addr} (hown : Own h base e sz v n xs) (hk : k v h) : vapp P #[t, t] ty v (.slice a 0 c) h k := by
  obtain ⟨hu, i, hi, hz, rfl, rfl⟩ := elT_parts he
  intro w hw
  subst hw
  refine ⟨v, w, ?_, Same.refl _, hk⟩
  have hl : ∀ b : Addr, (loadCells b 0).run P w = .ok #[] w := fun b => by simpa using run_loadCells_list (P := P) w b [] (by simp)
  have hst : ∀ b : Addr, (storeCells b [] 0).run P w = .ok () w := fun b => by simp [storeCells]
  rcases hown.2 with ⟨rfl, rfl⟩ | ⟨g, cap, cur, rfl, hb, hg, hc, hm, hs, _⟩
  · cases a <;> simp [Builtin.append_, run_underlying hu, sizeOf, typeInfo, hi, Builtin.lenOf, Builtin.firstCells, hl]
  · cases a <;> simp [Builtin.append_, run_underlying hu, sizeOf, typeInfo, hi, Builtin.lenOf, Builtin.firstCells, hc, hst, hl]
theorem Own.zero {base e sz g : Nat} (hb : base ≤ g) (hg : h[g]? = some (.cells #[] e (0, 0))) : Own h base e sz (sl g 0 0 0) 0 [] :=
  ⟨by simp, .inr ⟨g, 0, #[], rfl, hb, hg, Nat.le_refl _, by unfold maxLen; omega, by simp, by simp⟩⟩
/-- a row is made by make -/
theorem Own.made {base e sz g n : Nat} {c : Array Value} (hb : base ≤ g) (hg : h[g]? = some (.cells c e (0, 0))) (hn : n ≤ maxLen) (hc : c.size = n * sz) : Own h base e sz (sl g 0 n n) n c.toList :=
  ⟨by simp [hc], .inr ⟨g, n, c, rfl, hb, hg, Nat.le_refl _, hn, hc, by rw [← hc]; exact List.take_length (l := c.toList)⟩⟩
/-- a row is cut -/
theorem Own.cut {base e sz g n c m : Nat} {xs : List Value} (o : Own h base e sz (sl g 0 n c) n xs) (hm : m ≤ n) : Own h base e sz (sl g 0 m c) m (xs.take (m * sz)) := by
  rcases o.2 with ⟨h0, _⟩ | ⟨g', cap, cur, hv, hb, hg, hc, hm2, hs, ht⟩
  · cases h0
  · cases hv
    refine ⟨?_, .inr ⟨g, c, cur, rfl, hb, hg, by omega, hm2, hs, ?_⟩⟩
    · rw [List.length_take, o.1]; exact Nat.min_eq_left (Nat.mul_le_mul_right _ hm)
    · rw [← ht, List.take_take, Nat.min_eq_left (Nat.mul_le_mul_right _ hm)]
/-- a cell of a row is written -/
theorem Own.set {h' : Heap} {base e sz g n c j : Nat} {xs : List Value} {x : Value} (o : Own h base e sz (sl g 0 n c) n xs) (hj : j < n * sz) (he : ∀ cur, h[g]? = some (.cells cur e (0, 0)) → h'[g]? = some (.cells (setL cur j [x]) e (0, 0))) :
    Own h' base e sz (sl g 0 n c) n (xs.set j x) := by
  rcases o.2 with ⟨h0, _⟩ | ⟨g', cap, cur, hv, hb, hg, hc, hm2, hs, ht⟩
  · cases h0
  · cases hv
    refine ⟨by rw [List.length_set]; exact o.1, .inr ⟨g, c, _, rfl, hb, he cur hg, hc, hm2, ?_, ?_⟩⟩
    · simp [setL, hs]
    · rw [← ht]
      simp only [setL, Array.toList_setIfInBounds, List.take_set]
theorem Own.cur {base e sz g n c : Nat} {xs : List Value} (o : Own h base e sz (sl g 0 n c) n xs) : n ≤ c ∧ c ≤ maxLen ∧ base ≤ g ∧ ∃ cur, h[g]? = some (.cells cur e (0, 0)) ∧ cur.size = c * sz ∧ cur.toList.take (n * sz) = xs := by
  rcases o.2 with ⟨h0, _⟩ | ⟨g', cap, cur, hv, hb, hg, hc, hm2, hs, ht⟩
  · cases h0
  · cases hv; exact ⟨hc, hm2, hb, cur, hg, hs, ht⟩
theorem Own.form {base e sz n : Nat} {v : Value} {xs : List Value} (o : Own h base e sz v n xs) : ∃ a c, v = .slice a n c ∧ n ≤ 9223372036854775807 ∧ n ≤ c ∧ c ≤ 9223372036854775807 := by
  rcases o.2 with ⟨hv, h0⟩ | ⟨g', cap, cur, hv, hb, hg, hc, hm2, hs, ht⟩
  · exact ⟨none, 0, by rw [hv, h0], by omega, by omega, by omega⟩
  · unfold maxLen at hm2; exact ⟨_, cap, hv, by omega, hc, hm2⟩
theorem Own.here {base e sz n : Nat} {v : Value} {xs : List Value} (o : Own h base e sz v n xs) (hn : 0 < n) : ∃ g c, v = sl g 0 n c := by
  rcases o.2 with ⟨hv, h0⟩ | ⟨g', cap, cur, hv, hb, hg, hc, hm2, hs, ht⟩
  · omega
  · exact ⟨g', cap, hv⟩
end
end Go.V
