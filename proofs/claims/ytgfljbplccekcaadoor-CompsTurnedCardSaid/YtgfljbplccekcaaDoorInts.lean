/-
  Slices of integers that are read; conditions: as each theorem states.
-/
import Derived.Test.YtgfljbplccekcaaDoorBits4
import Derived.Test.YtgfljbplccekcaaDoorV5
set_option linter.unusedSimpArgs false
set_option linter.unusedVariables false
set_option maxRecDepth 100000
namespace Go.Proofs.YtgfljbplccekcaaDoor
open Go Go.V Go.Low

theorem TyI : aggT Tryd.prog 3 = some false ∧
  szT Tryd.prog 3 = some 1 ∧
  zeroT Tryd.prog 3 = some (.int .i64 0) ∧
  intT Tryd.prog 3 = some .i64 ∧
  (Tryd.prog.underlying 3).isSome = true ∧
  aggT Tryd.prog 4 = some false ∧
  szT Tryd.prog 4 = some 1 ∧
  zeroT Tryd.prog 4 = some (.bool false) ∧
  boolT Tryd.prog 4 = true ∧
  aggT Tryd.prog 23 = some false ∧
  szT Tryd.prog 23 = some 1 ∧
  zeroT Tryd.prog 23 = some (.slice none 0 0) ∧
  slT Tryd.prog 23 = some 1 ∧
  aggT Tryd.prog 51 = some false ∧
  szT Tryd.prog 51 = some 1 ∧
  zeroT Tryd.prog 51 = some (.slice none 0 0) ∧
  slT Tryd.prog 51 = some 1 := by
  refine ⟨?_, ?_, ?_, ?_, ?_, ?_, ?_, ?_, ?_, ?_, ?_, ?_, ?_, ?_, ?_, ?_, ?_⟩ <;> kernel_rfl
def ivals (xs : List Int) : List Value := xs.map fun x => Value.int .i64 x
def nats (l : List Nat) : List Int := l.map fun k : Nat => (k : Int)
theorem ints_nats (l : List Nat) : ints l = ivals (nats l) := by simp [ints, ivals, nats]
theorem nats_len (l : List Nat) : (nats l).length = l.length := by simp [nats]
theorem nats_at {l : List Nat} {i k : Nat} (h : l[i]? = some k) : (nats l)[i]? = some (k : Int) := by simp [nats, h]
/-- v is a slice that reads as these integers -/
def Ints (h : Heap) (v : Value) (xs : List Int) : Prop :=
  ∃ a c, v = .slice a xs.length c ∧ xs.length ≤ c ∧ c ≤ 9223372036854775807 ∧ (0 < xs.length → ∃ b o, a = some ⟨b, o, none⟩ ∧ rdRow h b o xs.length = some (ivals xs))
theorem Ints.ge {h h' : Heap} (g : Ge h h') {v : Value} {xs : List Int} (r : Ints h v xs) : Ints h' v xs := by
  obtain ⟨a, c, e, h1, h2, h3⟩ := r
  exact ⟨a, c, e, h1, h2, fun hl => by obtain ⟨b, o, e2, h4⟩ := h3 hl; exact ⟨b, o, e2, g.rdRow h4⟩⟩
theorem Ints.nil (h : Heap) : Ints h (.slice none 0 0) [] := ⟨none, 0, rfl, by simp, by omega, by simp⟩
theorem Ints.one {h : Heap} {v : Value} {xs : List Int} (r : Ints h v xs) : v.cells = #[v] ∧ v.oneCell' = true := by
  obtain ⟨a, c, rfl, _⟩ := r; exact ⟨rfl, rfl⟩
/-- the slice written out, where it has an element -/
theorem Ints.out {h : Heap} {v : Value} {xs : List Int} (r : Ints h v xs) (hl : 0 < xs.length) : ∃ b o c, v = sl b o xs.length c ∧ xs.length ≤ c ∧ c ≤ 9223372036854775807 ∧ ∀ i x, xs[i]? = some x → hcell h b (o + i) = some (.int .i64 x) := by
  obtain ⟨a, c, rfl, h1, h2, h3⟩ := r
  obtain ⟨b, o, rfl, h4⟩ := h3 hl
  exact ⟨b, o, c, rfl, h1, h2, fun i x hx => rdRow_cell h4 (by simp [ivals, hx])⟩
theorem rdRow_of_cells {h : Heap} {b : Nat} : ∀ {l : List Value} {o : Nat}, (∀ (i : Nat) (v : Value), l[i]? = some v → hcell h b (o + i) = some v) → rdRow h b o l.length = some l
  | [], o, _ => rfl
  | v :: l, o, hc => by
    have h0 := hc 0 v rfl
    have h1 := rdRow_of_cells (h := h) (b := b) (l := l) (o := o + 1) (fun i u hu => by have := hc (i + 1) u (by simpa using hu); rw [show o + 1 + i = o + (i + 1) from by omega]; exact this)
    simp only [Nat.add_zero] at h0
    simp [rdRow, h0, h1]
theorem ivals_at {xs : List Int} {i : Nat} {v : Value} (h : (ivals xs)[i]? = some v) : ∃ x, xs[i]? = some x ∧ v = .int .i64 x := by
  simp only [ivals, List.getElem?_map] at h
  obtain ⟨x, hx, e⟩ := Option.map_eq_some_iff.1 h
  exact ⟨x, hx, e.symm⟩
theorem Ints.mk {h : Heap} {b o c : Nat} {xs : List Int} (hc : xs.length ≤ c) (hm : c ≤ 9223372036854775807) (hr : ∀ (i : Nat) (x : Int), xs[i]? = some x → hcell h b (o + i) = some (.int .i64 x)) : Ints h (sl b o xs.length c) xs := by
  refine ⟨_, c, rfl, hc, hm, fun _ => ⟨b, o, rfl, ?_⟩⟩
  have := rdRow_of_cells (h := h) (b := b) (l := ivals xs) (o := o) (fun i v hv => by obtain ⟨x, hx, rfl⟩ := ivals_at hv; exact hr i x hx)
  simpa [ivals] using this
theorem ownInts {h : Heap} {base e : Nat} {v : Value} {xs : List Int} (o : Own h base e 1 v xs.length (ivals xs)) : Ints h v xs := by
  have o' := o
  rcases o.2 with ⟨rfl, h0⟩ | ⟨g, cap, cur, rfl, hb, hg, hc, hm, hs, ht⟩
  · have : xs = [] := List.eq_nil_of_length_eq_zero h0
    subst this; exact Ints.nil h
  · refine Ints.mk hc hm fun i x hx => ?_
    rw [Nat.zero_add]
    exact o'.cell (by simp [ivals, hx])
theorem ownInts' {h : Heap} {base e : Nat} {v : Value} {l : List Nat} (o : Own h base e 1 v l.length (ints l)) : Ints h v (nats l) := by
  have h1 : (nats l).length = l.length := nats_len l
  rw [ints_nats] at o
  exact ownInts (by rw [h1]; exact o)
theorem ownAddr {h : Heap} {base e sz n n' c : Nat} {v : Value} {xs : List Value} (o : Own h base e sz v n xs) {b q : Nat} (hv : v = .slice (some ⟨b, q, none⟩) n' c) : base ≤ b ∧ b < h.size := by
  rcases o.2 with ⟨h0, _⟩ | ⟨gg, cap, cur, h0, hbg, hg, _⟩
  · rw [h0] at hv; cases hv
  · rw [h0] at hv
    simp only [Value.slice.injEq, Option.some.injEq, Addr.mk.injEq] at hv
    have := Ge.lt hg
    omega
end Go.Proofs.YtgfljbplccekcaaDoor
