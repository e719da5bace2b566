/-
  Package bits: the list of a set, as a contract; conditions: the set was made by bits.New, the table of math/bits lies in memory.
-/
import Derived.Test.YtgfljbplccekcaaDoorBits3
set_option linter.unusedSimpArgs false
set_option linter.unusedVariables false
set_option maxRecDepth 100000
namespace Go.Proofs.YtgfljbplccekcaaDoor
open Go Go.V Go.Low

theorem elInts : elT Tryd.prog 23 = some (3, 1, 8, .int .i64 0) := by kernel_rfl
/-- the members below m -/
def mems (ws : List Nat) (m : Nat) : List Nat := (List.range m).filter (mem ws)
theorem mems_succ (ws : List Nat) (m : Nat) : mems ws (m + 1) = mems ws m ++ (if mem ws m then [m] else []) := by
  unfold mems
  rw [List.range_succ, List.filter_append]
  congr 1
  cases h : mem ws m <;> simp [h]
theorem mems_skip {ws : List Nat} {i : Nat} : ∀ {k : Nat}, i ≤ k → (∀ j, i ≤ j → j < k → mem ws j = false) → mems ws k = mems ws i
  | 0, h, _ => by have : i = 0 := by omega
                  subst this; rfl
  | k + 1, h, hn => by
    by_cases e : i = k + 1
    · rw [e]
    · rw [mems_succ, hn k (by omega) (by omega), mems_skip (by omega) (fun j h1 h2 => hn j h1 (by omega))]; simp
theorem mems_len (ws : List Nat) (m : Nat) : (mems ws m).length ≤ m := by
  unfold mems
  exact Nat.le_trans (List.length_filter_le _ _) (by simp)
/-- integers as values -/
def ints (l : List Nat) : List Value := l.map fun k : Nat => Value.int .i64 (k : Int)
/-- what Next tells of the members from i on -/
def good (ws : List Nat) (i k : Nat) (b : Bool) : Prop := (b = true → i ≤ k ∧ mem ws k = true ∧ ∀ j, i ≤ j → j < k → mem ws j = false) ∧ (b = false → ∀ j, i ≤ j → mem ws j = false)
theorem next_good {h : Heap} (t : Tab h) {s wb n : Nat} {ws : List Nat} (q : isSet h s wb n ws) (i : Nat) (hi : i ≤ 4097) : Ct Tryd.prog 162 [ptr s 0, .int .i64 i] h fun v h' =>
    (∃ k b, v = .tuple #[.int .i64 (k : Nat), .bool b] ∧ good ws i k b) ∧ h = h' := by
  refine (next_ok t q i hi).mono ?_
  rintro v h' ⟨⟨k, rfl, h1, h2, h3⟩ | ⟨rfl, h1⟩, rfl⟩
  · exact ⟨⟨k, true, rfl, fun _ => ⟨h1, h2, h3⟩, fun e => by cases e⟩, rfl⟩
  · exact ⟨⟨0, false, rfl, fun e => (by cases e), fun _ => h1⟩, rfl⟩
theorem list_ok {h : Heap} (t : Tab h) {s wb n : Nat} {ws : List Nat} (q : isSet h s wb n ws) : Ct Tryd.prog 116 [ptr s 0] h fun v h' =>
    Own h' h.size 3 1 v (mems ws n).length (ints (mems ws n)) ∧ (v = .slice none 0 0 ↔ mems ws n = []) ∧ Ge h h' := by
  have hn := q.le
  have hlt : ∀ k, mem ws k = true → k < n := fun k hk => by
    rcases Nat.lt_or_ge k n with h1 | h1
    · exact h1
    · have := q.high k h1; unfold mem at hk; rw [this] at hk; cases hk
  refine enter Tryd.func116 (by kernel_rfl) rfl Tryd.results116 (by kernel_rfl) (by kernel_rfl) (init1 _) ?_
  simp (disch := omega) only [↓SS, A, Nat.reduceEqDiff, Int.reduceToNat, Int.cast_ofNat_Int, Int.reduceSub, Int.reduceAdd, Nat.reduceAdd, Nat.reduceMul, Nat.reduceSub, ↓reduceIte, rd_eq, TyBits]
  refine vcall_mk (next_good t q 0 (by omega)) ?_
  rintro _ _ ⟨⟨k0, b0, rfl, hg0⟩, rfl⟩
  simp (disch := omega) only [↓SS, A, Nat.reduceEqDiff, Int.reduceToNat, Int.cast_ofNat_Int, Int.reduceSub, Int.reduceAdd, Nat.reduceAdd, Nat.reduceMul, Nat.reduceSub, ↓reduceIte, rd_eq, TyBits]
  refine vloop_mk (fun m fr h' => ∃ (i k : Nat) (b : Bool) (lv : Value), m = (if b then n - k else 0) ∧ fr = [(4, .int .i64 k), (5, .bool b), (3, lv), (0, ptr s 0)] ∧ good ws i k b ∧ i ≤ n ∧
      Own h' h.size 3 1 lv (mems ws i).length (ints (mems ws i)) ∧ (lv = .slice none 0 0 ↔ mems ws i = []) ∧ Ge h h') (if b0 then n - k0 else 0)
    [(4, .int .i64 k0), (5, .bool b0), (3, .slice none 0 0), (0, ptr s 0)] (by simp only [↓SS, Nat.reduceEqDiff, Int.reduceToNat, Int.cast_ofNat_Int, Int.reduceSub, Int.reduceAdd, Nat.reduceAdd, Nat.reduceMul, Nat.reduceSub, ↓reduceIte, rd_eq, TyBits]) ⟨0, k0, b0, _, rfl, rfl, hg0, by omega, Own.nil _ _ _ _, by simp [mems], Ge.refl _⟩ ?_
  rintro m _ h1 ⟨i, k, b, lv, rfl, rfl, hg, hi, ho, hnil, g1⟩
  cases b with
  | true =>
    obtain ⟨h2, h3, h4⟩ := hg.1 rfl
    have hk := hlt k h3
    have hms : mems ws (k + 1) = mems ws i ++ [k] := by rw [mems_succ, h3, mems_skip h2 h4]; rfl
    have hml := mems_len ws i
    simp (disch := omega) only [↓SS, A, Nat.reduceEqDiff, Int.reduceToNat, Int.cast_ofNat_Int, Int.reduceSub, Int.reduceAdd, Nat.reduceAdd, Nat.reduceMul, Nat.reduceSub, ↓reduceIte, rd_eq, TyBits]
    refine vbs_one elInts rfl rfl (by omega) (by omega) ?_
    simp (disch := omega) only [↓SS, A, Nat.reduceEqDiff, Int.reduceToNat, Int.cast_ofNat_Int, Int.reduceSub, Int.reduceAdd, Nat.reduceAdd, Nat.reduceMul, Nat.reduceSub, ↓reduceIte, rd_eq, TyBits]
    have g2 : Ge h1 (h1.push (.cells (Value.int .i64 (k : Nat)).cells 3)) := Ge.push _ _
    refine vapp_own elInts rfl (by omega) (ho.ge g2) (rdRow_blk (push_new _ _) (by simp [Value.cells])) (by simp [Value.cells]; rfl) (by omega) (by omega) (g1.trans g2).size ?_
    intro lv2 h5 ho5 gr5 hn5
    have g5 := (ho.ge g2).gee (g1.trans g2) gr5
    simp (disch := omega) only [↓SS, A, Nat.reduceEqDiff, Int.reduceToNat, Int.cast_ofNat_Int, Int.reduceSub, Int.reduceAdd, Nat.reduceAdd, Nat.reduceMul, Nat.reduceSub, ↓reduceIte, rd_eq, TyBits]
    refine vcall_mk (next_good (t.ge g5) (q.ge g5) (k + 1) (by have := hlt k h3; omega)) ?_
    rintro _ _ ⟨⟨k2, b2, rfl, hg2⟩, rfl⟩
    simp (disch := omega) only [↓SS, A, Nat.reduceEqDiff, Int.reduceToNat, Int.cast_ofNat_Int, Int.reduceSub, Int.reduceAdd, Nat.reduceAdd, Nat.reduceMul, Nat.reduceSub, ↓reduceIte, rd_eq, TyBits]
    have hkn := hlt k h3
    have hlen : (mems ws (k + 1)).length = (mems ws i).length + 1 := by rw [hms]; simp
    refine ⟨if b2 then n - k2 else 0, ?_, _, (by simp only [↓SS, Nat.reduceEqDiff, Int.reduceToNat, Int.cast_ofNat_Int, Int.reduceSub, Int.reduceAdd, Nat.reduceAdd, Nat.reduceMul, Nat.reduceSub, ↓reduceIte, rd_eq, Int.natCast_add, Int.cast_ofNat_Int]), k + 1, k2, b2, lv2, rfl, rfl, hg2, by omega, ?_, ?_, g5⟩
    · cases b2 with
      | true => have := (hg2.1 rfl).1; simp; omega
      | false => simp; omega
    · rw [hlen, hms]; simpa [ints, Value.cells] using ho5
    · rw [hn5, hms]; simp
  | false =>
    simp (disch := omega) only [↓SS, A, Nat.reduceEqDiff, Int.reduceToNat, Int.cast_ofNat_Int, Int.reduceSub, Int.reduceAdd, Nat.reduceAdd, Nat.reduceMul, Nat.reduceSub, ↓reduceIte, rd_eq, TyBits]
    have e : mems ws n = mems ws i := mems_skip hi fun j h1 _ => hg.2 rfl j h1
    rw [e]
    exact ⟨ho, hnil, g1⟩
end Go.Proofs.YtgfljbplccekcaaDoor
