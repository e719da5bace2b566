/-
  Package assayerref06: its functions as contracts; conditions: the graph was made by its New.
-/
import Derived.Test.YtgfljbplccekcaaDoorComps1
import Derived.Test.YtgfljbplccekcaaDoorV6
set_option linter.unusedSimpArgs false
set_option linter.unusedVariables false
set_option maxRecDepth 100000
namespace Go.Proofs.YtgfljbplccekcaaDoor
open Go Go.V Go.Low

theorem TyR : aggT Tryd.prog 47 = some false ∧
  szT Tryd.prog 47 = some 1 ∧
  zeroT Tryd.prog 47 = some (.pointer none) ∧
  ptrT Tryd.prog 47 = true ∧
  aggT Tryd.prog 57 = some true ∧
  szT Tryd.prog 57 = some 1 ∧
  zeroT Tryd.prog 57 = some (.agg #[(.slice none 0 0)]) ∧
  fieldT Tryd.prog 57 0 = some 0 ∧
  aggT Tryd.prog 51 = some false ∧
  szT Tryd.prog 51 = some 1 ∧
  zeroT Tryd.prog 51 = some (.slice none 0 0) ∧
  slT Tryd.prog 51 = some 1 ∧
  aggT Tryd.prog 23 = some false ∧
  szT Tryd.prog 23 = some 1 ∧
  zeroT Tryd.prog 23 = some (.slice none 0 0) ∧
  slT Tryd.prog 23 = some 1 ∧
  aggT Tryd.prog 3 = some false ∧
  szT Tryd.prog 3 = some 1 ∧
  zeroT Tryd.prog 3 = some (.int .i64 0) ∧
  intT Tryd.prog 3 = some .i64 ∧
  (Tryd.prog.underlying 3).isSome = true ∧
  aggT Tryd.prog 4 = some false ∧
  szT Tryd.prog 4 = some 1 ∧
  zeroT Tryd.prog 4 = some (.bool false) ∧
  boolT Tryd.prog 4 = true ∧
  aggT Tryd.prog 60 = some false ∧
  szT Tryd.prog 60 = some 1 ∧
  zeroT Tryd.prog 60 = some (.int .i64 0) ∧
  intT Tryd.prog 60 = some .i64 ∧
  (Tryd.prog.underlying 60).isSome = true ∧
  aggT Tryd.prog 111 = some false ∧
  szT Tryd.prog 111 = some 1 ∧
  zeroT Tryd.prog 111 = some (.slice none 0 0) ∧
  slT Tryd.prog 111 = some 1 ∧
  aggT Tryd.prog 125 = some false ∧
  szT Tryd.prog 125 = some 1 ∧
  zeroT Tryd.prog 125 = some (.slice none 0 0) ∧
  slT Tryd.prog 125 = some 1 := by
  refine ⟨?_, ?_, ?_, ?_, ?_, ?_, ?_, ?_, ?_, ?_, ?_, ?_, ?_, ?_, ?_, ?_, ?_, ?_, ?_, ?_, ?_, ?_, ?_, ?_, ?_, ?_, ?_, ?_, ?_, ?_, ?_, ?_, ?_, ?_, ?_, ?_, ?_, ?_⟩ <;> kernel_rfl
theorem elRows : elT Tryd.prog 51 = some (23, 1, 24, .slice none 0 0) := by kernel_rfl
/-- a graph of the document: rv its rows, rb their blocks, M the labels -/
structure isR (h : Heap) (x n : Nat) (rv : Value) (rb : Nat → Nat) (M : Nat → Nat → Nat) : Prop where
  blk : h[x]? = some (.cells #[rv] 57 (0, 0))
  le : n ≤ 300
  rows : Own h 0 23 1 rv n ((List.range n).map fun u => sl (rb u) 0 n n)
  row : ∀ u, u < n → h[rb u]? = some (.cells (arrI n fun k => M u k) 3 (0, 0))
  inj : ∀ u v, u < n → v < n → rb u = rb v → u = v
  small : ∀ u k, M u k ≤ 15
theorem isR.ge {h h' : Heap} (ge : Ge h h') {x n : Nat} {rv : Value} {rb : Nat → Nat} {M : Nat → Nat → Nat} (q : isR h x n rv rb M) : isR h' x n rv rb M :=
  ⟨ge.lookup q.blk, q.le, q.rows.ge ge, fun u hu => ge.lookup (q.row u hu), q.inj, q.small⟩
theorem isR.len {h : Heap} {x n : Nat} {rv : Value} {rb : Nat → Nat} {M : Nat → Nat → Nat} (q : isR h x n rv rb M) : ∃ a c, rv = .slice a n c ∧ n ≤ 300 := by
  rcases q.rows.2 with ⟨hv, h0⟩ | ⟨b, cap, cur, hv, _⟩
  · exact ⟨none, 0, by rw [hv, h0], q.le⟩
  · exact ⟨_, cap, hv, q.le⟩
theorem isR.at {h : Heap} {x n : Nat} {rv : Value} {rb : Nat → Nat} {M : Nat → Nat → Nat} (q : isR h x n rv rb M) {u : Nat} (hu : u < n) : ∃ b c, rv = sl b 0 n c ∧ n ≤ c ∧ hcell h b u = some (sl (rb u) 0 n n) := by
  have ho := q.rows
  rcases q.rows.2 with ⟨hv, h0⟩ | ⟨b, cap, cur, hv, _, _, hc, _⟩
  · omega
  · rw [hv] at ho
    exact ⟨b, cap, hv, hc, ho.cell (i := u) (by simp [hu])⟩
theorem isR.cell {h : Heap} {x n : Nat} {rv : Value} {rb : Nat → Nat} {M : Nat → Nat → Nat} (q : isR h x n rv rb M) {u k : Nat} (hu : u < n) (hk : k < n) : hcell h (rb u) k = some (.int .i64 (M u k : Nat)) := by
  simp only [hcell, q.row u hu]; exact arrV_at _ hk
theorem there_ok {h : Heap} {x n : Nat} {a : Option Addr} {c : Nat} (hb : hcell h x 0 = some (.slice a n c)) (hn : n ≤ 300) (i : Int) : Ct Tryd.prog 107 [ptr x 0, .int .i64 i] h fun v h' => v = .bool (decide (0 ≤ i ∧ i < n)) ∧ h = h' := by
  refine enter Tryd.func107 (by kernel_rfl) rfl Tryd.results107 (by kernel_rfl) (by kernel_rfl) (init2 _ _) ?_
  by_cases h0 : 0 ≤ i
  · by_cases h1 : i < n
    · simp (disch := omega) only [↓SS, A, Nat.reduceEqDiff, Int.reduceToNat, Int.cast_ofNat_Int, Int.reduceSub, Int.reduceAdd, Nat.reduceAdd, Nat.reduceMul, Nat.reduceSub, ↓reduceIte, rd_eq, TyR, hb]
    · simp (disch := omega) only [↓SS, A, Nat.reduceEqDiff, Int.reduceToNat, Int.cast_ofNat_Int, Int.reduceSub, Int.reduceAdd, Nat.reduceAdd, Nat.reduceMul, Nat.reduceSub, ↓reduceIte, rd_eq, TyR, hb]
  · simp (disch := omega) only [↓SS, A, Nat.reduceEqDiff, Int.reduceToNat, Int.cast_ofNat_Int, Int.reduceSub, Int.reduceAdd, Nat.reduceAdd, Nat.reduceMul, Nat.reduceSub, ↓reduceIte, rd_eq, TyR, hb]
theorem isR.c0 {h : Heap} {x n : Nat} {rv : Value} {rb : Nat → Nat} {M : Nat → Nat → Nat} (q : isR h x n rv rb M) : hcell h x 0 = some rv := by simp [hcell, q.blk]
theorem rlab_ok {h : Heap} {x n : Nat} {rv : Value} {rb : Nat → Nat} {M : Nat → Nat → Nat} (q : isR h x n rv rb M) {u k : Nat} (hu : u < n) (hk : k < n) :
    Ct Tryd.prog 158 [ptr x 0, .int .i64 u, .int .i64 k] h fun v h' => v = .int .i64 (M u k : Nat) ∧ h = h' := by
  obtain ⟨b, c, rfl, hc, hb⟩ := q.at hu
  have c0 := q.c0
  have hn := q.le
  have hm := q.cell hu hk
  refine enter Tryd.func158 (by kernel_rfl) rfl Tryd.results158 (by kernel_rfl) (by kernel_rfl) (init3 _ _ _) ?_
  simp (disch := omega) only [↓SS, A, Nat.reduceEqDiff, Int.reduceToNat, Int.cast_ofNat_Int, Int.reduceSub, Int.reduceAdd, Nat.reduceAdd, Nat.reduceMul, Nat.reduceSub, ↓reduceIte, rd_eq, TyR]
  refine vcall_mk (there_ok c0 hn _) ?_
  rintro _ _ ⟨rfl, rfl⟩
  simp (disch := omega) only [↓SS, A, Nat.reduceEqDiff, Int.reduceToNat, Int.cast_ofNat_Int, Int.reduceSub, Int.reduceAdd, Nat.reduceAdd, Nat.reduceMul, Nat.reduceSub, ↓reduceIte, rd_eq, TyR]
  refine vcall_mk (there_ok c0 hn _) ?_
  rintro _ _ ⟨rfl, rfl⟩
  simp (disch := omega) only [↓SS, A, Nat.reduceEqDiff, Int.reduceToNat, Int.cast_ofNat_Int, Int.reduceSub, Int.reduceAdd, Nat.reduceAdd, Nat.reduceMul, Nat.reduceSub, ↓reduceIte, rd_eq, TyR, c0, hb, hm]
theorem rlab_out {h : Heap} {x n : Nat} {rv : Value} {rb : Nat → Nat} {M : Nat → Nat → Nat} (q : isR h x n rv rb M) {u k : Int} (hu : ¬ ((0 ≤ u ∧ u < n) ∧ 0 ≤ k ∧ k < n)) :
    Ct Tryd.prog 158 [ptr x 0, .int .i64 u, .int .i64 k] h fun v h' => v = .int .i64 0 ∧ h = h' := by
  obtain ⟨a, c, rfl, hn⟩ := q.len
  have c0 := q.c0
  refine enter Tryd.func158 (by kernel_rfl) rfl Tryd.results158 (by kernel_rfl) (by kernel_rfl) (init3 _ _ _) ?_
  simp (disch := omega) only [↓SS, A, Nat.reduceEqDiff, Int.reduceToNat, Int.cast_ofNat_Int, Int.reduceSub, Int.reduceAdd, Nat.reduceAdd, Nat.reduceMul, Nat.reduceSub, ↓reduceIte, rd_eq, TyR]
  refine vcall_mk (there_ok c0 hn _) ?_
  rintro _ _ ⟨rfl, rfl⟩
  by_cases h1 : 0 ≤ u ∧ u < n
  · simp (disch := omega) only [↓SS, A, Nat.reduceEqDiff, Int.reduceToNat, Int.cast_ofNat_Int, Int.reduceSub, Int.reduceAdd, Nat.reduceAdd, Nat.reduceMul, Nat.reduceSub, ↓reduceIte, rd_eq, TyR]
    refine vcall_mk (there_ok c0 hn _) ?_
    rintro _ _ ⟨rfl, rfl⟩
    simp (disch := omega) only [↓SS, A, Nat.reduceEqDiff, Int.reduceToNat, Int.cast_ofNat_Int, Int.reduceSub, Int.reduceAdd, Nat.reduceAdd, Nat.reduceMul, Nat.reduceSub, ↓reduceIte, rd_eq, TyR]
  · simp (disch := omega) only [↓SS, A, Nat.reduceEqDiff, Int.reduceToNat, Int.cast_ofNat_Int, Int.reduceSub, Int.reduceAdd, Nat.reduceAdd, Nat.reduceMul, Nat.reduceSub, ↓reduceIte, rd_eq, TyR]
/-- whether an edge with some of the labels is told -/
def redge (M : Nat → Nat → Nat) (of : Int) (u k : Nat) : Bool := (List.range 4).any fun i => lbit of i && (M u k).testBit i
theorem and_labels (m : Nat) (hm : m ≤ 15) (of : Int) : (¬ bitV .and .i64 (m : Int) of = 0) ↔ ((List.range 4).any fun i => lbit of i && m.testBit i) = true := by
  have hand : (BitVec.ofInt 64 (m : Int) &&& BitVec.ofInt 64 of).toNat = m &&& (of % 2 ^ 64).toNat := by
    rw [BitVec.toNat_and, ofInt_nat m (by omega), BitVec.toNat_ofInt]
    rfl
  have hle : m &&& (of % 2 ^ 64).toNat ≤ 15 := Nat.le_trans Nat.and_le_left hm
  have hv : bitV .and .i64 (m : Int) of = ((m &&& (of % 2 ^ 64).toNat : Nat) : Int) := by
    show IntKind.i64.wrap (((BitVec.ofInt 64 (m : Int) &&& BitVec.ofInt 64 of).toNat : Nat) : Int) = _
    rw [hand, IntWalk.i64_in]; omega
  rw [hv]
  have hbit : ∀ i, i < 4 → ((of % 2 ^ 64).toNat.testBit i = lbit of i) := by
    intro i hi
    rw [Nat.testBit_eq_decide_div_mod_eq]
    unfold lbit
    apply decide_eq_decide.2
    have h16 : of % 2 ^ 64 % 16 = of % 16 := by omega
    generalize he : of % 2 ^ 64 = z at *
    have hz0 : 0 ≤ z := by omega
    obtain ⟨y, rfl⟩ := Int.eq_ofNat_of_zero_le hz0
    simp only [Int.toNat_natCast]
    match i, hi with
    | 0, _ => simp; omega
    | 1, _ => simp; omega
    | 2, _ => simp; omega
    | 3, _ => simp; omega
  rw [List.any_eq_true]
  constructor
  · intro h0
    have h1 : m &&& (of % 2 ^ 64).toNat ≠ 0 := by omega
    obtain ⟨i, hi⟩ := Nat.exists_testBit_of_ne_zero h1
    rw [Nat.testBit_and, Bool.and_eq_true] at hi
    have hi4 : i < 4 := by
      rcases Nat.lt_or_ge i 4 with h | h
      · exact h
      · have := Nat.testBit_lt_two_pow (x := m) (i := i) (Nat.lt_of_lt_of_le (by omega : m < 2 ^ 4) (Nat.pow_le_pow_right (by omega) h))
        rw [this] at hi; cases hi.1
    exact ⟨i, List.mem_range.2 hi4, by rw [← hbit i hi4, hi.1, hi.2]; rfl⟩
  · rintro ⟨i, hi, hb⟩ h0
    rw [Bool.and_eq_true, ← hbit i (List.mem_range.1 hi)] at hb
    have h1 : m &&& (of % 2 ^ 64).toNat = 0 := by omega
    have : (m &&& (of % 2 ^ 64).toNat).testBit i = true := by rw [Nat.testBit_and, hb.1, hb.2]; rfl
    rw [h1] at this; simp at this
end Go.Proofs.YtgfljbplccekcaaDoor
