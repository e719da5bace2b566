/-
  Package bits: what its functions do, as contracts; conditions: the set was made by bits.New, or is none.
-/
import Derived.Test.YtgfljbplccekcaaDoorB
set_option linter.unusedSimpArgs false
set_option linter.unusedVariables false
set_option maxRecDepth 100000
namespace Go.Proofs.YtgfljbplccekcaaDoor
open Go Go.V

theorem TyBits : aggT Tryd.prog 98 = some false ∧
  szT Tryd.prog 98 = some 1 ∧
  zeroT Tryd.prog 98 = some (.pointer none) ∧
  ptrT Tryd.prog 98 = true ∧
  aggT Tryd.prog 170 = some true ∧
  szT Tryd.prog 170 = some 3 ∧
  zeroT Tryd.prog 170 = some (.agg #[(.slice none 0 0), (.int .i64 0), (.bool false)]) ∧
  fieldT Tryd.prog 170 0 = some 0 ∧
  fieldT Tryd.prog 170 1 = some 1 ∧
  fieldT Tryd.prog 170 2 = some 2 ∧
  aggT Tryd.prog 3 = some false ∧
  szT Tryd.prog 3 = some 1 ∧
  zeroT Tryd.prog 3 = some (.int .i64 0) ∧
  intT Tryd.prog 3 = some .i64 ∧
  (Tryd.prog.underlying 3).isSome = true ∧
  aggT Tryd.prog 4 = some false ∧
  szT Tryd.prog 4 = some 1 ∧
  zeroT Tryd.prog 4 = some (.bool false) ∧
  boolT Tryd.prog 4 = true ∧
  aggT Tryd.prog 168 = some false ∧
  szT Tryd.prog 168 = some 1 ∧
  zeroT Tryd.prog 168 = some (.slice none 0 0) ∧
  slT Tryd.prog 168 = some 1 ∧
  aggT Tryd.prog 192 = some false ∧
  szT Tryd.prog 192 = some 1 ∧
  zeroT Tryd.prog 192 = some (.int .u64 0) ∧
  intT Tryd.prog 192 = some .u64 ∧
  (Tryd.prog.underlying 192).isSome = true ∧
  aggT Tryd.prog 60 = some false ∧
  szT Tryd.prog 60 = some 1 ∧
  zeroT Tryd.prog 60 = some (.int .i64 0) ∧
  intT Tryd.prog 60 = some .i64 ∧
  (Tryd.prog.underlying 60).isSome = true ∧
  aggT Tryd.prog 23 = some false ∧
  szT Tryd.prog 23 = some 1 ∧
  zeroT Tryd.prog 23 = some (.slice none 0 0) ∧
  slT Tryd.prog 23 = some 1 := by
  refine ⟨?_, ?_, ?_, ?_, ?_, ?_, ?_, ?_, ?_, ?_, ?_, ?_, ?_, ?_, ?_, ?_, ?_, ?_, ?_, ?_, ?_, ?_, ?_, ?_, ?_, ?_, ?_, ?_, ?_, ?_, ?_, ?_, ?_, ?_, ?_, ?_, ?_⟩ <;> kernel_rfl
theorem el168 : elT Tryd.prog 168 = some (192, 1, 8, .int .u64 0) := by kernel_rfl

/-- A set of numbers below n: its words. -/
structure isSet (h : Heap) (s wb n : Nat) (ws : List Nat) : Prop where
  blk : h[s]? = some (.cells #[.slice (some ⟨wb, 0, none⟩) ws.length ws.length, .int .i64 n, .bool true] 170 (0, 0))
  words : h[wb]? = some (.cells ((ws.map fun w : Nat => Value.int .u64 (w : Int)).toArray) 192 (0, 0))
  len : ws.length = (n + 63) / 64
  le : n ≤ 4096
  small : ∀ w ∈ ws, w < 2 ^ 64
  high : ∀ i, n ≤ i → ((ws[i / 64]?).getD 0).testBit (i % 64) = false
def mem (ws : List Nat) (i : Nat) : Bool := ((ws[i / 64]?).getD 0).testBit (i % 64)
theorem isSet.ge {h h' : Heap} (g : Ge h h') {s wb n : Nat} {ws : List Nat} (q : isSet h s wb n ws) : isSet h' s wb n ws :=
  ⟨g.lookup q.blk, g.lookup q.words, q.len, q.le, q.small, q.high⟩

theorem none_ok {h : Heap} {s wb n : Nat} {ws : List Nat} (q : isSet h s wb n ws) : Ct Tryd.prog 159 [ptr s 0] h fun v h' => v = .bool false ∧ h = h' := by
  refine enter Tryd.func159 (by kernel_rfl) rfl Tryd.results159 (by kernel_rfl) (by kernel_rfl) (init1 _) ?_
  simp only [↓SS, Nat.reduceEqDiff, Int.reduceToNat, Int.cast_ofNat_Int, Int.reduceSub, Int.reduceAdd, Nat.reduceAdd, Nat.reduceMul, Nat.reduceSub, ↓reduceIte, rd_eq, TyBits, hcell, q.blk]
theorem none_nil {h : Heap} : Ct Tryd.prog 159 [.pointer none] h fun v h' => v = .bool true ∧ h = h' := by
  refine enter Tryd.func159 (by kernel_rfl) rfl Tryd.results159 (by kernel_rfl) (by kernel_rfl) (init1 _) ?_
  simp only [↓SS, Nat.reduceEqDiff, Int.reduceToNat, Int.cast_ofNat_Int, Int.reduceSub, Int.reduceAdd, Nat.reduceAdd, Nat.reduceMul, Nat.reduceSub, ↓reduceIte, rd_eq, TyBits]
  
theorem new_big {h : Heap} {n : Int} (hn : n < 0 ∨ 4096 < n) : Ct Tryd.prog 50 [.int .i64 n] h fun v h' => v = .tuple #[.pointer none, .int .i64 1] ∧ h = h' := by
  refine enter Tryd.func50 (by kernel_rfl) rfl Tryd.results50 (by kernel_rfl) (by kernel_rfl) (init1 _) ?_
  rcases hn with hn | hn
  · simp (disch := omega) only [↓SS, A, Nat.reduceEqDiff, Int.reduceToNat, Int.cast_ofNat_Int, Int.reduceSub, Int.reduceAdd, Nat.reduceAdd, Nat.reduceMul, Nat.reduceSub, ↓reduceIte, rd_eq, TyBits]
  · by_cases h0 : n < 0
    · simp (disch := omega) only [↓SS, A, Nat.reduceEqDiff, Int.reduceToNat, Int.cast_ofNat_Int, Int.reduceSub, Int.reduceAdd, Nat.reduceAdd, Nat.reduceMul, Nat.reduceSub, ↓reduceIte, rd_eq, TyBits]
    · simp (disch := omega) only [↓SS, A, Nat.reduceEqDiff, Int.reduceToNat, Int.cast_ofNat_Int, Int.reduceSub, Int.reduceAdd, Nat.reduceAdd, Nat.reduceMul, Nat.reduceSub, ↓reduceIte, rd_eq, TyBits]

theorem new_ok {h : Heap} {n : Nat} (hn : n ≤ 4096) : Ct Tryd.prog 50 [.int .i64 n] h fun v h' => ∃ s wb, h.size ≤ s ∧ h.size ≤ wb ∧ v = .tuple #[ptr s 0, .int .i64 0] ∧ isSet h' s wb n (List.replicate ((n + 63) / 64) 0) ∧ Ge h h' := by
  refine enter Tryd.func50 (by kernel_rfl) rfl Tryd.results50 (by kernel_rfl) (by kernel_rfl) (init1 _) ?_
  simp (disch := omega) only [↓SS, A, Nat.reduceEqDiff, Int.reduceToNat, Int.cast_ofNat_Int, Int.reduceSub, Int.reduceAdd, Nat.reduceAdd, Nat.reduceMul, Nat.reduceSub, ↓reduceIte, rd_eq, TyBits]
  refine vmk_ok el168 (by omega) (by omega) (by omega) (by omega) ?_
  simp (disch := omega) only [↓SS, A, Nat.reduceEqDiff, Int.reduceToNat, Int.cast_ofNat_Int, Int.reduceSub, Int.reduceAdd, Nat.reduceAdd, Nat.reduceMul, Nat.reduceSub, ↓reduceIte, rd_eq, TyBits]
  have e1 : ((n : Int) + 63) / 64 = ((n + 63) / 64 : Nat) := by omega
  rw [e1, Int.toNat_natCast]
  refine vbd_ok (cells := #[sl h.size 0 ((n + 63) / 64) ((n + 63) / 64), .int .i64 n, .bool true]) (by kernel_rfl) ?_
  simp (disch := omega) only [↓SS, A, Nat.reduceEqDiff, Int.reduceToNat, Int.cast_ofNat_Int, Int.reduceSub, Int.reduceAdd, Nat.reduceAdd, Nat.reduceMul, Nat.reduceSub, ↓reduceIte, rd_eq, TyBits]
  have e2 : madeCells (Value.int IntKind.u64 0).cells ((n + 63) / 64) = ((List.replicate ((n + 63) / 64) 0).map fun w : Nat => Value.int .u64 (w : Int)).toArray := by
    unfold madeCells
    rw [← Array.toList_inj]
    apply List.ext_getElem <;> simp [Value.cells, Nat.mod_one]
  refine ⟨_, _, ?_, Nat.le_refl _, rfl, ⟨by rw [push_new]; simp [Value.cells], ?_, by simp, hn, by simp, fun i hi => ?_⟩, (Ge.push _ _).trans (Ge.push _ _)⟩
  · simp
  · rw [push_old (by simp), push_new, e2]
  · simp [List.getElem?_replicate]; split <;> simp

theorem ofInt_nat (x : Nat) (hx : x < 2 ^ 64) : (BitVec.ofInt 64 (x : Int)).toNat = x := by
  rw [BitVec.toNat_ofInt]; omega
theorem bitV_and (a b : Nat) (ha : a < 2 ^ 64) (hb : b < 2 ^ 64) : bitV .and .u64 (a : Int) (b : Int) = ((a &&& b : Nat) : Int) := by
  have h1 : (a &&& b) < 2 ^ 64 := Nat.lt_of_le_of_lt Nat.and_le_left ha
  show IntKind.u64.wrap (((BitVec.ofInt 64 (a : Int) &&& BitVec.ofInt 64 (b : Int)).toNat : Nat) : Int) = _
  rw [BitVec.toNat_and, ofInt_nat a ha, ofInt_nat b hb, IntWalk.u64_in]; omega
theorem bitV_or (a b : Nat) (ha : a < 2 ^ 64) (hb : b < 2 ^ 64) : bitV .or .u64 (a : Int) (b : Int) = ((a ||| b : Nat) : Int) := by
  have h1 : (a ||| b) < 2 ^ 64 := Nat.or_lt_two_pow ha hb
  show IntKind.u64.wrap (((BitVec.ofInt 64 (a : Int) ||| BitVec.ofInt 64 (b : Int)).toNat : Nat) : Int) = _
  rw [BitVec.toNat_or, ofInt_nat a ha, ofInt_nat b hb, IntWalk.u64_in]; omega
theorem and_pow (a k : Nat) : a &&& 2 ^ k = if a.testBit k then 2 ^ k else 0 := by
  apply Nat.eq_of_testBit_eq
  intro j
  rw [Nat.testBit_and, Nat.testBit_two_pow]
  by_cases e : k = j
  · subst e
    cases h : a.testBit k <;> simp [Nat.testBit_two_pow_self]
  · split <;> simp [e, Nat.testBit_two_pow]
theorem pow_lt64 (i : Nat) : 2 ^ (i % 64) < 2 ^ 64 := Nat.pow_lt_pow_right (by omega) (Nat.mod_lt _ (by omega))
theorem at_ok {h : Heap} {s wb n i : Nat} {ws : List Nat} (q : isSet h s wb n ws) (hi : i < n) : Ct Tryd.prog 114 [ptr s 0, .int .i64 i] h fun v h' => v = .tuple #[ptr wb (i / 64), .int .u64 ((2 ^ (i % 64) : Nat) : Int), .int .i64 0] ∧ h = h' := by
  have hn := q.le
  refine enter Tryd.func114 (by kernel_rfl) rfl Tryd.results114 (by kernel_rfl) (by kernel_rfl) (init2 _ _) ?_
  simp (disch := omega) only [↓SS, A, Nat.reduceEqDiff, Int.reduceToNat, Int.cast_ofNat_Int, Int.reduceSub, Int.reduceAdd, Nat.reduceAdd, Nat.reduceMul, Nat.reduceSub, ↓reduceIte, rd_eq, TyBits]
  refine vcall_mk (none_ok q) ?_
  rintro _ _ ⟨rfl, rfl⟩
  have hl := q.len
  simp (disch := omega) only [↓SS, A, Nat.reduceEqDiff, Int.reduceToNat, Int.cast_ofNat_Int, Int.reduceSub, Int.reduceAdd, Nat.reduceAdd, Nat.reduceMul, Nat.reduceSub, ↓reduceIte, rd_eq, TyBits, hcell, q.blk]
  refine vdraw_pure mixed (by kernel_rfl) ?_
  simp (disch := omega) only [↓SS, A, Nat.reduceEqDiff, Int.reduceToNat, Int.cast_ofNat_Int, Int.reduceSub, Int.reduceAdd, Nat.reduceAdd, Nat.reduceMul, Nat.reduceSub, ↓reduceIte, rd_eq, TyBits, hcell, q.blk]
  have e1 : ((i : Int) / 64).toNat = i / 64 := by omega
  have e2 : min ((i : Int) % 64).toNat IntKind.u64.bits = i % 64 := by simp [IntKind.bits]; omega
  rw [e1, e2]
  have h3 : 2 ^ (i % 64) < 2 ^ 64 := Nat.pow_lt_pow_right (by omega) (by omega)
  have h4 : IntKind.u64.wrap (1 * 2 ^ (i % 64)) = ((2 ^ (i % 64) : Nat) : Int) := by
    have e : ((2 : Int) ^ (i % 64)) = ((2 ^ (i % 64) : Nat) : Int) := by simp
    rw [Int.one_mul, e, IntWalk.u64_in]
    generalize 2 ^ (i % 64) = z at *
    omega
  rw [h4]
theorem at_out {h : Heap} {s wb n : Nat} {i : Int} {ws : List Nat} (q : isSet h s wb n ws) (hi : i < 0 ∨ (n : Int) ≤ i) : Ct Tryd.prog 114 [ptr s 0, .int .i64 i] h fun v h' => v = .tuple #[.pointer none, .int .u64 0, .int .i64 1] ∧ h = h' := by
  have hn := q.le
  refine enter Tryd.func114 (by kernel_rfl) rfl Tryd.results114 (by kernel_rfl) (by kernel_rfl) (init2 _ _) ?_
  simp (disch := omega) only [↓SS, A, Nat.reduceEqDiff, Int.reduceToNat, Int.cast_ofNat_Int, Int.reduceSub, Int.reduceAdd, Nat.reduceAdd, Nat.reduceMul, Nat.reduceSub, ↓reduceIte, rd_eq, TyBits]
  refine vcall_mk (none_ok q) ?_
  rintro _ _ ⟨rfl, rfl⟩
  by_cases h0 : i < 0
  · simp (disch := omega) only [↓SS, A, Nat.reduceEqDiff, Int.reduceToNat, Int.cast_ofNat_Int, Int.reduceSub, Int.reduceAdd, Nat.reduceAdd, Nat.reduceMul, Nat.reduceSub, ↓reduceIte, rd_eq, TyBits]
  · simp (disch := omega) only [↓SS, A, Nat.reduceEqDiff, Int.reduceToNat, Int.cast_ofNat_Int, Int.reduceSub, Int.reduceAdd, Nat.reduceAdd, Nat.reduceMul, Nat.reduceSub, ↓reduceIte, rd_eq, TyBits, hcell, q.blk]

theorem has_ok {h : Heap} {s wb n i : Nat} {ws : List Nat} (q : isSet h s wb n ws) (hi : i < n) : Ct Tryd.prog 138 [ptr s 0, .int .i64 i] h fun v h' => v = .bool (mem ws i) ∧ h = h' := by
  have hl := q.len
  have hlt : i / 64 < ws.length := by omega
  have hsm := q.small _ (List.getElem_mem hlt)
  have hb : bitV .and .u64 ((ws[i / 64]'hlt : Nat) : Int) ((2 ^ (i % 64) : Nat) : Int) = if mem ws i then ((2 ^ (i % 64) : Nat) : Int) else 0 := by
    rw [bitV_and _ _ hsm (pow_lt64 i), and_pow]
    simp only [mem, List.getElem?_eq_getElem hlt, Option.getD_some]
    split <;> simp
  refine enter Tryd.func138 (by kernel_rfl) rfl Tryd.results138 (by kernel_rfl) (by kernel_rfl) (init2 _ _) ?_
  simp (disch := omega) only [↓SS, A, Nat.reduceEqDiff, Int.reduceToNat, Int.cast_ofNat_Int, Int.reduceSub, Int.reduceAdd, Nat.reduceAdd, Nat.reduceMul, Nat.reduceSub, ↓reduceIte, rd_eq, TyBits]
  refine vcall_mk (at_ok q hi) ?_
  rintro _ _ ⟨rfl, rfl⟩
  have hc : hcell h wb (i / 64) = some (.int .u64 ((ws[i / 64]'hlt : Nat) : Int)) := by simp [hcell, q.words, hlt]
  simp (disch := omega) only [↓SS, A, Nat.reduceEqDiff, Int.reduceToNat, Int.cast_ofNat_Int, Int.reduceSub, Int.reduceAdd, Nat.reduceAdd, Nat.reduceMul, Nat.reduceSub, ↓reduceIte, rd_eq, TyBits, hc, hb]
  have h3 : 2 ^ (i % 64) ≠ 0 := by have := Nat.two_pow_pos (i % 64); omega
  cases mem ws i <;> simp
  exact_mod_cast h3
theorem has_out {h : Heap} {s wb n : Nat} {i : Int} {ws : List Nat} (q : isSet h s wb n ws) (hi : i < 0 ∨ (n : Int) ≤ i) : Ct Tryd.prog 138 [ptr s 0, .int .i64 i] h fun v h' => v = .bool false ∧ h = h' := by
  refine enter Tryd.func138 (by kernel_rfl) rfl Tryd.results138 (by kernel_rfl) (by kernel_rfl) (init2 _ _) ?_
  simp (disch := omega) only [↓SS, A, Nat.reduceEqDiff, Int.reduceToNat, Int.cast_ofNat_Int, Int.reduceSub, Int.reduceAdd, Nat.reduceAdd, Nat.reduceMul, Nat.reduceSub, ↓reduceIte, rd_eq, TyBits]
  refine vcall_mk (at_out q hi) ?_
  rintro _ _ ⟨rfl, rfl⟩
  simp (disch := omega) only [↓SS, A, Nat.reduceEqDiff, Int.reduceToNat, Int.cast_ofNat_Int, Int.reduceSub, Int.reduceAdd, Nat.reduceAdd, Nat.reduceMul, Nat.reduceSub, ↓reduceIte, rd_eq, TyBits]
end Go.Proofs.YtgfljbplccekcaaDoor
