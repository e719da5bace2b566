/-
  Package graph: Out, Labels, as contracts; conditions: the graph was made by graph.New, the table of math/bits lies in memory.
-/
import Derived.Test.YtgfljbplccekcaaDoorGraph3
import Derived.Test.YtgfljbplccekcaaDoorInts
set_option linter.unusedSimpArgs false
set_option linter.unusedVariables false
set_option maxRecDepth 100000
namespace Go.Proofs.YtgfljbplccekcaaDoor
open Go Go.V Go.Low

/-- whether an edge with some of the labels leads from u to k -/
def edge (E : Nat → Nat → Nat → Bool) (of : Int) (m : Nat) (u k : Nat) : Bool := (List.range m).any fun i => lbit of i && E i u k
theorem edge_succ (E : Nat → Nat → Nat → Bool) (of : Int) (m u k : Nat) : edge E of (m + 1) u k = (edge E of m u k || (lbit of m && E m u k)) := by
  simp [edge, List.range_succ, List.any_append]
def outs (n : Nat) (E : Nat → Nat → Nat → Bool) (of : Int) (u : Nat) : List Nat := (List.range n).filter fun k => edge E of 4 u k
theorem gout_bad {h : Heap} {g n : Nat} {vs : Nat → Value} {L : Nat → List (Nat × Nat)} {E : Nat → Nat → Nat → Bool} (q : isG h g n vs L E) {u of : Int} (hu : ¬ (0 ≤ u ∧ u < n)) :
    Ct Tryd.prog 75 [ptr g 0, .int .i64 u, .int .i64 of] h fun v h' => v = .slice none 0 0 ∧ h = h' := by
  have c0 : hcell h g 0 = some (.int .i64 n) := by simp [hcell, q.blk, gcells]
  refine enter Tryd.func75 (by kernel_rfl) rfl Tryd.results75 (by kernel_rfl) (by kernel_rfl) (init3 _ _ _) ?_
  simp (disch := omega) only [↓SS, A, Nat.reduceEqDiff, Int.reduceToNat, Int.cast_ofNat_Int, Int.reduceSub, Int.reduceAdd, Nat.reduceAdd, Nat.reduceMul, Nat.reduceSub, ↓reduceIte, rd_eq, TyG]
  refine vcall_mk (ghas_ok c0) ?_
  rintro _ _ ⟨rfl, rfl⟩
  simp (disch := omega) only [↓SS, A, Nat.reduceEqDiff, Int.reduceToNat, Int.cast_ofNat_Int, Int.reduceSub, Int.reduceAdd, Nat.reduceAdd, Nat.reduceMul, Nat.reduceSub, ↓reduceIte, rd_eq, TyG]
theorem gout_nil {h : Heap} {u of : Int} : Ct Tryd.prog 75 [.pointer none, .int .i64 u, .int .i64 of] h fun v h' => v = .slice none 0 0 ∧ h = h' := by
  refine enter Tryd.func75 (by kernel_rfl) rfl Tryd.results75 (by kernel_rfl) (by kernel_rfl) (init3 _ _ _) ?_
  simp (disch := omega) only [↓SS, A, Nat.reduceEqDiff, Int.reduceToNat, Int.cast_ofNat_Int, Int.reduceSub, Int.reduceAdd, Nat.reduceAdd, Nat.reduceMul, Nat.reduceSub, ↓reduceIte, rd_eq, TyG]
theorem gout_ok {h : Heap} (t : Tab h) {g n : Nat} {vs : Nat → Value} {L : Nat → List (Nat × Nat)} {E : Nat → Nat → Nat → Bool} (q : isG h g n vs L E) {u : Nat} {of : Int} (hu : u < n) :
    Ct Tryd.prog 75 [ptr g 0, .int .i64 u, .int .i64 of] h fun v h' =>
      Own h' h.size 3 1 v (outs n E of u).length (ints (outs n E of u)) ∧ (v = .slice none 0 0 ↔ outs n E of u = []) ∧ Ge h h' := by
  have c0 : hcell h g 0 = some (.int .i64 n) := by simp [hcell, q.blk, gcells]
  have hn := q.le
  refine enter Tryd.func75 (by kernel_rfl) rfl Tryd.results75 (by kernel_rfl) (by kernel_rfl) (init3 _ _ _) ?_
  simp (disch := omega) only [↓SS, A, Nat.reduceEqDiff, Int.reduceToNat, Int.cast_ofNat_Int, Int.reduceSub, Int.reduceAdd, Nat.reduceAdd, Nat.reduceMul, Nat.reduceSub, ↓reduceIte, rd_eq, TyG]
  refine vcall_mk (ghas_ok c0) ?_
  rintro _ _ ⟨rfl, rfl⟩
  simp (disch := omega) only [↓SS, A, Nat.reduceEqDiff, Int.reduceToNat, Int.cast_ofNat_Int, Int.reduceSub, Int.reduceAdd, Nat.reduceAdd, Nat.reduceMul, Nat.reduceSub, ↓reduceIte, rd_eq, TyG, c0]
  refine vcall_mk (new_ok (by omega)) ?_
  rintro _ h1 ⟨s, wb, hs, hw, rfl, qs, g1⟩
  simp (disch := omega) only [↓SS, A, Nat.reduceEqDiff, Int.reduceToNat, Int.cast_ofNat_Int, Int.reduceSub, Int.reduceAdd, Nat.reduceAdd, Nat.reduceMul, Nat.reduceSub, ↓reduceIte, rd_eq, TyG]
  refine vloop_mk (fun k fr h' => ∃ (i : Nat) (ws : List Nat), i + k = 4 ∧ fr = [(26, .int .i64 i), (8, .int .i64 0), (7, ptr s 0), (0, ptr g 0), (1, .int .i64 u), (2, .int .i64 of)] ∧ Ge h h' ∧ isSet h' s wb n ws ∧ ∀ k, mem ws k = edge E of i u k) 4
    [(26, .int .i64 0), (8, .int .i64 0), (7, ptr s 0), (0, ptr g 0), (1, .int .i64 u), (2, .int .i64 of)] (by simp only [↓SS, Nat.reduceEqDiff, Int.reduceToNat, Int.cast_ofNat_Int, Int.reduceSub, Int.reduceAdd, Nat.reduceAdd, Nat.reduceMul, Nat.reduceSub, ↓reduceIte, rd_eq, TyG]) ⟨0, _, rfl, rfl, g1, qs, fun k => by simp [mem, edge, List.getElem?_replicate]; split <;> simp⟩ ?_
  rintro k _ h2 ⟨i, ws, hik, rfl, g2, qs2, hm⟩
  by_cases hi : i < 4
  · have hbit := shr_bit of i hi
    by_cases hl : lbit of i = true
    · have hb1 : bitV .and .i64 (of.fdiv (2 ^ min i IntKind.i64.bits)) 1 = 1 := hbit.2 hl
      have q2 := q.ge g2
      obtain ⟨rb, c, s2, wb2, ws2, hv, hc, hcu, hp, hset, hmem⟩ := q2.at hi hu
      have hrow : hcell h2 g (1 + i) = some (vs i) := by rw [hcell, q2.blk]; exact gcells_get n vs hi
      rw [hv] at hrow
      obtain ⟨ws0, hset0, _⟩ := q.set i u _ hi hp
      have l1 := Ge.lt hset0.blk
      have l2 := Ge.lt hset0.words
      simp (disch := omega) only [↓SS, A, Nat.reduceEqDiff, Int.reduceToNat, Int.cast_ofNat_Int, Int.reduceSub, Int.reduceAdd, Nat.reduceAdd, Nat.reduceMul, Nat.reduceSub, ↓reduceIte, rd_eq, TyG, hb1, hrow, hcu]
      refine vcall_mk (or_ok qs2 hset (by simp only at l2; omega) (by simp only at l1; omega)) ?_
      rintro _ h3 ⟨⟨b, rfl⟩, up, ws', hs', hm'⟩
      simp (disch := omega) only [↓SS, A, Nat.reduceEqDiff, Int.reduceToNat, Int.cast_ofNat_Int, Int.reduceSub, Int.reduceAdd, Nat.reduceAdd, Nat.reduceMul, Nat.reduceSub, ↓reduceIte, rd_eq, TyG]
      exact ⟨k - 1, by omega, _, (by simp only [↓SS, Nat.reduceEqDiff, Int.reduceToNat, Int.cast_ofNat_Int, Int.reduceSub, Int.reduceAdd, Nat.reduceAdd, Nat.reduceMul, Nat.reduceSub, ↓reduceIte, rd_eq, Int.natCast_add, Int.cast_ofNat_Int]), i + 1, ws', by omega, rfl, up.ge g2 hw, hs', fun k => by rw [hm' k, hm k, hmem k, edge_succ, hl]; simp⟩
    · have hb1 : ¬ bitV .and .i64 (of.fdiv (2 ^ min i IntKind.i64.bits)) 1 = 1 := fun e => hl (hbit.1 e)
      simp (disch := omega) only [↓SS, A, Nat.reduceEqDiff, Int.reduceToNat, Int.cast_ofNat_Int, Int.reduceSub, Int.reduceAdd, Nat.reduceAdd, Nat.reduceMul, Nat.reduceSub, ↓reduceIte, rd_eq, TyG, hb1]
      exact ⟨k - 1, by omega, _, (by simp only [↓SS, Nat.reduceEqDiff, Int.reduceToNat, Int.cast_ofNat_Int, Int.reduceSub, Int.reduceAdd, Nat.reduceAdd, Nat.reduceMul, Nat.reduceSub, ↓reduceIte, rd_eq, Int.natCast_add, Int.cast_ofNat_Int]), i + 1, ws, by omega, rfl, g2, qs2, fun k => by rw [hm k, edge_succ]; simp [hl]⟩
  · have : i = 4 := by omega
    subst this
    simp (disch := omega) only [↓SS, A, Nat.reduceEqDiff, Int.reduceToNat, Int.cast_ofNat_Int, Int.reduceSub, Int.reduceAdd, Nat.reduceAdd, Nat.reduceMul, Nat.reduceSub, ↓reduceIte, rd_eq, TyG]
    refine vcall_mk (list_ok (t.ge g2) qs2) ?_
    rintro v h3 ⟨ho, hnil, g3⟩
    have e : mems ws n = outs n E of u := by
      unfold mems outs
      exact List.filter_congr fun x _ => by rw [hm x]
    rw [e] at ho hnil
    simp (disch := omega) only [↓SS, A, Nat.reduceEqDiff, Int.reduceToNat, Int.cast_ofNat_Int, Int.reduceSub, Int.reduceAdd, Nat.reduceAdd, Nat.reduceMul, Nat.reduceSub, ↓reduceIte, rd_eq, TyG]
    exact ⟨Own.base ho g2.size, hnil, g2.trans g3⟩
/-- an edge's labels -/
def labs (E : Nat → Nat → Nat → Bool) (m u k : Nat) : Nat := (List.range m).foldl (fun a i => if E i u k then a ||| 2 ^ i else a) 0
theorem labs_succ (E : Nat → Nat → Nat → Bool) (m u k : Nat) : labs E (m + 1) u k = if E m u k then labs E m u k ||| 2 ^ m else labs E m u k := by
  simp [labs, List.range_succ, List.foldl_append]
theorem labs_lt (E : Nat → Nat → Nat → Bool) (u k : Nat) : ∀ m, labs E m u k < 2 ^ m
  | 0 => by simp [labs]
  | m + 1 => by
    have := labs_lt E u k m
    have h2 : 2 ^ m < 2 ^ (m + 1) := Nat.pow_lt_pow_right (by omega) (by omega)
    rw [labs_succ]
    split
    · exact Nat.or_lt_two_pow (by omega) h2
    · omega
theorem labs_bit (E : Nat → Nat → Nat → Bool) (u k : Nat) : ∀ m i, (labs E m u k).testBit i = (decide (i < m) && E i u k)
  | 0, i => by simp [labs]
  | m + 1, i => by
    have ih := labs_bit E u k m i
    rw [labs_succ]
    by_cases hE : E m u k = true
    · rw [if_pos hE, Nat.testBit_or, ih, Nat.testBit_two_pow]
      by_cases e : m = i
      · subst e; simp [hE]
      · have : decide (i < m + 1) = decide (i < m) := decide_eq_decide.2 (by omega)
        simp [e, this]
    · rw [if_neg hE, ih]
      by_cases e : m = i
      · subst e; simp [hE]
      · have : decide (i < m + 1) = decide (i < m) := decide_eq_decide.2 (by omega)
        rw [this]
theorem or_i64 (a b : Nat) (ha : a < 2 ^ 62) (hb : b < 2 ^ 62) : bitV .or .i64 (a : Int) (b : Int) = ((a ||| b : Nat) : Int) := by
  have h1 : (a ||| b) < 2 ^ 62 := Nat.or_lt_two_pow ha hb
  show IntKind.i64.wrap (((BitVec.ofInt 64 (a : Int) ||| BitVec.ofInt 64 (b : Int)).toNat : Nat) : Int) = _
  rw [BitVec.toNat_or, ofInt_nat a (by omega), ofInt_nat b (by omega), IntWalk.i64_in]; omega
theorem glab_ok {h : Heap} {g n : Nat} {vs : Nat → Value} {L : Nat → List (Nat × Nat)} {E : Nat → Nat → Nat → Bool} (q : isG h g n vs L E) {u k : Nat} (hu : u < n) (hk : k < n) :
    Ct Tryd.prog 163 [ptr g 0, .int .i64 u, .int .i64 k] h fun v h' => v = .int .i64 (labs E 4 u k : Nat) ∧ h = h' := by
  have c0 : hcell h g 0 = some (.int .i64 n) := by simp [hcell, q.blk, gcells]
  have hn := q.le
  refine enter Tryd.func163 (by kernel_rfl) rfl Tryd.results163 (by kernel_rfl) (by kernel_rfl) (init3 _ _ _) ?_
  simp (disch := omega) only [↓SS, A, Nat.reduceEqDiff, Int.reduceToNat, Int.cast_ofNat_Int, Int.reduceSub, Int.reduceAdd, Nat.reduceAdd, Nat.reduceMul, Nat.reduceSub, ↓reduceIte, rd_eq, TyG]
  refine vcall_mk (ghas_ok c0) ?_
  rintro _ _ ⟨rfl, rfl⟩
  simp (disch := omega) only [↓SS, A, Nat.reduceEqDiff, Int.reduceToNat, Int.cast_ofNat_Int, Int.reduceSub, Int.reduceAdd, Nat.reduceAdd, Nat.reduceMul, Nat.reduceSub, ↓reduceIte, rd_eq, TyG]
  refine vloop_mk (fun r fr h' => ∃ i : Nat, i + r = 4 ∧ fr = [(17, .int .i64 i), (7, .int .i64 (labs E i u k : Nat)), (0, ptr g 0), (1, .int .i64 u), (2, .int .i64 k)] ∧ h = h') 4
    [(17, .int .i64 0), (7, .int .i64 0), (0, ptr g 0), (1, .int .i64 u), (2, .int .i64 k)] (by simp only [↓SS, Nat.reduceEqDiff, Int.reduceToNat, Int.cast_ofNat_Int, Int.reduceSub, Int.reduceAdd, Nat.reduceAdd, Nat.reduceMul, Nat.reduceSub, ↓reduceIte, rd_eq, TyG]) ⟨0, rfl, rfl, rfl⟩ ?_
  rintro r _ _ ⟨i, hir, rfl, rfl⟩
  by_cases hi : i < 4
  · obtain ⟨rb, c, s2, wb2, ws2, hv, hc, hcu, hp, hset, hmem⟩ := q.at hi hu
    have hrow : hcell h g (1 + i) = some (vs i) := by rw [hcell, q.blk]; exact gcells_get n vs hi
    rw [hv] at hrow
    simp (disch := omega) only [↓SS, A, Nat.reduceEqDiff, Int.reduceToNat, Int.cast_ofNat_Int, Int.reduceSub, Int.reduceAdd, Nat.reduceAdd, Nat.reduceMul, Nat.reduceSub, ↓reduceIte, rd_eq, TyG, hrow, hcu]
    refine vcall_mk (has_ok hset hk) ?_
    rintro _ _ ⟨rfl, rfl⟩
    rw [hmem k]
    have hl := labs_succ E i u k
    cases hE : E i u k with
    | true =>
      have hlt := labs_lt E u k i
      have e1 : min i IntKind.i64.bits = i := by simp [IntKind.bits]; omega
      have e2 : (1 : Int) * 2 ^ i = ((2 ^ i : Nat) : Int) := by simp
      have hp4 : 2 ^ i < 2 ^ 4 := Nat.pow_lt_pow_right (by omega) hi
      have e3 : IntKind.i64.wrap ((2 ^ i : Nat) : Int) = ((2 ^ i : Nat) : Int) := IntWalk.i64_in _ (by omega)
      have e4 : bitV .or .i64 (labs E i u k : Nat) (2 ^ i : Nat) = ((labs E (i + 1) u k : Nat) : Int) := by rw [or_i64 _ _ (by omega) (by omega), hl, if_pos hE]
      simp (disch := omega) only [↓SS, A, Nat.reduceEqDiff, Int.reduceToNat, Int.cast_ofNat_Int, Int.reduceSub, Int.reduceAdd, Nat.reduceAdd, Nat.reduceMul, Nat.reduceSub, ↓reduceIte, rd_eq, TyG, hE, e1, e2, e3, e4]
      exact ⟨r - 1, by omega, _, (by simp only [↓SS, Nat.reduceEqDiff, Int.reduceToNat, Int.cast_ofNat_Int, Int.reduceSub, Int.reduceAdd, Nat.reduceAdd, Nat.reduceMul, Nat.reduceSub, ↓reduceIte, rd_eq, Int.natCast_add, Int.cast_ofNat_Int]), i + 1, by omega, rfl⟩
    | false =>
      have hl' : labs E (i + 1) u k = labs E i u k := by rw [hl, hE]; rfl
      simp (disch := omega) only [↓SS, A, Nat.reduceEqDiff, Int.reduceToNat, Int.cast_ofNat_Int, Int.reduceSub, Int.reduceAdd, Nat.reduceAdd, Nat.reduceMul, Nat.reduceSub, ↓reduceIte, rd_eq, TyG, hE]
      rw [← hl']
      exact ⟨r - 1, by omega, _, (by simp only [↓SS, Nat.reduceEqDiff, Int.reduceToNat, Int.cast_ofNat_Int, Int.reduceSub, Int.reduceAdd, Nat.reduceAdd, Nat.reduceMul, Nat.reduceSub, ↓reduceIte, rd_eq, Int.natCast_add, Int.cast_ofNat_Int]), i + 1, by omega, rfl⟩
  · have : i = 4 := by omega
    subst this
    simp (disch := omega) only [↓SS, A, Nat.reduceEqDiff, Int.reduceToNat, Int.cast_ofNat_Int, Int.reduceSub, Int.reduceAdd, Nat.reduceAdd, Nat.reduceMul, Nat.reduceSub, ↓reduceIte, rd_eq, TyG]
end Go.Proofs.YtgfljbplccekcaaDoor
