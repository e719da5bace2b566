/-
  Package assayerref06: New, Add, Out, as contracts; conditions: the graph was made by its New.
-/
import Derived.Test.YtgfljbplccekcaaDoorRG
set_option linter.unusedSimpArgs false
set_option linter.unusedVariables false
set_option maxRecDepth 100000
namespace Go.Proofs.YtgfljbplccekcaaDoor
open Go Go.V Go.Low

def routs (n : Nat) (R : Nat → Nat → Bool) (u m : Nat) : List Nat := (List.range m).filter fun k => R u k
theorem routs_succ (n : Nat) (R : Nat → Nat → Bool) (u m : Nat) : routs n R u (m + 1) = routs n R u m ++ if R u m then [m] else [] := by
  simp only [routs, List.range_succ, List.filter_append]
  cases h : R u m <;> simp [h]
theorem rout_ok {h : Heap} {x n : Nat} {rv : Value} {rb : Nat → Nat} {M : Nat → Nat → Nat} (q : isR h x n rv rb M) {u : Nat} {of : Int} (hu : u < n) :
    Ct Tryd.prog 113 [ptr x 0, .int .i64 u, .int .i64 of] h fun v h' =>
      Own h' h.size 3 1 v (routs n (redge M of) u n).length (ints (routs n (redge M of) u n)) ∧ (v = .slice none 0 0 ↔ routs n (redge M of) u n = []) ∧ Ge h h' := by
  obtain ⟨ra, rc, hrv, hn⟩ := q.len
  have c0 := q.c0
  rw [hrv] at c0
  refine enter Tryd.func113 (by kernel_rfl) rfl Tryd.results113 (by kernel_rfl) (by kernel_rfl) (init3 _ _ _) ?_
  simp (disch := omega) only [↓SS, A, Nat.reduceEqDiff, Int.reduceToNat, Int.cast_ofNat_Int, Int.reduceSub, Int.reduceAdd, Nat.reduceAdd, Nat.reduceMul, Nat.reduceSub, ↓reduceIte, rd_eq, TyR, c0]
  refine vloop_mk (fun k fr h' => ∃ (m : Nat) (lv : Value), m + k = n ∧ fr = [(14, .int .i64 m), (13, .int .i64 n), (7, lv), (0, ptr x 0), (1, .int .i64 u), (2, .int .i64 of)] ∧ Ge h h' ∧
      Own h' h.size 3 1 lv (routs n (redge M of) u m).length (ints (routs n (redge M of) u m)) ∧ (lv = .slice none 0 0 ↔ routs n (redge M of) u m = [])) n
    [(14, .int .i64 0), (13, .int .i64 n), (7, .slice none 0 0), (0, ptr x 0), (1, .int .i64 u), (2, .int .i64 of)] (by simp only [↓SS, Nat.reduceEqDiff, Int.reduceToNat, Int.cast_ofNat_Int, Int.reduceSub, Int.reduceAdd, Nat.reduceAdd, Nat.reduceMul, Nat.reduceSub, ↓reduceIte, rd_eq, TyR]) ⟨0, _, by omega, rfl, Ge.refl _, Own.nil _ _ _ _, by simp [routs]⟩ ?_
  rintro k _ h1 ⟨m, lv, hmk, rfl, g1, ho, hnil⟩
  by_cases hm : m < n
  · simp (disch := omega) only [↓SS, A, Nat.reduceEqDiff, Int.reduceToNat, Int.cast_ofNat_Int, Int.reduceSub, Int.reduceAdd, Nat.reduceAdd, Nat.reduceMul, Nat.reduceSub, ↓reduceIte, rd_eq, TyR]
    refine vcall_mk (rlab_ok (q.ge g1) hu hm) ?_
    rintro _ _ ⟨rfl, rfl⟩
    have hl := and_labels (M u m) (q.small u m) of
    have hlen : (routs n (redge M of) u m).length ≤ m := by have := List.length_filter_le (fun k => redge M of u k) (List.range m); simpa [routs] using this
    by_cases he : bitV .and .i64 ((M u m : Nat) : Int) of = 0
    · have hf : redge M of u m = false := by
        cases h : redge M of u m with
        | false => rfl
        | true => exact absurd he (hl.2 h)
      simp (disch := omega) only [↓SS, A, Nat.reduceEqDiff, Int.reduceToNat, Int.cast_ofNat_Int, Int.reduceSub, Int.reduceAdd, Nat.reduceAdd, Nat.reduceMul, Nat.reduceSub, ↓reduceIte, rd_eq, TyR, he]
      refine ⟨k - 1, by omega, _, (by simp only [↓SS, Nat.reduceEqDiff, Int.reduceToNat, Int.cast_ofNat_Int, Int.reduceSub, Int.reduceAdd, Nat.reduceAdd, Nat.reduceMul, Nat.reduceSub, ↓reduceIte, rd_eq, Int.natCast_add, Int.cast_ofNat_Int]), m + 1, lv, by omega, rfl, g1, ?_, ?_⟩
      · rw [routs_succ, hf]; simpa using ho
      · rw [routs_succ, hf]; simpa using hnil
    · have hf : redge M of u m = true := hl.1 he
      simp (disch := omega) only [↓SS, A, Nat.reduceEqDiff, Int.reduceToNat, Int.cast_ofNat_Int, Int.reduceSub, Int.reduceAdd, Nat.reduceAdd, Nat.reduceMul, Nat.reduceSub, ↓reduceIte, rd_eq, TyR, he]
      refine vbs_one elInts rfl rfl (by omega) (by omega) ?_
      simp (disch := omega) only [↓SS, A, Nat.reduceEqDiff, Int.reduceToNat, Int.cast_ofNat_Int, Int.reduceSub, Int.reduceAdd, Nat.reduceAdd, Nat.reduceMul, Nat.reduceSub, ↓reduceIte, rd_eq, TyR]
      have g2 : Ge h1 (h1.push (.cells (Value.int .i64 m).cells 3)) := Ge.push _ _
      have e2 : (h1.push (.cells (Value.int .i64 m).cells 3))[h1.size]? = some (.cells (Value.int .i64 m).cells 3 (0, 0)) := push_new _ _
      generalize h1.push (.cells (Value.int .i64 m).cells 3) = h2 at *
      generalize h1.size = nb at *
      refine vapp_own elInts rfl (by omega) (ho.ge g2) (rdRow_blk e2 (by simp [Value.cells])) (by simp [Value.cells]; rfl) (by omega) (by omega) (g1.trans g2).size ?_
      intro lv2 h3 ho3 gr3 hn3
      have g3 := (ho.ge g2).gee (g1.trans g2) gr3
      simp (disch := omega) only [↓SS, A, Nat.reduceEqDiff, Int.reduceToNat, Int.cast_ofNat_Int, Int.reduceSub, Int.reduceAdd, Nat.reduceAdd, Nat.reduceMul, Nat.reduceSub, ↓reduceIte, rd_eq, TyR]
      refine ⟨k - 1, by omega, _, (by simp only [↓SS, Nat.reduceEqDiff, Int.reduceToNat, Int.cast_ofNat_Int, Int.reduceSub, Int.reduceAdd, Nat.reduceAdd, Nat.reduceMul, Nat.reduceSub, ↓reduceIte, rd_eq, Int.natCast_add, Int.cast_ofNat_Int]), m + 1, lv2, by omega, rfl, g3, ?_, ?_⟩
      · rw [routs_succ, hf]; simpa [ints, Value.cells] using ho3
      · rw [hn3, routs_succ, hf]; simp
  · have : m = n := by omega
    subst this
    simp (disch := omega) only [↓SS, A, Nat.reduceEqDiff, Int.reduceToNat, Int.cast_ofNat_Int, Int.reduceSub, Int.reduceAdd, Nat.reduceAdd, Nat.reduceMul, Nat.reduceSub, ↓reduceIte, rd_eq, TyR]
    exact ⟨ho, hnil, g1⟩
theorem radd_node {h : Heap} {x n : Nat} {rv : Value} {rb : Nat → Nat} {M : Nat → Nat → Nat} (q : isR h x n rv rb M) {a b of : Int} (hab : ¬ ((0 ≤ a ∧ a < n) ∧ 0 ≤ b ∧ b < n)) :
    Ct Tryd.prog 65 [ptr x 0, .int .i64 a, .int .i64 b, .int .i64 of] h fun v h' => v = .int .i64 60 ∧ h = h' := by
  obtain ⟨ra, rc, rfl, hn⟩ := q.len
  have c0 := q.c0
  refine enter Tryd.func65 (by kernel_rfl) rfl Tryd.results65 (by kernel_rfl) (by kernel_rfl) (init4 _ _ _ _) ?_
  simp (disch := omega) only [↓SS, A, Nat.reduceEqDiff, Int.reduceToNat, Int.cast_ofNat_Int, Int.reduceSub, Int.reduceAdd, Nat.reduceAdd, Nat.reduceMul, Nat.reduceSub, ↓reduceIte, rd_eq, TyR]
  refine vcall_mk (there_ok c0 hn _) ?_
  rintro _ _ ⟨rfl, rfl⟩
  by_cases ha : 0 ≤ a ∧ a < n
  · simp (disch := omega) only [↓SS, A, Nat.reduceEqDiff, Int.reduceToNat, Int.cast_ofNat_Int, Int.reduceSub, Int.reduceAdd, Nat.reduceAdd, Nat.reduceMul, Nat.reduceSub, ↓reduceIte, rd_eq, TyR]
    refine vcall_mk (there_ok c0 hn _) ?_
    rintro _ _ ⟨rfl, rfl⟩
    simp (disch := omega) only [↓SS, A, Nat.reduceEqDiff, Int.reduceToNat, Int.cast_ofNat_Int, Int.reduceSub, Int.reduceAdd, Nat.reduceAdd, Nat.reduceMul, Nat.reduceSub, ↓reduceIte, rd_eq, TyR]
  · simp (disch := omega) only [↓SS, A, Nat.reduceEqDiff, Int.reduceToNat, Int.cast_ofNat_Int, Int.reduceSub, Int.reduceAdd, Nat.reduceAdd, Nat.reduceMul, Nat.reduceSub, ↓reduceIte, rd_eq, TyR]
theorem radd_arg {h : Heap} {x n : Nat} {rv : Value} {rb : Nat → Nat} {M : Nat → Nat → Nat} (q : isR h x n rv rb M) {a b : Nat} {of : Int} (ha : a < n) (hb : b < n) (hof : of < 1 ∨ 15 < of ∨ a = b) :
    Ct Tryd.prog 65 [ptr x 0, .int .i64 a, .int .i64 b, .int .i64 of] h fun v h' => v = .int .i64 1 ∧ h = h' := by
  obtain ⟨ra, rc, rfl, hn⟩ := q.len
  have c0 := q.c0
  refine enter Tryd.func65 (by kernel_rfl) rfl Tryd.results65 (by kernel_rfl) (by kernel_rfl) (init4 _ _ _ _) ?_
  simp (disch := omega) only [↓SS, A, Nat.reduceEqDiff, Int.reduceToNat, Int.cast_ofNat_Int, Int.reduceSub, Int.reduceAdd, Nat.reduceAdd, Nat.reduceMul, Nat.reduceSub, ↓reduceIte, rd_eq, TyR]
  refine vcall_mk (there_ok c0 hn _) ?_
  rintro _ _ ⟨rfl, rfl⟩
  simp (disch := omega) only [↓SS, A, Nat.reduceEqDiff, Int.reduceToNat, Int.cast_ofNat_Int, Int.reduceSub, Int.reduceAdd, Nat.reduceAdd, Nat.reduceMul, Nat.reduceSub, ↓reduceIte, rd_eq, TyR]
  refine vcall_mk (there_ok c0 hn _) ?_
  rintro _ _ ⟨rfl, rfl⟩
  by_cases h1 : of < 1
  · simp (disch := omega) only [↓SS, A, Nat.reduceEqDiff, Int.reduceToNat, Int.cast_ofNat_Int, Int.reduceSub, Int.reduceAdd, Nat.reduceAdd, Nat.reduceMul, Nat.reduceSub, ↓reduceIte, rd_eq, TyR]
  · by_cases h2 : 15 < of
    · simp (disch := omega) only [↓SS, A, Nat.reduceEqDiff, Int.reduceToNat, Int.cast_ofNat_Int, Int.reduceSub, Int.reduceAdd, Nat.reduceAdd, Nat.reduceMul, Nat.reduceSub, ↓reduceIte, rd_eq, TyR]
    · have h3 : (a : Int) = b := by omega
      simp (disch := omega) only [↓SS, A, Nat.reduceEqDiff, Int.reduceToNat, Int.cast_ofNat_Int, Int.reduceSub, Int.reduceAdd, Nat.reduceAdd, Nat.reduceMul, Nat.reduceSub, ↓reduceIte, rd_eq, TyR]
/-- the labels behind an edge more -/
def addM (M : Nat → Nat → Nat) (a b : Nat) (of : Nat) : Nat → Nat → Nat := fun u k => if u = a ∧ k = b then M u k ||| of else M u k
theorem radd_ok {h : Heap} {x n : Nat} {rv : Value} {rb : Nat → Nat} {M : Nat → Nat → Nat} (q : isR h x n rv rb M) {a b of : Nat} (ha : a < n) (hb : b < n) (h1 : 1 ≤ of) (h15 : of ≤ 15) (hne : a ≠ b) :
    Ct Tryd.prog 65 [ptr x 0, .int .i64 a, .int .i64 b, .int .i64 of] h fun v h' => v = .int .i64 0 ∧ isR h' x n rv rb (addM M a b of) ∧ Up h h' (rb a) := by
  obtain ⟨bb, c, rfl, hc, hrow⟩ := q.at ha
  have c0 := q.c0
  have hn := q.le
  have hm := q.cell ha hb
  have hs := q.small a b
  have hor := or_i64 (M a b) of (by omega) (by omega)
  have hor15 : M a b ||| of < 2 ^ 4 := Nat.or_lt_two_pow (by omega) (by omega)
  have hx : x ≠ rb a := by
    intro e
    have := q.row a ha
    rw [← e, q.blk] at this
    simp only [Option.some.injEq, Obj.cells.injEq] at this
    exact absurd this.2.1 (by decide)
  have hbb : bb ≠ rb a := by
    intro e
    rcases q.rows.2 with ⟨h0, _⟩ | ⟨gg, cap, cur, h0, _, hg, _⟩
    · cases h0
    · cases h0
      have := q.row a ha
      rw [← e, hg] at this
      simp only [Option.some.injEq, Obj.cells.injEq] at this
      exact absurd this.2.1 (by decide)
  refine enter Tryd.func65 (by kernel_rfl) rfl Tryd.results65 (by kernel_rfl) (by kernel_rfl) (init4 _ _ _ _) ?_
  simp (disch := omega) only [↓SS, A, Nat.reduceEqDiff, Int.reduceToNat, Int.cast_ofNat_Int, Int.reduceSub, Int.reduceAdd, Nat.reduceAdd, Nat.reduceMul, Nat.reduceSub, ↓reduceIte, rd_eq, TyR]
  refine vcall_mk (there_ok c0 hn _) ?_
  rintro _ _ ⟨rfl, rfl⟩
  simp (disch := omega) only [↓SS, A, Nat.reduceEqDiff, Int.reduceToNat, Int.cast_ofNat_Int, Int.reduceSub, Int.reduceAdd, Nat.reduceAdd, Nat.reduceMul, Nat.reduceSub, ↓reduceIte, rd_eq, TyR]
  refine vcall_mk (there_ok c0 hn _) ?_
  rintro _ _ ⟨rfl, rfl⟩
  have hne' : ¬ (a : Int) = b := by omega
  simp (disch := omega) only [↓SS, A, Nat.reduceEqDiff, Int.reduceToNat, Int.cast_ofNat_Int, Int.reduceSub, Int.reduceAdd, Nat.reduceAdd, Nat.reduceMul, Nat.reduceSub, ↓reduceIte, rd_eq, TyR]
  have o1 : outb [rb a] x := by simp [outb, hx]
  have o2 : outb [rb a] bb := by simp [outb, hbb]
  refine vdraw_fork [rb a] (.line [(0, 0), (1, 0), (2, 0), (3, 1), (4, 0), (5, 0), (6, 1), (7, 0), (8, 0), (9, 0), (10, 0), (11, 1), (12, 0), (13, 0), (14, 1), (15, 0), (16, 0), (18, 0), (17, 2), (19, 0), (20, 0), (21, 2)]) mixed (by kernel_rfl) ?_
  simp (disch := omega) only [↓SS, A, Nat.reduceEqDiff, Int.reduceToNat, Int.cast_ofNat_Int, Int.reduceSub, Int.reduceAdd, Nat.reduceAdd, Nat.reduceMul, Nat.reduceSub, ↓reduceIte, rd_eq, TyR, c0, hrow, hm, o1, o2]
  refine ⟨Kb.refl _ _, ?_⟩
  simp (disch := omega) only [↓SS, A, Nat.reduceEqDiff, Int.reduceToNat, Int.cast_ofNat_Int, Int.reduceSub, Int.reduceAdd, Nat.reduceAdd, Nat.reduceMul, Nat.reduceSub, ↓reduceIte, rd_eq, TyR, hm, hor]
  refine vst_up rfl rfl (q.row a ha) (by simp [Value.cells, arrV_size]; omega) ?_
  intro h2 e2 up
  refine ⟨(Kb.refl _ _).up up (.inl (by simp)), ?_⟩
  simp (disch := omega) only [↓SS, A, Nat.reduceEqDiff, Int.reduceToNat, Int.cast_ofNat_Int, Int.reduceSub, Int.reduceAdd, Nat.reduceAdd, Nat.reduceMul, Nat.reduceSub, ↓reduceIte, rd_eq, TyR]
  replace e2 : h2[rb a]? = some (.cells (arrI n fun k => addM M a b of a k) 3 (0, 0)) := by
    rw [e2]
    simp only [Value.cells]
    rw [arrI_set _ hb]
    congr 2
    apply arrV_congr
    intro k _
    simp only [upd, addM]
    by_cases ek : k = b <;> simp [ek]
  refine ⟨⟨up.keep q.blk hx, q.le, (q.rows.grow up.grow (.inr ?_)), fun u hu => ?_, q.inj, fun u k => ?_⟩, up⟩
  · simp only [Value.ownBlock, ne_eq, Option.some.injEq]; exact hbb
  · by_cases e : u = a
    · subst e; exact e2
    · have hne2 : rb u ≠ rb a := fun e3 => e (q.inj u a hu ha e3)
      rw [up.keep (q.row u hu) hne2]
      congr 2
      apply arrV_congr
      intro k _
      simp [addM, e]
  · unfold addM
    split
    · have : M u k ||| of < 2 ^ 4 := Nat.or_lt_two_pow (by have := q.small u k; omega) (by omega)
      omega
    · exact q.small u k
end Go.Proofs.YtgfljbplccekcaaDoor
