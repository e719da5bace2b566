/-
  Package bits: what its functions that write do, as contracts; conditions: the set was made by bits.New.
-/
import Derived.Test.YtgfljbplccekcaaDoorBits
set_option linter.unusedSimpArgs false
set_option linter.unusedVariables false
set_option maxRecDepth 100000
namespace Go.Proofs.YtgfljbplccekcaaDoor
open Go Go.V

theorem isSet.ne {h : Heap} {s wb n : Nat} {ws : List Nat} (q : isSet h s wb n ws) : s ≠ wb := by
  rintro rfl
  have h1 := q.blk
  rw [q.words] at h1
  simp only [Option.some.injEq, Obj.cells.injEq] at h1
  exact absurd h1.2.1 (by decide)
theorem mem_set {ws : List Nat} {n i k : Nat} (hl : ws.length = (n + 63) / 64) (hi : i < n) (f : Nat → Nat) (g : Bool → Bool)
    (hf : ∀ w j, j < 64 → (f w).testBit j = if j = i % 64 then g (w.testBit j) else w.testBit j) :
    mem (ws.set (i / 64) (f ((ws[i / 64]?).getD 0))) k = if k = i then g (mem ws k) else mem ws k := by
  have hlt : i / 64 < ws.length := by omega
  unfold mem
  by_cases hk : k / 64 = i / 64
  · rw [hk, List.getElem?_set_self hlt, Option.getD_some, hf _ _ (Nat.mod_lt _ (by omega))]
    by_cases he : k = i
    · subst he; simp
    · rw [if_neg (by omega), if_neg he]
  · rw [List.getElem?_set_ne (fun e => hk e.symm), if_neg (by rintro rfl; exact hk rfl)]
theorem high_set {ws : List Nat} {n i : Nat} {v : Nat} (hi : i < n) (hh : ∀ k, n ≤ k → ((ws[k / 64]?).getD 0).testBit (k % 64) = false) (hm : ∀ k, mem (ws.set (i / 64) v) k = if k = i then mem (ws.set (i / 64) v) k else mem ws k) :
    ∀ k, n ≤ k → (((ws.set (i / 64) v)[k / 64]?).getD 0).testBit (k % 64) = false := by
  intro k hk
  have := hm k
  rw [if_neg (by omega)] at this
  exact this.trans (hh k hk)
theorem setL_map {ws : List Nat} {k v : Nat} : setL (ws.map fun w : Nat => Value.int .u64 (w : Int)).toArray k [.int .u64 (v : Int)] = ((ws.set k v).map fun w : Nat => Value.int .u64 (w : Int)).toArray := by
  simp [setL]
theorem isSet.put {h h' : Heap} {s wb n i v : Nat} {ws : List Nat} (q : isSet h s wb n ws) (hi : i < n) (hv : v < 2 ^ 64) (u : Up h h' wb)
    (hb : h'[wb]? = some (.cells (setL (ws.map fun w : Nat => Value.int .u64 (w : Int)).toArray (i / 64) [.int .u64 (v : Int)]) 192 (0, 0)))
    (hm : ∀ k, k ≠ i → mem (ws.set (i / 64) v) k = mem ws k) : isSet h' s wb n (ws.set (i / 64) v) := by
  refine ⟨by rw [List.length_set]; exact u.keep q.blk q.ne, by rw [hb, setL_map], by rw [List.length_set]; exact q.len, q.le, fun w hw => ?_, fun k hk => ?_⟩
  · rcases List.mem_or_eq_of_mem_set hw with h1 | h1
    · exact q.small w h1
    · rw [h1]; exact hv
  · exact (hm k (by omega)).trans (q.high k hk)
theorem add_ok {h : Heap} {s wb n i : Nat} {ws : List Nat} (q : isSet h s wb n ws) (hi : i < n) : Ct Tryd.prog 74 [ptr s 0, .int .i64 i] h fun v h' => v = .int .i64 0 ∧ Up h h' wb ∧ ∃ ws', isSet h' s wb n ws' ∧ ∀ k, mem ws' k = if k = i then true else mem ws k := by
  have hl := q.len
  have hlt : i / 64 < ws.length := by omega
  have hsm := q.small _ (List.getElem_mem hlt)
  have hb := bitV_or (ws[i / 64]'hlt) (2 ^ (i % 64)) hsm (pow_lt64 i)
  refine enter Tryd.func74 (by kernel_rfl) rfl Tryd.results74 (by kernel_rfl) (by kernel_rfl) (init2 _ _) ?_
  simp (disch := omega) only [↓SS, A, Nat.reduceEqDiff, Int.reduceToNat, Int.cast_ofNat_Int, Int.reduceSub, Int.reduceAdd, Nat.reduceAdd, Nat.reduceMul, Nat.reduceSub, ↓reduceIte, rd_eq, TyBits]
  refine vcall_mk (at_ok q hi) ?_
  rintro _ _ ⟨rfl, rfl⟩
  have hc : hcell h wb (i / 64) = some (.int .u64 ((ws[i / 64]'hlt : Nat) : Int)) := by simp [hcell, q.words, hlt]
  simp (disch := omega) only [↓SS, A, Nat.reduceEqDiff, Int.reduceToNat, Int.cast_ofNat_Int, Int.reduceSub, Int.reduceAdd, Nat.reduceAdd, Nat.reduceMul, Nat.reduceSub, ↓reduceIte, rd_eq, TyBits, hc, hb]
  refine vst_up rfl rfl q.words (by simp [Value.cells]; omega) ?_
  intro h' hb' up
  simp (disch := omega) only [↓SS, A, Nat.reduceEqDiff, Int.reduceToNat, Int.cast_ofNat_Int, Int.reduceSub, Int.reduceAdd, Nat.reduceAdd, Nat.reduceMul, Nat.reduceSub, ↓reduceIte, rd_eq, TyBits]
  have hv : (ws[i / 64]'hlt) ||| 2 ^ (i % 64) < 2 ^ 64 := Nat.or_lt_two_pow hsm (pow_lt64 i)
  have hm : ∀ k, mem (ws.set (i / 64) ((ws[i / 64]'hlt) ||| 2 ^ (i % 64))) k = if k = i then true else mem ws k := by
    intro k
    have := mem_set (ws := ws) (n := n) (i := i) (k := k) hl hi (fun w => w ||| 2 ^ (i % 64)) (fun _ => true) (fun w j hj => by
      rw [Nat.testBit_or, Nat.testBit_two_pow]
      by_cases e : j = i % 64
      · simp [e]
      · have e' : ¬ i % 64 = j := fun x => e x.symm
        simp [e, e'])
    rw [List.getElem?_eq_getElem hlt, Option.getD_some] at this
    exact this
  exact ⟨up, _, q.put hi hv up hb' (fun k hk => by rw [hm, if_neg hk]), hm⟩
abbrev orV : Value := .func (.func 161) #[] #[]
theorem orfn {h : Heap} {a b : Nat} (ha : a < 2 ^ 64) (hb : b < 2 ^ 64) : Ct Tryd.prog 161 [.int .u64 a, .int .u64 b] h fun v h' => v = .int .u64 ((a ||| b : Nat) : Int) ∧ h = h' := by
  have e := bitV_or a b ha hb
  refine enter Tryd.func161 (by kernel_rfl) rfl Tryd.results161 (by kernel_rfl) (by kernel_rfl) (init2 _ _) ?_
  simp (disch := omega) only [↓SS, A, Nat.reduceEqDiff, Int.reduceToNat, Int.cast_ofNat_Int, Int.reduceSub, Int.reduceAdd, Nat.reduceAdd, Nat.reduceMul, Nat.reduceSub, ↓reduceIte, rd_eq, TyBits, e]
theorem with_or {h : Heap} {s wb o ob n : Nat} {ws us : List Nat} (q : isSet h s wb n ws) (r : isSet h o ob n us) (hne : wb ≠ ob) (hso : o ≠ wb) : Ct Tryd.prog 160 [ptr s 0, ptr o 0, orV] h fun v h' =>
    (∃ b, v = .tuple #[.bool b, .int .i64 0]) ∧ Up h h' wb ∧ ∃ ws', isSet h' s wb n ws' ∧ ∀ k, mem ws' k = (mem ws k || mem us k) := by
  have hl := q.len
  have hl2 := r.len
  have hn := q.le
  refine enter Tryd.func160 (by kernel_rfl) rfl Tryd.results160 (by kernel_rfl) (by kernel_rfl) (init3 _ _ _) ?_
  simp (disch := omega) only [↓SS, A, Nat.reduceEqDiff, Int.reduceToNat, Int.cast_ofNat_Int, Int.reduceSub, Int.reduceAdd, Nat.reduceAdd, Nat.reduceMul, Nat.reduceSub, ↓reduceIte, rd_eq, TyBits]
  refine vcall_mk (none_ok q) ?_
  rintro _ _ ⟨rfl, rfl⟩
  simp (disch := omega) only [↓SS, A, Nat.reduceEqDiff, Int.reduceToNat, Int.cast_ofNat_Int, Int.reduceSub, Int.reduceAdd, Nat.reduceAdd, Nat.reduceMul, Nat.reduceSub, ↓reduceIte, rd_eq, TyBits]
  refine vcall_mk (none_ok r) ?_
  rintro _ _ ⟨rfl, rfl⟩
  simp (disch := omega) only [↓SS, A, Nat.reduceEqDiff, Int.reduceToNat, Int.cast_ofNat_Int, Int.reduceSub, Int.reduceAdd, Nat.reduceAdd, Nat.reduceMul, Nat.reduceSub, ↓reduceIte, rd_eq, TyBits]
  refine vdraw_pure mixed (by kernel_rfl) ?_
  simp (disch := omega) only [↓SS, A, Nat.reduceEqDiff, Int.reduceToNat, Int.cast_ofNat_Int, Int.reduceSub, Int.reduceAdd, Nat.reduceAdd, Nat.reduceMul, Nat.reduceSub, ↓reduceIte, rd_eq, TyBits, hcell, q.blk, r.blk]
  have o1 : outb [wb] s := by simp [outb, q.ne]
  have o2 : outb [wb] o := by simp [outb, hso]
  have o3 : outb [wb] ob := by simp [outb]; exact fun e => hne e.symm
  have hwu : ∀ k, n ≤ k → (mem ws k || mem us k) = false := fun k hk => by rw [Bool.or_eq_false_iff]; exact ⟨q.high k hk, r.high k hk⟩
  refine vloop_mk (fun k fr h' => ∃ (j : Nat) (b : Bool) (cs : List Nat), j + k = ws.length ∧ fr = [(33, .int .i64 j), (32, .int .i64 ws.length), (31, .slice (some ⟨wb, 0, none⟩) ws.length ws.length), (8, .bool b), (0, ptr s 0), (1, ptr o 0), (2, orV)] ∧
      Up h h' wb ∧ h'[wb]? = some (.cells ((cs.map fun w : Nat => Value.int .u64 (w : Int)).toArray) 192 (0, 0)) ∧ cs.length = ws.length ∧ (∀ w ∈ cs, w < 2 ^ 64) ∧
      (∀ i, i < j → cs[i]? = some ((ws[i]?).getD 0 ||| (us[i]?).getD 0)) ∧ (∀ i, j ≤ i → cs[i]? = ws[i]?)) ws.length
    [(33, .int .i64 0), (32, .int .i64 ws.length), (31, .slice (some ⟨wb, 0, none⟩) ws.length ws.length), (8, .bool false), (0, ptr s 0), (1, ptr o 0), (2, orV)] (by simp only [↓SS, Nat.reduceEqDiff, Int.reduceToNat, Int.cast_ofNat_Int, Int.reduceSub, Int.reduceAdd, Nat.reduceAdd, Nat.reduceMul, Nat.reduceSub, ↓reduceIte, rd_eq, TyBits]) ⟨0, false, ws, by omega, rfl, Up.refl _ _, q.words, rfl, q.small, by intro i hi; omega, fun _ _ => rfl⟩ ?_
  rintro k _ h1 ⟨j, b, cs, hjk, rfl, up, hcs, hcl, hsm, hlo, hhi⟩
  have hs1 := up.keep q.blk q.ne
  have ho1 := up.keep r.blk hso
  have hou := up.keep r.words (fun e => hne e.symm)
  by_cases hj : j < ws.length
  · have hjc : j < cs.length := by omega
    have hju : j < us.length := by omega
    have hc1 : hcell h1 wb j = some (.int .u64 ((cs[j]'hjc : Nat) : Int)) := by simp [hcell, hcs, hjc]
    have hc2 : hcell h1 ob j = some (.int .u64 ((us[j]'hju : Nat) : Int)) := by simp [hcell, hou, hju]
    have hcj := hhi j (Nat.le_refl _)
    rw [List.getElem?_eq_getElem hjc, List.getElem?_eq_getElem hj, Option.some.injEq] at hcj
    have d1 : hcell h1 s 0 = some (.slice (some ⟨wb, 0, none⟩) ws.length ws.length) := by simp [hcell, hs1]
    have d2 : hcell h1 o 0 = some (.slice (some ⟨ob, 0, none⟩) us.length us.length) := by simp [hcell, ho1]
    simp (disch := omega) only [↓SS, A, Nat.reduceEqDiff, Int.reduceToNat, Int.cast_ofNat_Int, Int.reduceSub, Int.reduceAdd, Nat.reduceAdd, Nat.reduceMul, Nat.reduceSub, ↓reduceIte, rd_eq, TyBits, hc1]
    refine vdraw_held [wb] [(0, 0), (1, 0), (2, 0), (3, 1), (4, 0), (5, 0), (6, 0), (7, 0), (8, 0), (9, 0), (10, 1), (11, 0), (12, 0), (13, 1), (14, 2), (15, 0), (16, 2)] mixed (by kernel_rfl) ?_
    simp (disch := omega) only [↓SS, A, Nat.reduceEqDiff, Int.reduceToNat, Int.cast_ofNat_Int, Int.reduceSub, Int.reduceAdd, Nat.reduceAdd, Nat.reduceMul, Nat.reduceSub, ↓reduceIte, rd_eq, TyBits, d1, d2, hc1, hc2, o1, o2, o3]
    refine vcall_mk (orfn (hsm _ (List.getElem_mem hjc)) (r.small _ (List.getElem_mem hju))) ?_
    rintro _ _ ⟨rfl, rfl⟩
    refine ⟨Kb.refl _ _, ?_⟩
    simp (disch := omega) only [↓SS, A, Nat.reduceEqDiff, Int.reduceToNat, Int.cast_ofNat_Int, Int.reduceSub, Int.reduceAdd, Nat.reduceAdd, Nat.reduceMul, Nat.reduceSub, ↓reduceIte, rd_eq, TyBits]
    refine vst_up rfl rfl hcs (by simp [Value.cells]; omega) ?_
    intro h2 hb2 up2
    refine ⟨(Kb.refl _ _).up up2 (.inl (by simp)), ?_⟩
    replace hb2 : h2[wb]? = some (.cells (((cs.set j (cs[j] ||| us[j])).map fun w : Nat => Value.int .u64 (w : Int)).toArray) 192 (0, 0)) := by rw [hb2, ← setL_map]; rfl
    have upp := up.trans up2
    have hs2 := upp.keep q.blk q.ne
    have d3 : hcell h2 s 0 = some (.slice (some ⟨wb, 0, none⟩) ws.length ws.length) := by simp [hcell, hs2]
    have hc3 : hcell h2 wb j = some (.int .u64 ((cs[j] ||| us[j] : Nat) : Int)) := by simp [hcell, hb2, hjc]
    have key : (∀ w ∈ cs.set j (cs[j] ||| us[j]), w < 2 ^ 64) ∧ (∀ i, i < j + 1 → (cs.set j (cs[j] ||| us[j]))[i]? = some ((ws[i]?).getD 0 ||| (us[i]?).getD 0)) ∧ (∀ i, j + 1 ≤ i → (cs.set j (cs[j] ||| us[j]))[i]? = ws[i]?) := by
      refine ⟨fun w hw => ?_, fun i hi => ?_, fun i hi => ?_⟩
      · rcases List.mem_or_eq_of_mem_set hw with h1 | h1
        · exact hsm w h1
        · rw [h1]; exact Nat.or_lt_two_pow (hsm _ (List.getElem_mem hjc)) (r.small _ (List.getElem_mem hju))
      · by_cases e : i = j
        · subst e; rw [List.getElem?_set_self hjc, List.getElem?_eq_getElem hj, List.getElem?_eq_getElem hju, hcj]; rfl
        · rw [List.getElem?_set_ne (fun x => e x.symm)]; exact hlo i (by omega)
      · rw [List.getElem?_set_ne (by omega)]; exact hhi i (by omega)
    cases b with
    | true =>
      simp (disch := omega) only [↓SS, A, Nat.reduceEqDiff, Int.reduceToNat, Int.cast_ofNat_Int, Int.reduceSub, Int.reduceAdd, Nat.reduceAdd, Nat.reduceMul, Nat.reduceSub, ↓reduceIte, rd_eq, TyBits]
      exact ⟨k - 1, by omega, _, (by simp only [↓SS, Nat.reduceEqDiff, Int.reduceToNat, Int.cast_ofNat_Int, Int.reduceSub, Int.reduceAdd, Nat.reduceAdd, Nat.reduceMul, Nat.reduceSub, ↓reduceIte, rd_eq, Int.natCast_add, Int.cast_ofNat_Int]), j + 1, true, _, by omega, rfl, upp, hb2, by rw [List.length_set]; exact hcl, key⟩
    | false =>
      simp (disch := omega) only [↓SS, A, Nat.reduceEqDiff, Int.reduceToNat, Int.cast_ofNat_Int, Int.reduceSub, Int.reduceAdd, Nat.reduceAdd, Nat.reduceMul, Nat.reduceSub, ↓reduceIte, rd_eq, TyBits, d3, hc3]
      exact ⟨k - 1, by omega, _, (by simp only [↓SS, Nat.reduceEqDiff, Int.reduceToNat, Int.cast_ofNat_Int, Int.reduceSub, Int.reduceAdd, Nat.reduceAdd, Nat.reduceMul, Nat.reduceSub, ↓reduceIte, rd_eq, Int.natCast_add, Int.cast_ofNat_Int]), j + 1, decide (¬ ((cs[j] ||| us[j] : Nat) : Int) = ((cs[j] : Nat) : Int)), _, by omega, rfl, upp, hb2, by rw [List.length_set]; exact hcl, key⟩
  · have hjl : j = ws.length := by omega
    simp (disch := omega) only [↓SS, A, Nat.reduceEqDiff, Int.reduceToNat, Int.cast_ofNat_Int, Int.reduceSub, Int.reduceAdd, Nat.reduceAdd, Nat.reduceMul, Nat.reduceSub, ↓reduceIte, rd_eq, TyBits]
    have hm : ∀ i, mem cs i = (mem ws i || mem us i) := by
      intro i
      unfold mem
      by_cases e : i / 64 < ws.length
      · rw [hlo _ (by omega)]; simp
      · rw [List.getElem?_eq_none (by omega), List.getElem?_eq_none (by omega), List.getElem?_eq_none (by omega)]; simp
    exact ⟨⟨_, rfl⟩, up, cs, ⟨by rw [hcl]; exact hs1, hcs, by rw [hcl]; exact q.len, q.le, hsm, fun i hi => (hm i).trans (hwu i hi)⟩, hm⟩
theorem or_ok {h : Heap} {s wb o ob n : Nat} {ws us : List Nat} (q : isSet h s wb n ws) (r : isSet h o ob n us) (hne : wb ≠ ob) (hso : o ≠ wb) : Ct Tryd.prog 115 [ptr s 0, ptr o 0] h fun v h' =>
    (∃ b, v = .tuple #[.bool b, .int .i64 0]) ∧ Up h h' wb ∧ ∃ ws', isSet h' s wb n ws' ∧ ∀ k, mem ws' k = (mem ws k || mem us k) := by
  refine enter Tryd.func115 (by kernel_rfl) rfl Tryd.results115 (by kernel_rfl) (by kernel_rfl) (init2 _ _) ?_
  simp (disch := omega) only [↓SS, A, Nat.reduceEqDiff, Int.reduceToNat, Int.cast_ofNat_Int, Int.reduceSub, Int.reduceAdd, Nat.reduceAdd, Nat.reduceMul, Nat.reduceSub, ↓reduceIte, rd_eq, TyBits]
  refine vcall_mk (with_or q r hne hso) ?_
  rintro _ h1 ⟨⟨b, rfl⟩, h2, h3⟩
  simp (disch := omega) only [↓SS, A, Nat.reduceEqDiff, Int.reduceToNat, Int.cast_ofNat_Int, Int.reduceSub, Int.reduceAdd, Nat.reduceAdd, Nat.reduceMul, Nat.reduceSub, ↓reduceIte, rd_eq, TyBits]
  exact ⟨⟨b, rfl⟩, h2, h3⟩
end Go.Proofs.YtgfljbplccekcaaDoor
