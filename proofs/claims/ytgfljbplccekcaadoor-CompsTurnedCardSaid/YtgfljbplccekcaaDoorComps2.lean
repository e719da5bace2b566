/-
  Package comps: Order, Cyclic: the walks; conditions: the graph was made by graph.New, the table of math/bits lies in memory.
-/
import Derived.Test.YtgfljbplccekcaaDoorComps1
set_option linter.unusedSimpArgs false
set_option linter.unusedVariables false
set_option maxRecDepth 100000
namespace Go.Proofs.YtgfljbplccekcaaDoor
open Go Go.V Go.Low

/-- the edges, as a relation -/
abbrev ed (E : Nat → Nat → Nat → Bool) (of : Int) : Nat → Nat → Bool := edge E of 4
def ordR (r : Option (List Nat)) (h h' : Heap) (v : Value) : Prop := match r with
  | some l => ∃ lv, v = .tuple #[lv, .bool true] ∧ Own h' h.size 3 1 lv l.length (ints l) ∧ (lv = .slice none 0 0 ↔ l = [])
  | none => v = .tuple #[.slice none 0 0, .bool false]
theorem order_ok {h : Heap} (t : Tab h) {g n : Nat} {vs : Nat → Value} {L : Nat → List (Nat × Nat)} {E : Nat → Nat → Nat → Bool} (q : isG h g n vs L E) {of : Int} :
    Ct Tryd.prog 36 [ptr g 0, .int .i64 of] h fun v h' => ordR (Tar.ordF n (ed E of) n []) h h' v ∧ Ge h h' := by
  have c0 : hcell h g 0 = some (.int .i64 n) := by simp [hcell, q.blk, gcells]
  have c5 : hcell h g 5 = some (.bool true) := by simp [hcell, q.blk, gcells]
  have hn := q.le
  refine enter Tryd.func36 (by kernel_rfl) rfl Tryd.results36 (by kernel_rfl) (by kernel_rfl) (init2 _ _) ?_
  simp (disch := omega) only [↓SS, A, Nat.reduceEqDiff, Int.reduceToNat, Int.cast_ofNat_Int, Int.reduceSub, Int.reduceAdd, Nat.reduceAdd, Nat.reduceMul, Nat.reduceSub, ↓reduceIte, rd_eq, TyI]
  refine vcall_mk (made_ok c5) ?_
  rintro _ _ ⟨rfl, rfl⟩
  simp (disch := omega) only [↓SS, A, Nat.reduceEqDiff, Int.reduceToNat, Int.cast_ofNat_Int, Int.reduceSub, Int.reduceAdd, Nat.reduceAdd, Nat.reduceMul, Nat.reduceSub, ↓reduceIte, rd_eq, TyI]
  refine vcall_mk (nodes_ok c0) ?_
  rintro _ _ ⟨rfl, rfl⟩
  simp (disch := omega) only [↓SS, A, Nat.reduceEqDiff, Int.reduceToNat, Int.cast_ofNat_Int, Int.reduceSub, Int.reduceAdd, Nat.reduceAdd, Nat.reduceMul, Nat.reduceSub, ↓reduceIte, rd_eq, TyI]
  refine vmk_ok elInts (by omega) (by omega) (by omega) (by omega) ?_
  rw [Int.toNat_natCast, arrV_made _ _ rfl]
  simp (disch := omega) only [↓SS, A, Nat.reduceEqDiff, Int.reduceToNat, Int.cast_ofNat_Int, Int.reduceSub, Int.reduceAdd, Nat.reduceAdd, Nat.reduceMul, Nat.reduceSub, ↓reduceIte, rd_eq, TyI]
  have g1 : Ge h (h.push (.cells (arrI n fun _ => 0) 3)) := Ge.push _ _
  have e1 : (h.push (.cells (arrI n fun _ => 0) 3))[h.size]? = some (.cells (arrI n fun _ => 0) 3 (0, 0)) := push_new _ _
  have hs1 : (h.push (.cells (arrI n fun _ => 0) 3)).size = h.size + 1 := Array.size_push _
  generalize h.push (.cells (arrI n fun _ => 0) 3) = h1 at *
  generalize hbs : h.size = b at *
  refine vloop_mk (fun k fr h' => ∃ i : Nat, i + k = n ∧ fr = [(22, .int .i64 i), (21, .int .i64 n), (6, sl b 0 n n), (0, ptr g 0), (1, .int .i64 of)] ∧ Ge h h' ∧
      h'[b]? = some (.cells (arrI n fun m => ((List.range i).countP fun u => ed E of u m : Nat)) 3 (0, 0))) n
    [(22, .int .i64 0), (21, .int .i64 n), (6, sl b 0 n n), (0, ptr g 0), (1, .int .i64 of)] (by simp only [↓SS, Nat.reduceEqDiff, Int.reduceToNat, Int.cast_ofNat_Int, Int.reduceSub, Int.reduceAdd, Nat.reduceAdd, Nat.reduceMul, Nat.reduceSub, ↓reduceIte, rd_eq, TyI]) ⟨0, by omega, rfl, g1, e1⟩ ?_
  rintro k _ h2 ⟨i, hik, rfl, g2, e2⟩
  by_cases hi : i < n
  · simp (disch := omega) only [↓SS, A, Nat.reduceEqDiff, Int.reduceToNat, Int.cast_ofNat_Int, Int.reduceSub, Int.reduceAdd, Nat.reduceAdd, Nat.reduceMul, Nat.reduceSub, ↓reduceIte, rd_eq, TyI]
    refine vcall_mk (gout_ok (t.ge g2) (q.ge g2) hi) ?_
    rintro ov h3 ⟨ho, _, g3⟩
    have hI := ownInts' ho
    obtain ⟨a, c, rfl, hc, hc2, _⟩ := id hI
    have hon := outs_nodup n E of i
    have e3 := g3.lookup e2
    have g3' := g2.trans g3
    have hbo : ∀ bb oo, a = some ⟨bb, oo, none⟩ → bb ≠ b := by
      rintro bb oo rfl
      have := (ownAddr ho rfl).1
      have := Ge.lt e2
      omega
    rw [nats_len] at *
    simp (disch := omega) only [↓SS, A, Nat.reduceEqDiff, Int.reduceToNat, Int.cast_ofNat_Int, Int.reduceSub, Int.reduceAdd, Nat.reduceAdd, Nat.reduceMul, Nat.reduceSub, ↓reduceIte, rd_eq, TyI]
    refine vloop_mk (fun k' fr h' => ∃ j : Nat, j + k' = (outs n E of i).length ∧ fr = [(30, .int .i64 j), (29, .int .i64 (outs n E of i).length), (28, .slice a (outs n E of i).length c), (22, .int .i64 i), (21, .int .i64 n), (6, sl b 0 n n), (0, ptr g 0), (1, .int .i64 of)] ∧ Ge h h' ∧ Up h3 h' b ∧
        h'[b]? = some (.cells (arrI n fun m => ((List.range i).countP (fun u => ed E of u m) + if m ∈ (outs n E of i).take j then 1 else 0 : Nat)) 3 (0, 0))) (outs n E of i).length
      [(30, .int .i64 0), (29, .int .i64 (outs n E of i).length), (28, .slice a (outs n E of i).length c), (22, .int .i64 i), (21, .int .i64 n), (6, sl b 0 n n), (0, ptr g 0), (1, .int .i64 of)] (by simp only [↓SS, Nat.reduceEqDiff, Int.reduceToNat, Int.cast_ofNat_Int, Int.reduceSub, Int.reduceAdd, Nat.reduceAdd, Nat.reduceMul, Nat.reduceSub, ↓reduceIte, rd_eq, TyI]) ⟨0, by omega, rfl, g3', Up.refl _ _, by simpa using e3⟩ ?_
    rintro k' _ h4 ⟨j, hjk, rfl, g4, up4, e4⟩
    by_cases hj : j < (outs n E of i).length
    · obtain ⟨m, hm⟩ : ∃ m, (outs n E of i)[j]? = some m := ⟨_, List.getElem?_eq_getElem hj⟩
      have hmn := (outs_mem.1 (List.mem_of_getElem? hm)).1
      obtain ⟨bb, oo, cc, e, _, _, hcell1⟩ := hI.out (by rw [nats_len]; omega)
      simp only [Value.slice.injEq, nats_len, true_and] at e
      obtain ⟨rfl, rfl⟩ := e
      have hc4 : hcell h4 bb (oo + j) = some (.int .i64 m) := by
        have := hcell1 j m (nats_at hm)
        unfold hcell at this ⊢
        rw [up4.other bb (hbo _ _ rfl)]; exact this
      have hcm : hcell h4 b m = some (.int .i64 ((List.range i).countP (fun u => ed E of u m) : Nat)) := by
        simp only [hcell, e4]
        rw [arrV_at _ hmn]
        have := take_not_mem hon hm
        simp [this]
      have hcl := List.countP_le_length (p := fun u => ed E of u m) (l := List.range i)
      rw [List.length_range] at hcl
      simp (disch := omega) only [↓SS, A, Nat.reduceEqDiff, Int.reduceToNat, Int.cast_ofNat_Int, Int.reduceSub, Int.reduceAdd, Nat.reduceAdd, Nat.reduceMul, Nat.reduceSub, ↓reduceIte, rd_eq, TyI, hc4, hcm]
      refine vst_up rfl rfl e4 (by simp [Value.cells, arrV_size]; omega) ?_
      intro h5 e5 up5
      simp (disch := omega) only [↓SS, A, Nat.reduceEqDiff, Int.reduceToNat, Int.cast_ofNat_Int, Int.reduceSub, Int.reduceAdd, Nat.reduceAdd, Nat.reduceMul, Nat.reduceSub, ↓reduceIte, rd_eq, TyI]
      refine ⟨k' - 1, by omega, _, (by simp only [↓SS, Nat.reduceEqDiff, Int.reduceToNat, Int.cast_ofNat_Int, Int.reduceSub, Int.reduceAdd, Nat.reduceAdd, Nat.reduceMul, Nat.reduceSub, ↓reduceIte, rd_eq, Int.natCast_add, Int.cast_ofNat_Int]), j + 1, by omega, rfl, up5.ge g4 (by omega), up4.trans up5, ?_⟩
      rw [e5]
      simp only [Value.cells]
      rw [arrI_set _ hmn]
      congr 2
      apply arrV_congr
      intro x _
      simp only [upd, take_mem_succ hon hm]
      by_cases ex : x = m
      · subst ex; simp
      · simp [ex]
    · have : j = (outs n E of i).length := by omega
      subst this
      simp (disch := omega) only [↓SS, A, Nat.reduceEqDiff, Int.reduceToNat, Int.cast_ofNat_Int, Int.reduceSub, Int.reduceAdd, Nat.reduceAdd, Nat.reduceMul, Nat.reduceSub, ↓reduceIte, rd_eq, TyI]
      refine ⟨k - 1, by omega, _, (by simp only [↓SS, Nat.reduceEqDiff, Int.reduceToNat, Int.cast_ofNat_Int, Int.reduceSub, Int.reduceAdd, Nat.reduceAdd, Nat.reduceMul, Nat.reduceSub, ↓reduceIte, rd_eq, Int.natCast_add, Int.cast_ofNat_Int]), i + 1, by omega, rfl, g4, ?_⟩
      rw [e4]
      congr 2
      apply arrV_congr
      intro x hx
      have : (x ∈ outs n E of i) ↔ ed E of i x = true := by rw [outs_mem]; exact ⟨fun h => h.2, fun h => ⟨hx, h⟩⟩
      simp only [count_succ, List.take_length, this]
  · have : i = n := by omega
    subst this
    have e2' : h2[b]? = some (.cells (arrI i (aheadOf i (ed E of) [])) 3 (0, 0)) := by
      rw [e2]
      have : (fun m => (((List.range i).countP fun u => ed E of u m : Nat) : Int)) = aheadOf i (ed E of) [] := by
        funext x
        simp [aheadOf, leftOf]
      rw [this]
    simp (disch := omega) only [↓SS, A, Nat.reduceEqDiff, Int.reduceToNat, Int.cast_ofNat_Int, Int.reduceSub, Int.reduceAdd, Nat.reduceAdd, Nat.reduceMul, Nat.reduceSub, ↓reduceIte, rd_eq, TyI]
    refine vloop_mk (fun k fr h' => ∃ (l : List Nat) (lv : Value), l.length + k = i ∧ fr = [(10, lv), (6, sl b 0 i i), (0, ptr g 0), (1, .int .i64 of)] ∧ Ge h h' ∧ Tar.Told i (ed E of) l ∧
        Tar.ordF i (ed E of) k l = Tar.ordF i (ed E of) i [] ∧ Own h' h1.size 3 1 lv l.length (ints l) ∧ (lv = .slice none 0 0 ↔ l = []) ∧
        h'[b]? = some (.cells (arrI i (aheadOf i (ed E of) l)) 3 (0, 0))) i
      [(10, .slice none 0 0), (6, sl b 0 i i), (0, ptr g 0), (1, .int .i64 of)] (by simp only [↓SS, Nat.reduceEqDiff, Int.reduceToNat, Int.cast_ofNat_Int, Int.reduceSub, Int.reduceAdd, Nat.reduceAdd, Nat.reduceMul, Nat.reduceSub, ↓reduceIte, rd_eq, TyI]) ⟨[], _, by simp, rfl, g2, Tar.Told.nil, rfl, Own.nil _ _ _ _, by simp, e2'⟩ ?_
    rintro k2 _ h3 ⟨l, lv, hlk, rfl, g3, ht, hord, hol, hnl, e3⟩
    have hbl : b < h1.size := Ge.lt e1
    obtain ⟨x1, _⟩ := Own.one hol
    obtain ⟨la, lc, rfl⟩ : ∃ a c, lv = .slice a l.length c := by
      rcases hol.2 with ⟨h0, h00⟩ | ⟨_, cap, _, h0, _⟩
      · exact ⟨none, 0, by rw [h0, h00]⟩
      · exact ⟨_, cap, h0⟩
    by_cases hlt : l.length < i
    · simp (disch := omega) only [↓SS, A, Nat.reduceEqDiff, Int.reduceToNat, Int.cast_ofNat_Int, Int.reduceSub, Int.reduceAdd, Nat.reduceAdd, Nat.reduceMul, Nat.reduceSub, ↓reduceIte, rd_eq, TyI]
      refine vcall_mk (index_ok (arrI_ints e3 (by omega)) 0) ?_
      rintro _ _ ⟨⟨kk, rfl, hkk⟩, rfl⟩
      obtain ⟨k3, rfl⟩ : ∃ k3, k2 = k3 + 1 := ⟨k2 - 1, by omega⟩
      have hat : ∀ m : Nat, m < i → ((List.range i).map (aheadOf i (ed E of) l))[m]? = some (aheadOf i (ed E of) l m) := fun m hm => by simp [hm]
      rcases hkk with ⟨rfl, hno⟩ | ⟨m, rfl, hm, hfirst⟩
      · -- none is free
        have hp : Tar.pick i (ed E of) l = none := by
          rw [Tar.pick, List.find?_eq_none]
          intro m hm hf
          have hmi := List.mem_range.1 hm
          exact hno (List.mem_of_getElem? (by rw [hat m hmi, (pick_ahead hmi).2 hf]))
        have hr : Tar.ordF i (ed E of) i [] = none := by rw [← hord]; simp [Tar.ordF, hp]
        simp (disch := omega) only [↓SS, A, Nat.reduceEqDiff, Int.reduceToNat, Int.cast_ofNat_Int, Int.reduceSub, Int.reduceAdd, Nat.reduceAdd, Nat.reduceMul, Nat.reduceSub, ↓reduceIte, rd_eq, TyI]
        rw [hr]
        exact ⟨rfl, g3⟩
      · have hmi : m < i := by have := (List.getElem?_eq_some_iff.1 hm).1; simpa using this
        rw [hat m hmi] at hm
        have hf := (pick_ahead hmi).1 (Option.some.inj hm)
        have hp : Tar.pick i (ed E of) l = some m := by
          rw [Tar.pick, List.find?_range_eq_some]
          refine ⟨hf, List.mem_range.2 hmi, fun j hj => ?_⟩
          have := hfirst j _ hj (hat j (by omega))
          rw [Bool.not_eq_true', ← Bool.not_eq_true]
          exact fun h => this ((pick_ahead (by omega)).2 h)
        have hmem : hcell h3 b m = some (.int .i64 (aheadOf i (ed E of) l m)) := by simp only [hcell, e3]; exact arrV_at _ hmi
        simp (disch := omega) only [↓SS, A, Nat.reduceEqDiff, Int.reduceToNat, Int.cast_ofNat_Int, Int.reduceSub, Int.reduceAdd, Nat.reduceAdd, Nat.reduceMul, Nat.reduceSub, ↓reduceIte, rd_eq, TyI]
        refine vst_up rfl rfl e3 (by simp [Value.cells, arrV_size]; omega) ?_
        intro h4 e4 up4
        replace e4 : h4[b]? = some (.cells (arrI i (upd (aheadOf i (ed E of) l) m (-1))) 3 (0, 0)) := by rw [e4]; simp only [Value.cells]; rw [arrI_set _ hmi]
        have g4 := up4.ge g3 (by omega)
        simp (disch := omega) only [↓SS, A, Nat.reduceEqDiff, Int.reduceToNat, Int.cast_ofNat_Int, Int.reduceSub, Int.reduceAdd, Nat.reduceAdd, Nat.reduceMul, Nat.reduceSub, ↓reduceIte, rd_eq, TyI]
        refine vcall_mk (gout_ok (t.ge g4) (q.ge g4) hmi) ?_
        rintro ov h5 ⟨ho, _, g5⟩
        have hI := ownInts' ho
        obtain ⟨a, c, rfl, hc, hc2, _⟩ := id hI
        have hon := outs_nodup i E of m
        have e5 := g5.lookup e4
        have g5' := g4.trans g5
        have hbo : ∀ bb oo, a = some ⟨bb, oo, none⟩ → bb ≠ b := by
          rintro bb oo rfl
          have := (ownAddr ho rfl).1
          have := Ge.lt e4
          omega
        have hlb : ∀ bb, (Value.slice la l.length lc).ownBlock = some bb → bb ≠ b := by
          intro bb hb
          have := (Own.blk hol hb).1
          omega
        have hol5 := (hol.grow up4.grow (by
          cases hb : (Value.slice la l.length lc).ownBlock with
          | none => exact .inl rfl
          | some bb => right; exact fun e => hlb bb hb (Option.some.inj e))).ge g5
        rw [nats_len] at *
        simp (disch := omega) only [↓SS, A, Nat.reduceEqDiff, Int.reduceToNat, Int.cast_ofNat_Int, Int.reduceSub, Int.reduceAdd, Nat.reduceAdd, Nat.reduceMul, Nat.reduceSub, ↓reduceIte, rd_eq, TyI]
        refine vloop_mk (fun k' fr h' => ∃ j : Nat, j + k' = (outs i E of m).length ∧ fr = [(59, .int .i64 j), (58, .int .i64 (outs i E of m).length), (57, .slice a (outs i E of m).length c), (11, .int .i64 m), (10, .slice la l.length lc), (6, sl b 0 i i), (0, ptr g 0), (1, .int .i64 of)] ∧ Ge h h' ∧ Up h5 h' b ∧
            h'[b]? = some (.cells (arrI i fun x => upd (aheadOf i (ed E of) l) m (-1) x - if x ∈ (outs i E of m).take j then 1 else 0) 3 (0, 0))) (outs i E of m).length
          [(59, .int .i64 0), (58, .int .i64 (outs i E of m).length), (57, .slice a (outs i E of m).length c), (11, .int .i64 m), (10, .slice la l.length lc), (6, sl b 0 i i), (0, ptr g 0), (1, .int .i64 of)] (by simp only [↓SS, Nat.reduceEqDiff, Int.reduceToNat, Int.cast_ofNat_Int, Int.reduceSub, Int.reduceAdd, Nat.reduceAdd, Nat.reduceMul, Nat.reduceSub, ↓reduceIte, rd_eq, TyI]) ⟨0, by omega, rfl, g5', Up.refl _ _, by simpa using e5⟩ ?_
        rintro k' _ h6 ⟨j, hjk, rfl, g6, up6, e6⟩
        by_cases hj : j < (outs i E of m).length
        · obtain ⟨x, hx⟩ : ∃ x, (outs i E of m)[j]? = some x := ⟨_, List.getElem?_eq_getElem hj⟩
          have hxn := (outs_mem.1 (List.mem_of_getElem? hx)).1
          obtain ⟨bb, oo, cc, e, _, _, hcell1⟩ := hI.out (by rw [nats_len]; omega)
          simp only [Value.slice.injEq, nats_len, true_and] at e
          obtain ⟨rfl, rfl⟩ := e
          have hc6 : hcell h6 bb (oo + j) = some (.int .i64 x) := by
            have := hcell1 j x (nats_at hx)
            unfold hcell at this ⊢
            rw [up6.other bb (hbo _ _ rfl)]; exact this
          have hcm : hcell h6 b x = some (.int .i64 (upd (aheadOf i (ed E of) l) m (-1) x)) := by
            simp only [hcell, e6]
            rw [arrV_at _ hxn]
            have := take_not_mem hon hx
            simp [this]
          have hbnd : -1 ≤ upd (aheadOf i (ed E of) l) m (-1) x ∧ upd (aheadOf i (ed E of) l) m (-1) x ≤ 300 := by
            unfold upd aheadOf
            have := leftOf_le i (ed E of) l x
            split
            · omega
            · split <;> omega
          simp (disch := omega) only [↓SS, A, Nat.reduceEqDiff, Int.reduceToNat, Int.cast_ofNat_Int, Int.reduceSub, Int.reduceAdd, Nat.reduceAdd, Nat.reduceMul, Nat.reduceSub, ↓reduceIte, rd_eq, TyI, hc6, hcm]
          refine vst_up rfl rfl e6 (by simp [Value.cells, arrV_size]; omega) ?_
          intro h7 e7 up7
          simp (disch := omega) only [↓SS, A, Nat.reduceEqDiff, Int.reduceToNat, Int.cast_ofNat_Int, Int.reduceSub, Int.reduceAdd, Nat.reduceAdd, Nat.reduceMul, Nat.reduceSub, ↓reduceIte, rd_eq, TyI]
          refine ⟨k' - 1, by omega, _, (by simp only [↓SS, Nat.reduceEqDiff, Int.reduceToNat, Int.cast_ofNat_Int, Int.reduceSub, Int.reduceAdd, Nat.reduceAdd, Nat.reduceMul, Nat.reduceSub, ↓reduceIte, rd_eq, Int.natCast_add, Int.cast_ofNat_Int]), j + 1, by omega, rfl, up7.ge g6 (by omega), up6.trans up7, ?_⟩
          rw [e7]
          simp only [Value.cells]
          rw [arrI_set _ hxn]
          congr 2
          apply arrV_congr
          intro y _
          simp only [take_mem_succ hon hx]
          by_cases ex : y = x
          · subst ex; rw [upd_same]; simp
          · rw [upd_ne _ _ ex]; simp [ex]
        · have : j = (outs i E of m).length := by omega
          subst this
          have e6' : h6[b]? = some (.cells (arrI i (aheadOf i (ed E of) (l ++ [m]))) 3 (0, 0)) := by
            rw [e6]
            congr 2
            apply arrV_congr
            intro x hx
            have : (x ∈ outs i E of m) ↔ ed E of m x = true := by rw [outs_mem]; exact ⟨fun h => h.2, fun h => ⟨hx, h⟩⟩
            rw [ahead_step ht hp hx, List.take_length]
            by_cases ex : x = m
            · subst ex
              have hne : ¬ ed E of x x = true := fun he => (Tar.pick_some hp).2.1 ((Tar.pick_some hp).2.2 x hx he)
              have hno : ¬ x ∈ outs i E of x := fun h => hne (this.1 h)
              simp [upd_same, hno]
            · simp only [if_neg ex, upd_ne _ _ ex, this]
          have hol6 := hol5.grow up6.grow (by
            cases hb : (Value.slice la l.length lc).ownBlock with
            | none => exact .inl rfl
            | some bb => right; exact fun e => hlb bb hb (Option.some.inj e))
          simp (disch := omega) only [↓SS, A, Nat.reduceEqDiff, Int.reduceToNat, Int.cast_ofNat_Int, Int.reduceSub, Int.reduceAdd, Nat.reduceAdd, Nat.reduceMul, Nat.reduceSub, ↓reduceIte, rd_eq, TyI]
          refine vbs_one elInts rfl rfl (by omega) (by omega) ?_
          simp (disch := omega) only [↓SS, A, Nat.reduceEqDiff, Int.reduceToNat, Int.cast_ofNat_Int, Int.reduceSub, Int.reduceAdd, Nat.reduceAdd, Nat.reduceMul, Nat.reduceSub, ↓reduceIte, rd_eq, TyI]
          have g7 : Ge h6 (h6.push (.cells (Value.int .i64 m).cells 3)) := Ge.push _ _
          have e7 : (h6.push (.cells (Value.int .i64 m).cells 3))[h6.size]? = some (.cells (Value.int .i64 m).cells 3 (0, 0)) := push_new _ _
          have e7' := g7.lookup e6'
          generalize h6.push (.cells (Value.int .i64 m).cells 3) = h7 at *
          generalize h6.size = nb at *
          refine vapp_own elInts rfl (by omega) (hol6.ge g7) (rdRow_blk e7 (by simp [Value.cells])) (by simp [Value.cells]; rfl) (by omega) (by omega) (by have := Ge.lt e7'; omega) ?_
          intro lv2 h8 ho8 gr8 hn8
          simp (disch := omega) only [↓SS, A, Nat.reduceEqDiff, Int.reduceToNat, Int.cast_ofNat_Int, Int.reduceSub, Int.reduceAdd, Nat.reduceAdd, Nat.reduceMul, Nat.reduceSub, ↓reduceIte, rd_eq, TyI]
          have gh8 : Ge h h8 := Own.gee (h0 := h) (Own.base (hol6.ge g7) (by have := g1.size; omega)) (g6.trans g7) gr8
          refine ⟨k3, by omega, _, (by simp only [↓SS, Nat.reduceEqDiff, Int.reduceToNat, Int.cast_ofNat_Int, Int.reduceSub, Int.reduceAdd, Nat.reduceAdd, Nat.reduceMul, Nat.reduceSub, ↓reduceIte, rd_eq, Int.natCast_add, Int.cast_ofNat_Int]), l ++ [m], lv2, by simp; omega, rfl, gh8, ht.snoc hp, ?_, ?_, ?_, ?_⟩
          · rw [← hord]; simp [Tar.ordF, hp]
          · simpa [ints, Value.cells] using ho8
          · rw [hn8, hnl]; simp
          · rw [gr8.block b (Ge.lt e7') (fun e => hlb b e.symm rfl)]; exact e7'
    · have hl0 : k2 = 0 := by omega
      subst hl0
      have hr : Tar.ordF i (ed E of) i [] = some l := by rw [← hord]; rfl
      simp (disch := omega) only [↓SS, A, Nat.reduceEqDiff, Int.reduceToNat, Int.cast_ofNat_Int, Int.reduceSub, Int.reduceAdd, Nat.reduceAdd, Nat.reduceMul, Nat.reduceSub, ↓reduceIte, rd_eq, TyI]
      rw [hr]
      exact ⟨⟨_, rfl, Own.base hol (by have := g1.size; omega), hnl⟩, g3⟩
end Go.Proofs.YtgfljbplccekcaaDoor
