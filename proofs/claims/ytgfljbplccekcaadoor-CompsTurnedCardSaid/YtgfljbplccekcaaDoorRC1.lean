/-
  Package assayerref07: Order, Cyclic, as contracts; conditions: the graph was made by assayerref06.New.
-/
import Derived.Test.YtgfljbplccekcaaDoorRG3
import Derived.Test.YtgfljbplccekcaaDoorComps2
set_option linter.unusedSimpArgs false
set_option linter.unusedVariables false
set_option maxRecDepth 100000
namespace Go.Proofs.YtgfljbplccekcaaDoor
open Go Go.V Go.Low

theorem elBools : elT Tryd.prog 111 = some (4, 1, 1, .bool false) := by kernel_rfl
/-- a row of truth values -/
abbrev arrB (n : Nat) (D : Nat → Bool) : Array Value := arrV n fun m => .bool (D m)
theorem arrB_set {n : Nat} (D : Nat → Bool) {i : Nat} (hi : i < n) (x : Bool) : setL (arrB n D) i [.bool x] = arrB n (upd D i x) := by
  rw [arrV_set _ hi]
  apply arrV_congr
  intro j _
  unfold upd
  split <;> rfl
theorem arrB_cell {h : Heap} {b n : Nat} {D : Nat → Bool} {t : Nat} {f : Nat × Nat} (hb : h[b]? = some (.cells (arrB n D) t f)) {i : Nat} (hi : i < n) : hcell h b i = some (.bool (D i)) := by
  simp only [hcell, hb]; exact arrV_at _ hi
theorem arrI_cell {h : Heap} {b n : Nat} {D : Nat → Int} {t : Nat} {f : Nat × Nat} (hb : h[b]? = some (.cells (arrI n D) t f)) {i : Nat} (hi : i < n) : hcell h b i = some (.int .i64 (D i)) := by
  simp only [hcell, hb]; exact arrV_at _ hi
def okAll (n : Nat) (E : Nat → Nat → Bool) (D : Nat → Bool) (v : Nat) (m : Nat) : Bool := (List.range m).all fun u => D u || !E u v
theorem okAll_succ (n : Nat) (E : Nat → Nat → Bool) (D : Nat → Bool) (v m : Nat) : okAll n E D v (m + 1) = (okAll n E D v m && (D m || !E m v)) := by
  simp [okAll, List.range_succ, List.all_append]
theorem rfree_ok {h : Heap} {x n : Nat} {rv : Value} {rb : Nat → Nat} {M : Nat → Nat → Nat} (q : isR h x n rv rb M) {of : Int} {v b : Nat} (hv : v < n) {D : Nat → Bool} (hb : h[b]? = some (.cells (arrB n D) 4 (0, 0))) :
    Ct Tryd.prog 117 [ptr x 0, .int .i64 of, .int .i64 v, sl b 0 n n] h fun w h' => w = .bool (okAll n (redge M of) D v n) ∧ h = h' := by
  obtain ⟨ra, rc, hrv, hn⟩ := q.len
  have c0 := q.c0
  rw [hrv] at c0
  refine enter Tryd.func117 (by kernel_rfl) rfl Tryd.results117 (by kernel_rfl) (by kernel_rfl) (init4 _ _ _ _) ?_
  simp (disch := omega) only [↓SS, A, Nat.reduceEqDiff, Int.reduceToNat, Int.cast_ofNat_Int, Int.reduceSub, Int.reduceAdd, Nat.reduceAdd, Nat.reduceMul, Nat.reduceSub, ↓reduceIte, rd_eq, TyR, c0]
  refine vloop_mk (fun k fr h' => ∃ m : Nat, m + k = n ∧ fr = [(15, .int .i64 m), (14, .int .i64 n), (0, ptr x 0), (1, .int .i64 of), (2, .int .i64 v), (3, sl b 0 n n)] ∧ h = h' ∧ okAll n (redge M of) D v m = true) n
    [(15, .int .i64 0), (14, .int .i64 n), (0, ptr x 0), (1, .int .i64 of), (2, .int .i64 v), (3, sl b 0 n n)] (by simp only [↓SS, Nat.reduceEqDiff, Int.reduceToNat, Int.cast_ofNat_Int, Int.reduceSub, Int.reduceAdd, Nat.reduceAdd, Nat.reduceMul, Nat.reduceSub, ↓reduceIte, rd_eq, TyR]) ⟨0, by omega, rfl, rfl, rfl⟩ ?_
  rintro k _ _ ⟨m, hmk, rfl, rfl, hall⟩
  by_cases hm : m < n
  · have hc := arrB_cell hb hm
    have hs := okAll_succ n (redge M of) D v m
    cases hD : D m with
    | true =>
      rw [hD] at hc
      simp (disch := omega) only [↓SS, A, Nat.reduceEqDiff, Int.reduceToNat, Int.cast_ofNat_Int, Int.reduceSub, Int.reduceAdd, Nat.reduceAdd, Nat.reduceMul, Nat.reduceSub, ↓reduceIte, rd_eq, TyR, hc]
      exact ⟨k - 1, by omega, _, (by simp only [↓SS, Nat.reduceEqDiff, Int.reduceToNat, Int.cast_ofNat_Int, Int.reduceSub, Int.reduceAdd, Nat.reduceAdd, Nat.reduceMul, Nat.reduceSub, ↓reduceIte, rd_eq, Int.natCast_add, Int.cast_ofNat_Int]), m + 1, by omega, rfl, by rw [hs, hall, hD]; rfl⟩
    | false =>
      rw [hD] at hc
      simp (disch := omega) only [↓SS, A, Nat.reduceEqDiff, Int.reduceToNat, Int.cast_ofNat_Int, Int.reduceSub, Int.reduceAdd, Nat.reduceAdd, Nat.reduceMul, Nat.reduceSub, ↓reduceIte, rd_eq, TyR, hc]
      refine vcall_mk (rlab_ok q hm hv) ?_
      rintro _ _ ⟨rfl, rfl⟩
      have hl := and_labels (M m v) (q.small m v) of
      by_cases he : bitV .and .i64 ((M m v : Nat) : Int) of = 0
      · have hf : redge M of m v = false := by
          cases h : redge M of m v with
          | false => rfl
          | true => exact absurd he (hl.2 h)
        simp (disch := omega) only [↓SS, A, Nat.reduceEqDiff, Int.reduceToNat, Int.cast_ofNat_Int, Int.reduceSub, Int.reduceAdd, Nat.reduceAdd, Nat.reduceMul, Nat.reduceSub, ↓reduceIte, rd_eq, TyR, he]
        exact ⟨k - 1, by omega, _, (by simp only [↓SS, Nat.reduceEqDiff, Int.reduceToNat, Int.cast_ofNat_Int, Int.reduceSub, Int.reduceAdd, Nat.reduceAdd, Nat.reduceMul, Nat.reduceSub, ↓reduceIte, rd_eq, Int.natCast_add, Int.cast_ofNat_Int]), m + 1, by omega, rfl, by rw [hs, hall, hf]; simp⟩
      · have hf : redge M of m v = true := hl.1 he
        simp (disch := omega) only [↓SS, A, Nat.reduceEqDiff, Int.reduceToNat, Int.cast_ofNat_Int, Int.reduceSub, Int.reduceAdd, Nat.reduceAdd, Nat.reduceMul, Nat.reduceSub, ↓reduceIte, rd_eq, TyR, he]
        have this : okAll n (redge M of) D v (m + 1) = false := by rw [hs, hall, hf, hD]; rfl
        have key : okAll n (redge M of) D v n = false := by
          unfold okAll at this ⊢
          rw [List.all_eq_false] at this ⊢
          obtain ⟨u, hu, hu2⟩ := this
          exact ⟨u, List.mem_range.2 (by have := List.mem_range.1 hu; omega), hu2⟩
        rw [key]
  · have : m = n := by omega
    subst this
    simp (disch := omega) only [↓SS, A, Nat.reduceEqDiff, Int.reduceToNat, Int.cast_ofNat_Int, Int.reduceSub, Int.reduceAdd, Nat.reduceAdd, Nat.reduceMul, Nat.reduceSub, ↓reduceIte, rd_eq, TyR, hall]
theorem rorder_ok {h : Heap} {x n : Nat} {rv : Value} {rb : Nat → Nat} {M : Nat → Nat → Nat} (q : isR h x n rv rb M) {of : Int} :
    Ct Tryd.prog 77 [ptr x 0, .int .i64 of] h fun v h' => ordR (Tar.ordF n (redge M of) n []) h h' v ∧ Ge h h' := by
  obtain ⟨ra, rc, hrv, hn⟩ := q.len
  have c0 := q.c0
  rw [hrv] at c0
  refine enter Tryd.func77 (by kernel_rfl) rfl Tryd.results77 (by kernel_rfl) (by kernel_rfl) (init2 _ _) ?_
  simp (disch := omega) only [↓SS, A, Nat.reduceEqDiff, Int.reduceToNat, Int.cast_ofNat_Int, Int.reduceSub, Int.reduceAdd, Nat.reduceAdd, Nat.reduceMul, Nat.reduceSub, ↓reduceIte, rd_eq, TyR, c0]
  refine vmk_ok elBools (by omega) (by omega) (by omega) (by omega) ?_
  rw [Int.toNat_natCast, arrV_made _ _ rfl]
  simp (disch := omega) only [↓SS, A, Nat.reduceEqDiff, Int.reduceToNat, Int.cast_ofNat_Int, Int.reduceSub, Int.reduceAdd, Nat.reduceAdd, Nat.reduceMul, Nat.reduceSub, ↓reduceIte, rd_eq, TyR]
  have g1 : Ge h (h.push (.cells (arrB n fun _ => false) 4)) := Ge.push _ _
  have e1 : (h.push (.cells (arrB n fun _ => false) 4))[h.size]? = some (.cells (arrB n fun _ => false) 4 (0, 0)) := push_new _ _
  have c1 := Ge.cell g1 c0
  have hs1 : (h.push (.cells (arrB n fun _ => false) 4)).size = h.size + 1 := Array.size_push _
  generalize h.push (.cells (arrB n fun _ => false) 4) = h1 at *
  generalize hbs : h.size = b at *
  simp (disch := omega) only [↓SS, A, Nat.reduceEqDiff, Int.reduceToNat, Int.cast_ofNat_Int, Int.reduceSub, Int.reduceAdd, Nat.reduceAdd, Nat.reduceMul, Nat.reduceSub, ↓reduceIte, rd_eq, TyR, c1]
  refine vloop_mk (fun k fr h' => ∃ (i : Nat) (l : List Nat) (lv : Value), i + k = n ∧ l.length = i ∧ fr = [(23, .int .i64 i), (22, .int .i64 n), (7, lv), (6, sl b 0 n n), (0, ptr x 0), (1, .int .i64 of)] ∧ Ge h h' ∧
      Tar.ordF n (redge M of) k l = Tar.ordF n (redge M of) n [] ∧ Own h' h1.size 3 1 lv l.length (ints l) ∧ (lv = .slice none 0 0 ↔ l = []) ∧
      h'[b]? = some (.cells (arrB n fun m => l.contains m) 4 (0, 0))) n
    [(23, .int .i64 0), (22, .int .i64 n), (7, .slice none 0 0), (6, sl b 0 n n), (0, ptr x 0), (1, .int .i64 of)] (by simp only [↓SS, Nat.reduceEqDiff, Int.reduceToNat, Int.cast_ofNat_Int, Int.reduceSub, Int.reduceAdd, Nat.reduceAdd, Nat.reduceMul, Nat.reduceSub, ↓reduceIte, rd_eq, TyR]) ⟨0, [], _, by omega, rfl, rfl, g1, rfl, Own.nil _ _ _ _, by simp, by simpa using e1⟩ ?_
  rintro k _ h2 ⟨i, l, lv, hik, hll, rfl, g2, hord, hol, hnl, e2⟩
  have c2 := Ge.cell g2 c0
  by_cases hi : i < n
  · obtain ⟨k3, rfl⟩ : ∃ k3, k = k3 + 1 := ⟨k - 1, by omega⟩
    simp (disch := omega) only [↓SS, A, Nat.reduceEqDiff, Int.reduceToNat, Int.cast_ofNat_Int, Int.reduceSub, Int.reduceAdd, Nat.reduceAdd, Nat.reduceMul, Nat.reduceSub, ↓reduceIte, rd_eq, TyR, c2]
    -- the first that is free
    refine vloop_mk (fun k' fr h' => ∃ (m : Nat) (nx : Int), m + k' = n ∧ fr = [(30, .int .i64 m), (29, .int .i64 n), (8, .int .i64 nx), (23, .int .i64 i), (22, .int .i64 n), (7, lv), (6, sl b 0 n n), (0, ptr x 0), (1, .int .i64 of)] ∧ h2 = h' ∧
        ((nx = -1 ∧ ∀ j, j < m → Tar.free n (redge M of) l j = false) ∨ ∃ v : Nat, nx = v ∧ v < m ∧ Tar.free n (redge M of) l v = true ∧ ∀ j, j < v → Tar.free n (redge M of) l j = false)) n
      [(30, .int .i64 0), (29, .int .i64 n), (8, .int .i64 (-1)), (23, .int .i64 i), (22, .int .i64 n), (7, lv), (6, sl b 0 n n), (0, ptr x 0), (1, .int .i64 of)] (by simp only [↓SS, Nat.reduceEqDiff, Int.reduceToNat, Int.cast_ofNat_Int, Int.reduceSub, Int.reduceAdd, Nat.reduceAdd, Nat.reduceMul, Nat.reduceSub, ↓reduceIte, rd_eq, TyR]) ⟨0, -1, by omega, rfl, rfl, .inl ⟨rfl, by omega⟩⟩ ?_
    rintro k' _ _ ⟨m, nx, hmk, rfl, rfl, hnx⟩
    by_cases hm : m < n
    · have hc := arrB_cell e2 hm
      have hfree : Tar.free n (redge M of) l m = (!l.contains m && okAll n (redge M of) (fun u => l.contains u) m n) := rfl
      cases hD : l.contains m with
      | true =>
        rw [hD] at hc
        simp (disch := omega) only [↓SS, A, Nat.reduceEqDiff, Int.reduceToNat, Int.cast_ofNat_Int, Int.reduceSub, Int.reduceAdd, Nat.reduceAdd, Nat.reduceMul, Nat.reduceSub, ↓reduceIte, rd_eq, TyR, hc]
        refine ⟨k' - 1, by omega, _, (by simp only [↓SS, Nat.reduceEqDiff, Int.reduceToNat, Int.cast_ofNat_Int, Int.reduceSub, Int.reduceAdd, Nat.reduceAdd, Nat.reduceMul, Nat.reduceSub, ↓reduceIte, rd_eq, Int.natCast_add, Int.cast_ofNat_Int]), m + 1, nx, by omega, rfl, ?_⟩
        rcases hnx with ⟨h1, h2⟩ | ⟨v, h1, h2, h3, h4⟩
        · refine .inl ⟨h1, fun j hj => ?_⟩
          by_cases e : j = m
          · subst e; rw [hfree, hD]; rfl
          · exact h2 j (by omega)
        · exact .inr ⟨v, h1, by omega, h3, h4⟩
      | false =>
        rw [hD] at hc
        rcases hnx with ⟨rfl, h2'⟩ | ⟨v, rfl, h2', h3, h4⟩
        · simp (disch := omega) only [↓SS, A, Nat.reduceEqDiff, Int.reduceToNat, Int.cast_ofNat_Int, Int.reduceSub, Int.reduceAdd, Nat.reduceAdd, Nat.reduceMul, Nat.reduceSub, ↓reduceIte, rd_eq, TyR, hc]
          refine vcall_mk (rfree_ok (q.ge g2) hm e2) ?_
          rintro _ _ ⟨rfl, rfl⟩
          cases hA : okAll n (redge M of) (fun u => l.contains u) m n with
          | true =>
            simp (disch := omega) only [↓SS, A, Nat.reduceEqDiff, Int.reduceToNat, Int.cast_ofNat_Int, Int.reduceSub, Int.reduceAdd, Nat.reduceAdd, Nat.reduceMul, Nat.reduceSub, ↓reduceIte, rd_eq, TyR, hA]
            refine ⟨k' - 1, by omega, _, (by simp only [↓SS, Nat.reduceEqDiff, Int.reduceToNat, Int.cast_ofNat_Int, Int.reduceSub, Int.reduceAdd, Nat.reduceAdd, Nat.reduceMul, Nat.reduceSub, ↓reduceIte, rd_eq, Int.natCast_add, Int.cast_ofNat_Int]), m + 1, m, by omega, rfl, .inr ⟨m, rfl, by omega, by rw [hfree, hD, hA]; rfl, h2'⟩⟩
          | false =>
            simp (disch := omega) only [↓SS, A, Nat.reduceEqDiff, Int.reduceToNat, Int.cast_ofNat_Int, Int.reduceSub, Int.reduceAdd, Nat.reduceAdd, Nat.reduceMul, Nat.reduceSub, ↓reduceIte, rd_eq, TyR, hA]
            refine ⟨k' - 1, by omega, _, (by simp only [↓SS, Nat.reduceEqDiff, Int.reduceToNat, Int.cast_ofNat_Int, Int.reduceSub, Int.reduceAdd, Nat.reduceAdd, Nat.reduceMul, Nat.reduceSub, ↓reduceIte, rd_eq, Int.natCast_add, Int.cast_ofNat_Int]), m + 1, -1, by omega, rfl, .inl ⟨rfl, fun j hj => ?_⟩⟩
            by_cases e : j = m
            · subst e; rw [hfree, hA]; simp
            · exact h2' j (by omega)
        · simp (disch := omega) only [↓SS, A, Nat.reduceEqDiff, Int.reduceToNat, Int.cast_ofNat_Int, Int.reduceSub, Int.reduceAdd, Nat.reduceAdd, Nat.reduceMul, Nat.reduceSub, ↓reduceIte, rd_eq, TyR, hc]
          exact ⟨k' - 1, by omega, _, (by simp only [↓SS, Nat.reduceEqDiff, Int.reduceToNat, Int.cast_ofNat_Int, Int.reduceSub, Int.reduceAdd, Nat.reduceAdd, Nat.reduceMul, Nat.reduceSub, ↓reduceIte, rd_eq, Int.natCast_add, Int.cast_ofNat_Int]), m + 1, v, by omega, rfl, .inr ⟨v, rfl, by omega, h3, h4⟩⟩
    · have : m = n := by omega
      subst this
      rcases hnx with ⟨rfl, hno⟩ | ⟨v, rfl, hv, hf, hfirst⟩
      · have hp : Tar.pick m (redge M of) l = none := by
          rw [Tar.pick, List.find?_range_eq_none]
          intro j hj
          rw [hno j hj]; rfl
        have hr : Tar.ordF m (redge M of) m [] = none := by rw [← hord]; simp [Tar.ordF, hp]
        simp (disch := omega) only [↓SS, A, Nat.reduceEqDiff, Int.reduceToNat, Int.cast_ofNat_Int, Int.reduceSub, Int.reduceAdd, Nat.reduceAdd, Nat.reduceMul, Nat.reduceSub, ↓reduceIte, rd_eq, TyR]
        rw [hr]
        exact ⟨rfl, g2⟩
      · have hp : Tar.pick m (redge M of) l = some v := by
          rw [Tar.pick, List.find?_range_eq_some]
          exact ⟨hf, List.mem_range.2 hv, fun j hj => by rw [hfirst j hj]; rfl⟩
        simp (disch := omega) only [↓SS, A, Nat.reduceEqDiff, Int.reduceToNat, Int.cast_ofNat_Int, Int.reduceSub, Int.reduceAdd, Nat.reduceAdd, Nat.reduceMul, Nat.reduceSub, ↓reduceIte, rd_eq, TyR]
        refine vst_up rfl rfl e2 (by simp [Value.cells, arrV_size]; omega) ?_
        intro h3 e3 up3
        replace e3 : h3[b]? = some (.cells (arrB m fun u => (l ++ [v]).contains u) 4 (0, 0)) := by
          rw [e3]
          simp only [Value.cells]
          rw [arrB_set _ hv]
          congr 2
          apply arrV_congr
          intro j _
          congr 1
          simp only [upd]
          by_cases e : j = v
          · subst e; simp
          · rw [if_neg e, Bool.eq_iff_iff, List.contains_iff_mem, List.contains_iff_mem]; simp [e]
        have g3 := up3.ge g2 (by omega)
        have hlb : ∀ bb, lv.ownBlock = some bb → bb ≠ b := by
          intro bb hb
          have := (Own.blk hol hb).1
          omega
        have hol3 := hol.grow up3.grow (by
          cases hb : lv.ownBlock with
          | none => exact .inl rfl
          | some bb => right; exact fun e => hlb bb hb (Option.some.inj e))
        simp (disch := omega) only [↓SS, A, Nat.reduceEqDiff, Int.reduceToNat, Int.cast_ofNat_Int, Int.reduceSub, Int.reduceAdd, Nat.reduceAdd, Nat.reduceMul, Nat.reduceSub, ↓reduceIte, rd_eq, TyR]
        refine vbs_one elInts rfl rfl (by omega) (by omega) ?_
        simp (disch := omega) only [↓SS, A, Nat.reduceEqDiff, Int.reduceToNat, Int.cast_ofNat_Int, Int.reduceSub, Int.reduceAdd, Nat.reduceAdd, Nat.reduceMul, Nat.reduceSub, ↓reduceIte, rd_eq, TyR]
        have g4 : Ge h3 (h3.push (.cells (Value.int .i64 v).cells 3)) := Ge.push _ _
        have e4 : (h3.push (.cells (Value.int .i64 v).cells 3))[h3.size]? = some (.cells (Value.int .i64 v).cells 3 (0, 0)) := push_new _ _
        have e4' := g4.lookup e3
        generalize h3.push (.cells (Value.int .i64 v).cells 3) = h4 at *
        generalize h3.size = nb at *
        refine vapp_own elInts rfl (by omega) (hol3.ge g4) (rdRow_blk e4 (by simp [Value.cells])) (by simp [Value.cells]; rfl) (by omega) (by omega) (by have := Ge.lt e4'; omega) ?_
        intro lv2 h5 ho5 gr5 hn5
        have gh5 : Ge h h5 := Own.gee (h0 := h) (Own.base (hol3.ge g4) (by have := g1.size; omega)) (g3.trans g4) gr5
        simp (disch := omega) only [↓SS, A, Nat.reduceEqDiff, Int.reduceToNat, Int.cast_ofNat_Int, Int.reduceSub, Int.reduceAdd, Nat.reduceAdd, Nat.reduceMul, Nat.reduceSub, ↓reduceIte, rd_eq, TyR]
        refine ⟨k3, by omega, _, (by simp only [↓SS, Nat.reduceEqDiff, Int.reduceToNat, Int.cast_ofNat_Int, Int.reduceSub, Int.reduceAdd, Nat.reduceAdd, Nat.reduceMul, Nat.reduceSub, ↓reduceIte, rd_eq, Int.natCast_add, Int.cast_ofNat_Int]), i + 1, l ++ [v], lv2, by omega, by simp [hll], rfl, gh5, ?_, ?_, ?_, ?_⟩
        · rw [← hord]; simp [Tar.ordF, hp]
        · simpa [ints, Value.cells] using ho5
        · rw [hn5, hnl]; simp
        · rw [gr5.block b (Ge.lt e4') (fun e => hlb b e.symm rfl)]; exact e4'
  · have : i = n := by omega
    subst this
    have hk0 : k = 0 := by omega
    subst hk0
    have hr : Tar.ordF i (redge M of) i [] = some l := by rw [← hord]; rfl
    simp (disch := omega) only [↓SS, A, Nat.reduceEqDiff, Int.reduceToNat, Int.cast_ofNat_Int, Int.reduceSub, Int.reduceAdd, Nat.reduceAdd, Nat.reduceMul, Nat.reduceSub, ↓reduceIte, rd_eq, TyR]
    rw [hr]
    exact ⟨⟨_, rfl, Own.base hol (by have := g1.size; omega), hnl⟩, g2⟩
end Go.Proofs.YtgfljbplccekcaaDoor
