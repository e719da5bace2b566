/-
  Package comps: Components, as a contract; conditions: the graph was made by graph.New, the table of math/bits lies in memory.
-/
import Derived.Test.YtgfljbplccekcaaDoorTj5
import Derived.Test.YtgfljbplccekcaaDoorSf
import Derived.Test.YtgfljbplccekcaaDoorV8
set_option linter.unusedSimpArgs false
set_option linter.unusedVariables false
set_option maxRecDepth 100000
namespace Go.Proofs.YtgfljbplccekcaaDoor
open Go Go.V Go.Low

/-- a slice of rows of integers -/
def isLL (h : Heap) (v : Value) (L : List (List Int)) : Prop :=
  ∃ a c ws, v = .slice a L.length c ∧ L.length ≤ c ∧ c ≤ 9223372036854775807 ∧ ws.length = L.length ∧ (0 < L.length → ∃ b o, a = some ⟨b, o, none⟩ ∧ rdRow h b o L.length = some ws) ∧
    ∀ (i : Nat) (w : Value) (xs : List Int), ws[i]? = some w → L[i]? = some xs → Ints h w xs
theorem isLL.ge {h h' : Heap} (g : Ge h h') {v : Value} {L : List (List Int)} (q : isLL h v L) : isLL h' v L := by
  obtain ⟨a, c, ws, e, h1, h2, h3, h4, h5⟩ := q
  exact ⟨a, c, ws, e, h1, h2, h3, fun hl => by obtain ⟨b, o, e2, h6⟩ := h4 hl; exact ⟨b, o, e2, g.rdRow h6⟩, fun i w xs hw hx => (h5 i w xs hw hx).ge g⟩
theorem isLL.nil (h : Heap) : isLL h (.slice none 0 0) [] := ⟨none, 0, [], rfl, by simp, by omega, rfl, by simp, by simp⟩
theorem elRows3 : elT Tryd.prog 51 = some (23, 1, 24, .slice none 0 0) := by kernel_rfl
theorem elBools3 : elT Tryd.prog 111 = some (4, 1, 1, .bool false) := by kernel_rfl
theorem isT.start {h h1 : Heap} {t n nb lb ob g : Nat} {of : Int} (hn : n ≤ 300) (ge : Ge h h1) (l1 : h.size ≤ t) (l2 : h.size ≤ nb) (l3 : h.size ≤ lb) (l4 : h.size ≤ ob) (hne : nb ≠ lb)
    (e0 : h1[t]? = some (.cells #[ptr g 0, .int .i64 of, .int .i64 0, sl nb 0 n n, sl lb 0 n n, sl ob 0 n n, .slice none 0 0, .slice none 0 0] 120 (0, 0)))
    (e1 : h1[nb]? = some (.cells (arrI n fun _ => 0) 3 (0, 0))) (e2 : h1[lb]? = some (.cells (arrI n fun _ => 0) 3 (0, 0))) (e3 : h1[ob]? = some (.cells (arrB n fun _ => false) 4 (0, 0))) :
    isT h h1 t n nb lb ob (ptr g 0) of (.slice none 0 0) (.slice none 0 0) { next := 0, num := fun _ => 0, low := fun _ => 0, on := fun _ => false, op := [], out := [], stk := [] } :=
  ⟨ge, ⟨l1, l2, l3, l4⟩, e0, e1, e2, e3, Own.nil _ _ _ _, ⟨[], Own.nil _ _ _ _, by simp⟩, ⟨hne, by simp [Value.ownBlock], by simp [Value.ownBlock]⟩, hn⟩
theorem whites_start (n : Nat) : Tar.whites n { next := 0, num := fun _ => 0, low := fun _ => 0, on := fun _ => false, op := [], out := [], stk := [] } ≤ n := by
  unfold Tar.whites
  have := List.countP_le_length (p := fun x => (({ next := 0, num := fun _ => 0, low := fun _ => 0, on := fun _ => false, op := [], out := [], stk := [] } : Tar.St).num x == 0)) (l := List.range n)
  rw [List.length_range] at this
  exact this
theorem mkInts {h : Heap} {n : Nat} (hn : n ≤ 300) {k : Value → Heap → Prop} (hk : ∀ h', Ge h h' → h.size < h'.size → h'[h.size]? = some (.cells (arrI n fun _ => 0) 3 (0, 0)) → k (sl h.size 0 n n) h') : vmk Tryd.prog 23 (.int .i64 n) (.int .i64 n) h k := by
  refine vmk_ok elInts (by omega) (by omega) (by omega) (by omega) ?_
  rw [Int.toNat_natCast, arrV_made _ _ rfl]
  exact hk _ (Ge.push _ _) (by simp) (push_new _ _)
theorem mkBools {h : Heap} {n : Nat} (hn : n ≤ 300) {k : Value → Heap → Prop} (hk : ∀ h', Ge h h' → h.size < h'.size → h'[h.size]? = some (.cells (arrB n fun _ => false) 4 (0, 0)) → k (sl h.size 0 n n) h') : vmk Tryd.prog 111 (.int .i64 n) (.int .i64 n) h k := by
  refine vmk_ok elBools3 (by omega) (by omega) (by omega) (by omega) ?_
  rw [Int.toNat_natCast, arrV_made _ _ rfl]
  exact hk _ (Ge.push _ _) (by simp) (push_new _ _)
theorem setL_size (c : Array Value) : ∀ (vs : List Value) (o : Nat), (setL c o vs).size = c.size
  | [], _ => rfl
  | v :: vs, o => by simp only [setL]; rw [setL_size _ vs]; simp
theorem sortNil {h : Heap} {fv : Value} {a : Option Addr} {c : Nat} : Ct Tryd.prog 68 [.slice a 0 c, fv] h fun v h' => v = .tuple #[] ∧ h = h' := by
  refine ⟨⟨Tryd.f68, by kernel_rfl, by kernel_rfl, by kernel_rfl⟩, fun w hw => ?_⟩
  refine (Tryd.slices_SortFunc_none (α := Int) a c fv w).mono ?_
  rintro e w' ⟨rfl, rfl⟩
  exact ⟨_, rfl, Same.refl _, rfl, hw.symm⟩
theorem perm_lift {α β : Type} {f : α → β} {l' l : List β} (hp : l'.Perm l) : ∀ zs : List α, zs.map f = l → ∃ zs' : List α, zs'.Perm zs ∧ zs'.map f = l' := by
  induction hp with
  | nil => intro zs h; exact ⟨[], by cases zs with | nil => exact .nil | cons a l => simp at h, rfl⟩
  | cons x _ ih =>
    intro zs h
    cases zs with
    | nil => simp at h
    | cons a l =>
      simp only [List.map_cons, List.cons.injEq] at h
      obtain ⟨zs', h1, h2⟩ := ih l h.2
      exact ⟨a :: zs', h1.cons a, by simp [h.1, h2]⟩
  | swap x y l =>
    intro zs h
    match zs, h with
    | a :: b :: r, h =>
      simp only [List.map_cons, List.cons.injEq] at h
      exact ⟨b :: a :: r, .swap _ _ _, by simp [h.1, h.2.1, h.2.2]⟩
  | trans _ _ ih1 ih2 =>
    intro zs h
    obtain ⟨z2, p2, e2⟩ := ih2 zs h
    obtain ⟨z1, p1, e1⟩ := ih1 z2 e2
    exact ⟨z1, p1.trans p2, e1⟩
theorem rdRow_take {h : Heap} {b n : Nat} {cur : Array Value} {e : Nat} (hb : h[b]? = some (.cells cur e (0, 0))) (hn : n ≤ cur.size) : rdRow h b 0 n = some (cur.toList.take n) := by
  have key : ∀ (m o : Nat), o + m ≤ cur.size → rdRow h b o m = some ((cur.toList.drop o).take m) := by
    intro m
    induction m with
    | zero => intro o _; simp [rdRow]
    | succ m ih =>
      intro o ho
      have h1 : cur[o]? = some (cur[o]'(by omega)) := Array.getElem?_eq_getElem (by omega)
      simp only [rdRow, hcell, hb, h1, Option.bind_some]
      rw [ih (o + 1) (by omega)]
      simp only [Option.bind_some]
      have : cur.toList.drop o = cur[o]'(by omega) :: cur.toList.drop (o + 1) := by
        rw [List.drop_eq_getElem_cons (by simpa using (by omega : o < cur.size))]
        simp
      rw [this]; simp
  simpa using key n 0 (by omega)
set_option maxHeartbeats 1000000 in
theorem comps_ok {h : Heap} (tb : Tab h) {g n : Nat} {vs : Nat → Value} {L : Nat → List (Nat × Nat)} {E : Nat → Nat → Nat → Bool} (q : isG h g n vs L E) (hE : ∀ i u k, E i u k = true → k < n) {of : Int} :
    Ct Tryd.prog 31 [ptr g 0, .int .i64 of] h fun v h' => ∃ C, isLL h' v (C.map nats) ∧ Tar.Comps n (ed E of) C ∧ Tar.Heads C ∧ Ge h h' := by
  have c0 : hcell h g 0 = some (.int .i64 n) := by simp [hcell, q.blk, gcells]
  have hn := q.le
  refine enter Tryd.func31 (by kernel_rfl) rfl Tryd.results31 (by kernel_rfl) (by kernel_rfl) (init2 _ _) ?_
  simp (disch := omega) only [↓SS, A, Nat.reduceEqDiff, Int.reduceToNat, Int.cast_ofNat_Int, Int.reduceSub, Int.reduceAdd, Nat.reduceAdd, Nat.reduceMul, Nat.reduceSub, ↓reduceIte, rd_eq, TyT]
  refine vcall_mk (nodes_ok c0) ?_
  rintro _ _ ⟨rfl, rfl⟩
  simp (disch := omega) only [↓SS, A, Nat.reduceEqDiff, Int.reduceToNat, Int.cast_ofNat_Int, Int.reduceSub, Int.reduceAdd, Nat.reduceAdd, Nat.reduceMul, Nat.reduceSub, ↓reduceIte, rd_eq, TyT]
  refine vdraw_cut (fun s h' => ∃ t nb lb ob, s = [(6, ptr t 0), (5, .int .i64 n), (4, .slice none 0 0), (1, .int .i64 of), (0, ptr g 0)] ∧
    isT h h' t n nb lb ob (ptr g 0) of (.slice none 0 0) (.slice none 0 0) { next := 0, num := fun _ => 0, low := fun _ => 0, on := fun _ => false, op := [], out := [], stk := [] }) (by repeat' first | exact vround_mono _ _ | exact vend_mono _ _ | exact vexit_mono _ _ | refine vc_mono _ ?_ ?_ | refine inB_mono ?_ ?_ | refine jmp_mono ?_ ?_ | refine vl_mono ?_ _) ?_ ?_
  · refine vdraw_fork3 [] [(0, 0), (1, 0), (2, 0), (4, 0), (6, 0)] 3 5 7
      (.fork [] 5 7 (.line [(7, 2), (8, 2), (9, 2), (10, 0)]) (.line [(5, 2), (8, 2), (9, 2), (10, 0)]))
      (.fork [] 3 7 (.line [(7, 2), (8, 2), (9, 2), (10, 0)]) (.line [(3, 2), (8, 2), (9, 2), (10, 0)]))
      (.fork [] 3 5 (.line [(5, 2), (8, 2), (9, 2), (10, 0)]) (.line [(3, 2), (8, 2), (9, 2), (10, 0)])) mixed (by kernel_rfl) ?_
    simp (disch := omega) only [↓SS, A, Nat.reduceEqDiff, Int.reduceToNat, Int.cast_ofNat_Int, Int.reduceSub, Int.reduceAdd, Nat.reduceAdd, Nat.reduceMul, Nat.reduceSub, ↓reduceIte, rd_eq, TyT]
    refine ⟨?_, ?_, ?_⟩
    · refine mkInts hn fun h1 g1 l1 enb => ?_
      generalize hnb : h.size = nb at *
      refine ⟨(Kb.refl _ _).ge g1, ?_⟩
      simp (disch := omega) only [↓SS, A, Nat.reduceEqDiff, Int.reduceToNat, Int.cast_ofNat_Int, Int.reduceSub, Int.reduceAdd, Nat.reduceAdd, Nat.reduceMul, Nat.reduceSub, ↓reduceIte, rd_eq, TyT]
      refine ⟨?_, ?_⟩
      · refine mkInts hn fun h2 g2 l2 elb => ?_
        replace enb := g2.lookup enb
        generalize hlb : h1.size = lb at *
        refine ⟨(Kb.refl _ _).ge (g1.trans g2), ?_⟩
        simp (disch := omega) only [↓SS, A, Nat.reduceEqDiff, Int.reduceToNat, Int.cast_ofNat_Int, Int.reduceSub, Int.reduceAdd, Nat.reduceAdd, Nat.reduceMul, Nat.reduceSub, ↓reduceIte, rd_eq, TyT]
        refine mkBools hn fun h3 g3 l3 eob => ?_
        replace enb := g3.lookup enb
        replace elb := g3.lookup elb
        generalize hob : h2.size = ob at *
        refine ⟨(Kb.refl _ _).ge ((g1.trans g2).trans g3), ?_⟩
        simp (disch := omega) only [↓SS, A, Nat.reduceEqDiff, Int.reduceToNat, Int.cast_ofNat_Int, Int.reduceSub, Int.reduceAdd, Nat.reduceAdd, Nat.reduceMul, Nat.reduceSub, ↓reduceIte, rd_eq, TyT]
        refine vbd_ok (cells := #[ptr g 0, .int .i64 of, .int .i64 0, sl nb 0 n n, sl lb 0 n n, sl ob 0 n n, .slice none 0 0, .slice none 0 0]) (by kernel_rfl) ?_
        refine ⟨(Kb.refl _ _).ge ((g1.trans g2).trans g3), ?_⟩
        simp (disch := omega) only [↓SS, A, Nat.reduceEqDiff, Int.reduceToNat, Int.cast_ofNat_Int, Int.reduceSub, Int.reduceAdd, Nat.reduceAdd, Nat.reduceMul, Nat.reduceSub, ↓reduceIte, rd_eq, TyT]
        refine ⟨(Kb.refl _ _).ge (((g1.trans g2).trans g3).trans (Ge.push _ _)), ?_⟩
        simp (disch := omega) only [↓SS, A, Nat.reduceEqDiff, Int.reduceToNat, Int.cast_ofNat_Int, Int.reduceSub, Int.reduceAdd, Nat.reduceAdd, Nat.reduceMul, Nat.reduceSub, ↓reduceIte, rd_eq, TyT]
        exact ⟨_, (by simp only [↓SS, Nat.reduceEqDiff, Int.reduceToNat, Int.cast_ofNat_Int, Int.reduceSub, Int.reduceAdd, Nat.reduceAdd, Nat.reduceMul, Nat.reduceSub, ↓reduceIte, rd_eq, Int.natCast_add, Int.cast_ofNat_Int]), h3.size, nb, lb, ob, rfl, isT.start hn (((g1.trans g2).trans g3).trans (Ge.push _ _)) (by omega) (by omega) (by omega) (by omega) (by omega) (push_new _ _) ((Ge.push _ _).lookup enb) ((Ge.push _ _).lookup elb) ((Ge.push _ _).lookup eob)⟩
      · refine mkBools hn fun h2 g2 l2 eob => ?_
        replace enb := g2.lookup enb
        generalize hob : h1.size = ob at *
        refine ⟨(Kb.refl _ _).ge (g1.trans g2), ?_⟩
        simp (disch := omega) only [↓SS, A, Nat.reduceEqDiff, Int.reduceToNat, Int.cast_ofNat_Int, Int.reduceSub, Int.reduceAdd, Nat.reduceAdd, Nat.reduceMul, Nat.reduceSub, ↓reduceIte, rd_eq, TyT]
        refine mkInts hn fun h3 g3 l3 elb => ?_
        replace enb := g3.lookup enb
        replace eob := g3.lookup eob
        generalize hlb : h2.size = lb at *
        refine ⟨(Kb.refl _ _).ge ((g1.trans g2).trans g3), ?_⟩
        simp (disch := omega) only [↓SS, A, Nat.reduceEqDiff, Int.reduceToNat, Int.cast_ofNat_Int, Int.reduceSub, Int.reduceAdd, Nat.reduceAdd, Nat.reduceMul, Nat.reduceSub, ↓reduceIte, rd_eq, TyT]
        refine vbd_ok (cells := #[ptr g 0, .int .i64 of, .int .i64 0, sl nb 0 n n, sl lb 0 n n, sl ob 0 n n, .slice none 0 0, .slice none 0 0]) (by kernel_rfl) ?_
        refine ⟨(Kb.refl _ _).ge ((g1.trans g2).trans g3), ?_⟩
        simp (disch := omega) only [↓SS, A, Nat.reduceEqDiff, Int.reduceToNat, Int.cast_ofNat_Int, Int.reduceSub, Int.reduceAdd, Nat.reduceAdd, Nat.reduceMul, Nat.reduceSub, ↓reduceIte, rd_eq, TyT]
        refine ⟨(Kb.refl _ _).ge (((g1.trans g2).trans g3).trans (Ge.push _ _)), ?_⟩
        simp (disch := omega) only [↓SS, A, Nat.reduceEqDiff, Int.reduceToNat, Int.cast_ofNat_Int, Int.reduceSub, Int.reduceAdd, Nat.reduceAdd, Nat.reduceMul, Nat.reduceSub, ↓reduceIte, rd_eq, TyT]
        exact ⟨_, (by simp only [↓SS, Nat.reduceEqDiff, Int.reduceToNat, Int.cast_ofNat_Int, Int.reduceSub, Int.reduceAdd, Nat.reduceAdd, Nat.reduceMul, Nat.reduceSub, ↓reduceIte, rd_eq, Int.natCast_add, Int.cast_ofNat_Int]), h3.size, nb, lb, ob, rfl, isT.start hn (((g1.trans g2).trans g3).trans (Ge.push _ _)) (by omega) (by omega) (by omega) (by omega) (by omega) (push_new _ _) ((Ge.push _ _).lookup enb) ((Ge.push _ _).lookup elb) ((Ge.push _ _).lookup eob)⟩
    · refine mkInts hn fun h1 g1 l1 elb => ?_
      generalize hlb : h.size = lb at *
      refine ⟨(Kb.refl _ _).ge g1, ?_⟩
      simp (disch := omega) only [↓SS, A, Nat.reduceEqDiff, Int.reduceToNat, Int.cast_ofNat_Int, Int.reduceSub, Int.reduceAdd, Nat.reduceAdd, Nat.reduceMul, Nat.reduceSub, ↓reduceIte, rd_eq, TyT]
      refine ⟨?_, ?_⟩
      · refine mkInts hn fun h2 g2 l2 enb => ?_
        replace elb := g2.lookup elb
        generalize hnb : h1.size = nb at *
        refine ⟨(Kb.refl _ _).ge (g1.trans g2), ?_⟩
        simp (disch := omega) only [↓SS, A, Nat.reduceEqDiff, Int.reduceToNat, Int.cast_ofNat_Int, Int.reduceSub, Int.reduceAdd, Nat.reduceAdd, Nat.reduceMul, Nat.reduceSub, ↓reduceIte, rd_eq, TyT]
        refine mkBools hn fun h3 g3 l3 eob => ?_
        replace elb := g3.lookup elb
        replace enb := g3.lookup enb
        generalize hob : h2.size = ob at *
        refine ⟨(Kb.refl _ _).ge ((g1.trans g2).trans g3), ?_⟩
        simp (disch := omega) only [↓SS, A, Nat.reduceEqDiff, Int.reduceToNat, Int.cast_ofNat_Int, Int.reduceSub, Int.reduceAdd, Nat.reduceAdd, Nat.reduceMul, Nat.reduceSub, ↓reduceIte, rd_eq, TyT]
        refine vbd_ok (cells := #[ptr g 0, .int .i64 of, .int .i64 0, sl nb 0 n n, sl lb 0 n n, sl ob 0 n n, .slice none 0 0, .slice none 0 0]) (by kernel_rfl) ?_
        refine ⟨(Kb.refl _ _).ge ((g1.trans g2).trans g3), ?_⟩
        simp (disch := omega) only [↓SS, A, Nat.reduceEqDiff, Int.reduceToNat, Int.cast_ofNat_Int, Int.reduceSub, Int.reduceAdd, Nat.reduceAdd, Nat.reduceMul, Nat.reduceSub, ↓reduceIte, rd_eq, TyT]
        refine ⟨(Kb.refl _ _).ge (((g1.trans g2).trans g3).trans (Ge.push _ _)), ?_⟩
        simp (disch := omega) only [↓SS, A, Nat.reduceEqDiff, Int.reduceToNat, Int.cast_ofNat_Int, Int.reduceSub, Int.reduceAdd, Nat.reduceAdd, Nat.reduceMul, Nat.reduceSub, ↓reduceIte, rd_eq, TyT]
        exact ⟨_, (by simp only [↓SS, Nat.reduceEqDiff, Int.reduceToNat, Int.cast_ofNat_Int, Int.reduceSub, Int.reduceAdd, Nat.reduceAdd, Nat.reduceMul, Nat.reduceSub, ↓reduceIte, rd_eq, Int.natCast_add, Int.cast_ofNat_Int]), h3.size, nb, lb, ob, rfl, isT.start hn (((g1.trans g2).trans g3).trans (Ge.push _ _)) (by omega) (by omega) (by omega) (by omega) (by omega) (push_new _ _) ((Ge.push _ _).lookup enb) ((Ge.push _ _).lookup elb) ((Ge.push _ _).lookup eob)⟩
      · refine mkBools hn fun h2 g2 l2 eob => ?_
        replace elb := g2.lookup elb
        generalize hob : h1.size = ob at *
        refine ⟨(Kb.refl _ _).ge (g1.trans g2), ?_⟩
        simp (disch := omega) only [↓SS, A, Nat.reduceEqDiff, Int.reduceToNat, Int.cast_ofNat_Int, Int.reduceSub, Int.reduceAdd, Nat.reduceAdd, Nat.reduceMul, Nat.reduceSub, ↓reduceIte, rd_eq, TyT]
        refine mkInts hn fun h3 g3 l3 enb => ?_
        replace elb := g3.lookup elb
        replace eob := g3.lookup eob
        generalize hnb : h2.size = nb at *
        refine ⟨(Kb.refl _ _).ge ((g1.trans g2).trans g3), ?_⟩
        simp (disch := omega) only [↓SS, A, Nat.reduceEqDiff, Int.reduceToNat, Int.cast_ofNat_Int, Int.reduceSub, Int.reduceAdd, Nat.reduceAdd, Nat.reduceMul, Nat.reduceSub, ↓reduceIte, rd_eq, TyT]
        refine vbd_ok (cells := #[ptr g 0, .int .i64 of, .int .i64 0, sl nb 0 n n, sl lb 0 n n, sl ob 0 n n, .slice none 0 0, .slice none 0 0]) (by kernel_rfl) ?_
        refine ⟨(Kb.refl _ _).ge ((g1.trans g2).trans g3), ?_⟩
        simp (disch := omega) only [↓SS, A, Nat.reduceEqDiff, Int.reduceToNat, Int.cast_ofNat_Int, Int.reduceSub, Int.reduceAdd, Nat.reduceAdd, Nat.reduceMul, Nat.reduceSub, ↓reduceIte, rd_eq, TyT]
        refine ⟨(Kb.refl _ _).ge (((g1.trans g2).trans g3).trans (Ge.push _ _)), ?_⟩
        simp (disch := omega) only [↓SS, A, Nat.reduceEqDiff, Int.reduceToNat, Int.cast_ofNat_Int, Int.reduceSub, Int.reduceAdd, Nat.reduceAdd, Nat.reduceMul, Nat.reduceSub, ↓reduceIte, rd_eq, TyT]
        exact ⟨_, (by simp only [↓SS, Nat.reduceEqDiff, Int.reduceToNat, Int.cast_ofNat_Int, Int.reduceSub, Int.reduceAdd, Nat.reduceAdd, Nat.reduceMul, Nat.reduceSub, ↓reduceIte, rd_eq, Int.natCast_add, Int.cast_ofNat_Int]), h3.size, nb, lb, ob, rfl, isT.start hn (((g1.trans g2).trans g3).trans (Ge.push _ _)) (by omega) (by omega) (by omega) (by omega) (by omega) (push_new _ _) ((Ge.push _ _).lookup enb) ((Ge.push _ _).lookup elb) ((Ge.push _ _).lookup eob)⟩
    · refine mkBools hn fun h1 g1 l1 eob => ?_
      generalize hob : h.size = ob at *
      refine ⟨(Kb.refl _ _).ge g1, ?_⟩
      simp (disch := omega) only [↓SS, A, Nat.reduceEqDiff, Int.reduceToNat, Int.cast_ofNat_Int, Int.reduceSub, Int.reduceAdd, Nat.reduceAdd, Nat.reduceMul, Nat.reduceSub, ↓reduceIte, rd_eq, TyT]
      refine ⟨?_, ?_⟩
      · refine mkInts hn fun h2 g2 l2 enb => ?_
        replace eob := g2.lookup eob
        generalize hnb : h1.size = nb at *
        refine ⟨(Kb.refl _ _).ge (g1.trans g2), ?_⟩
        simp (disch := omega) only [↓SS, A, Nat.reduceEqDiff, Int.reduceToNat, Int.cast_ofNat_Int, Int.reduceSub, Int.reduceAdd, Nat.reduceAdd, Nat.reduceMul, Nat.reduceSub, ↓reduceIte, rd_eq, TyT]
        refine mkInts hn fun h3 g3 l3 elb => ?_
        replace eob := g3.lookup eob
        replace enb := g3.lookup enb
        generalize hlb : h2.size = lb at *
        refine ⟨(Kb.refl _ _).ge ((g1.trans g2).trans g3), ?_⟩
        simp (disch := omega) only [↓SS, A, Nat.reduceEqDiff, Int.reduceToNat, Int.cast_ofNat_Int, Int.reduceSub, Int.reduceAdd, Nat.reduceAdd, Nat.reduceMul, Nat.reduceSub, ↓reduceIte, rd_eq, TyT]
        refine vbd_ok (cells := #[ptr g 0, .int .i64 of, .int .i64 0, sl nb 0 n n, sl lb 0 n n, sl ob 0 n n, .slice none 0 0, .slice none 0 0]) (by kernel_rfl) ?_
        refine ⟨(Kb.refl _ _).ge ((g1.trans g2).trans g3), ?_⟩
        simp (disch := omega) only [↓SS, A, Nat.reduceEqDiff, Int.reduceToNat, Int.cast_ofNat_Int, Int.reduceSub, Int.reduceAdd, Nat.reduceAdd, Nat.reduceMul, Nat.reduceSub, ↓reduceIte, rd_eq, TyT]
        refine ⟨(Kb.refl _ _).ge (((g1.trans g2).trans g3).trans (Ge.push _ _)), ?_⟩
        simp (disch := omega) only [↓SS, A, Nat.reduceEqDiff, Int.reduceToNat, Int.cast_ofNat_Int, Int.reduceSub, Int.reduceAdd, Nat.reduceAdd, Nat.reduceMul, Nat.reduceSub, ↓reduceIte, rd_eq, TyT]
        exact ⟨_, (by simp only [↓SS, Nat.reduceEqDiff, Int.reduceToNat, Int.cast_ofNat_Int, Int.reduceSub, Int.reduceAdd, Nat.reduceAdd, Nat.reduceMul, Nat.reduceSub, ↓reduceIte, rd_eq, Int.natCast_add, Int.cast_ofNat_Int]), h3.size, nb, lb, ob, rfl, isT.start hn (((g1.trans g2).trans g3).trans (Ge.push _ _)) (by omega) (by omega) (by omega) (by omega) (by omega) (push_new _ _) ((Ge.push _ _).lookup enb) ((Ge.push _ _).lookup elb) ((Ge.push _ _).lookup eob)⟩
      · refine mkInts hn fun h2 g2 l2 elb => ?_
        replace eob := g2.lookup eob
        generalize hlb : h1.size = lb at *
        refine ⟨(Kb.refl _ _).ge (g1.trans g2), ?_⟩
        simp (disch := omega) only [↓SS, A, Nat.reduceEqDiff, Int.reduceToNat, Int.cast_ofNat_Int, Int.reduceSub, Int.reduceAdd, Nat.reduceAdd, Nat.reduceMul, Nat.reduceSub, ↓reduceIte, rd_eq, TyT]
        refine mkInts hn fun h3 g3 l3 enb => ?_
        replace eob := g3.lookup eob
        replace elb := g3.lookup elb
        generalize hnb : h2.size = nb at *
        refine ⟨(Kb.refl _ _).ge ((g1.trans g2).trans g3), ?_⟩
        simp (disch := omega) only [↓SS, A, Nat.reduceEqDiff, Int.reduceToNat, Int.cast_ofNat_Int, Int.reduceSub, Int.reduceAdd, Nat.reduceAdd, Nat.reduceMul, Nat.reduceSub, ↓reduceIte, rd_eq, TyT]
        refine vbd_ok (cells := #[ptr g 0, .int .i64 of, .int .i64 0, sl nb 0 n n, sl lb 0 n n, sl ob 0 n n, .slice none 0 0, .slice none 0 0]) (by kernel_rfl) ?_
        refine ⟨(Kb.refl _ _).ge ((g1.trans g2).trans g3), ?_⟩
        simp (disch := omega) only [↓SS, A, Nat.reduceEqDiff, Int.reduceToNat, Int.cast_ofNat_Int, Int.reduceSub, Int.reduceAdd, Nat.reduceAdd, Nat.reduceMul, Nat.reduceSub, ↓reduceIte, rd_eq, TyT]
        refine ⟨(Kb.refl _ _).ge (((g1.trans g2).trans g3).trans (Ge.push _ _)), ?_⟩
        simp (disch := omega) only [↓SS, A, Nat.reduceEqDiff, Int.reduceToNat, Int.cast_ofNat_Int, Int.reduceSub, Int.reduceAdd, Nat.reduceAdd, Nat.reduceMul, Nat.reduceSub, ↓reduceIte, rd_eq, TyT]
        exact ⟨_, (by simp only [↓SS, Nat.reduceEqDiff, Int.reduceToNat, Int.cast_ofNat_Int, Int.reduceSub, Int.reduceAdd, Nat.reduceAdd, Nat.reduceMul, Nat.reduceSub, ↓reduceIte, rd_eq, Int.natCast_add, Int.cast_ofNat_Int]), h3.size, nb, lb, ob, rfl, isT.start hn (((g1.trans g2).trans g3).trans (Ge.push _ _)) (by omega) (by omega) (by omega) (by omega) (by omega) (push_new _ _) ((Ge.push _ _).lookup enb) ((Ge.push _ _).lookup elb) ((Ge.push _ _).lookup eob)⟩
  · rintro s h1 ⟨t, nb, lb, ob, rfl, T1⟩
    simp (disch := omega) only [↓SS, A, Nat.reduceEqDiff, Int.reduceToNat, Int.cast_ofNat_Int, Int.reduceSub, Int.reduceAdd, Nat.reduceAdd, Nat.reduceMul, Nat.reduceSub, ↓reduceIte, rd_eq, TyT]
    refine vloop_mk (fun k fr h' => ∃ (i : Nat) (opv outv : Value) (σ : Tar.St), i + k = n ∧ fr = [(21, .int .i64 i), (20, .int .i64 n), (6, ptr t 0), (5, .int .i64 n), (4, .slice none 0 0), (1, .int .i64 of), (0, ptr g 0)] ∧ isT h h' t n nb lb ob (ptr g 0) of opv outv σ ∧
        Tar.Inv n (ed E of) σ ∧ σ.stk = [] ∧ σ.next + Tar.whites n σ ≤ n ∧ ∀ x, x < i → σ.num x ≠ 0) n
      [(21, .int .i64 0), (20, .int .i64 n), (6, ptr t 0), (5, .int .i64 n), (4, .slice none 0 0), (1, .int .i64 of), (0, ptr g 0)] (by simp only [↓SS, Nat.reduceEqDiff, Int.reduceToNat, Int.cast_ofNat_Int, Int.reduceSub, Int.reduceAdd, Nat.reduceAdd, Nat.reduceMul, Nat.reduceSub, ↓reduceIte, rd_eq, TyT]) ⟨0, _, _, _, by omega, rfl, T1, Tar.Inv.init, rfl, by simpa using whites_start n, by intro x hx; omega⟩ ?_
    rintro k _ h2 ⟨i, opv, outv, σ, hik, rfl, T2, I2, S2, W2, N2⟩
    have c3 : hcell h2 t 3 = some (sl nb 0 n n) := by simp [hcell, T2.blk]
    have c7 : hcell h2 t 7 = some outv := by simp [hcell, T2.blk]
    by_cases hi : i < n
    · have cn := arrI_cell T2.num hi
      by_cases hz : σ.num i = 0
      · have cn' : hcell h2 nb i = some (.int .i64 0) := by rw [cn, hz]; rfl
        simp (disch := omega) only [↓SS, A, Nat.reduceEqDiff, Int.reduceToNat, Int.cast_ofNat_Int, Int.reduceSub, Int.reduceAdd, Nat.reduceAdd, Nat.reduceMul, Nat.reduceSub, ↓reduceIte, rd_eq, TyT, c3, cn']
        refine vcall_mk (from_ok tb q hE T2 I2 S2 W2 hi hz) ?_
        rintro _ h3 ⟨rfl, opv3, outv3, σ3, T3, I3, S3, W3, M3, Z3⟩
        simp (disch := omega) only [↓SS, A, Nat.reduceEqDiff, Int.reduceToNat, Int.cast_ofNat_Int, Int.reduceSub, Int.reduceAdd, Nat.reduceAdd, Nat.reduceMul, Nat.reduceSub, ↓reduceIte, rd_eq, TyT]
        refine ⟨k - 1, by omega, _, (by simp only [↓SS, Nat.reduceEqDiff, Int.reduceToNat, Int.cast_ofNat_Int, Int.reduceSub, Int.reduceAdd, Nat.reduceAdd, Nat.reduceMul, Nat.reduceSub, ↓reduceIte, rd_eq, Int.natCast_add, Int.cast_ofNat_Int]), i + 1, opv3, outv3, σ3, by omega, rfl, T3, I3, S3, W3, fun x hx => ?_⟩
        rcases Nat.lt_or_ge x i with h4 | h4
        · exact M3 x (N2 x h4)
        · obtain rfl : x = i := by omega
          exact Z3
      · have hz' : ¬ ((σ.num i : Nat) : Int) = 0 := by omega
        simp (disch := omega) only [↓SS, A, Nat.reduceEqDiff, Int.reduceToNat, Int.cast_ofNat_Int, Int.reduceSub, Int.reduceAdd, Nat.reduceAdd, Nat.reduceMul, Nat.reduceSub, ↓reduceIte, rd_eq, TyT, c3, cn, hz']
        refine ⟨k - 1, by omega, _, (by simp only [↓SS, Nat.reduceEqDiff, Int.reduceToNat, Int.cast_ofNat_Int, Int.reduceSub, Int.reduceAdd, Nat.reduceAdd, Nat.reduceMul, Nat.reduceSub, ↓reduceIte, rd_eq, Int.natCast_add, Int.cast_ofNat_Int]), i + 1, opv, outv, σ, by omega, rfl, T2, I2, S2, W2, fun x hx => ?_⟩
        rcases Nat.lt_or_ge x i with h4 | h4
        · exact N2 x h4
        · obtain rfl : x = i := by omega
          exact hz
    · obtain rfl : i = n := by omega
      have C := I2.comps S2 N2
      simp (disch := omega) only [↓SS, A, Nat.reduceEqDiff, Int.reduceToNat, Int.cast_ofNat_Int, Int.reduceSub, Int.reduceAdd, Nat.reduceAdd, Nat.reduceMul, Nat.reduceSub, ↓reduceIte, rd_eq, TyT, c7]
      obtain ⟨ovs, ho, hov⟩ := T2.outr
      have hol : ovs.length = σ.out.length := by simpa using ho.1
      have hlen : σ.out.length ≤ i := I2.out_len
      cases hO : σ.out with
      | nil =>
        have hv : outv = .slice none 0 0 ∨ ∃ g c, outv = sl g 0 0 c := by
          rcases id ho.2 with ⟨h0, _⟩ | ⟨g', cap, cur, hv, _⟩
          · exact .inl h0
          · exact .inr ⟨g', cap, by rw [hv, hO]; rfl⟩
        rw [hO] at C
        obtain ⟨av, cv, rfl⟩ : ∃ a c, outv = .slice a 0 c := by
          rcases hv with rfl | ⟨g', c', rfl⟩
          · exact ⟨_, _, rfl⟩
          · exact ⟨_, _, rfl⟩
        refine vcall_mk sortNil ?_
        rintro _ h3 ⟨rfl, rfl⟩
        simp (disch := omega) only [↓SS, A, Nat.reduceEqDiff, Int.reduceToNat, Int.cast_ofNat_Int, Int.reduceSub, Int.reduceAdd, Nat.reduceAdd, Nat.reduceMul, Nat.reduceSub, ↓reduceIte, rd_eq, TyT, c7]
        refine ⟨[], ?_, C, List.Pairwise.nil, T2.ge⟩
        rcases hv with hv | ⟨g', c', hv⟩
        · cases hv; exact isLL.nil _
        · cases hv
          obtain ⟨_, h2', _⟩ := Own.cur (by rw [hO] at ho; exact ho)
          exact ⟨_, _, [], rfl, by simp, by unfold maxLen at h2'; omega, rfl, by simp, by simp⟩
      | cons c0' rest =>
        have hpos : 0 < σ.out.length := by rw [hO]; simp
        obtain ⟨ob2, cap2, rfl⟩ := ho.here hpos
        obtain ⟨hc1, hc2, hc3, cur, hcur, hcs, htk⟩ := ho.cur
        simp only [Nat.mul_one] at hcs htk
        generalize hzs : ovs.zip σ.out = zs
        have hz1 : zs.map (·.1) = ovs := by rw [← hzs]; exact List.map_fst_zip (by omega)
        have hz2 : zs.map (·.2) = σ.out := by rw [← hzs]; exact List.map_snd_zip (by omega)
        have hzl : zs.length = σ.out.length := by rw [← hz2]; simp
        have hzi : ∀ z ∈ zs, Ints h2 z.1 (nats z.2) ∧ z.2 ∈ σ.out ∧ ∀ b o n c, z.1 = .slice (some ⟨b, o, none⟩) n c → ∃ cur, h2[b]? = some (.cells cur 3 (0, 0)) := by
          intro z hz
          obtain ⟨j, hj⟩ := List.getElem?_of_mem hz
          have e1 : ovs[j]? = some z.1 := by rw [← hz1]; simp [hj]
          have e2 : σ.out[j]? = some z.2 := by rw [← hz2]; simp [hj]
          have q1 := hov j z.1 z.2 e1 e2
          exact ⟨q1.r, List.mem_of_getElem? e2, fun b o n c hv => (q1.away b o n c hv).2⟩
        have hpl : (zs.map fun z => (z.1, ((z.2.headD 0 : Nat) : Int))).length = σ.out.length := by simp [hzl]
        have key := sortHeads_ok (off := 0) (c := cap2) (cur := cur) (ps := zs.map fun z => (z.1, ((z.2.headD 0 : Nat) : Int))) hcur ?_ ?_ ?_ ?_ ?_
        · rw [hpl] at key
          refine vcall_mk key ?_
          rintro _ h3 ⟨rfl, qs, hp, hpw, e3, kb3⟩
          obtain ⟨zs', hp', rfl⟩ := perm_lift hp zs rfl
          have c7' : hcell h3 t 7 = some (sl ob2 0 σ.out.length cap2) := kb3.cell c7 (by simp only [List.mem_singleton]; exact other_type T2.blk hcur (by decide))
          simp (disch := omega) only [↓SS, A, Nat.reduceEqDiff, Int.reduceToNat, Int.cast_ofNat_Int, Int.reduceSub, Int.reduceAdd, Nat.reduceAdd, Nat.reduceMul, Nat.reduceSub, ↓reduceIte, rd_eq, TyT, c7']
          have hl' : zs'.length = σ.out.length := by rw [hp'.length_eq, hzl]
          have hl2 : (zs'.map (·.2)).length = σ.out.length := by simpa using hl'
          have hper : (zs'.map (·.2)).Perm σ.out := by have := hp'.map (·.2); rwa [hz2] at this
          have C' := C.perm hper
          refine ⟨zs'.map (·.2), ?_, C', C'.sorted ?_, ?_⟩
          · refine ⟨some ⟨ob2, 0, none⟩, cap2, zs'.map (·.1), ?_, by simp; omega, by unfold maxLen at hc2; omega, by simp, fun _ => ⟨ob2, 0, rfl, ?_⟩, ?_⟩
            · simp [hl']
            · have hsz : (setL cur 0 ((zs'.map fun z => (z.1, ((z.2.headD 0 : Nat) : Int))).map (·.1))).size = cur.size := setL_size _ _ _
              have e1 := rdRow_take (n := ((zs'.map (·.2)).map nats).length) e3 (by rw [hsz]; simp; omega)
              rw [e1, setL_take _ _ _ (by simp; omega)]
              simp [hl', List.map_map, Function.comp_def]
            · intro j w xs hw hx
              simp only [List.getElem?_map, Option.map_eq_some_iff] at hw hx
              obtain ⟨z, hz, rfl⟩ := hw
              obtain ⟨c, ⟨z2, hz2', rfl⟩, rfl⟩ := hx
              rw [hz] at hz2'
              cases hz2'
              obtain ⟨q1, _, q3⟩ := hzi z (hp'.mem_iff.1 (List.mem_of_getElem? hz))
              obtain ⟨a, cc, ev, h1', h2', h3'⟩ := q1
              refine ⟨a, cc, ev, h1', h2', fun hl => ?_⟩
              obtain ⟨b, o, rfl, hr⟩ := h3' hl
              obtain ⟨cur4, hc4⟩ := q3 b o _ _ ev
              exact ⟨b, o, rfl, kb3.rdRow (by simp only [List.mem_singleton]; exact other_type hc4 hcur (by decide)) hr⟩
          · rw [List.pairwise_map] at hpw ⊢
            exact hpw.imp fun h => by simpa using h
          · exact ⟨Nat.le_trans T2.ge.size kb3.size, fun k hk => by rw [kb3.block k (Nat.lt_of_lt_of_le hk T2.ge.size) (by simp only [List.mem_singleton]; omega)]; exact T2.ge.block k hk⟩
        · intro j p hj
          simp only [List.getElem?_map, Option.map_eq_some_iff] at hj
          obtain ⟨z, hz, rfl⟩ := hj
          have e1 : ovs[j]? = some z.1 := by rw [← hz1]; simp [hz]
          rw [← htk, List.getElem?_take] at e1
          split at e1
          · simpa using e1
          · cases e1
        · simp [hzl]; omega
        · simp [hzl]; omega
        · intro p hp
          obtain ⟨z, hz, rfl⟩ := List.mem_map.1 hp
          obtain ⟨q1, hm, q3⟩ := hzi z hz
          have hne := (C.rises z.2 hm).2
          obtain ⟨x, r, hx⟩ : ∃ x r, z.2 = x :: r := by
            cases hz2c : z.2 with
            | nil => exact absurd hz2c hne
            | cons x r => exact ⟨x, r, rfl⟩
          obtain ⟨b, o, cc, ev, _, _, hcell1⟩ := q1.out (by rw [hx]; simp [nats])
          obtain ⟨cur4, hc4⟩ := q3 b o _ _ ev
          refine ⟨b, o, _, cc, cur4, _, ev, by rw [hx]; simp [nats], other_type hc4 hcur (by decide), hc4, ?_⟩
          have := hcell1 0 x (by rw [hx]; simp [nats])
          simp only [hcell, hc4] at this
          simpa [hx] using this
        · intro e
          have := congrArg List.length e
          rw [hpl, List.length_nil] at this
          omega
end Go.Proofs.YtgfljbplccekcaaDoor
