/-
  assayerlaw07.CompsParts, as a contract; conditions: the argument reads, the table of math/bits lies in memory.
-/
import Derived.Test.YtgfljbplccekcaaDoorLaw07
set_option linter.unusedSimpArgs false
set_option linter.unusedVariables false
set_option maxRecDepth 100000
namespace Go.Tar
theorem Comps.flat {n : Nat} {E : Nat → Nat → Bool} {C : List (List Nat)} (q : Comps n E C) : C.flatten.Nodup ∧ C.flatten.length = n := by
  have hn : C.flatten.Nodup := by
    rw [List.Nodup, List.pairwise_flatten]
    refine ⟨fun l hl => (q.rises l hl).1.imp fun h => by omega, q.apart.imp fun h x hx y hy e => ?_⟩
    subst e
    exact h x hx hy
  refine ⟨hn, ?_⟩
  have hp : C.flatten.Perm (List.range n) := by
    rw [List.perm_ext_iff_of_nodup hn List.nodup_range]
    intro x
    rw [List.mem_range, q.all x, List.mem_flatten]
  simpa using hp.length_eq
end Go.Tar
namespace Go.Proofs.YtgfljbplccekcaaDoor
open Go Go.V Go.Low

theorem TyP : aggT Tryd.prog 51 = some false ∧
  szT Tryd.prog 51 = some 1 ∧
  zeroT Tryd.prog 51 = some (.slice none 0 0) ∧
  slT Tryd.prog 51 = some 1 ∧
  aggT Tryd.prog 23 = some false ∧
  szT Tryd.prog 23 = some 1 ∧
  zeroT Tryd.prog 23 = some (.slice none 0 0) ∧
  slT Tryd.prog 23 = some 1 ∧
  aggT Tryd.prog 55 = some false ∧
  szT Tryd.prog 55 = some 1 ∧
  zeroT Tryd.prog 55 = some (.map none) ∧
  aggT Tryd.prog 3 = some false ∧
  szT Tryd.prog 3 = some 1 ∧
  zeroT Tryd.prog 3 = some (.int .i64 0) ∧
  intT Tryd.prog 3 = some .i64 ∧
  (Tryd.prog.underlying 3).isSome = true ∧
  aggT Tryd.prog 4 = some false ∧
  szT Tryd.prog 4 = some 1 ∧
  zeroT Tryd.prog 4 = some (.bool false) ∧
  boolT Tryd.prog 4 = true ∧
  aggT Tryd.prog 57 = some true ∧
  szT Tryd.prog 57 = some 1 ∧
  zeroT Tryd.prog 57 = some (.agg #[(.slice none 0 0)]) ∧
  fieldT Tryd.prog 57 0 = some 0 ∧
  aggT Tryd.prog 47 = some false ∧
  szT Tryd.prog 47 = some 1 ∧
  zeroT Tryd.prog 47 = some (.pointer none) ∧
  ptrT Tryd.prog 47 = true ∧
  aggT Tryd.prog 46 = some false ∧
  szT Tryd.prog 46 = some 1 ∧
  zeroT Tryd.prog 46 = some (.pointer none) ∧
  ptrT Tryd.prog 46 = true := by
  refine ⟨?_, ?_, ?_, ?_, ?_, ?_, ?_, ?_, ?_, ?_, ?_, ?_, ?_, ?_, ?_, ?_, ?_, ?_, ?_, ?_, ?_, ?_, ?_, ?_, ?_, ?_, ?_, ?_, ?_, ?_, ?_, ?_⟩ <;> kernel_rfl
theorem intKey : Maps.Keyed Tryd.prog 3 := Maps.int_keyed (q := .i64) (by kernel_rfl)
theorem isInt {x : Nat} (hx : x < 1000) : isK Tryd.prog 3 (.int .i64 (x : Nat)) := ⟨_, Maps.keyOf_int_mk (q := .i64) (by kernel_rfl) (by simp [Lit.wf, IntKind.min, IntKind.max, IntKind.bits, IntKind.signed]; omega)⟩
theorem uMap : Tryd.prog.underlying 55 = some (.map 3 4) := by kernel_rfl
theorem zBool : zeroT Tryd.prog 4 = some (.bool false) := by kernel_rfl
theorem encInt : ∀ a b : Int, Value.int .i64 a = Value.int .i64 b → a = b := fun a b h => by cases h; rfl
/-- the nodes that were met -/
def metL (V : List Nat) : List (Int × Value) := V.map fun m => ((m : Nat), .bool true)
theorem metL_get (V : List Nat) (m : Nat) : aget (metL V) (m : Int) = if m ∈ V then some (.bool true) else none := by
  induction V with
  | nil => rfl
  | cons x V ih =>
    simp only [metL, List.map_cons, aget]
    by_cases h : x = m
    · subst h; simp
    · have h' : ¬ (x : Int) = (m : Int) := by omega
      rw [if_neg h']
      have h2 : ¬ m = x := fun e => h e.symm
      show aget (metL V) (m : Int) = _
      rw [ih]
      simp [h2]
theorem hcell_map {h h' : Heap} {m b o : Nat} {v : Value} {es : Array MapEntry} {c : Nat} (hm : h[m]? = some (.map es c)) (kb : Kb [m] h h') (hc : hcell h b o = some v) : hcell h' b o = some v := by
  refine kb.cell hc ?_
  simp only [List.mem_singleton]
  rintro rfl
  simp only [hcell, hm] at hc
  cases hc
def anyGreat (C : List (List Nat)) : Bool := C.any fun c => decide ((1 : Int) < (c.length : Nat))
theorem ed_of {E : Nat → Nat → Nat → Bool} {of : Int} {u k : Nat} (h : ed E of u k = true) : ∃ i, E i u k = true := by
  have h' : (List.range 4).any (fun i => lbit of i && E i u k) = true := h
  rw [List.any_eq_true] at h'
  obtain ⟨i, _, h2⟩ := h'
  simp only [Bool.and_eq_true] at h2
  exact ⟨i, h2.2⟩
theorem great_cyclic {h : Heap} {g x n : Nat} {vs : Nat → Value} {L : Nat → List (Nat × Nat)} {E : Nat → Nat → Nat → Bool} {rv : Value} {rb : Nat → Nat} {M : Nat → Nat → Nat} (p : Pair h g x n vs L E rv rb M) (of : Int) {C : List (List Nat)} (hC : Tar.Comps n (ed E of) C) :
    anyGreat C = (Tar.ordF n (ed E of) n []).isNone := by
  have key := Tar.ord_comps (fun x y hxy => by obtain ⟨i, hi⟩ := ed_of hxy; exact p.lt i x y hi) (fun x => by
    cases he : ed E of x x with
    | false => rfl
    | true => obtain ⟨i, hi⟩ := ed_of he; rw [p.irr] at hi; cases hi) hC
  rw [Bool.eq_iff_iff]
  simp only [anyGreat, List.any_eq_true, decide_eq_true_eq]
  constructor
  · rintro ⟨c, hc, h1⟩
    cases hO : Tar.ordF n (ed E of) n [] with
    | none => rfl
    | some l =>
      rw [hO] at key
      exact absurd (by omega : 1 < c.length) (key.1 rfl c hc)
  · intro h0
    cases hO : Tar.ordF n (ed E of) n [] with
    | some l => rw [hO] at h0; cases h0
    | none =>
      rw [hO] at key
      by_cases hx : ∃ c ∈ C, 1 < c.length
      · obtain ⟨c, hc, h1⟩ := hx
        exact ⟨c, hc, by omega⟩
      · exact absurd (key.2 fun c hc h1 => hx ⟨c, hc, h1⟩) (by simp)
set_option maxHeartbeats 1000000 in
theorem parts_ok {h : Heap} (tb : Tab h) {z of : Int} {lv : Value} {l : List (Int × Int × Int)} (hl : edgesAt h lv l) :
    Ct Tryd.prog 8 [.int .i64 z, lv, .int .i64 of] h fun v h' => v = .bool true ∧ Ge h h' := by
  obtain ⟨la, lc, rfl, _⟩ := id hl
  have hz60 := nodesOf_lt z
  refine enter Tryd.func8 (by kernel_rfl) rfl Tryd.results8 (by kernel_rfl) (by kernel_rfl) (init3 _ _ _) ?_
  simp (disch := omega) only [↓SS, A, Nat.reduceEqDiff, Int.reduceToNat, Int.cast_ofNat_Int, Int.reduceSub, Int.reduceAdd, Nat.reduceAdd, Nat.reduceMul, Nat.reduceSub, ↓reduceIte, rd_eq, TyD]
  refine vcall_mk (drawn_ok hl) ?_
  rintro _ h1 ⟨g, x, vs, L, E, rv, rb, M, rfl, p1, g1⟩
  generalize nodesOf z = n at *
  simp (disch := omega) only [↓SS, A, Nat.reduceEqDiff, Int.reduceToNat, Int.cast_ofNat_Int, Int.reduceSub, Int.reduceAdd, Nat.reduceAdd, Nat.reduceMul, Nat.reduceSub, ↓reduceIte, rd_eq, TyD]
  have gm : Ge h1 (h1.push (Obj.map #[] 0)) := Ge.push _ _
  have hM : MapAt Tryd.prog 3 (Value.int .i64) (h1.push (Obj.map #[] 0)) h1.size (metL []) := MapAt.new h1
  generalize h1.push (Obj.map #[] 0) = h2 at *
  generalize hms : h1.size = m at *
  refine vcall_mk (comps_ok (tb.ge (g1.trans gm)) (p1.G.ge gm) (fun i u k hk => (p1.lt i u k hk).2)) ?_
  rintro v3 h3 ⟨C, hC, hC1, hC2, g3⟩
  have hM3 := hM.ge g3
  obtain ⟨es3, cs3, hmap3, _⟩ := hM3.ex
  have g13 := gm.trans g3
  obtain ⟨ca, cc, _, rfl, hc1, hc2, _⟩ := id hC
  have hCl : (C.map nats).length = C.length := by simp
  obtain ⟨hnd, hfl⟩ := hC1.flat
  have hic : C.length ≤ 9223372036854775807 := by rw [List.length_map] at hc1; omega
  rw [hCl]
  have hnb : ∀ c ∈ C, ∀ y ∈ c, y < n := fun c hc y hy => (hC1.all y).2 ⟨c, hc, hy⟩
  simp (disch := omega) only [↓SS, A, Nat.reduceEqDiff, Int.reduceToNat, Int.cast_ofNat_Int, Int.reduceSub, Int.reduceAdd, Nat.reduceAdd, Nat.reduceMul, Nat.reduceSub, ↓reduceIte, rd_eq, TyP]
  refine vloop_mk (fun k fr h' => ∃ i : Nat, i + k = C.length ∧ fr = [(30, .int .i64 i), (29, .int .i64 C.length), (28, .slice ca C.length cc), (11, .bool (anyGreat (C.take i))), (10, .map (some m)), (8, ptr x 0), (7, ptr g 0), (6, .bool false), (2, .int .i64 of)] ∧ Kb [m] h3 h' ∧
      MapAt Tryd.prog 3 (Value.int .i64) h' m (metL (C.take i).flatten)) C.length
    [(30, .int .i64 0), (29, .int .i64 C.length), (28, .slice ca C.length cc), (11, .bool false), (10, .map (some m)), (8, ptr x 0), (7, ptr g 0), (6, .bool false), (2, .int .i64 of)] (by simp only [↓SS, Nat.reduceEqDiff, Int.reduceToNat, Int.cast_ofNat_Int, Int.reduceSub, Int.reduceAdd, Nat.reduceAdd, Nat.reduceMul, Nat.reduceSub, ↓reduceIte, rd_eq, TyP]) ⟨0, by omega, by simp [anyGreat], Kb.refl _ _, by simpa using hM3⟩ ?_
  rintro k _ h4 ⟨i, hik, rfl, kb4, hM4⟩
  by_cases hi : i < C.length
  · obtain ⟨cb, co, cc', e1, _, _, hcell1⟩ := hC.out (by rw [List.length_map]; omega)
    rw [List.length_map] at e1
    cases e1
    obtain ⟨c, hci⟩ : ∃ c, C[i]? = some c := ⟨_, List.getElem?_eq_getElem hi⟩
    obtain ⟨w, hw1, hw2⟩ := hcell1 i (nats c) (by simp [hci])
    have hw4 := hcell_map hmap3 kb4 hw1
    have hcC := List.mem_of_getElem? hci
    obtain ⟨wa, wc, rfl, hwc1, hwc2, _⟩ := id hw2
    rw [nats_len] at hwc1
    rw [nats_len] at hw4
    have hg1 : anyGreat (C.take (i + 1)) = (anyGreat (C.take i) || decide ((1 : Int) < (c.length : Nat))) := by
      obtain ⟨h8, h9⟩ := List.getElem?_eq_some_iff.1 hci
      simp only [anyGreat]
      rw [List.take_succ_eq_append_getElem h8, List.any_append, h9]
      simp
    have htk : (C.take (i + 1)).flatten = (C.take i).flatten ++ c := by
      obtain ⟨h8, h9⟩ := List.getElem?_eq_some_iff.1 hci
      rw [List.take_succ_eq_append_getElem h8, List.flatten_append, h9]
      simp
    have hnd2 : ((C.take i).flatten ++ c).Nodup := by
      rw [← htk]
      refine hnd.sublist ?_
      conv => rhs; rw [← List.take_append_drop (i + 1) C, List.flatten_append]
      exact List.sublist_append_left _ _
    cases hgr : anyGreat (C.take i) with
    | true =>
      rw [hgr] at hg1
      simp only [Bool.true_or] at hg1
      simp (disch := omega) only [↓SS, A, Nat.reduceEqDiff, Int.reduceToNat, Int.cast_ofNat_Int, Int.reduceSub, Int.reduceAdd, Nat.reduceAdd, Nat.reduceMul, Nat.reduceSub, ↓reduceIte, rd_eq, TyP, hw4]
      refine vloop_mk (fun k' fr h' => ∃ j : Nat, j + k' = c.length ∧ fr = [(42, .int .i64 j), (41, .int .i64 c.length), (40, .slice wa c.length wc), (30, .int .i64 i), (29, .int .i64 C.length), (28, .slice (some ⟨cb, co, none⟩) C.length cc), (11, .bool (anyGreat (C.take (i + 1)))), (10, .map (some m)), (8, ptr x 0), (7, ptr g 0), (6, .bool false), (2, .int .i64 of)] ∧ Kb [m] h3 h' ∧
          MapAt Tryd.prog 3 (Value.int .i64) h' m (metL ((C.take i).flatten ++ c.take j))) c.length
        [(42, .int .i64 0), (41, .int .i64 c.length), (40, .slice wa c.length wc), (30, .int .i64 i), (29, .int .i64 C.length), (28, .slice (some ⟨cb, co, none⟩) C.length cc), (11, .bool (anyGreat (C.take (i + 1)))), (10, .map (some m)), (8, ptr x 0), (7, ptr g 0), (6, .bool false), (2, .int .i64 of)] (by rw [hg1]; simp only [↓SS, Nat.reduceEqDiff, Int.reduceToNat, Int.cast_ofNat_Int, Int.reduceSub, Int.reduceAdd, Nat.reduceAdd, Nat.reduceMul, Nat.reduceSub, ↓reduceIte, rd_eq, TyP]) ⟨0, by omega, rfl, kb4, by simpa using hM4⟩ ?_
      rintro k' _ h5 ⟨j, hjk, rfl, kb5, hM5⟩
      by_cases hj : j < c.length
      · obtain ⟨y, hy⟩ : ∃ y, c[j]? = some y := ⟨_, List.getElem?_eq_getElem hj⟩
        obtain ⟨wb, wo, wc', e2, _, _, hcell2⟩ := hw2.out (by rw [nats_len]; omega)
        rw [nats_len] at e2
        cases e2
        have hy5 := hcell_map hmap3 kb5 (hcell2 j y (nats_at hy))
        have hyn := hnb c hcC y (List.mem_of_getElem? hy)
        have hny : y ∉ (C.take i).flatten ++ c.take j := by
          intro hm
          have h6 : (((C.take i).flatten ++ c.take j) ++ [y]).Nodup := by
            refine hnd2.sublist ?_
            rw [List.append_assoc]
            refine List.Sublist.append_left ?_ _
            obtain ⟨h8, h9⟩ := List.getElem?_eq_some_iff.1 hy
            have : c.take j ++ [y] = c.take (j + 1) := by rw [List.take_succ_eq_append_getElem h8, h9]
            rw [this]
            exact List.take_sublist _ _
          rw [List.nodup_append] at h6
          exact h6.2.2 y hm y (by simp) rfl
        have hget : aget (metL ((C.take i).flatten ++ c.take j)) (y : Int) = none := by rw [metL_get, if_neg hny]
        simp (disch := omega) only [↓SS, A, Nat.reduceEqDiff, Int.reduceToNat, Int.cast_ofNat_Int, Int.reduceSub, Int.reduceAdd, Nat.reduceAdd, Nat.reduceMul, Nat.reduceSub, ↓reduceIte, rd_eq, TyP, hy5]
        refine vlook_ok uMap intKey encInt zBool hM5 (isInt (by omega)) ?_
        rw [hget]
        simp only [lookR, Option.getD]
        simp (disch := omega) only [↓SS, A, Nat.reduceEqDiff, Int.reduceToNat, Int.cast_ofNat_Int, Int.reduceSub, Int.reduceAdd, Nat.reduceAdd, Nat.reduceMul, Nat.reduceSub, ↓reduceIte, rd_eq, TyP]
        refine vupd_ok uMap intKey encInt hM5 (isInt (by omega)) ?_
        intro h6 hM6 up6
        simp (disch := omega) only [↓SS, A, Nat.reduceEqDiff, Int.reduceToNat, Int.cast_ofNat_Int, Int.reduceSub, Int.reduceAdd, Nat.reduceAdd, Nat.reduceMul, Nat.reduceSub, ↓reduceIte, rd_eq, TyP]
        rw [aset_new hget] at hM6
        refine ⟨k' - 1, by omega, _, (by simp only [↓SS, Nat.reduceEqDiff, Int.reduceToNat, Int.cast_ofNat_Int, Int.reduceSub, Int.reduceAdd, Nat.reduceAdd, Nat.reduceMul, Nat.reduceSub, ↓reduceIte, rd_eq, Int.natCast_add, Int.cast_ofNat_Int]), j + 1, by omega, rfl, kb5.up up6 (.inl (by simp)), ?_⟩
        obtain ⟨h8, h9⟩ := List.getElem?_eq_some_iff.1 hy
        rw [List.take_succ_eq_append_getElem h8, h9, ← List.append_assoc]
        simpa [metL] using hM6
      · obtain rfl : j = c.length := by omega
        rw [List.take_length] at hM5
        simp (disch := omega) only [↓SS, A, Nat.reduceEqDiff, Int.reduceToNat, Int.cast_ofNat_Int, Int.reduceSub, Int.reduceAdd, Nat.reduceAdd, Nat.reduceMul, Nat.reduceSub, ↓reduceIte, rd_eq, TyP]
        exact ⟨k - 1, by omega, _, (by simp only [↓SS, Nat.reduceEqDiff, Int.reduceToNat, Int.cast_ofNat_Int, Int.reduceSub, Int.reduceAdd, Nat.reduceAdd, Nat.reduceMul, Nat.reduceSub, ↓reduceIte, rd_eq, Int.natCast_add, Int.cast_ofNat_Int]), i + 1, by omega, rfl, kb5, by rw [htk]; exact hM5⟩
    | false =>
      rw [hgr] at hg1
      simp only [Bool.false_or] at hg1
      simp (disch := omega) only [↓SS, A, Nat.reduceEqDiff, Int.reduceToNat, Int.cast_ofNat_Int, Int.reduceSub, Int.reduceAdd, Nat.reduceAdd, Nat.reduceMul, Nat.reduceSub, ↓reduceIte, rd_eq, TyP, hw4]
      refine vloop_mk (fun k' fr h' => ∃ j : Nat, j + k' = c.length ∧ fr = [(42, .int .i64 j), (41, .int .i64 c.length), (40, .slice wa c.length wc), (30, .int .i64 i), (29, .int .i64 C.length), (28, .slice (some ⟨cb, co, none⟩) C.length cc), (11, .bool (anyGreat (C.take (i + 1)))), (10, .map (some m)), (8, ptr x 0), (7, ptr g 0), (6, .bool false), (2, .int .i64 of)] ∧ Kb [m] h3 h' ∧
          MapAt Tryd.prog 3 (Value.int .i64) h' m (metL ((C.take i).flatten ++ c.take j))) c.length
        [(42, .int .i64 0), (41, .int .i64 c.length), (40, .slice wa c.length wc), (30, .int .i64 i), (29, .int .i64 C.length), (28, .slice (some ⟨cb, co, none⟩) C.length cc), (11, .bool (anyGreat (C.take (i + 1)))), (10, .map (some m)), (8, ptr x 0), (7, ptr g 0), (6, .bool false), (2, .int .i64 of)] (by rw [hg1]; simp only [↓SS, Nat.reduceEqDiff, Int.reduceToNat, Int.cast_ofNat_Int, Int.reduceSub, Int.reduceAdd, Nat.reduceAdd, Nat.reduceMul, Nat.reduceSub, ↓reduceIte, rd_eq, TyP]) ⟨0, by omega, rfl, kb4, by simpa using hM4⟩ ?_
      rintro k' _ h5 ⟨j, hjk, rfl, kb5, hM5⟩
      by_cases hj : j < c.length
      · obtain ⟨y, hy⟩ : ∃ y, c[j]? = some y := ⟨_, List.getElem?_eq_getElem hj⟩
        obtain ⟨wb, wo, wc', e2, _, _, hcell2⟩ := hw2.out (by rw [nats_len]; omega)
        rw [nats_len] at e2
        cases e2
        have hy5 := hcell_map hmap3 kb5 (hcell2 j y (nats_at hy))
        have hyn := hnb c hcC y (List.mem_of_getElem? hy)
        have hny : y ∉ (C.take i).flatten ++ c.take j := by
          intro hm
          have h6 : (((C.take i).flatten ++ c.take j) ++ [y]).Nodup := by
            refine hnd2.sublist ?_
            rw [List.append_assoc]
            refine List.Sublist.append_left ?_ _
            obtain ⟨h8, h9⟩ := List.getElem?_eq_some_iff.1 hy
            have : c.take j ++ [y] = c.take (j + 1) := by rw [List.take_succ_eq_append_getElem h8, h9]
            rw [this]
            exact List.take_sublist _ _
          rw [List.nodup_append] at h6
          exact h6.2.2 y hm y (by simp) rfl
        have hget : aget (metL ((C.take i).flatten ++ c.take j)) (y : Int) = none := by rw [metL_get, if_neg hny]
        simp (disch := omega) only [↓SS, A, Nat.reduceEqDiff, Int.reduceToNat, Int.cast_ofNat_Int, Int.reduceSub, Int.reduceAdd, Nat.reduceAdd, Nat.reduceMul, Nat.reduceSub, ↓reduceIte, rd_eq, TyP, hy5]
        refine vlook_ok uMap intKey encInt zBool hM5 (isInt (by omega)) ?_
        rw [hget]
        simp only [lookR, Option.getD]
        simp (disch := omega) only [↓SS, A, Nat.reduceEqDiff, Int.reduceToNat, Int.cast_ofNat_Int, Int.reduceSub, Int.reduceAdd, Nat.reduceAdd, Nat.reduceMul, Nat.reduceSub, ↓reduceIte, rd_eq, TyP]
        refine vupd_ok uMap intKey encInt hM5 (isInt (by omega)) ?_
        intro h6 hM6 up6
        simp (disch := omega) only [↓SS, A, Nat.reduceEqDiff, Int.reduceToNat, Int.cast_ofNat_Int, Int.reduceSub, Int.reduceAdd, Nat.reduceAdd, Nat.reduceMul, Nat.reduceSub, ↓reduceIte, rd_eq, TyP]
        rw [aset_new hget] at hM6
        refine ⟨k' - 1, by omega, _, (by simp only [↓SS, Nat.reduceEqDiff, Int.reduceToNat, Int.cast_ofNat_Int, Int.reduceSub, Int.reduceAdd, Nat.reduceAdd, Nat.reduceMul, Nat.reduceSub, ↓reduceIte, rd_eq, Int.natCast_add, Int.cast_ofNat_Int]), j + 1, by omega, rfl, kb5.up up6 (.inl (by simp)), ?_⟩
        obtain ⟨h8, h9⟩ := List.getElem?_eq_some_iff.1 hy
        rw [List.take_succ_eq_append_getElem h8, h9, ← List.append_assoc]
        simpa [metL] using hM6
      · obtain rfl : j = c.length := by omega
        rw [List.take_length] at hM5
        simp (disch := omega) only [↓SS, A, Nat.reduceEqDiff, Int.reduceToNat, Int.cast_ofNat_Int, Int.reduceSub, Int.reduceAdd, Nat.reduceAdd, Nat.reduceMul, Nat.reduceSub, ↓reduceIte, rd_eq, TyP]
        exact ⟨k - 1, by omega, _, (by simp only [↓SS, Nat.reduceEqDiff, Int.reduceToNat, Int.cast_ofNat_Int, Int.reduceSub, Int.reduceAdd, Nat.reduceAdd, Nat.reduceMul, Nat.reduceSub, ↓reduceIte, rd_eq, Int.natCast_add, Int.cast_ofNat_Int]), i + 1, by omega, rfl, kb5, by rw [htk]; exact hM5⟩
  · obtain rfl : i = C.length := by omega
    rw [List.take_length] at hM4
    simp (disch := omega) only [↓SS, A, Nat.reduceEqDiff, Int.reduceToNat, Int.cast_ofNat_Int, Int.reduceSub, Int.reduceAdd, Nat.reduceAdd, Nat.reduceMul, Nat.reduceSub, ↓reduceIte, rd_eq, TyP]
    rw [List.take_length]
    have g14 : Ge h1 h4 := ⟨Nat.le_trans g13.size kb4.size, fun k hk => by
      rw [kb4.block k (Nat.lt_of_lt_of_le hk g13.size) (by simp only [List.mem_singleton]; omega)]
      exact g13.block k hk⟩
    have p4 := p1.ge g14
    obtain ⟨ra, rc, rfl, _⟩ := p4.X.len
    have cx := p4.X.c0
    have hlm := lenMap uMap hM4
    have hml : (metL C.flatten).length = n := by rw [← hfl]; unfold metL; rw [List.length_map]
    rw [hml] at hlm
    have hgc : anyGreat C = (Tar.ordF n (ed E of) n []).isNone := by
      exact great_cyclic p1 of hC1
    refine vdraw_quiet mixed (by kernel_rfl) ?_
    simp (disch := omega) only [↓SS, A, Nat.reduceEqDiff, Int.reduceToNat, Int.cast_ofNat_Int, Int.reduceSub, Int.reduceAdd, Nat.reduceAdd, Nat.reduceMul, Nat.reduceSub, ↓reduceIte, rd_eq, TyP, TyD, cx, hlm]
    refine vqcall_mk _ (fun h' g' => cyclic_ok ((tb.ge g1).ge (g14.trans g')) (p4.G.ge g')) ?_
    simp (disch := omega) only [↓SS, A, Nat.reduceEqDiff, Int.reduceToNat, Int.cast_ofNat_Int, Int.reduceSub, Int.reduceAdd, Nat.reduceAdd, Nat.reduceMul, Nat.reduceSub, ↓reduceIte, rd_eq, TyP]
    intro h5 g5
    simp (disch := omega) only [↓SS, A, Nat.reduceEqDiff, Int.reduceToNat, Int.cast_ofNat_Int, Int.reduceSub, Int.reduceAdd, Nat.reduceAdd, Nat.reduceMul, Nat.reduceSub, ↓reduceIte, rd_eq, TyP, hgc]
    exact ⟨by simp, (g1.trans g14).trans g5⟩
end Go.Proofs.YtgfljbplccekcaaDoor
