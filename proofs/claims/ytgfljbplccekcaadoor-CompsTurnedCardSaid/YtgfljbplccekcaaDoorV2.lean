/-
  Laws of the framework on operations that make memory: make, composite literals, append onto a row of the call's own; conditions: sizes, as each theorem states.
-/
import Derived.Test.YtgfljbplccekcaaDoorV
import Derived.OwnWalk
set_option linter.unusedSimpArgs false
set_option linter.unusedVariables false
set_option maxRecDepth 100000
namespace Go.V
open Go

/-- a slice type's element: its type, its cells, its bytes, its zero value -/
def elT (P : Program) (t : TypeId) : Option (TypeId × Nat × Nat × Value) :=
  match P.underlying t with
  | some (.slice e) => (P.info? e).bind fun i => i.zero.bind fun z => some (e, i.size, i.bytes, z)
  | _ => none
theorem elT_parts {P : Program} {t : TypeId} {e sz by_ : Nat} {z : Value} (h : elT P t = some (e, sz, by_, z)) : P.underlying t = some (.slice e) ∧ ∃ i, P.info? e = some i ∧ i.zero = some z ∧ i.size = sz ∧ i.bytes = by_ := by
  unfold elT at h
  split at h
  · rename_i e' hu
    obtain ⟨i, hi, h⟩ := Option.bind_eq_some_iff.1 h
    obtain ⟨z', hz, h⟩ := Option.bind_eq_some_iff.1 h
    simp only [Option.some.injEq, Prod.mk.injEq] at h
    obtain ⟨rfl, rfl, rfl, rfl⟩ := h
    exact ⟨hu, i, hi, hz, rfl, rfl⟩
  · cases h

theorem Grow.refl (h : Heap) (r : Option Nat) : Grow h h r := ⟨Nat.le_refl _, fun _ _ _ => rfl⟩
theorem Grow.of_ge {h h' : Heap} (g : Ge h h') (r : Option Nat) : Grow h h' r := ⟨g.size, fun k hk _ => g.block k hk⟩
theorem Grow.trans {a b c : Heap} {r : Option Nat} (h : Grow a b r) (k : Grow b c r) : Grow a c r :=
  ⟨Nat.le_trans h.size k.size, fun i hi hr => (k.block i (Nat.lt_of_lt_of_le hi h.size) hr).trans (h.block i hi hr)⟩
theorem Ge.lt {h : Heap} {b : Nat} {x : Obj} (hb : h[b]? = some x) : b < h.size := (Array.getElem?_eq_some_iff.1 hb).1
theorem push_new (h : Heap) (o : Obj) : (h.push o)[h.size]? = some o := by simp
theorem push_old {h : Heap} {o : Obj} {k : Nat} (hk : k < h.size) : (h.push o)[k]? = h[k]? := by rw [Array.getElem?_push]; split <;> first | omega | rfl
theorem push_lookup {h : Heap} {o x : Obj} {k : Nat} (hk : h[k]? = some x) : (h.push o)[k]? = some x := by rw [push_old (Ge.lt hk)]; exact hk

section
variable {P : Program} {h : Heap} {k : Value → Heap → Prop}
theorem vmk_ok {t e sz by_ : Nat} {z : Value} (he : elT P t = some (e, sz, by_, z)) {kl kc : IntKind} {l c : Int} (h0 : 0 ≤ l) (hlc : l ≤ c) (hb : (by_ : Int) * c ≤ 281474976710656) (hc : c ≤ 9223372036854775807)
    (hk : k (sl h.size 0 l.toNat c.toNat) (h.push (.cells (madeCells z.cells (c.toNat * sz)) e))) : vmk P t (.int kl l) (.int kc c) h k := by
  obtain ⟨hu, i, hi, hz, rfl, rfl⟩ := elT_parts he
  intro w hw
  subst hw
  exact ⟨_, _, run_make w t e i z hu hi hz kl kc l c h0 hlc hb hc, ⟨rfl, rfl, rfl⟩, hk⟩

theorem vbd_ok {t : TypeId} {l : List (Nat × Value)} {cells : Array Value} (hb : P.built t l = some cells) (hk : k (.agg cells) h) : vbd P t l h k := by
  intro w hw
  exact ⟨_, w, run_build w t l.toArray cells (by simpa using hb), Same.refl _, by rw [hw]; exact hk⟩

theorem take_set_succ' {α : Type} (l : List α) (o : Nat) (x : α) (h : o < l.length) : (l.set o x).take (o + 1) = l.take o ++ [x] := by
  rw [List.take_succ_eq_append_getElem (by simpa using h)]
  simp [List.take_set_of_le]
theorem vbs_one {t e sz by_ : Nat} {z v : Value} (he : elT P t = some (e, sz, by_, z)) (hv : v.cells.size = sz) (hz : z.cells.size = sz) (h1 : sz ≤ 16777216) (h0 : sz ≠ 0)
    (hk : k (sl h.size 0 1 1) (h.push (.cells v.cells e))) : vbs P t 1 [(0, v)] h k := by
  obtain ⟨hu, i, hi, hzz, rfl, rfl⟩ := elT_parts he
  intro w hw
  subst hw
  refine ⟨_, w.alloc (.cells v.cells e), ?_, ⟨rfl, rfl, rfl⟩, hk⟩
  have hfill : Instr.fill (fun j => some (j * i.size, i.size)) ((Array.range (1 * i.size)).map (z.cells[· % z.cells.size]!)) [(0, v)] = some v.cells := by
    simp only [Instr.fill, Nat.zero_mul, Nat.zero_add, hv, Array.size_map, Array.size_range, Nat.one_mul]
    simp only [ne_eq, not_true_eq_false, decide_false, Nat.lt_irrefl, gt_iff_lt, Bool.or_false, Bool.false_eq_true, if_false]
    congr 1
    have key : ∀ (l : List Value) (o : Nat) (a : Array Value), o + l.length ≤ a.size → (l.zipIdx o).foldl (fun cs (p : Value × Nat) => cs.setIfInBounds p.2 p.1) a = (a.toList.take o ++ l ++ a.toList.drop (o + l.length)).toArray := by
      intro l
      induction l with
      | nil => intro o a ha; simp
      | cons x r ih =>
        intro o a ha
        simp only [List.length_cons] at ha
        simp only [List.zipIdx_cons, List.foldl_cons]
        rw [ih (o + 1) _ (by simp; omega)]
        rw [← Array.toList_inj]
        simp only [Array.toList_setIfInBounds, List.length_cons]
        rw [take_set_succ' _ _ _ (by simp; omega)]
        simp only [List.append_assoc, List.cons_append, List.nil_append]
        rw [List.drop_set_of_lt (by omega), show o + 1 + r.length = o + (r.length + 1) from by omega]
    have := key v.cells.toList 0 ((Array.range i.size).map (z.cells[· % z.cells.size]!)) (by simp [hv])
    simp only [Nat.zero_add, List.take_zero, List.nil_append] at this
    have e2 : v.cells.zipIdx.foldl (fun cs (p : Value × Nat) => cs.setIfInBounds (0 + p.2) p.1) ((Array.range i.size).map (z.cells[· % z.cells.size]!)) =
        (v.cells.toList.zipIdx 0).foldl (fun cs (p : Value × Nat) => cs.setIfInBounds p.2 p.1) ((Array.range i.size).map (z.cells[· % z.cells.size]!)) := by
      rw [← Array.foldl_toList, Array.toList_zipIdx]; simp
    simp only [Nat.zero_add] at e2
    rw [e2, this]
    rw [← Array.toList_inj]
    simp [hv]
  have h2 : ¬ (16777216 < i.size) := by omega
  have h3 : ¬ (i.size = 0) := h0
  simp only [Instr.buildSlice, Sem.run_bind, run_underlying hu, Result.andThen_ok, sizeOf, typeInfo, run_program, hi, Sem.run_pure, Nat.one_mul, Nat.reducePow, gt_iff_lt, h2, if_false, h3, zeroValue, hzz]
  simp only [Nat.one_mul] at hfill
  simp [hfill, newRow]

theorem hset_new : ∀ (vs : List Value) (h : Heap) (c : Array Value) (e o : Nat), o + vs.length ≤ c.size →
    hset (h.push (.cells c e)) h.size o vs = h.push (.cells ((c.toList.take o ++ vs ++ c.toList.drop (o + vs.length)).toArray) e)
  | [], h, c, e, o, _ => by simp [hset]
  | v :: vs, h, c, e, o, hc => by
    simp only [List.length_cons] at hc
    have h1 : hset1 (h.push (.cells c e)) h.size o v = h.push (.cells (c.setIfInBounds o v) e) := by
      unfold hset1
      apply Array.ext_getElem?
      intro i
      rw [Array.getElem?_modify]
      split
      · rename_i hi; subst hi; simp
      · rename_i hi
        rw [Array.getElem?_push, Array.getElem?_push]
        split
        · rename_i e; exact absurd e.symm hi
        · rfl
    rw [hset, h1, hset_new vs h (c.setIfInBounds o v) e (o + 1) (by simp; omega)]
    congr 2
    simp only [Array.toList_setIfInBounds, List.length_cons]
    rw [take_set_succ' _ _ _ (by simp; omega), List.drop_set_of_lt (by omega), show o + 1 + vs.length = o + (vs.length + 1) from by omega]
    simp
/-- a variable that has just been made is given its value -/
theorem vst_new {t e : TypeId} {c : Array Value} {v : Value} (hs : szT P t = some v.cells.size) (h1 : one1 v.cells.toList = true) (hc : c.size = v.cells.size)
    (hk : k undef (h.push (.cells v.cells e))) : vst P (h.push (.cells c e)) t (.pointer (some ⟨h.size, 0, none⟩)) v k := by
  refine ⟨hs, h1, ⟨c, e, by simp, by omega⟩, ?_⟩
  rw [hset_new _ _ _ _ _ (by simp [hc])]
  have e1 : (c.toList.take 0 ++ v.cells.toList ++ c.toList.drop (0 + v.cells.toList.length)).toArray = v.cells := by
    rw [← Array.toList_inj]
    simp [← hc]
  rw [e1]; exact hk

def setL : Array Value → Nat → List Value → Array Value
  | c, _, [] => c
  | c, o, v :: vs => setL (c.setIfInBounds o v) (o + 1) vs
/-- block b alone has turned -/
structure Up (h h' : Heap) (b : Nat) : Prop where
  size : h'.size = h.size
  other : ∀ k, k ≠ b → h'[k]? = h[k]?
theorem hset_up : ∀ (vs : List Value) (h : Heap) (b o : Nat) (c : Array Value) (e : TypeId) (f : Nat × Nat), h[b]? = some (.cells c e f) →
    (hset h b o vs)[b]? = some (.cells (setL c o vs) e f) ∧ Up h (hset h b o vs) b
  | [], h, b, o, c, e, f, hb => ⟨hb, rfl, fun _ _ => rfl⟩
  | v :: vs, h, b, o, c, e, f, hb => by
    have h1 : (hset1 h b o v)[b]? = some (.cells (c.setIfInBounds o v) e f) := by
      unfold hset1; rw [Array.getElem?_modify, if_pos rfl, hb]; rfl
    obtain ⟨h2, h3⟩ := hset_up vs (hset1 h b o v) b (o + 1) _ e f h1
    refine ⟨h2, ?_, fun k hk => ?_⟩
    · rw [show hset h b o (v :: vs) = hset (hset1 h b o v) b (o + 1) vs from rfl, h3.size]; simp [hset1]
    · rw [show hset h b o (v :: vs) = hset (hset1 h b o v) b (o + 1) vs from rfl, h3.other k hk]
      unfold hset1; rw [Array.getElem?_modify, if_neg (fun e => hk e.symm)]
theorem Up.ge {h0 h h' : Heap} {b : Nat} (u : Up h h' b) (g : Ge h0 h) (hb : h0.size ≤ b) : Ge h0 h' :=
  ⟨by rw [u.size]; exact g.size, fun k hk => by rw [u.other k (by omega)]; exact g.block k hk⟩
theorem Up.grow {h h' : Heap} {b : Nat} (u : Up h h' b) : Grow h h' (some b) := ⟨by rw [u.size]; exact Nat.le_refl _, fun k _ hk => u.other k (fun e => hk (by rw [e]))⟩
theorem Up.keep {h h' : Heap} {b k : Nat} {x : Obj} (u : Up h h' b) (hk : h[k]? = some x) (hne : k ≠ b) : h'[k]? = some x := by rw [u.other k hne]; exact hk
/-- a store into a block of which all is known -/
theorem vst_up {t e b o : Nat} {c : Array Value} {v : Value} (hs : szT P t = some v.cells.size) (h1 : one1 v.cells.toList = true) (hb : h[b]? = some (.cells c e (0, 0))) (ho : o + v.cells.size ≤ c.size)
    (hk : ∀ h', h'[b]? = some (.cells (setL c o v.cells.toList) e (0, 0)) → Up h h' b → k undef h') : vst P h t (.pointer (some ⟨b, o, none⟩)) v k := by
  obtain ⟨h2, h3⟩ := hset_up v.cells.toList h b o c e (0, 0) hb
  exact ⟨hs, h1, ⟨c, e, hb, ho⟩, hk _ h2 h3⟩

/-- a row that the call has made: block numbers from 'base' on -/
def Own (h : Heap) (base e sz : Nat) (v : Value) (n : Nat) (xs : List Value) : Prop :=
  xs.length = n * sz ∧ ((v = .slice none 0 0 ∧ n = 0) ∨
    ∃ g cap cur, v = .slice (some ⟨g, 0, none⟩) n cap ∧ base ≤ g ∧ h[g]? = some (.cells cur e (0, 0)) ∧ n ≤ cap ∧ cap ≤ maxLen ∧ cur.size = cap * sz ∧ cur.toList.take (n * sz) = xs)
theorem own_of {w : World} {base e sz : Nat} {v : Value} {n : Nat} {xs : List Value} (ho : w.ownsRow base e sz v n xs) : Own w.heap base e sz v n xs := ho
theorem Own.nil (h : Heap) (base e sz : Nat) : Own h base e sz (.slice none 0 0) 0 [] := ⟨by simp, .inl ⟨rfl, rfl⟩⟩
theorem Own.grow {h h' : Heap} {base e sz : Nat} {v : Value} {n : Nat} {xs : List Value} {row : Option Nat} (o : Own h base e sz v n xs) (g : Grow h h' row) (hne : v.ownBlock = none ∨ v.ownBlock ≠ row) : Own h' base e sz v n xs := by
  refine ⟨o.1, ?_⟩
  rcases o.2 with hn | ⟨b, cap, cur, rfl, hb, hgg, rest⟩
  · exact .inl hn
  · refine .inr ⟨b, cap, cur, rfl, hb, ?_, rest⟩
    rw [g.block b (Ge.lt hgg) (by simpa [Value.ownBlock] using hne)]
    exact hgg
theorem Own.ge {h h' : Heap} {base e sz : Nat} {v : Value} {n : Nat} {xs : List Value} (o : Own h base e sz v n xs) (g : Ge h h') : Own h' base e sz v n xs := by
  refine o.grow (Grow.of_ge g none) ?_
  cases v.ownBlock <;> simp
theorem Own.cell {h : Heap} {base e sz : Nat} {g n c : Nat} {xs : List Value} (o : Own h base e sz (sl g 0 n c) n xs) {i : Nat} {u : Value} (hu : xs[i]? = some u) : hcell h g i = some u := by
  rcases o.2 with ⟨h0, _⟩ | ⟨g', cap, cur, hv, _, hgg, _, _, _, htake⟩
  · cases h0
  · simp only [Value.slice.injEq, Option.some.injEq, Addr.mk.injEq, true_and, and_true] at hv
    obtain ⟨rfl, rfl⟩ := hv
    simp only [hcell, hgg]
    rw [← htake, List.getElem?_take] at hu
    split at hu
    · simpa using hu
    · cases hu
theorem Own.lt {h : Heap} {base e sz : Nat} {g n c : Nat} {xs : List Value} (o : Own h base e sz (sl g 0 n c) n xs) : base ≤ g ∧ g < h.size := by
  rcases o.2 with ⟨h0, _⟩ | ⟨g', cap, cur, hv, hb, hgg, _, _, _, htake⟩
  · cases h0
  · simp only [Value.slice.injEq, Option.some.injEq, Addr.mk.injEq, true_and, and_true] at hv
    obtain ⟨rfl, rfl⟩ := hv
    exact ⟨hb, Ge.lt hgg⟩

theorem vapp_own' {t e sz by_ : Nat} {z : Value} (he : elT P t = some (e, sz, by_, z)) (hzs : z.cells.size = sz) (hsz : 0 < sz) {ty base n m c b o : Nat} {v : Value} {xs news : List Value} (hown : Own h base e sz v n xs)
    (hn : rdRow h b o (m * sz) = some news) (h1 : news.all (·.oneCell') = true) (hl : n + m ≤ 140737488355327) (hb : (n + m) * by_ ≤ 140737488355328) (hbase : base ≤ h.size)
    (hk : ∀ v' h', Own h' base e sz v' (n + m) (xs ++ news) → Grow h h' v.ownBlock → (v' = .slice none 0 0 ↔ v = .slice none 0 0 ∧ m = 0) → (v'.ownBlock = v.ownBlock ∨ ∃ b, v'.ownBlock = some b ∧ h.size ≤ b) → k v' h') : vapp P #[t, t] ty v (.slice (some ⟨b, o, none⟩) m c) h k := by
  obtain ⟨hu, i, hi, hz, rfl, rfl⟩ := elT_parts he
  intro w hw
  subst hw
  have hlen : news.length = m * i.size ∧ ∀ j u, news[j]? = some u → w.cell? ((⟨b, o, none⟩ : Addr).add j) = some u := by
    have key : ∀ (q o : Nat) (l : List Value), rdRow w.heap b o q = some l → l.length = q ∧ ∀ j u, l[j]? = some u → hcell w.heap b (o + j) = some u := by
      intro q
      induction q with
      | zero => intro o l hl; simp only [rdRow, Option.some.injEq] at hl; subst hl; simp
      | succ q ih =>
        intro o l hl
        simp only [rdRow, Option.bind_eq_some_iff, Option.some.injEq] at hl
        obtain ⟨u, hu, vs, hvs, rfl⟩ := hl
        obtain ⟨e1, e2⟩ := ih (o + 1) vs hvs
        refine ⟨by simp [e1], fun j u' hj => ?_⟩
        cases j with
        | zero => simp at hj; subst hj; exact hu
        | succ j => simp at hj; have := e2 j u' hj; rw [show o + (j + 1) = o + 1 + j from by omega]; exact this
    obtain ⟨e1, e2⟩ := key _ _ _ hn
    refine ⟨e1, fun j u hj => ?_⟩
    have hadd : (⟨b, o, none⟩ : Addr).add j = ⟨b, o + j, none⟩ := by unfold Addr.add; split <;> simp_all
    rw [hadd, cell_eq]; exact e2 j u hj
  obtain ⟨v', w', hr, h2, h3, h4⟩ := run_append_own (P := P) w base t ty e i z i.size i.bytes hu hi hz rfl rfl hzs hsz v n xs hown ⟨b, o, none⟩ m c news hlen.1 hlen.2 (by simpa using h1) (by unfold maxLen; omega) hb hbase
  have hnew : v'.ownBlock = v.ownBlock ∨ ∃ b, v'.ownBlock = some b ∧ w.heap.size ≤ b := by
    rcases id hown.2 with ⟨rfl, rfl⟩ | ⟨g, cap, cur, rfl, hbg, hg, hnc, hcm, hcs, htake⟩
    · have hx : xs = [] := List.eq_nil_of_length_eq_zero (by simpa using hown.1)
      subst hx
      obtain ⟨v2, w2, hr2, q2, _, _⟩ := run_append_own (P := P) w w.heap.size t ty e i z i.size i.bytes hu hi hz rfl rfl hzs hsz (.slice none 0 0) 0 [] (World.ownsRow_nil w w.heap.size e i.size) ⟨b, o, none⟩ m c news hlen.1 hlen.2 (by simpa using h1) (by unfold maxLen; omega) hb (Nat.le_refl _)
      rw [hr] at hr2
      cases hr2
      rcases q2.2 with ⟨hv, _⟩ | ⟨g, cap, cur, hv, hbg, _⟩
      · left; rw [hv]
      · right; exact ⟨g, by rw [hv]; rfl, hbg⟩
    · by_cases hroom : n + m ≤ cap
      · have hfit : n * i.size + news.length ≤ cur.size := by rw [hlen.1, hcs, ← Nat.add_mul]; exact Nat.mul_le_mul_right _ hroom
        have hr2 := run_append_room (P := P) w t ty e i hu hi g n cap cur hg ⟨b, o, none⟩ m c news hlen.1 hlen.2 (by simpa using h1) hroom hfit
        rw [hr] at hr2
        cases hr2
        exact .inl rfl
      · have hown' : w.ownsRow base e i.size (.slice (some ⟨g, 0, none⟩) n cap) n xs := hown
        have hr2 := run_append_grow (P := P) w t ty e i z hu hi hz ⟨g, 0, none⟩ n cap xs hown.1 (hown'.cells (g := g) rfl) ⟨b, o, none⟩ m c news hlen.1 hlen.2 (by omega) (by omega) (growslice_fits (by omega) hb)
        rw [hr] at hr2
        cases hr2
        exact .inr ⟨_, rfl, Nat.le_refl _⟩
  exact ⟨v', w', hr, ⟨h3.os, h3.tape, h3.output⟩, hk v' w'.heap h2 ⟨h3.size, h3.block⟩ h4 hnew⟩
theorem vapp_own {t e sz by_ : Nat} {z : Value} (he : elT P t = some (e, sz, by_, z)) (hzs : z.cells.size = sz) (hsz : 0 < sz) {ty base n m c b o : Nat} {v : Value} {xs news : List Value} (hown : Own h base e sz v n xs)
    (hn : rdRow h b o (m * sz) = some news) (h1 : news.all (·.oneCell') = true) (hl : n + m ≤ 140737488355327) (hb : (n + m) * by_ ≤ 140737488355328) (hbase : base ≤ h.size)
    (hk : ∀ v' h', Own h' base e sz v' (n + m) (xs ++ news) → Grow h h' v.ownBlock → (v' = .slice none 0 0 ↔ v = .slice none 0 0 ∧ m = 0) → k v' h') : vapp P #[t, t] ty v (.slice (some ⟨b, o, none⟩) m c) h k :=
  vapp_own' he hzs hsz hown hn h1 hl hb hbase fun v' h' a b c _ => hk v' h' a b c
end
end Go.V
