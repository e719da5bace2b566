/-
  Laws of the framework on maps: look-up, store, entries, ranging; conditions: the key's type is one that reads as a key.
-/
import Derived.Test.YtgfljbplccekcaaDoorV3
import Derived.Maps.Keyed
import Derived.Laws.IdiomRangeMap
set_option linter.unusedSimpArgs false
set_option linter.unusedVariables false
set_option maxRecDepth 100000
namespace Go.V
open Go Go.ChangeShapes Go.WideShapes

/-! lists of pairs -/
def aget {κ β : Type} [DecidableEq κ] : List (κ × β) → κ → Option β
  | [], _ => none
  | (k, v) :: r, a => if k = a then some v else aget r a
def aset {κ β : Type} [DecidableEq κ] : List (κ × β) → κ → β → List (κ × β)
  | [], a, b => [(a, b)]
  | (k, v) :: r, a, b => if k = a then (k, b) :: r else (k, v) :: aset r a b
section
variable {κ β : Type} [DecidableEq κ]
theorem aget_aset (L : List (κ × β)) (a : κ) (b : β) (c : κ) : aget (aset L a b) c = if c = a then some b else aget L c := by
  induction L with
  | nil =>
    simp only [aset, aget]
    by_cases e : a = c
    · simp [e]
    · rw [if_neg e, if_neg (fun h => e h.symm)]
  | cons p r ih =>
    obtain ⟨k, v⟩ := p
    simp only [aset]
    by_cases e : k = a
    · subst e
      rw [if_pos rfl]
      simp only [aget]
      by_cases e : k = c
      · rw [if_pos e, if_pos e.symm]
      · rw [if_neg e, if_neg (fun h => e h.symm), if_neg e]
    · rw [if_neg e]
      simp only [aget, ih]
      by_cases e2 : k = c
      · subst e2; rw [if_pos rfl, if_neg e, if_pos rfl]
      · rw [if_neg e2, if_neg e2]
theorem aget_mem {L : List (κ × β)} {a : κ} {b : β} (h : aget L a = some b) : (a, b) ∈ L := by
  induction L with
  | nil => simp [aget] at h
  | cons p r ih =>
    obtain ⟨k, v⟩ := p
    simp only [aget] at h
    split at h
    · rename_i e; subst e; simp only [Option.some.injEq] at h; subst h; simp
    · exact List.mem_cons_of_mem _ (ih h)
theorem aget_none {L : List (κ × β)} {a : κ} (h : aget L a = none) : ∀ p ∈ L, p.1 ≠ a := by
  induction L with
  | nil => simp
  | cons p r ih =>
    obtain ⟨k, v⟩ := p
    simp only [aget] at h
    split at h
    · cases h
    · rename_i e
      intro p hp
      rcases List.mem_cons.1 hp with rfl | hp
      · exact e
      · exact ih h p hp
theorem aget_of_mem {L : List (κ × β)} (hn : (L.map (·.1)).Nodup) {a : κ} {b : β} (h : (a, b) ∈ L) : aget L a = some b := by
  induction L with
  | nil => simp at h
  | cons p r ih =>
    obtain ⟨k, v⟩ := p
    have hn' : k ∉ r.map (·.1) ∧ (r.map (·.1)).Nodup := List.nodup_cons.1 hn
    simp only [aget]
    rcases List.mem_cons.1 h with e | hr
    · cases e; simp
    · rw [if_neg]
      · exact ih hn'.2 hr
      · rintro rfl; exact hn'.1 (List.mem_map.2 ⟨_, hr, rfl⟩)
theorem aset_keys (L : List (κ × β)) (a : κ) (b : β) : (aset L a b).map (·.1) = if (aget L a).isSome then L.map (·.1) else L.map (·.1) ++ [a] := by
  induction L with
  | nil => rfl
  | cons p r ih =>
    obtain ⟨k, v⟩ := p
    simp only [aset, aget]
    split
    · simp
    · simp only [List.map_cons, ih]; split <;> simp
theorem aset_nodup {L : List (κ × β)} (hn : (L.map (·.1)).Nodup) (a : κ) (b : β) : ((aset L a b).map (·.1)).Nodup := by
  rw [aset_keys]
  split
  · exact hn
  · rename_i h
    have h0 : aget L a = none := by simpa using h
    rw [List.nodup_append]
    refine ⟨hn, by simp, ?_⟩
    intro x hx y hy
    simp only [List.mem_singleton] at hy
    subst hy
    obtain ⟨p, hp, rfl⟩ := List.mem_map.1 hx
    exact aget_none h0 p hp
theorem aset_mem {L : List (κ × β)} {a : κ} {b : β} {p : κ × β} (h : p ∈ aset L a b) : p = (a, b) ∨ p ∈ L := by
  induction L with
  | nil => simp [aset] at h; exact .inl h
  | cons q r ih =>
    obtain ⟨k, v⟩ := q
    simp only [aset] at h
    split at h
    · rename_i e; subst e
      rcases List.mem_cons.1 h with rfl | h
      · exact .inl rfl
      · exact .inr (List.mem_cons_of_mem _ h)
    · rcases List.mem_cons.1 h with rfl | h
      · exact .inr (by simp)
      · rcases ih h with h | h
        · exact .inl h
        · exact .inr (List.mem_cons_of_mem _ h)
theorem aset_new {L : List (κ × β)} {a : κ} (h : aget L a = none) (b : β) : aset L a b = L ++ [(a, b)] := by
  induction L with
  | nil => rfl
  | cons q r ih =>
    obtain ⟨k, v⟩ := q
    simp only [aget] at h
    split at h
    · cases h
    · rename_i e; simp only [aset, if_neg e, ih h, List.cons_append]
theorem aset_len {L : List (κ × β)} (a : κ) (b : β) : (aset L a b).length ≤ L.length + 1 := by
  have := congrArg List.length (aset_keys L a b)
  simp only [List.length_map] at this
  rw [this]; split <;> simp
end

/-! a map in memory -/
abbrev isK (P : Program) (kt : TypeId) (v : Value) : Prop := ∃ l, keyOf P kt v = some l
def born0 (es : Array MapEntry) (i : Nat) : Nat := ((es.toList[i]?).map (·.born)).getD 0
/-- the entries of a block and what they are -/
structure Ties {κ : Type} (enc : κ → Value) (es : Array MapEntry) (c : Nat) (L : List (κ × Value)) : Prop where
  pairs : es.toList.map (fun e => (e.key, e.val)) = L.map (fun p => (enc p.1, p.2))
  born : (es.toList.map (·.born)).Nodup
  lt : ∀ e ∈ es.toList, e.born < c
structure MapAt {κ : Type} (P : Program) (kt : TypeId) (enc : κ → Value) (h : Heap) (m : Nat) (L : List (κ × Value)) : Prop where
  ex : ∃ es c, h[m]? = some (.map es c) ∧ Ties enc es c L
  keys : ∀ p ∈ L, isK P kt (enc p.1)
  nodup : (L.map (·.1)).Nodup
/-- an entry's stamp -/
def Stamp {κ : Type} (enc : κ → Value) (h : Heap) (m : Nat) (a : κ) (s : Nat) : Prop := ∃ es c e, h[m]? = some (.map es c) ∧ e ∈ es.toList ∧ e.born = s ∧ e.key = enc a
/-- an iterator over a map that stays as it is: what has come so far -/
structure Iter {κ : Type} (P : Program) (kt : TypeId) (enc : κ → Value) (h : Heap) (r m : Nat) (L dn : List (κ × Value)) : Prop where
  ex : ∃ es c seen I, h[m]? = some (.map es c) ∧ Ties enc es c L ∧ h[r]? = some (.mapIter (some m) c seen c) ∧ List.Nodup I ∧ (∀ i ∈ I, i < L.length) ∧ seen.toList = I.map (born0 es) ∧ dn = I.filterMap (L[·]?)

section
variable {κ : Type} {P : Program} {kt : TypeId} {enc : κ → Value} {h h' : Heap} {m r : Nat} {L dn : List (κ × Value)}
theorem MapAt.keep (q : MapAt P kt enc h m L) (e : h'[m]? = h[m]?) : MapAt P kt enc h' m L := by
  obtain ⟨es, c, hb, t⟩ := q.ex
  exact ⟨⟨es, c, by rw [e]; exact hb, t⟩, q.keys, q.nodup⟩
theorem MapAt.lt (q : MapAt P kt enc h m L) : m < h.size := by
  obtain ⟨es, c, hb, t⟩ := q.ex
  exact (Array.getElem?_eq_some_iff.1 hb).1
theorem MapAt.ge (g : Ge h h') (q : MapAt P kt enc h m L) : MapAt P kt enc h' m L := q.keep (g.block m q.lt)
theorem MapAt.up {b : Nat} (u : Up h h' b) (q : MapAt P kt enc h m L) (hne : m ≠ b) : MapAt P kt enc h' m L := q.keep (u.other m hne)
theorem Iter.keep (q : Iter P kt enc h r m L dn) (e1 : h'[m]? = h[m]?) (e2 : h'[r]? = h[r]?) : Iter P kt enc h' r m L dn := by
  obtain ⟨es, c, seen, I, hb, t, hr, rest⟩ := q.ex
  exact ⟨es, c, seen, I, by rw [e1]; exact hb, t, by rw [e2]; exact hr, rest⟩
theorem Iter.lt (q : Iter P kt enc h r m L dn) : r < h.size ∧ m < h.size := by
  obtain ⟨es, c, seen, I, hb, t, hr, rest⟩ := q.ex
  exact ⟨(Array.getElem?_eq_some_iff.1 hr).1, (Array.getElem?_eq_some_iff.1 hb).1⟩
theorem Iter.ge (g : Ge h h') (q : Iter P kt enc h r m L dn) : Iter P kt enc h' r m L dn := q.keep (g.block m q.lt.2) (g.block r q.lt.1)
theorem Iter.up {b : Nat} (u : Up h h' b) (q : Iter P kt enc h r m L dn) (hm : m ≠ b) (hr : r ≠ b) : Iter P kt enc h' r m L dn := q.keep (u.other m hm) (u.other r hr)
theorem Stamp.keep {a : κ} {s : Nat} (q : Stamp enc h m a s) (e : h'[m]? = h[m]?) : Stamp enc h' m a s := by
  obtain ⟨es, c, x, hb, t⟩ := q
  exact ⟨es, c, x, by rw [e]; exact hb, t⟩

theorem MapAt.new (h : Heap) : MapAt P kt enc (h.push (.map #[] 0)) h.size [] :=
  ⟨⟨#[], 0, push_new _ _, ⟨rfl, by simp, by simp⟩⟩, by simp, by simp⟩

variable [DecidableEq κ]
theorem Ties.find (henc : ∀ a b, enc a = enc b → a = b) {es : Array MapEntry} {c : Nat} (t : Ties enc es c L) (hn : (L.map (·.1)).Nodup) (a : κ) {j : Nat} {e : MapEntry} (he : es.toList[j]? = some e) (hk : e.key = enc a) :
    aget L a = some e.val ∧ L[j]? = some (a, e.val) := by
  have h1 : (es.toList.map (fun e => (e.key, e.val)))[j]? = some (e.key, e.val) := by simp [he]
  rw [t.pairs, List.getElem?_map] at h1
  obtain ⟨p, hp, e2⟩ := Option.map_eq_some_iff.1 h1
  simp only [Prod.mk.injEq] at e2
  rw [hk] at e2
  have h3 := henc _ _ e2.1
  have h4 : p = (a, e.val) := by rw [← h3, ← e2.2]
  rw [h4] at hp
  exact ⟨aget_of_mem hn (List.mem_of_getElem? hp), hp⟩
theorem Ties.none {es : Array MapEntry} {c : Nat} (t : Ties enc es c L) (a : κ) (hn : ∀ e ∈ es.toList, e.key ≠ enc a) : aget L a = none := by
  cases h : aget L a with
  | none => rfl
  | some v =>
    have h1 := aget_mem h
    have h2 : (enc a, v) ∈ L.map (fun p => (enc p.1, p.2)) := List.mem_map.2 ⟨_, h1, rfl⟩
    rw [← t.pairs] at h2
    obtain ⟨e, he, e2⟩ := List.mem_map.1 h2
    simp only [Prod.mk.injEq] at e2
    exact absurd e2.1 (hn e he)
omit [DecidableEq κ] in
theorem Ties.key {es : Array MapEntry} {c : Nat} (t : Ties enc es c L) (hk : ∀ p ∈ L, isK P kt (enc p.1)) : ∀ e ∈ es.toList, ∃ l, keyOf P kt e.key = some l := by
  intro e he
  have h2 : (e.key, e.val) ∈ es.toList.map (fun e => (e.key, e.val)) := List.mem_map.2 ⟨_, he, rfl⟩
  rw [t.pairs] at h2
  obtain ⟨p, hp, e2⟩ := List.mem_map.1 h2
  simp only [Prod.mk.injEq] at e2
  rw [← e2.1]; exact hk p hp

/-- what a look-up hands back -/
def lookR (z : Value) (ok : Bool) (r : Option Value) : Value := if ok then .tuple #[r.getD z, .bool r.isSome] else r.getD z
theorem vlook_ok {t et : TypeId} {z : Value} {ok : Bool} {a : κ} {k : Value → Heap → Prop} (hT : P.underlying t = some (.map kt et)) (K : Maps.Keyed P kt) (henc : ∀ a b, enc a = enc b → a = b) (hz : zeroT P et = some z)
    (hm : MapAt P kt enc h m L) (hk : isK P kt (enc a)) (hk' : k (lookR z ok (aget L a)) h) : vlook P t (.map (some m)) (enc a) ok h k := by
  intro w hw
  subst hw
  obtain ⟨es, c, hb, t'⟩ := hm.ex
  obtain ⟨l, hl⟩ := hk
  obtain ⟨i, hi, hiz⟩ := Option.bind_eq_some_iff.1 hz
  refine ⟨_, w, ?_, Same.refl _, hk'⟩
  have hch := fun em => K.check w em hl
  rcases K.find w hl es.toList (t'.key hm.keys) with ⟨h1, h2⟩ | ⟨j, e, h1, h2, h3⟩
  · have h4 := t'.none a h2
    simp [Instr.lookup, run_underlying hT, MapKept.run_getObj_map hb, hch, h1, zeroValue, typeInfo, hi, hiz, h4, lookR]
  · have h4 := (t'.find henc hm.nodup a h2 h3).1
    simp [Instr.lookup, run_underlying hT, MapKept.run_getObj_map hb, hch, h1, h4, lookR]
theorem vlook_nil {t et : TypeId} {z x : Value} {ok : Bool} {k : Value → Heap → Prop} (hT : P.underlying t = some (.map kt et)) (K : Maps.Keyed P kt) (hz : zeroT P et = some z)
    (hk : isK P kt x) (hk' : k (lookR z ok none) h) : vlook P t (.map none) x ok h k := by
  intro w hw
  subst hw
  obtain ⟨l, hl⟩ := hk
  obtain ⟨i, hi, hiz⟩ := Option.bind_eq_some_iff.1 hz
  refine ⟨_, w, ?_, Same.refl _, hk'⟩
  have hch := fun em => K.check w em hl
  have h1 : (Instr.findKey kt x []).run P w = .ok none w := by
    rcases K.find w hl [] (by simp) with ⟨h1, _⟩ | ⟨j, e, h1, h2, _⟩
    · exact h1
    · simp at h2
  simp [Instr.lookup, run_underlying hT, hch, h1, zeroValue, typeInfo, hi, hiz, lookR]

theorem set_up {w : World} {m : Nat} {o o' : Obj} (hb : w.heap[m]? = some o) : (w.heap.setIfInBounds m o')[m]? = some o' ∧ Up w.heap (w.heap.setIfInBounds m o') m := by
  obtain ⟨h1, h2⟩ := MapKept.heap_set (o' := o') hb
  exact ⟨h1, by simp, h2⟩
theorem modify_list {es : Array MapEntry} {j : Nat} (f : MapEntry → MapEntry) : (es.modify j f).toList = es.toList.modify j f := by simp
theorem aset_at {L : List (κ × Value)} (hn : (L.map (·.1)).Nodup) {a : κ} {v0 v : Value} {j : Nat} (hj : L[j]? = some (a, v0)) : aset L a v = L.set j (a, v) := by
  induction L generalizing j with
  | nil => simp at hj
  | cons p r ih =>
    obtain ⟨k, u⟩ := p
    have hn' : k ∉ r.map (·.1) ∧ (r.map (·.1)).Nodup := List.nodup_cons.1 hn
    cases j with
    | zero => simp at hj; obtain ⟨rfl, rfl⟩ := hj; simp [aset]
    | succ j =>
      simp only [List.getElem?_cons_succ] at hj
      have hne : k ≠ a := by rintro rfl; exact hn'.1 (List.mem_map.2 ⟨_, List.mem_of_getElem? hj, rfl⟩)
      simp only [aset, if_neg hne, List.set_cons_succ, ih hn'.2 hj]
theorem Ties.modify {es : Array MapEntry} {c : Nat} (t : Ties enc es c L) (hn : (L.map (·.1)).Nodup) {a : κ} {j : Nat} {e : MapEntry} (henc : ∀ a b, enc a = enc b → a = b) (he : es.toList[j]? = some e) (hk : e.key = enc a) (v : Value) (f : MapEntry → MapEntry)
    (hf : ∀ x, x.key = enc a → (f x).key = enc a ∧ (f x).val = v ∧ (f x).born = x.born) : Ties enc (es.modify j f) c (aset L a v) := by
  obtain ⟨_, hL⟩ := t.find henc hn a he hk
  have hjl : j < es.toList.length := (List.getElem?_eq_some_iff.1 he).1
  have hmod : (es.modify j f).toList = es.toList.set j (f e) := by
    rw [modify_list, List.modify_eq_set]
    simp [he]
  refine ⟨?_, ?_, ?_⟩
  · rw [hmod, aset_at hn hL, List.map_set, List.map_set, t.pairs]
    obtain ⟨h1, h2, _⟩ := hf e hk
    rw [h1, h2]
  · rw [hmod, List.map_set, (hf e hk).2.2]
    have : (es.toList.map (·.born)).set j e.born = es.toList.map (·.born) := by
      apply List.ext_getElem?
      intro i
      rw [List.getElem?_set]
      split
      · rename_i h; subst h; simp [he]; simpa using hjl
      · rfl
    rw [this]; exact t.born
  · intro x hx
    rw [hmod] at hx
    rcases List.mem_or_eq_of_mem_set hx with h1 | rfl
    · exact t.lt x h1
    · rw [(hf e hk).2.2]; exact t.lt e (List.mem_of_getElem? he)
theorem Ties.push {es : Array MapEntry} {c : Nat} (t : Ties enc es c L) {a : κ} (hno : aget L a = Option.none) (v : Value) : Ties enc (es.push ⟨enc a, v, c⟩) (c + 1) (aset L a v) := by
  refine ⟨?_, ?_, ?_⟩
  · rw [aset_new hno, Array.toList_push, List.map_append, List.map_append, t.pairs]; rfl
  · rw [Array.toList_push, List.map_append, List.nodup_append]
    refine ⟨t.born, by simp, ?_⟩
    intro x hx y hy
    simp only [List.map_cons, List.map_nil, List.mem_singleton] at hy
    obtain ⟨e, he, rfl⟩ := List.mem_map.1 hx
    have := t.lt e he
    omega
  · intro e he
    rw [Array.toList_push, List.mem_append] at he
    rcases he with he | he
    · have := t.lt e he; omega
    · simp only [List.mem_singleton] at he; subst he; simp
theorem aset_isK {a : κ} {v : Value} (hk : ∀ p ∈ L, isK P kt (enc p.1)) (ha : isK P kt (enc a)) : ∀ p ∈ aset L a v, isK P kt (enc p.1) := by
  intro p hp
  rcases aset_mem hp with rfl | hp
  · exact ha
  · exact hk p hp

theorem vupd_ok {t et : TypeId} {a : κ} {v : Value} {k : Value → Heap → Prop} (hT : P.underlying t = some (.map kt et)) (K : Maps.Keyed P kt) (henc : ∀ a b, enc a = enc b → a = b)
    (hm : MapAt P kt enc h m L) (hk : isK P kt (enc a)) (hk' : ∀ h', MapAt P kt enc h' m (aset L a v) → Up h h' m → k undef h') : vupd P t (.map (some m)) (enc a) v h k := by
  intro w hw
  subst hw
  obtain ⟨es, c, hb, t'⟩ := hm.ex
  obtain ⟨l, hl⟩ := id hk
  have hch := fun em => K.check w em hl
  rcases K.find w hl es.toList (t'.key hm.keys) with ⟨h1, h2⟩ | ⟨j, e, h1, h2, h3⟩
  · have h4 := t'.none a h2
    refine ⟨{ w with heap := w.heap.setIfInBounds m (.map (es.push ⟨enc a, v, c⟩) (c + 1)) }, ?_, ⟨rfl, rfl, rfl⟩, hk' _ ⟨⟨_, _, (set_up hb).1, t'.push h4 v⟩, aset_isK hm.keys hk, aset_nodup hm.nodup a v⟩ (set_up hb).2⟩
    simp [Instr.mapUpdate, run_underlying hT, MapKept.run_getObj_map hb, hch, h1, MapKept.run_setObj_map _ hb]
  · have hst := K.stays w hl
    have hj : es[j]? = some e := by simpa using h2
    refine ⟨{ w with heap := w.heap.setIfInBounds m (.map (es.modify j fun e => { e with key := enc a, val := v }) c) }, ?_, ⟨rfl, rfl, rfl⟩, hk' _ ⟨⟨_, _, (set_up hb).1, t'.modify hm.nodup henc h2 h3 v _ (fun x hx => ⟨rfl, rfl, rfl⟩)⟩, aset_isK hm.keys hk, aset_nodup hm.nodup a v⟩ (set_up hb).2⟩
    simp [Instr.mapUpdate, run_underlying hT, MapKept.run_getObj_map hb, hch, h1, MapKept.run_setObj_map _ hb, hj, h3, hst]
theorem vment_ok {t et : TypeId} {a : κ} {z : Value} {k : Value → Heap → Prop} (hT : P.underlying t = some (.map kt et)) (K : Maps.Keyed P kt) (henc : ∀ a b, enc a = enc b → a = b) (hz : zeroT P et = some z)
    (hm : MapAt P kt enc h m L) (hk : isK P kt (enc a)) (hk' : ∀ h' s, MapAt P kt enc h' m (aset L a ((aget L a).getD z)) → Stamp enc h' m a s → Up h h' m → k (.tuple #[(aget L a).getD z, .int .i64 (s : Nat)]) h') : vment P t (.map (some m)) (enc a) h k := by
  intro w hw
  subst hw
  obtain ⟨es, c, hb, t'⟩ := hm.ex
  obtain ⟨l, hl⟩ := id hk
  obtain ⟨i, hi, hiz⟩ := Option.bind_eq_some_iff.1 hz
  have hch := fun em => K.check w em hl
  rcases K.find w hl es.toList (t'.key hm.keys) with ⟨h1, h2⟩ | ⟨j, e, h1, h2, h3⟩
  · have h4 := t'.none a h2
    have hk2 := hk' (w.heap.setIfInBounds m (.map (es.push ⟨enc a, z, c⟩) (c + 1))) c ⟨⟨_, _, (set_up hb).1, by rw [h4]; exact t'.push h4 z⟩, aset_isK hm.keys hk, aset_nodup hm.nodup a _⟩ ⟨_, _, ⟨enc a, z, c⟩, (set_up hb).1, by simp, rfl, rfl⟩ (set_up hb).2
    refine ⟨_, { w with heap := w.heap.setIfInBounds m (.map (es.push ⟨enc a, z, c⟩) (c + 1)) }, ?_, ⟨rfl, rfl, rfl⟩, hk2⟩
    simp [Instr.mapEntry, run_underlying hT, MapKept.run_getObj_map hb, hch, h1, zeroValue, typeInfo, hi, hiz, MapKept.run_setObj_map _ hb, goInt, h4]
  · have hst := K.stays w hl
    have hj : es[j]? = some e := by simpa using h2
    have hg := (t'.find henc hm.nodup a h2 h3).1
    have hk2 := hk' (w.heap.setIfInBounds m (.map (es.modify j fun e => { e with key := enc a }) c)) e.born
      ⟨⟨_, _, (set_up hb).1, by
        rw [hg]
        have t2 := t'.modify hm.nodup henc h2 h3 e.val (fun x => { x with key := enc a, val := e.val }) (fun x hx => ⟨rfl, rfl, rfl⟩)
        have e2 : (es.modify j fun x => { x with key := enc a, val := e.val }) = es.modify j fun e => { e with key := enc a } := by
          rw [← Array.toList_inj, modify_list, modify_list, List.modify_eq_set, List.modify_eq_set]
          simp [h2]
        rw [e2] at t2; exact t2⟩, aset_isK hm.keys hk, aset_nodup hm.nodup a _⟩
      ⟨_, _, { e with key := enc a }, (set_up hb).1, by
        rw [modify_list, List.modify_eq_set]
        have hjl : j < es.toList.length := (List.getElem?_eq_some_iff.1 h2).1
        simp only [h2, Option.map_some, Option.getD_some]
        exact List.mem_iff_getElem?.2 ⟨j, by rw [List.getElem?_set_self hjl]⟩, rfl, rfl⟩ (set_up hb).2
    refine ⟨_, { w with heap := w.heap.setIfInBounds m (.map (es.modify j fun e => { e with key := enc a }) c) }, ?_, ⟨rfl, rfl, rfl⟩, hk2⟩
    simp [Instr.mapEntry, run_underlying hT, MapKept.run_getObj_map hb, hch, h1, MapKept.run_setObj_map _ hb, hj, h3, hst, goInt, hg]
theorem vest_ok {t et : TypeId} {a : κ} {s : Nat} {q : IntKind} {v : Value} {k : Value → Heap → Prop} (henc : ∀ a b, enc a = enc b → a = b)
    (hm : MapAt P kt enc h m L) (hs : Stamp enc h m a s) (hk : isK P kt (enc a)) (hk' : ∀ h', MapAt P kt enc h' m (aset L a v) → Up h h' m → k undef h') : vest P t (.map (some m)) (.int q s) v h k := by
  intro w hw
  subst hw
  obtain ⟨es, c, hb, t'⟩ := hm.ex
  obtain ⟨es2, c2, e, hb2, he, hes, hek⟩ := hs
  rw [hb] at hb2
  simp only [Option.some.injEq, Obj.map.injEq] at hb2
  obtain ⟨rfl, rfl⟩ := hb2
  obtain ⟨j, hj⟩ := List.getElem?_of_mem he
  have hfind : es.findIdx? (fun e => (e.born : Int) == (s : Int)) = some j := by
    rw [Array.findIdx?_eq_some_iff_getElem]
    have hjl := (List.getElem?_eq_some_iff.1 hj).1
    have hje := (List.getElem?_eq_some_iff.1 hj).2
    have hjs : j < es.size := by simpa using hjl
    refine ⟨hjs, by
      have : es[j] = e := by simpa using hje
      rw [this, hes]; simp, fun i hi => ?_⟩
    have hil : i < es.toList.length := by omega
    intro hc
    have hc' : (es.toList[i]'hil).born = s := by
      have : ((es[i]'(Nat.lt_trans hi hjs)).born : Int) = (s : Int) := by simpa using hc
      have h2 : (es[i]'(Nat.lt_trans hi hjs)) = es.toList[i]'hil := by simp
      rw [← h2]; exact_mod_cast this
    have hnd := List.nodup_iff_pairwise_ne.1 t'.born
    rw [List.pairwise_map, List.pairwise_iff_getElem] at hnd
    exact hnd i j hil hjl hi (by rw [hc', hje, hes])
  refine ⟨{ w with heap := w.heap.setIfInBounds m (.map (es.modify j fun e => { e with val := v }) c) }, ?_, ⟨rfl, rfl, rfl⟩, hk' _ ⟨⟨_, _, (set_up hb).1, t'.modify hm.nodup henc hj hek v _ (fun x hx => ⟨hx, rfl, rfl⟩)⟩, aset_isK hm.keys hk, aset_nodup hm.nodup a v⟩ (set_up hb).2⟩
  simp [Instr.entryStore, MapKept.run_getObj_map hb, asInt, asIntOf, hfind, MapKept.run_setObj_map _ hb]

omit [DecidableEq κ] in
theorem vrng_ok {t et : TypeId} {k : Value → Heap → Prop} (hT : P.underlying t = some (.map kt et)) (hm : MapAt P kt enc h m L)
    (hk' : ∀ h', Iter P kt enc h' h.size m L [] → Ge h h' → h'.size = h.size + 1 → k (ptr h.size 0) h') : vrng P t (.map (some m)) h k := by
  intro w hw
  subst hw
  obtain ⟨es, c, hb, t'⟩ := hm.ex
  refine ⟨_, _, Go.run_range_map w t kt et m es c hT hb, ⟨rfl, rfl, rfl⟩, hk' _ ⟨es, c, #[], [], ?_, t', push_new _ _, by simp, by simp, rfl, rfl⟩ (Ge.push _ _) (show (w.heap.push _).size = _ from Array.size_push _)⟩
  exact push_lookup hb
omit [DecidableEq κ] in
theorem vrng_nil {t et : TypeId} {k : Value → Heap → Prop} (hT : P.underlying t = some (.map kt et))
    (hk' : k (ptr h.size 0) (h.push (.mapIter none 0 #[] 0))) : vrng P t (.map none) h k := by
  intro w hw
  subst hw
  exact ⟨_, _, Go.run_range_nilMap w t kt et hT, ⟨rfl, rfl, rfl⟩, hk'⟩
omit [DecidableEq κ] in
theorem vnext_nil {ty : TypeId} {x y : Nat} {s : Array Nat} {k : Value → Heap → Prop} (hr : h[r]? = some (.mapIter none x s y))
    (hk' : k (.tuple #[.bool false]) h) : vnext P (ptr r 0) false ty h k := by
  intro w hw
  subst hw
  exact ⟨_, w, by simp [Instr.next, getObj, Sem.run, hr], Same.refl _, hk'⟩
omit [DecidableEq κ] in
/-- one step of an iterator: one of those that have not come, or none is left -/
theorem vnext_ok {ty : TypeId} {k : Value → Heap → Prop} (hi : Iter P kt enc h r m L dn) (hne : r ≠ m)
    (hnext : ∀ (h' : Heap) (a : κ) (v : Value) (i : Nat), L[i]? = some (a, v) → Iter P kt enc h' r m L (dn ++ [(a, v)]) → Up h h' r → dn.length < L.length → k (.tuple #[.bool true, enc a, v]) h')
    (hend : dn.Perm L → k (.tuple #[.bool false]) h) : vnext P (ptr r 0) false ty h k := by
  intro w hw
  subst hw
  obtain ⟨es, c, seen, I, hb, t, hr, hI, hIl, hseen, hdn⟩ := hi.ex
  have hlen : es.toList.length = L.length := by have := congrArg List.length t.pairs; simpa using this
  have test : (!seen.isEmpty && !es.isEmpty && es.all (fun x => decide (x.born ≥ c))) = false := Go.next_test_false seen es c c t.lt (Nat.le_refl _)
  have hb0 : ∀ i e, es.toList[i]? = some e → born0 es i = e.born := fun i e he => by simp [born0, he]
  have hinj : ∀ (i j : Nat) (e e' : MapEntry), es.toList[i]? = some e → es.toList[j]? = some e' → e.born = e'.born → i = j := by
    intro i j e e' h1 h2 h3
    obtain ⟨hi1, hi2⟩ := List.getElem?_eq_some_iff.1 h1
    obtain ⟨hj1, hj2⟩ := List.getElem?_eq_some_iff.1 h2
    have hnd := List.nodup_iff_pairwise_ne.1 t.born
    rw [List.pairwise_map, List.pairwise_iff_getElem] at hnd
    rcases Nat.lt_trichotomy i j with h4 | h4 | h4
    · exact absurd (by rw [hi2, hj2, h3]) (hnd i j hi1 hj1 h4)
    · exact h4
    · exact absurd (by rw [hi2, hj2, h3]) (hnd j i hj1 hi1 h4)
  have hdl : dn.length = I.length := by
    rw [hdn]
    clear hdn hseen hI
    induction I with
    | nil => rfl
    | cons i I ih =>
      have h1 := hIl i (by simp)
      rw [List.filterMap_cons_some (by exact List.getElem?_eq_getElem h1)]
      simp [ih (fun j hj => hIl j (by simp [hj]))]
  have hcl : Array.filter (fun e => decide (e.born < c)) (es.filter fun e => !seen.contains e.born) = es.filter fun e => !seen.contains e.born :=
    Array.filter_eq_self.2 fun x hx => by
      simp only [Array.mem_filter] at hx
      simpa using t.lt x (by simpa using hx.1)
  have hcn : Array.filter (fun e => decide (e.born ≥ c)) (es.filter fun e => !seen.contains e.born) = #[] := by
    rw [Array.filter_eq_empty_iff]
    intro x hx
    simp only [Array.mem_filter] at hx
    have := t.lt x (by simpa using hx.1)
    simp; omega
  have hsc : ∀ i e, es.toList[i]? = some e → (seen.contains e.born = true ↔ i ∈ I) := by
    intro i e he
    rw [Array.contains_iff_mem, ← Array.mem_toList_iff, hseen]
    constructor
    · intro h1
      obtain ⟨j, hj, hje⟩ := List.mem_map.1 h1
      have hjl := hIl j hj
      obtain ⟨e', he'⟩ : ∃ e', es.toList[j]? = some e' := ⟨_, List.getElem?_eq_getElem (by omega)⟩
      rw [hb0 j e' he'] at hje
      have := hinj j i e' e he' he hje
      subst this; exact hj
    · intro h1
      exact List.mem_map.2 ⟨i, h1, hb0 i e he⟩
  generalize hLf : (es.filter fun e => !seen.contains e.born) = Lf at *
  by_cases h0 : Lf.size = 0
  · have hLe : Lf = #[] := Array.eq_empty_of_size_eq_zero h0
    have hall : ∀ i, i < L.length → i ∈ I := by
      intro i hi
      obtain ⟨e, he⟩ : ∃ e, es.toList[i]? = some e := ⟨_, List.getElem?_eq_getElem (by omega)⟩
      rw [← hsc i e he]
      rw [hLe, Array.filter_eq_empty_iff] at hLf
      have := hLf e (by simpa using List.mem_of_getElem? he)
      simpa using this
    have hperm : I.Perm (List.range L.length) := (List.perm_ext_iff_of_nodup hI List.nodup_range).2 fun i => ⟨fun h => List.mem_range.2 (hIl i h), fun h => hall i (List.mem_range.1 h)⟩
    have hdp : dn.Perm L := by
      rw [hdn]
      refine (hperm.filterMap _).trans ?_
      have : (List.range L.length).filterMap (L[·]?) = L := by
        apply List.ext_getElem?
        intro i
        have key : ∀ (n : Nat), n ≤ L.length → (List.range n).filterMap (L[·]?) = L.take n := by
          intro n
          induction n with
          | zero => simp
          | succ n ih =>
            intro hn
            rw [List.range_succ, List.filterMap_append, ih (by omega), List.take_add_one]
            have : L[n]? = some (L[n]'(by omega)) := List.getElem?_eq_getElem (by omega)
            simp [this]
        rw [key _ (Nat.le_refl _), List.take_length]
      rw [this]
    refine ⟨_, w, ?_, Same.refl _, hend hdp⟩
    simp only [Instr.next, getObj, Sem.run_bind, Sem.run, hr, hb, Result.andThen, test, Bool.false_eq_true, if_false, hLf]
    rw [hLe]
    simp [choose, Sem.run, Question.forced]
  · have hne' : Lf.isEmpty = false := by simp [Array.isEmpty, h0]
    have hch : ∃ (j : Nat) (w1 : World), j < Lf.size ∧ w1.heap = w.heap ∧ Same w w1 ∧ (choose (Question.mapNext Lf.size)).run P w = .ok j w1 := by
      by_cases hf : Lf.size ≤ 1
      · exact ⟨0, w, by omega, rfl, Same.refl _, by simp [choose, Sem.run, Question.forced, hf]⟩
      · exact ⟨_, w.drew, Nat.mod_lt _ (by omega), rfl, ⟨rfl, rfl, rfl⟩, by
          simp only [choose, Sem.run, Question.forced, decide_eq_true_eq, hf, if_false, Question.cut]
          rfl⟩
    obtain ⟨j, w1, hj, hw1, hs1, hrun⟩ := hch
    have hmem : Lf[j] ∈ Lf := Array.getElem_mem hj
    generalize hx : Lf[j] = x at hmem
    rw [← hLf, Array.mem_filter] at hmem
    obtain ⟨i, hi'⟩ := List.getElem?_of_mem (show x ∈ es.toList by simpa using hmem.1)
    have hiI : i ∉ I := by
      rw [← hsc i x hi']; simpa using hmem.2
    have hil : i < L.length := by have := (List.getElem?_eq_some_iff.1 hi').1; omega
    obtain ⟨p, hp⟩ : ∃ p, L[i]? = some p := ⟨_, List.getElem?_eq_getElem hil⟩
    have hxp : x.key = enc p.1 ∧ x.val = p.2 := by
      have h1 : (es.toList.map (fun e => (e.key, e.val)))[i]? = some (x.key, x.val) := by simp [hi']
      rw [t.pairs, List.getElem?_map, hp] at h1
      simp only [Option.map_some, Option.some.injEq, Prod.mk.injEq] at h1
      exact ⟨h1.1.symm, h1.2.symm⟩
    have hr1 : w1.heap[r]? = some (.mapIter (some m) c seen c) := by rw [hw1]; exact hr
    have hset : (setObj r (.mapIter (some m) c (seen.push x.born) c)).run P w1 = .ok () { w1 with heap := w1.heap.setIfInBounds r (.mapIter (some m) c (seen.push x.born) c) } := by
      simp [setObj, Sem.run, hr1]
    obtain ⟨s1, s2⟩ := set_up (o' := Obj.mapIter (some m) c (seen.push x.born) c) hr1
    have hlenI : I.length < L.length := by
      have hsub : (i :: I).Nodup := List.nodup_cons.2 ⟨hiI, hI⟩
      have h1 : (i :: I) ⊆ List.range L.length := by
        intro y hy
        rcases List.mem_cons.1 hy with rfl | hy
        · exact List.mem_range.2 hil
        · exact List.mem_range.2 (hIl y hy)
      have h2 := List.Nodup.length_le_of_subset hsub h1
      simp at h2; omega
    refine ⟨_, { w1 with heap := w1.heap.setIfInBounds r (.mapIter (some m) c (seen.push x.born) c) }, ?_, ⟨hs1.os, hs1.tape, hs1.output⟩,
      hnext _ p.1 p.2 i hp ⟨es, c, seen.push x.born, I ++ [i], by rw [s2.other m (fun e => hne e.symm), hw1]; exact hb, t, s1, ?_, ?_, ?_, ?_⟩ (hw1 ▸ s2) (by omega)⟩
    · simp only [Instr.next, getObj, Sem.run_bind, Sem.run, hr, hb, Result.andThen, test, Bool.false_eq_true, if_false, hLf, hcl, hcn, Array.append_empty, hne', Array.empty_append, Array.size_map, hrun, Array.getElem?_map, Array.getElem?_eq_getElem hj, Option.map_some, hx, hset, hxp.1, hxp.2]
      rfl
    · rw [List.nodup_append]; exact ⟨hI, by simp, by intro a ha b hb'; simp at hb'; subst hb'; rintro rfl; exact hiI ha⟩
    · intro y hy
      rcases List.mem_append.1 hy with hy | hy
      · exact hIl y hy
      · simp at hy; subst hy; exact hil
    · rw [Array.toList_push, hseen, List.map_append]; simp [hb0 i x hi']
    · rw [List.filterMap_append, ← hdn]; simp [hp]
omit [DecidableEq κ] in
theorem lenMap {t et : TypeId} (hT : P.underlying t = some (.map kt et)) (hm : MapAt P kt enc h m L) : lenV P h t (.map (some m)) = some (.int .i64 L.length) := by
  obtain ⟨es, c, hb, t'⟩ := hm.ex
  have hlen : es.toList.length = L.length := by have := congrArg List.length t'.pairs; simpa using this
  simp only [lenV, hT, hb]
  rw [← hlen]; simp
end
end Go.V
