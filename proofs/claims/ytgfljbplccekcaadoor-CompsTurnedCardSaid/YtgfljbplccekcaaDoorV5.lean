/-
  Laws of the framework on append of strings and of nothing, copy, bytes as a string; conditions: sizes, as each theorem states.
-/
import Derived.Test.YtgfljbplccekcaaDoorV4
import Derived.Lib.AppendStr
import Derived.Laws.CopyRow
import Derived.Laws.IdiomCopy
import Derived.Laws.BytesString
set_option linter.unusedSimpArgs false
set_option linter.unusedVariables false
set_option maxRecDepth 100000
namespace Go.V
open Go

/-- bytes as values -/
def byts (l : List UInt8) : List Value := l.map fun c => Value.int .u8 c.toNat
theorem rdRow_at {h : Heap} {b : Nat} : ∀ {q o : Nat} {l : List Value}, rdRow h b o q = some l → l.length = q ∧ ∀ j u, l[j]? = some u → hcell h b (o + j) = some u
  | 0, o, l, hl => by simp only [rdRow, Option.some.injEq] at hl; subst hl; simp
  | q + 1, o, l, hl => by
    simp only [rdRow, Option.bind_eq_some_iff, Option.some.injEq] at hl
    obtain ⟨u, hu, vs, hvs, rfl⟩ := hl
    obtain ⟨e1, e2⟩ := rdRow_at hvs
    refine ⟨by simp [e1], fun j u' hj => ?_⟩
    cases j with
    | zero => simp at hj; subst hj; exact hu
    | succ j => simp at hj; have := e2 j u' hj; rw [show o + (j + 1) = o + 1 + j from by omega]; exact this
theorem cell_add {w : World} {b o j : Nat} : w.cell? ((⟨b, o, none⟩ : Addr).add j) = hcell w.heap b (o + j) := by
  have hadd : (⟨b, o, none⟩ : Addr).add j = ⟨b, o + j, none⟩ := by unfold Addr.add; split <;> simp_all
  rw [hadd, cell_eq]
section
variable {P : Program} {h : Heap} {k : Value → Heap → Prop}
theorem vapp_none {t e sz by_ : Nat} {z : Value} (he : elT P t = some (e, sz, by_, z)) {ty base n c : Nat} {v : Value} {xs : List Value} (hown : Own h base e sz v n xs) (hk : k v h) : vapp P #[t, t] ty v (.slice none 0 c) h k := by
  obtain ⟨hu, i, hi, hz, rfl, rfl⟩ := elT_parts he
  intro w hw
  subst hw
  refine ⟨v, w, ?_, Same.refl _, hk⟩
  rcases hown.2 with ⟨rfl, rfl⟩ | ⟨g, cap, cur, rfl, hb, hg, hc, hm, hs, _⟩
  · simp [Builtin.append_, run_underlying hu, sizeOf, typeInfo, hi, Builtin.lenOf, Builtin.firstCells]
  · have hst : ∀ a : Addr, (storeCells a [] 0).run P w = .ok () w := fun a => by simp [storeCells]
    simp [Builtin.append_, run_underlying hu, sizeOf, typeInfo, hi, Builtin.lenOf, Builtin.firstCells, hc, hst]
theorem vapp_str {t u e : Nat} (he : elT P t = some (e, 1, 1, .int .u8 0)) (hu : strT P u = true) {ty base n : Nat} {v : Value} {xs : List Value} {s : ByteArray} (hown : Own h base e 1 v n xs)
    (hb : n + s.size ≤ 140737488355328) (hbase : base ≤ h.size)
    (hk : ∀ v' h', Own h' base e 1 v' (n + s.size) (xs ++ byts s.data.toList) → Grow h h' v.ownBlock → (v' = .slice none 0 0 ↔ v = .slice none 0 0 ∧ s.size = 0) → k v' h') : vapp P #[t, u] ty v (.string s) h k := by
  obtain ⟨hut, i, hi, hz, hs1, hb1⟩ := elT_parts he
  have hus : P.underlying u = some .string := by
    unfold strT at hu
    split at hu
    · assumption
    · cases hu
  intro w hw
  subst hw
  obtain ⟨v', w', hr, h2, h3, h4⟩ := Go.Lib.run_append_own_string (P := P) w base t u ty e i hut hus hi hz hs1 hb1 v n xs hown s (by unfold maxLen; omega) hb hbase
  refine ⟨v', w', hr, ⟨h3.os, h3.tape, h3.output⟩, hk v' w'.heap ?_ ⟨h3.size, h3.block⟩ h4⟩
  have e1 : Go.Lib.strCells s = byts s.data.toList := rfl
  rw [← e1]; exact h2

theorem setL_take (c : Array Value) (o : Nat) : ∀ (vs : List Value), o + vs.length ≤ c.size → (setL c o vs).toList = c.toList.take o ++ vs ++ c.toList.drop (o + vs.length) := by
  intro vs
  induction vs generalizing c o with
  | nil => intro _; simp [setL]
  | cons v vs ih =>
    intro hc
    simp only [List.length_cons] at hc
    rw [setL, ih _ _ (by simp; omega)]
    simp only [Array.toList_setIfInBounds, List.length_cons]
    rw [take_set_succ' _ _ _ (by simp; omega), List.drop_set_of_lt (by omega), show o + 1 + vs.length = o + (vs.length + 1) from by omega]
    simp
/-- copy into a row of which all is known -/
theorem vcopy_ok {dT sT ty e by_ : Nat} {z : Value} (he : elT P dT = some (e, 1, by_, z)) {g o dn dc b so sn sc : Nat} {cur : Array Value} {te : TypeId} {cs : List Value} (hg : h[g]? = some (.cells cur te (0, 0)))
    (hsrc : rdRow h b so cs.length = some cs) (hn : cs.length = min sn dn) (hfit : o + cs.length ≤ cur.size) (h1 : cs.all (·.oneCell') = true)
    (hk : ∀ h', h'[g]? = some (.cells (setL cur o cs) te (0, 0)) → Up h h' g → k (.int .i64 cs.length) h') :
    vcopy P #[dT, sT] ty [.slice (some ⟨g, o, none⟩) dn dc, .slice (some ⟨b, so, none⟩) sn sc] h k := by
  obtain ⟨hut, i, hi, hz, hs1, hb1⟩ := elT_parts he
  intro w hw
  subst hw
  obtain ⟨_, hc⟩ := rdRow_at hsrc
  have hr := Go.run_copy_row (P := P) w dT sT ty e g o dn dc ⟨b, so, none⟩ sn sc cur te cs hut (by simp [hi, hs1]) hg (by simpa using hn) (fun j v hj => by rw [cell_add]; exact hc j v hj) hfit (by simpa using h1)
  obtain ⟨h2, h3⟩ := hset_up cs w.heap g o cur te (0, 0) hg
  have e1 : (cur.toList.take o ++ cs ++ cur.toList.drop (o + cs.length)).toArray = setL cur o cs := by
    rw [← Array.toList_inj, setL_take _ _ _ hfit]
  have hset : (w.setRow g (setL cur o cs)).heap[g]? = some (.cells (setL cur o cs) te (0, 0)) := setRow_heap w g cur _ te _ hg
  rw [e1] at hr
  refine ⟨_, _, hr, ⟨rfl, rfl, rfl⟩, hk _ hset ⟨?_, fun q hq => setRow_other w g q _ hq⟩⟩
  simp [World.setRow]
theorem vcopy_none {dT sT ty e by_ : Nat} {z : Value} (he : elT P dT = some (e, 1, by_, z)) {d a : Option Addr} {dn dc sn sc : Nat} (hn : min sn dn = 0) (hk : k (.int .i64 0) h) :
    vcopy P #[dT, sT] ty [.slice d dn dc, .slice a sn sc] h k := by
  obtain ⟨hut, i, hi, hz, hs1, hb1⟩ := elT_parts he
  intro w hw
  subst hw
  exact ⟨_, w, Go.run_copy_none w dT sT ty e d a dn dc sn sc hut (by simp [hi, hs1]) (by simpa using hn), Same.refl _, hk⟩
theorem push_fold : ∀ (l : List UInt8) (s : ByteArray), (l.map fun c => (c.toNat : Int)).foldl (fun (r : ByteArray) (n : Int) => r.push (UInt8.ofNat n.toNat)) s = ⟨s.data ++ l.toArray⟩
  | [], s => by simp
  | c :: l, s => by
    simp only [List.map_cons, List.foldl_cons]
    rw [push_fold l]
    have e1 : UInt8.ofNat ((c.toNat : Int)).toNat = c := by simp
    rw [e1]
    congr 1
    show (s.data.push c) ++ l.toArray = s.data ++ (c :: l).toArray
    rw [← Array.toList_inj]; simp
/-- bytes as a string -/
theorem vconv_str {src dst e : Nat} (hs : P.underlying src = some (.slice e)) (he : P.underlying e = some (.int .u8)) (hd : P.underlying dst = some .string) {b o n c : Nat} {l : List UInt8}
    (hr : rdRow h b o n = some (byts l)) (hk : k (.string ⟨l.toArray⟩) h) : vconv P src dst (.slice (some ⟨b, o, none⟩) n c) h k := by
  intro w hw
  subst hw
  refine ⟨_, w, ?_, Same.refl _, hk⟩
  obtain ⟨h1, h2⟩ := rdRow_at hr
  have hl := run_loadCells_list (P := P) w ⟨b, o, none⟩ (byts l) (fun j v hj => by rw [cell_add]; exact h2 j v hj)
  rw [h1] at hl
  rw [Go.run_convert_bytes_string w src dst e _ n c hs he hd, Go.run_bytesToString w _ n c (l.map fun c => (c.toNat : Int)) (by rw [hl]; simp [byts]), push_fold]
  simp
theorem vconv_str_nil {src dst e : Nat} (hs : P.underlying src = some (.slice e)) (he : P.underlying e = some (.int .u8)) (hd : P.underlying dst = some .string) {n c : Nat}
    (hk : k (.string ⟨#[]⟩) h) : vconv P src dst (.slice none n c) h k := by
  intro w hw
  subst hw
  refine ⟨_, w, ?_, Same.refl _, hk⟩
  rw [Go.run_convert_bytes_string w src dst e _ n c hs he hd]
  rfl
end
end Go.V
