/-
  The framework, third part: a region that draws its order and writes; conditions: none.
-/
import Derived.Test.YtgfljbplccekcaaDoorV2
import Derived.OrdersHeld
set_option linter.unusedSimpArgs false
set_option linter.unusedVariables false
set_option maxRecDepth 100000
namespace Go.V
open Go

theorem Up.refl (h : Heap) (b : Nat) : Up h h b := ⟨rfl, fun _ _ => rfl⟩
theorem Up.trans {a b c : Heap} {x : Nat} (h : Up a b x) (k : Up b c x) : Up a c x := ⟨k.size.trans h.size, fun i hi => (k.other i hi).trans (h.other i hi)⟩
theorem Own.gee {h0 h h' : Heap} {e sz : Nat} {v : Value} {n : Nat} {xs : List Value} (o : Own h h0.size e sz v n xs) (g : Ge h0 h) (gr : Grow h h' v.ownBlock) : Ge h0 h' := by
  refine ⟨Nat.le_trans g.size gr.size, fun k hk => ?_⟩
  rw [gr.block k (Nat.lt_of_lt_of_le hk g.size) ?_]
  · exact g.block k hk
  · rcases o.2 with ⟨hv, _⟩ | ⟨b, cap, cur, hv, hb, _⟩
    · rw [hv]; simp [Value.ownBlock]
    · rw [hv]; simp [Value.ownBlock]; omega
/-- all that was there is as it was, but the blocks of X -/
structure Kb (X : List Nat) (h h' : Heap) : Prop where
  size : h.size ≤ h'.size
  block : ∀ k, k < h.size → k ∉ X → h'[k]? = h[k]?
theorem Kb.refl (X : List Nat) (h : Heap) : Kb X h h := ⟨Nat.le_refl _, fun _ _ _ => rfl⟩
theorem Kb.trans {X : List Nat} {a b c : Heap} (h : Kb X a b) (k : Kb X b c) : Kb X a c := ⟨Nat.le_trans h.size k.size, fun i hi hx => (k.block i (Nat.lt_of_lt_of_le hi h.size) hx).trans (h.block i hi hx)⟩
theorem Kb.ge {X : List Nat} {a b c : Heap} (h : Kb X a b) (g : Ge b c) : Kb X a c := ⟨Nat.le_trans h.size g.size, fun i hi hx => (g.block i (Nat.lt_of_lt_of_le hi h.size)).trans (h.block i hi hx)⟩
theorem Kb.up {X : List Nat} {a b c : Heap} {x : Nat} (h : Kb X a b) (u : Up b c x) (hx : x ∈ X ∨ a.size ≤ x) : Kb X a c :=
  ⟨by rw [u.size]; exact h.size, fun i hi hn => by rw [u.other i (by rintro rfl; rcases hx with hx | hx; exact hn hx; omega)]; exact h.block i hi hn⟩
theorem Kb.lookup {X : List Nat} {h h' : Heap} (k : Kb X h h') {b : Nat} {x : Obj} (hb : h[b]? = some x) (hx : b ∉ X) : h'[b]? = some x := by
  rw [k.block b (Array.getElem?_eq_some_iff.1 hb).1 hx]; exact hb
theorem Kb.cell {X : List Nat} {h h' : Heap} (k : Kb X h h') {b o : Nat} {v : Value} (hc : hcell h b o = some v) (hx : b ∉ X) : hcell h' b o = some v := by
  unfold hcell at *
  have hb : b < h.size := by
    rcases Nat.lt_or_ge b h.size with h1 | h1
    · exact h1
    · rw [Array.getElem?_eq_none h1] at hc; cases hc
  rw [k.block b hb hx]; exact hc
theorem Kb.rdRow {X : List Nat} {h h' : Heap} (g : Kb X h h') {b : Nat} (hx : b ∉ X) : ∀ {n o : Nat} {l : List Value}, rdRow h b o n = some l → V.rdRow h' b o n = some l
  | 0, _, _, hl => hl
  | n + 1, o, l, hl => by
    simp only [V.rdRow, Option.bind_eq_some_iff] at hl ⊢
    obtain ⟨v, hv, vs, hvs, e⟩ := hl
    exact ⟨v, g.cell hv hx, vs, g.rdRow hx hvs, e⟩
theorem Kb.rd {P : Program} {X : List Nat} {h h' : Heap} (g : Kb X h h') {t : TypeId} {b o : Nat} {v : Value} (hx : b ∉ X) (hc : rd P h t b o = some v) : V.rd P h' t b o = some v := by
  unfold V.rd at *
  split at hc
  · rename_i n e1 e2
    obtain ⟨l, hl, e⟩ := Option.map_eq_some_iff.1 hc
    rw [g.rdRow hx hl, ← e]; rfl
  · exact g.cell hc hx
  · cases hc

def outb (X : List Nat) (b : Nat) : Prop := b ∉ X
def outp (X : List Nat) : Value → Prop
  | .pointer (some ⟨b, _, _⟩) => outb X b
  | _ => False
def vkb (X : List Nat) (h h' : Heap) (A : Prop) : Prop := Kb X h h' ∧ A
def vhld (P : Program) (X : List Nat) (fr : Fr) (h0 : Heap) (op : Op) (k : Value → Prop) : Prop :=
  match op with
  | .load t x => onV (ev fr x) fun p => onV (ldV P h0 t p) fun v => outp X p ∧ k v
  | _ => False
def nthO : List Oper → Nat → Option Oper
  | [], _ => none
  | o :: _, 0 => some o
  | _ :: l, i + 1 => nthO l i
theorem nthO_eq : ∀ (l : List Oper) (i : Nat), nthO l i = l[i]?
  | [], _ => by simp [nthO]
  | o :: r, 0 => by simp [nthO]
  | o :: r, i + 1 => by simp [nthO, nthO_eq r i]
/-- one operation of a schedule: 0 hangs on no memory, 1 is a load of what nobody writes, 2 stands alone -/
def vso (P : Program) (X : List Nat) (l : List Oper) (Kr : Fr → Heap → Prop) (h0 : Heap) (m : Nat) (oo : Option Oper) (fr : Fr) (h : Heap) : Prop :=
  match oo with
  | none => False
  | some o => vgd (gd l fr o.guard) (match m with
    | 0 => vqop P Eq fr #[] o.op fun v => Kr (put o.dst v fr) h
    | 1 => vhld P X fr h0 o.op fun v => Kr (put o.dst v fr) h
    | _ => vop P fr h o.type o.op fun v h' => vkb X h0 h' (Kr (put o.dst v fr) h')) (Kr (put o.dst undef fr) h)
def vs (P : Program) (X : List Nat) (l : List Oper) (K : Fr → Heap → Prop) (h0 : Heap) : List (Nat × Nat) → Fr → Heap → Prop
  | [], fr, h => K fr h
  | (i, m) :: r, fr, h => vso P X l (vs P X l K h0 r) h0 m (nthO l i) fr h

def pureB : Option Oper → Bool
  | some o => match o.op with
    | .lookup .. => false
    | .call ⟨.value _, _, _⟩ => false
    | _ => true
  | none => false
def stepB (ops : Array Oper) (i m : Nat) (listed : Array Bool) : Bool := match m with
  | 0 => pureB ops[i]? && (Region.ready .any ops listed).contains i && Region.free .any ops listed i
  | 1 => (Region.ready .any ops listed).contains i && Region.free .any ops listed i
  | _ => decide (Region.ready .any ops listed = [i])
def schR (ops : Array Oper) : List (Nat × Nat) → Array Bool → Option (Array Bool)
  | [], listed => some listed
  | (i, m) :: r, listed => if stepB ops i m listed then schR ops r (listed.setIfInBounds i true) else none
/-- a schedule that forks: a line, then two that may come up in either order -/
inductive Sch where
  | line (s : List (Nat × Nat))
  | fork (s : List (Nat × Nat)) (i j : Nat) (a b : Sch)
def Sch.len : Sch → Nat
  | .line s => s.length
  | .fork s _ _ a _ => s.length + 1 + a.len
def Sch.ok (ops : Array Oper) : Sch → Array Bool → Bool
  | .line s, listed => match schR ops s listed with
    | some l => (Region.ready .any ops l).isEmpty
    | none => false
  | .fork s i j a b, listed => match schR ops s listed with
    | some l => decide (Region.ready .any ops l = [i, j]) && decide (a.len = b.len) && a.ok ops (l.setIfInBounds i true) && b.ok ops (l.setIfInBounds j true)
    | none => false
def heldB (l : List Oper) (sch : List (Nat × Nat)) : Bool := Region.noSelect l.toArray && decide (sch.length = l.length) && (Sch.line sch).ok l.toArray (Array.replicate l.length false)
def forkB (l : List Oper) (sch : Sch) : Bool := Region.noSelect l.toArray && decide (sch.len = l.length) && sch.ok l.toArray (Array.replicate l.length false)
def vt (P : Program) (X : List Nat) (l : List Oper) (K : Fr → Heap → Prop) (h0 : Heap) : Sch → Fr → Heap → Prop
  | .line s => vs P X l K h0 s
  | .fork s i j a b => vs P X l (fun fr h => vso P X l (vt P X l K h0 a) h0 2 (nthO l i) fr h ∧ vso P X l (vt P X l K h0 b) h0 2 (nthO l j) fr h) h0 s

theorem vqop_pure {P : Program} {Rl : Heap → Heap → Prop} {fr : Fr} {h : Heap} {o : Oper} {k : Value → Prop} (hp : pureB (some o) = true) (hv : vqop P Rl fr h o.op k) : ∃ v, pv P fr h o.op = some v ∧ k v := by
  unfold vqop at hv
  split at hv
  · rename_i e; simp [pureB, e] at hp
  · rename_i e; simp [pureB, e] at hp
  · unfold onV at hv
    split at hv
    · exact ⟨_, by assumption, hv⟩
    · exact hv.elim

theorem dst_lt {n : Nat} : ∀ {l : List Oper} {i : Nat} {o : Oper}, dstB n l = true → l[i]? = some o → ∀ d, o.dst = some d → d < n
  | [], i, o, _, h => by simp at h
  | x :: l, 0, o, hd, h => by simp at h; subst h; exact (dstB_cons hd).1
  | x :: l, i + 1, o, hd, h => dst_lt (dstB_cons hd).2 (by simpa using h)

section
variable {P : Program} {X : List Nat} {n : Nat} {l : List Oper} {K : Fr → Heap → Prop} {E : Exit → Fr → Heap → Prop} {w0 : World} {h0 : Heap}
/-- what is to be shown of a state within a region -/
abbrev Goes (P : Program) (X : List Nat) (n : Nat) (l : List Oper) (K : Fr → Heap → Prop) (E : Exit → Fr → Heap → Prop) (w0 : World) (h0 : Heap) (f : Nat) (listed : Array Bool) (a : Act) (w : World) : Prop :=
  wpAnyH P .any l.toArray (fun e a w => e = .normal ∧ Post w0 n K E e a w) (fun w => Same w0 w ∧ Kb X h0 w.heap) f listed a w
theorem alone_sound (hd : dstB n l = true) {K' : Fr → Heap → Prop} {i f : Nat} {listed : Array Bool} {fr : Fr} {a : Act} {w : World} (hA : At n fr a) (hw : Same w0 w) (hkb : Kb X h0 w.heap)
    (hK : ∀ {fr : Fr} {a : Act} {w : World}, At n fr a → Same w0 w → Kb X h0 w.heap → K' fr w.heap → Goes P X n l K E w0 h0 f (listed.setIfInBounds i true) a w)
    (h : vso P X l K' h0 2 (nthO l i) fr w.heap) : wpOp P l.toArray (fun e a w => e = .normal ∧ Post w0 n K E e a w) i (fun a' w' => (Same w0 w' ∧ Kb X h0 w'.heap) ∧ Goes P X n l K E w0 h0 f (listed.setIfInBounds i true) a' w') a w := by
  rw [nthO_eq] at h
  cases ho : l[i]? with
  | none => rw [ho] at h; exact h.elim
  | some o =>
    rw [ho] at h
    have hoa : l.toArray[i]? = some o := by simpa using ho
    have hdo := dst_lt hd ho
    simp only [vso] at h
    cases hg : gd l fr o.guard with
    | none => rw [hg] at h; exact h.elim
    | some b =>
      rw [hg] at h
      have hwant := gd_wanted (ops := l.toArray) hA (by simpa using hg)
      unfold wpOp
      simp only [hoa]
      rw [hwant]
      cases b with
      | false =>
        simp only [Bool.false_eq_true, if_false]
        exact ⟨⟨hw, hkb⟩, hK (hA.puts hdo undef) hw hkb h⟩
      | true =>
        simp only [if_true]
        have h' : vop P fr w.heap o.type o.op fun v h' => vkb X h0 h' (K' (put o.dst v fr) h') := h
        refine .inl ((vop_sound hA h').wp hw fun v w' hs' hk => ?_)
        exact ⟨⟨hs', hk.1⟩, hK (hA.puts hdo v) hs' hk.1 hk.2⟩
theorem vs_gen (hsel : Region.noSelect l.toArray = true) (hd : dstB n l = true) {K' : Fr → Heap → Prop} {f : Nat} {last : Array Bool}
    (hK : ∀ {fr : Fr} {a : Act} {w : World}, At n fr a → Same w0 w → Kb X h0 w.heap → K' fr w.heap → Goes P X n l K E w0 h0 f last a w) :
    ∀ {sch : List (Nat × Nat)} {listed : Array Bool} {fr : Fr} {a : Act} {w : World}, schR l.toArray sch listed = some last → At n fr a → Same w0 w → Kb X h0 w.heap → vs P X l K' h0 sch fr w.heap →
      Goes P X n l K E w0 h0 (sch.length + f) listed a w
  | [], listed, fr, a, w, hs, hA, hw, hkb, h => by
    simp only [schR, Option.some.injEq] at hs
    subst hs
    rw [List.length_nil, Nat.zero_add]
    exact hK hA hw hkb h
  | (i, m) :: r, listed, fr, a, w, hs, hA, hw, hkb, h => by
    simp only [schR] at hs
    split at hs
    · rename_i hm
      have hlen : ((i, m) :: r).length + f = (r.length + f) + 1 := by simp only [List.length_cons]; omega
      rw [hlen]
      change vso P X l (vs P X l K' h0 r) h0 m (nthO l i) fr w.heap at h
      have rest : ∀ {fr : Fr} {a : Act} {w : World}, At n fr a → Same w0 w → Kb X h0 w.heap → vs P X l K' h0 r fr w.heap → Goes P X n l K E w0 h0 (r.length + f) (listed.setIfInBounds i true) a w :=
        fun hA hw hkb h => vs_gen hsel hd hK hs hA hw hkb h
      have alone : decide (Region.ready .any l.toArray listed = [i]) = true → vso P X l (vs P X l K' h0 r) h0 2 (nthO l i) fr w.heap → Goes P X n l K E w0 h0 ((r.length + f) + 1) listed a w := by
        intro hrd h
        have hrd' := of_decide_eq_true hrd
        refine wpAnyH_all hrd' (by simp) ?_
        intro j hj
        obtain rfl : j = i := by simpa using hj
        exact alone_sound hd hA hw hkb rest h
      by_cases hm2 : 2 ≤ m
      · obtain ⟨m', rfl⟩ : ∃ m', m = m' + 2 := ⟨m - 2, by omega⟩
        refine alone hm ?_
        revert h
        cases nthO l i <;> exact id
      · rw [nthO_eq] at h
        cases ho : l[i]? with
        | none => rw [ho] at h; exact h.elim
        | some o =>
          rw [ho] at h
          have hoa : l.toArray[i]? = some o := by simpa using ho
          have hdo := dst_lt hd ho
          simp only [vso] at h
          cases hg : gd l fr o.guard with
          | none => rw [hg] at h; exact h.elim
          | some b =>
            rw [hg] at h
            have hwant := gd_wanted (ops := l.toArray) hA (by simpa using hg)
            have quiet : ∀ v, ((Region.ready .any l.toArray listed).contains i = true ∧ Region.free .any l.toArray listed i = true) → YieldsIf P l.toArray (fun w => Same w0 w ∧ Kb X h0 w.heap) o v a → vs P X l K' h0 r (put o.dst v fr) w.heap →
                Goes P X n l K E w0 h0 ((r.length + f) + 1) listed a w := by
              intro v hrf hy hk
              exact wpAnyH_take hoa hsel hrf.2 hrf.1 (fun c a w q => by cases q.1) hy ⟨hw, hkb⟩ (rest (hA.puts hdo v) hw hkb hk)
            match m, hm, h, hm2 with
            | 0, hm, h, _ =>
              simp only [stepB, Bool.and_eq_true] at hm
              cases b with
              | false => exact quiet undef ⟨hm.1.2, hm.2⟩ (.inr ⟨hwant, rfl⟩) h
              | true =>
                obtain ⟨v, hv, hk⟩ := vqop_pure (by rw [← hoa]; exact hm.1.1) h
                exact quiet v ⟨hm.1.2, hm.2⟩ (.inl ⟨hwant, fun w' _ => pv_run hA (pv_ge ⟨by simp, fun k hk => by simp at hk⟩ hv)⟩) hk
            | 1, hm, h, _ =>
              simp only [stepB, Bool.and_eq_true] at hm
              cases b with
              | false => exact quiet undef ⟨hm.1, hm.2⟩ (.inr ⟨hwant, rfl⟩) h
              | true =>
                change vhld P X fr h0 o.op _ at h
                unfold vhld at h
                split at h
                · rename_i t x e
                  cases hx : ev fr x with
                  | none => rw [hx] at h; exact h.elim
                  | some p =>
                    rw [hx] at h
                    simp only [onV] at h
                    cases hl : ldV P h0 t p with
                    | none => rw [hl] at h; exact h.elim
                    | some v =>
                      rw [hl] at h
                      obtain ⟨hout, hk⟩ := h
                      refine quiet v ⟨hm.1, hm.2⟩ (.inl ⟨hwant, fun w' hw' => pv_run hA ?_⟩) hk
                      rw [e]
                      show ((ev fr x).bind (ldV P w'.heap t)) = some v
                      rw [hx]
                      simp only [Option.bind_some]
                      unfold ldV at hl ⊢
                      split at hl
                      · exact hw'.2.rd hout hl
                      · cases hl
                · exact h.elim
            | m + 2, _, _, hm2 => omega
    · cases hs
theorem vt_sound (hsel : Region.noSelect l.toArray = true) (hd : dstB n l = true) : ∀ {sch : Sch} {listed : Array Bool} {fr : Fr} {a : Act} {w : World}, sch.ok l.toArray listed = true → At n fr a → Same w0 w → Kb X h0 w.heap →
    vt P X l K h0 sch fr w.heap → Goes P X n l K E w0 h0 sch.len listed a w
  | .line s, listed, fr, a, w, hs, hA, hw, hkb, h => by
    simp only [Sch.ok] at hs
    split at hs
    · rename_i last e
      exact vs_gen (f := 0) hsel hd (fun hA hw hkb h => ⟨by simpa using hs, rfl, hw, _, hA, h⟩) e hA hw hkb h
    · cases hs
  | .fork s i j p q, listed, fr, a, w, hs, hA, hw, hkb, h => by
    simp only [Sch.ok] at hs
    split at hs
    · rename_i last e
      simp only [Bool.and_eq_true, decide_eq_true_eq] at hs
      obtain ⟨⟨⟨hr, hl⟩, ha⟩, hb⟩ := hs
      show Goes P X n l K E w0 h0 (s.length + 1 + p.len) listed a w
      rw [Nat.add_assoc, Nat.add_comm 1]
      refine vs_gen hsel hd (fun {fr a w} hA hw hkb h => ?_) e hA hw hkb h
      refine wpAnyH_all hr (by simp) ?_
      intro k hk
      rcases List.mem_cons.1 hk with rfl | hk
      · exact alone_sound hd hA hw hkb (fun hA hw hkb h => vt_sound hsel hd ha hA hw hkb h) h.1
      · obtain rfl : k = j := by simpa using hk
        rw [hl]
        exact alone_sound hd hA hw hkb (fun hA hw hkb h => vt_sound hsel hd hb hA hw hkb h) h.2
    · cases hs
end
/-- a region that draws its order and writes: by a schedule, which may fork, that any order comes to -/
theorem vdraw_fork {P : Program} {l : List Oper} {K : Fr → Heap → Prop} {fr : Fr} {h : Heap} (X : List Nat) (sch : Sch) (hm : P.follows .mixedOrders = true) (hB : forkB l sch = true)
    (hv : vt P X l K h sch fr h) : vdraw P l.toArray K fr h := by
  intro n id w0 w a E hd hA hs hw
  subst hw
  simp only [forkB, Bool.and_eq_true, decide_eq_true_eq] at hB
  obtain ⟨⟨h1, h2⟩, h3⟩ := hB
  have key := vt_sound (P := P) (X := X) (K := K) (E := E) (w0 := w0) (h0 := w.heap) (w := { w with drawn := w.drawn + 1 }) h1 (by simpa using hd) h3 hA ⟨hs.os, hs.tape, hs.output⟩ (Kb.refl _ _) hv
  rw [h2] at key
  have h4 := wp_region_held (id := id) hm (by rw [List.size_toArray]; exact key)
  exact wp_mono h4 fun e a w q => q.2
theorem vdraw_held {P : Program} {l : List Oper} {K : Fr → Heap → Prop} {fr : Fr} {h : Heap} (X : List Nat) (sch : List (Nat × Nat)) (hm : P.follows .mixedOrders = true) (hB : heldB l sch = true)
    (hv : vs P X l K h sch fr h) : vdraw P l.toArray K fr h := vdraw_fork X (.line sch) hm hB hv

section
variable {P : Program}
@[congr] theorem c_vso (X : List Nat) (l : List Oper) (Kr : Fr → Heap → Prop) (h0 : Heap) (m : Nat) {oo oo' : Option Oper} (fr : Fr) (h : Heap) (e : oo = oo') {tk : Prop} (_ : tick0 = tk) : vso P X l Kr h0 m oo fr h = vso P X l Kr h0 m oo' fr h := by rw [e]
@[congr] theorem c_vkb (X : List Nat) (h h' : Heap) (A : Prop) {tk : Prop} (_ : tick0 = tk) : vkb X h h' A = vkb X h h' A := rfl
@[congr] theorem c_outp (X : List Nat) {p p' : Value} (e : p = p') {tk : Prop} (_ : tick0 = tk) : outp X p = outp X p' := by rw [e]
@[congr] theorem c_outb (X : List Nat) (b : Nat) {tk : Prop} (_ : tick0 = tk) : outb X b = outb X b := rfl
abbrev HT (P : Program) : Prop :=
  (∀ X l K h0 s fr h, vt P X l K h0 (.line s) fr h = vs P X l K h0 s fr h) ∧
  (∀ X l K h0 s i j a b fr h, vt P X l K h0 (.fork s i j a b) fr h = vs P X l (fun fr h => vso P X l (vt P X l K h0 a) h0 2 (nthO l i) fr h ∧ vso P X l (vt P X l K h0 b) h0 2 (nthO l j) fr h) h0 s fr h) ∧
  (∀ X l K h0 fr h, vs P X l K h0 [] fr h = K fr h) ∧
  (∀ X l K h0 i m r fr h, vs P X l K h0 ((i, m) :: r) fr h = vso P X l (vs P X l K h0 r) h0 m (nthO l i) fr h) ∧
  (∀ X l Kr h0 d op ty pos aft g fr h, vso P X l Kr h0 0 (some ⟨some d, op, ty, pos, aft, g⟩) fr h = vgd (gd l fr g) (vqop P Eq fr #[] op fun v => Kr ((d, v) :: fr) h) (Kr ((d, undef) :: fr) h)) ∧
  (∀ X l Kr h0 op ty pos aft g fr h, vso P X l Kr h0 0 (some ⟨none, op, ty, pos, aft, g⟩) fr h = vgd (gd l fr g) (vqop P Eq fr #[] op fun _ => Kr fr h) (Kr fr h)) ∧
  (∀ X l Kr h0 d t x ty pos aft g fr h, vso P X l Kr h0 1 (some ⟨some d, .load t x, ty, pos, aft, g⟩) fr h = vgd (gd l fr g) (onV (ev fr x) fun p => onV (ldV P h0 t p) fun v => outp X p ∧ Kr ((d, v) :: fr) h) (Kr ((d, undef) :: fr) h)) ∧
  (∀ X l Kr h0 d op ty pos aft g fr h, vso P X l Kr h0 2 (some ⟨some d, op, ty, pos, aft, g⟩) fr h = vgd (gd l fr g) (vop P fr h ty op fun v h' => vkb X h0 h' (Kr ((d, v) :: fr) h')) (Kr ((d, undef) :: fr) h)) ∧
  (∀ X l Kr h0 op ty pos aft g fr h, vso P X l Kr h0 2 (some ⟨none, op, ty, pos, aft, g⟩) fr h = vgd (gd l fr g) (vop P fr h ty op fun _ h' => vkb X h0 h' (Kr fr h')) (Kr fr h))
theorem HV : HT P := ⟨fun _ _ _ _ _ _ _ => rfl, fun _ _ _ _ _ _ _ _ _ _ _ => rfl, fun _ _ _ _ _ _ => rfl, fun _ _ _ _ _ _ _ _ _ => rfl, fun _ _ _ _ _ _ _ _ _ _ _ _ => rfl, fun _ _ _ _ _ _ _ _ _ _ _ => rfl, fun _ _ _ _ _ _ _ _ _ _ _ _ _ => rfl, fun _ _ _ _ _ _ _ _ _ _ _ _ => rfl, fun _ _ _ _ _ _ _ _ _ _ _ => rfl⟩
abbrev HT0 : Prop := (∀ o l, nthO (o :: l) 0 = some o) ∧ (∀ o l i, nthO (o :: l) (i + 1) = nthO l i) ∧ (∀ X b o s, outp X (.pointer (some ⟨b, o, s⟩)) = outb X b)
theorem HV0 : HT0 := ⟨fun _ _ => rfl, fun _ _ _ => rfl, fun _ _ _ _ => rfl⟩
end
end Go.V
