/-
  A framework of this claim's own: what is to be shown of a piece of Go code in the given model is reckoned as a plain proposition on heaps (arrays of blocks) and known slots; soundness over the kit's Code.wp; conditions: none.
-/
import Derived.WalkKit
import Derived.Deep.Quiet
import Derived.WalkLawsBesides
import Derived.Deep.LoopGhost
import Derived.ScopeJumps
import Derived.IntWalk
set_option linter.unusedSimpArgs false
set_option linter.unusedVariables false
set_option linter.defProp false
namespace Go.V
open Go

abbrev Heap := Array Obj
abbrev Fr := List (Nat × Value)
abbrev ptr (b o : Nat) : Value := .pointer (some ⟨b, o, none⟩)
abbrev sl (b o n c : Nat) : Value := .slice (some ⟨b, o, none⟩) n c

/-! frames -/
def get : Fr → Nat → Option Value
  | [], _ => none
  | (k, v) :: r, t => if k = t then some v else get r t
def ev (fr : Fr) : Operand → Option Value
  | .tmp t => get fr t
  | .const v => some v
  | .global g => some (.pointer (some ⟨g, 0, none⟩))
  | .func f => some (.func (.func f) #[] #[])
def evl (fr : Fr) : List Operand → Option (List Value)
  | [] => some []
  | x :: r => (ev fr x).bind fun v => (evl fr r).bind fun vs => some (v :: vs)
def onV {α : Type} (o : Option α) (k : α → Prop) : Prop := match o with | some v => k v | none => False

structure At (n : Nat) (fr : Fr) (a : Act) : Prop where
  defers : a.defers = []
  size : a.tmps.size = n
  slot : ∀ t v, get fr t = some v → a.tmps[t]? = some v

theorem At.get {n : Nat} {fr : Fr} {a : Act} (h : At n fr a) {t : Nat} {v : Value} (hg : get fr t = some v) : a.tmps.getD t undef = v := by
  have := h.slot t v hg
  rw [Array.getD_eq_getD_getElem?, this]; rfl

theorem At.ev {n : Nat} {fr : Fr} {a : Act} (h : At n fr a) {x : Operand} {v : Value} (hg : ev fr x = some v) : a.eval x = v := by
  cases x with
  | tmp t => exact h.get hg
  | const c => simpa [V.ev, Act.eval] using hg
  | global g => simpa [V.ev, Act.eval] using hg
  | func f => simpa [V.ev, Act.eval] using hg

theorem At.evl {n : Nat} {fr : Fr} {a : Act} (h : At n fr a) : ∀ {l : List Operand} {vs : List Value}, evl fr l = some vs → l.map a.eval = vs
  | [], vs, e => by simp [V.evl] at e; simp [e]
  | x :: r, vs, e => by
    simp only [V.evl, Option.bind_eq_some_iff] at e
    obtain ⟨v, hv, vs', hvs, e⟩ := e
    simp only [Option.some.injEq] at e
    subst e
    simp [h.ev hv, h.evl hvs]

theorem At.put {n : Nat} {fr : Fr} {a : Act} (h : At n fr a) {d : Nat} (hd : d < n) (v : Value) : At n ((d, v) :: fr) (a.put (some d) v) := by
  refine ⟨h.defers, by simp [Act.put, h.size], fun t u hu => ?_⟩
  simp only [V.get] at hu
  simp only [Act.put]
  split at hu
  · rename_i e
    subst e
    simp only [Option.some.injEq] at hu
    subst hu
    rw [Array.getElem?_setIfInBounds, if_pos rfl, if_pos (by rw [h.size]; exact hd)]
  · rename_i e
    rw [Array.getElem?_setIfInBounds, if_neg e]
    exact h.slot t u hu

def Sub : Fr → Fr → Prop
  | [], _ => True
  | (t, v) :: r, fr => get fr t = some v ∧ Sub r fr
theorem Sub.get {s fr : Fr} (h : Sub s fr) {t : Nat} {v : Value} (hg : V.get s t = some v) : V.get fr t = some v := by
  induction s with
  | nil => simp [V.get] at hg
  | cons p r ih =>
    obtain ⟨k, u⟩ := p
    obtain ⟨h1, h2⟩ := h
    simp only [V.get] at hg
    split at hg
    · rename_i e
      subst e
      rw [h1]; exact hg
    · exact ih h2 hg
theorem At.sub {n : Nat} {s fr : Fr} {a : Act} (h : At n fr a) (hs : Sub s fr) : At n s a := ⟨h.defers, h.size, fun t v hg => h.slot t v (hs.get hg)⟩

/-! heaps -/
def hcell (h : Heap) (b o : Nat) : Option Value := match h[b]? with | some (.cells c _ _) => c[o]? | _ => none
theorem cell_eq {w : World} {b o : Nat} : w.cell? ⟨b, o, none⟩ = hcell w.heap b o := by
  simp only [World.cell?, hcell]
  cases w.heap[b]? with
  | none => rfl
  | some x => cases x <;> simp
/-- n cells of a block from o on. -/
def rdRow (h : Heap) (b : Nat) : Nat → Nat → Option (List Value)
  | _, 0 => some []
  | o, n + 1 => (hcell h b o).bind fun v => (rdRow h b (o + 1) n).bind fun vs => some (v :: vs)
def aggT (P : Program) (t : TypeId) : Option Bool := (P.underlying t).map fun | .struct _ | .array .. => true | _ => false
def szT (P : Program) (t : TypeId) : Option Nat := (P.info? t).map (·.size)
def zeroT (P : Program) (t : TypeId) : Option Value := (P.info? t).bind (·.zero)
def rd (P : Program) (h : Heap) (t : TypeId) (b o : Nat) : Option Value :=
  match aggT P t, szT P t with
  | some true, some n => (rdRow h b o n).map fun l => .agg l.toArray
  | some false, _ => hcell h b o
  | _, _ => none

/-- Nothing that was there has turned. -/
structure Ge (h h' : Heap) : Prop where
  size : h.size ≤ h'.size
  block : ∀ k, k < h.size → h'[k]? = h[k]?
theorem Ge.refl (h : Heap) : Ge h h := ⟨Nat.le_refl _, fun _ _ => rfl⟩
theorem Ge.trans {a b c : Heap} (h : Ge a b) (k : Ge b c) : Ge a c := ⟨Nat.le_trans h.size k.size, fun i hi => (k.block i (Nat.lt_of_lt_of_le hi h.size)).trans (h.block i hi)⟩
theorem Ge.push (h : Heap) (o : Obj) : Ge h (h.push o) := ⟨by simp, fun k hk => by rw [Array.getElem?_push]; split <;> first | omega | rfl⟩
theorem Ge.cell {h h' : Heap} (g : Ge h h') {b o : Nat} {v : Value} (hc : hcell h b o = some v) : hcell h' b o = some v := by
  unfold hcell at *
  have hb : b < h.size := by
    rcases Nat.lt_or_ge b h.size with hb | hb
    · exact hb
    · rw [Array.getElem?_eq_none hb] at hc; cases hc
  rw [g.block b hb]; exact hc
theorem Ge.rdRow {h h' : Heap} (g : Ge h h') {b : Nat} : ∀ {n o : Nat} {l : List Value}, rdRow h b o n = some l → V.rdRow h' b o n = some l
  | 0, _, _, hl => hl
  | n + 1, o, l, hl => by
    simp only [V.rdRow, Option.bind_eq_some_iff] at hl ⊢
    obtain ⟨v, hv, vs, hvs, e⟩ := hl
    exact ⟨v, g.cell hv, vs, g.rdRow hvs, e⟩
theorem Ge.rd {P : Program} {h h' : Heap} (g : Ge h h') {t : TypeId} {b o : Nat} {v : Value} (hc : rd P h t b o = some v) : V.rd P h' t b o = some v := by
  unfold V.rd at *
  split at hc
  · rename_i n e1 e2
    obtain ⟨l, hl, e⟩ := Option.map_eq_some_iff.1 hc
    rw [g.rdRow hl, ← e]; rfl
  · exact g.cell hc
  · cases hc
theorem Ge.lookup {h h' : Heap} (g : Ge h h') {b : Nat} {x : Obj} (hb : h[b]? = some x) : h'[b]? = some x := by
  rw [g.block b (Array.getElem?_eq_some_iff.1 hb).1]; exact hb

structure Same (w w' : World) : Prop where
  os : w'.os = w.os
  tape : w'.tape = w.tape
  output : w'.output = w.output
theorem Same.refl (w : World) : Same w w := ⟨rfl, rfl, rfl⟩
theorem Same.trans {a b c : World} (h : Same a b) (k : Same b c) : Same a c := ⟨k.os.trans h.os, k.tape.trans h.tape, k.output.trans h.output⟩

theorem run_rdRow {P : Program} {w : World} {b : Nat} : ∀ {n o i : Nat} {l : List Value} {acc : Array Value}, rdRow w.heap b (o + i) n = some l →
    (loadCellsFrom ⟨b, o, none⟩ i n acc).run P w = .ok (acc ++ l.toArray) w
  | 0, _, _, l, acc, h => by
    simp only [rdRow, Option.some.injEq] at h
    subst h
    simp [loadCellsFrom]
  | n + 1, o, i, l, acc, h => by
    simp only [rdRow, Option.bind_eq_some_iff] at h
    obtain ⟨v, hv, vs, hvs, e⟩ := h
    simp only [Option.some.injEq] at e
    subst e
    have hadd : (⟨b, o, none⟩ : Addr).add i = ⟨b, o + i, none⟩ := by unfold Addr.add; split <;> simp_all
    have hc : w.cell? ((⟨b, o, none⟩ : Addr).add i) = some v := by rw [hadd, cell_eq]; exact hv
    have ih := run_rdRow (P := P) (w := w) (b := b) (n := n) (o := o) (i := i + 1) (l := vs) (acc := acc.push v) (by rw [← Nat.add_assoc]; exact hvs)
    simp [loadCellsFrom, hc, ih]

theorem run_rd {P : Program} {w : World} {t : TypeId} {b o : Nat} {v : Value} (h : rd P w.heap t b o = some v) : (Instr.loadAt t (ptr b o)).run P w = .ok v w := by
  unfold rd at h
  unfold Instr.loadAt loadVar isAgg
  cases hu : P.underlying t with
  | none => simp [aggT, hu] at h
  | some d =>
    split at h
    · rename_i n e1 e2
      obtain ⟨l, hl, e⟩ := Option.map_eq_some_iff.1 h
      subst e
      have hsz : ∃ i, P.info? t = some i ∧ i.size = n := by simpa [szT] using e2
      obtain ⟨i, hi, hin⟩ := hsz
      have hr := run_rdRow (P := P) (w := w) (b := b) (n := n) (o := o) (i := 0) (l := l) (acc := #[]) (by simpa using hl)
      simp only [aggT, hu, Option.map_some, Option.some.injEq] at e1
      cases d <;> simp at e1 <;> simp [Instr.sureAddr, run_underlying hu, sizeOf, typeInfo, hi, hin, loadCells, hr]
    · rename_i e1
      simp only [aggT, hu, Option.map_some, Option.some.injEq] at e1
      have hc : w.cell? ⟨b, o, none⟩ = some v := by rw [cell_eq]; exact h
      cases d <;> simp at e1 <;> simp [Instr.sureAddr, run_underlying hu, hc]
    · cases h
end Go.V
namespace Go.V
open Go

def ifV {α : Type} (c : Prop) [Decidable c] (v : α) : Option α := if c then some v else none
theorem ifV_some {α : Type} {c : Prop} [Decidable c] {v u : α} (h : ifV c v = some u) : c ∧ v = u := by
  unfold ifV at h; split at h
  · exact ⟨‹_›, by simpa using h⟩
  · cases h
def bitV (op : BinOp) (k : IntKind) (a b : Int) : Int :=
  let x := BitVec.ofInt k.bits a
  let y := BitVec.ofInt k.bits b
  k.wrap (match op with | .and => (x &&& y).toNat | .or => (x ||| y).toNat | .xor => (x ^^^ y).toNat | _ => (x &&& ~~~y).toNat : Nat)
def ptrT (P : Program) (t : TypeId) : Bool := match P.underlying t with | some (.pointer _) => true | _ => false
def boolT (P : Program) (t : TypeId) : Bool := match P.underlying t with | some .bool => true | _ => false
def intT (P : Program) (t : TypeId) : Option IntKind := match P.underlying t with | some (.int k) => some k | _ => none
def strT (P : Program) (t : TypeId) : Bool := match P.underlying t with | some .string => true | _ => false
/-- the size of a slice type's elements -/
def slT (P : Program) (t : TypeId) : Option Nat := match P.underlying t with | some (.slice e) => szT P e | _ => none
def arT (P : Program) (t : TypeId) : Option (Nat × Nat) := match P.underlying t with | some (.array n e) => (szT P e).map fun s => (n, s) | _ => none
/-- '==' of two values that are neither numbers nor strings -/
def eqV (P : Program) (t : TypeId) : Value → Value → Option Bool
  | .bool a, .bool b => if boolT P t then some (a == b) else none
  | .pointer none, .pointer p => if ptrT P t then some p.isNone else none
  | .pointer (some _), .pointer none => if ptrT P t then some false else none
  | .slice a _ _, .slice none 0 0 => if (slT P t).isSome then some a.isNone else none
  | .nilIface, .iface _ _ | .iface _ _, .nilIface => match P.underlying t with | some (.interface _) => some false | _ => none
  | _, _ => none
def pvInt (op : BinOp) (k k' : IntKind) (a b : Int) : Option Value :=
  match op with
  | .shl => ifV (0 ≤ b) (.int k (k.wrap (a * 2 ^ min b.toNat k.bits)))
  | .shr => ifV (0 ≤ b) (.int k (a.fdiv (2 ^ min b.toNat k.bits)))
  | _ => if k = k' then
    match op with
    | .add => some (.int k (k.wrap (a + b)))
    | .sub => some (.int k (k.wrap (a - b)))
    | .mul => some (.int k (k.wrap (a * b)))
    | .quo => ifV (b ≠ 0) (.int k (k.wrap (a.tdiv b)))
    | .rem => ifV (b ≠ 0) (.int k (a.tmod b))
    | .and | .or | .xor | .andNot => some (.int k (bitV op k a b))
    | .eql => some (.bool (decide (a = b)))
    | .neq => some (.bool (decide (¬ a = b)))
    | .lss => some (.bool (decide (a < b)))
    | .leq => some (.bool (decide (a ≤ b)))
    | .gtr => some (.bool (decide (b < a)))
    | .geq => some (.bool (decide (b ≤ a)))
    | _ => none
  else none
def pvStr (op : BinOp) (a b : ByteArray) : Option Value :=
  match op with
  | .add => ifV (a.size + b.size ≤ 9223372036854775807) (.string (a ++ b))
  | .eql => some (.bool (decide (a = b)))
  | .neq => some (.bool (decide (¬ a = b)))
  | .lss => some (.bool (Op.bytesLess a.toList b.toList))
  | _ => none
def pvBin (P : Program) (op : BinOp) (t : TypeId) : Value → Value → Option Value
  | .int k a, .int k' b => pvInt op k k' a b
  | .string a, .string b => pvStr op a b
  | x, y => match op with
    | .eql => (eqV P t x y).map .bool
    | .neq => (eqV P t x y).map fun b => .bool (!b)
    | _ => none
def pvUn (op : UnOp) : Value → Option Value
  | .bool b => match op with | .not => some (.bool !b) | _ => none
  | .int k a => match op with | .neg => some (.int k (k.wrap (0 - a))) | .xor => some (.int k (bitV .xor k (if k.signed then -1 else k.max) a)) | _ => none
  | _ => none
def fieldT (P : Program) (s : TypeId) (f : Nat) : Option Nat :=
  match P.underlying s with
  | some (.struct fs) => (fs[f]?).bind fun fd => (szT P fd.type).bind fun n => if n = 0 then none else some fd.offset
  | _ => none
def fieldV (P : Program) (s : TypeId) (f : Nat) (cs : Array Value) : Option Value :=
  match P.underlying s with
  | some (.struct fs) => (fs[f]?).bind fun fd =>
    match aggT P fd.type, szT P fd.type with
    | some true, some n => some (.agg (cs.extract fd.offset (fd.offset + n)))
    | some false, _ => cs[fd.offset]?
    | _, _ => none
  | _ => none
def idxA (P : Program) (t : TypeId) : Value → Value → Option Value
  | .slice (some ⟨b, o, none⟩) n _, .int _ i => (slT P t).bind fun s => ifV (0 ≤ i ∧ i < (n : Int)) (ptr b (o + i.toNat * s))
  | .pointer (some ⟨b, o, none⟩), .int _ i => (arT P t).bind fun p => ifV (0 ≤ i ∧ i < (p.1 : Int)) (ptr b (o + i.toNat * p.2))
  | _, _ => none
def bnd (d : Nat) : Option Value → Option Int
  | none => some d
  | some (.int _ i) => some i
  | _ => none
/-- where a piece of a slice begins -/
def slOff (o l s m : Nat) : Nat := if m = l then o else o + l * s
def sliceV (P : Program) (t : TypeId) (x : Value) (lo hi mx : Option Value) : Option Value :=
  match x with
  | .slice (some ⟨b, o, none⟩) n c => (slT P t).bind fun s => (bnd 0 lo).bind fun l => (bnd n hi).bind fun h => (bnd c mx).bind fun m =>
      ifV ((0 ≤ l ∧ l ≤ h ∧ h ≤ m ∧ m ≤ (c : Int)) ∧ (mx.isSome = true → hi.isSome = true)) (sl b (slOff o l.toNat s m.toNat) (h.toNat - l.toNat) (m.toNat - l.toNat))
  | .slice none n c => (slT P t).bind fun _ => (bnd 0 lo).bind fun l => (bnd n hi).bind fun h => (bnd c mx).bind fun m =>
      ifV ((0 ≤ l ∧ l ≤ h ∧ h ≤ m ∧ m ≤ (c : Int)) ∧ (mx.isSome = true → hi.isSome = true)) (.slice none (h.toNat - l.toNat) (m.toNat - l.toNat))
  | .string s => if strT P t && mx.isNone then (bnd 0 lo).bind fun l => (bnd s.size hi).bind fun h => ifV (0 ≤ l ∧ l ≤ h ∧ h ≤ (s.size : Int)) (.string (s.extract l.toNat h.toNat)) else none
  | _ => none
def idxV (P : Program) (t : TypeId) : Value → Value → Option Value
  | .string s, .int _ i => if strT P t then (ifV (0 ≤ i ∧ i < (s.size : Int)) (.int .u8 ((s[i.toNat]?).getD 0).toNat)) else none
  | _, _ => none
def lenV (P : Program) (h : Heap) (t : TypeId) : Value → Option Value
  | .slice _ n _ => if (slT P t).isSome then some (.int .i64 n) else none
  | .string s => if strT P t then some (.int .i64 s.size) else none
  | .map (some r) => match P.underlying t, h[r]? with | some (.map _ _), some (.map es _) => some (.int .i64 es.size) | _, _ => none
  | _ => none
def mnV : Value → Value → Option Value
  | .int k x, .int _ y => some (.int k (if y < x then y else x))
  | _, _ => none
def mxV : Value → Value → Option Value
  | .int k x, .int _ y => some (.int k (if y > x then y else x))
  | _, _ => none
def fnV : Value → Option Value
  | .pointer (some a) => some (.pointer (some a))
  | .func (.func f) x y => some (.func (.func f) x y)
  | _ => none
def pickV (fr : Fr) (a b : Operand) : Option Value → Option Value
  | some (.bool true) => ev fr a
  | some (.bool false) => ev fr b
  | _ => none
def convV (P : Program) (src dst : TypeId) : Value → Option Value
  | .int _ n => if (P.underlying src).isSome then (intT P dst).map fun k => .int k (k.wrap n) else none
  | .string s => if (P.underlying src).isSome && strT P dst then some (.string s) else none
  | _ => none
def ldV (P : Program) (h : Heap) (t : TypeId) : Value → Option Value
  | .pointer (some ⟨b, o, none⟩) => rd P h t b o
  | _ => none
def fadV (P : Program) (s : TypeId) (f : Nat) : Value → Option Value
  | .pointer (some ⟨b, o, none⟩) => (fieldT P s f).map fun n => ptr b (o + n)
  | _ => none
def aggV : Value → Option (Array Value)
  | .agg cs => some cs
  | _ => none
def tupV (i : Nat) : Value → Option Value
  | .tuple vs => vs[i]?
  | _ => none

/-- A pure operation's value. -/
def pv (P : Program) (fr : Fr) (h : Heap) : Op → Option Value
  | .move x | .assign x => ev fr x
  | .pick c a b => pickV fr a b (ev fr c)
  | .load t x => (ev fr x).bind (ldV P h t)
  | .nilCheck x => (ev fr x).bind fnV
  | .binOp op t x y _ => (ev fr x).bind fun a => (ev fr y).bind fun b => pvBin P op t a b
  | .unOp op _ x => (ev fr x).bind (pvUn op)
  | .convert s d x => (ev fr x).bind (convV P s d)
  | .makeInterface t x => (ev fr x).bind fun v => if P.concrete t then some (.iface t v) else none
  | .makeFunc fn a b => (evl fr a.toList).bind fun x => (evl fr b.toList).bind fun y => some (.func fn x.toArray y.toArray)
  | .slice t x lo hi mx => (ev fr x).bind fun v => (match lo with | none => some none | some o => (ev fr o).map some).bind fun l =>
      (match hi with | none => some none | some o => (ev fr o).map some).bind fun h' => (match mx with | none => some none | some o => (ev fr o).map some).bind fun m => sliceV P t v l h' m
  | .fieldAddr s x f => (ev fr x).bind (fadV P s f)
  | .field s x f => ((ev fr x).bind aggV).bind (fieldV P s f)
  | .indexAddr t x i => (ev fr x).bind fun a => (ev fr i).bind fun b => idxA P t a b
  | .index t x i => (ev fr x).bind fun a => (ev fr i).bind fun b => idxV P t a b
  | .extract x i => (ev fr x).bind (tupV i)
  | .call ⟨.builtin .len, args, ts⟩ => match args.toList, ts.toList with | [x], [t] => (ev fr x).bind (lenV P h t) | _, _ => none
  | .call ⟨.builtin .min, args, _⟩ => match args.toList with | [x, y] => (ev fr x).bind fun a => (ev fr y).bind fun b => mnV a b | _ => none
  | .call ⟨.builtin .max, args, _⟩ => match args.toList with | [x, y] => (ev fr x).bind fun a => (ev fr y).bind fun b => mxV a b | _ => none
  | _ => none

section sound
variable {P : Program} {w : World}

theorem run_pvInt {op : BinOp} {t : TypeId} {k k' : IntKind} {a b : Int} {v : Value} (h : pvInt op k k' a b = some v) : (binOp op t (.int k a) (.int k' b)).run P w = .ok v w := by
  unfold pvInt at h
  cases op
  case shl =>
    obtain ⟨h0, rfl⟩ := ifV_some h
    have : ¬ b < 0 := by omega
    simp [binOp, Op.shift, this]
  case shr =>
    obtain ⟨h0, rfl⟩ := ifV_some h
    have : ¬ b < 0 := by omega
    simp [binOp, Op.shift, this]
  all_goals
    simp only at h
    split at h
    · rename_i e
      subst e
      first
        | (simp only [Option.some.injEq] at h; subst h; simp [binOp, Op.intArith, Op.intBits, Op.intCmp, bitV, bne]; try rfl)
        | (obtain ⟨h0, rfl⟩ := ifV_some h; simp [binOp, Op.intDiv, h0])
        | cases h
    · cases h

theorem run_pvStr {op : BinOp} {t : TypeId} {a b : ByteArray} {v : Value} (h : pvStr op a b = some v) : (binOp op t (.string a) (.string b)).run P w = .ok v w := by
  unfold pvStr at h
  have he : (a.toList == b.toList) = decide (a = b) := by
    rw [Bool.eq_iff_iff]
    simp only [beq_iff_eq, decide_eq_true_eq]
    constructor
    · intro e
      have : a.data = b.data := by
        have h1 : a.toList = a.data.toList := ByteArray.toList_eq a
        have h2 : b.toList = b.data.toList := ByteArray.toList_eq b
        rw [h1, h2] at e
        exact Array.toList_inj.1 e
      cases a; cases b; simpa using this
    · intro e; rw [e]
  cases op <;> simp only at h <;> first
    | cases h; done
    | (simp only [Option.some.injEq] at h; subst h; simp [binOp, Op.stringOp, he]; done)
    | (obtain ⟨h0, rfl⟩ := ifV_some h; exact run_string_add_sum w a b h0)

theorem run_eqIn {t : TypeId} {x y : Value} {b : Bool} (d : Nat) (h : eqV P t x y = some b) : (Op.equalIn (d + 1) t x y).run P w = .ok b w := by
  unfold eqV at h
  split at h
  · split at h
    · rename_i hb
      simp only [Option.some.injEq] at h; subst h
      unfold boolT at hb
      split at hb
      · rename_i hu; simp [Op.equalIn, run_underlying hu]
      · cases hb
    · cases h
  · split at h
    · rename_i hb
      simp only [Option.some.injEq] at h; subst h
      unfold ptrT at hb
      split at hb
      · rename_i e hu; simp [Op.equalIn, run_underlying hu]
      · cases hb
    · cases h
  · split at h
    · rename_i hb
      simp only [Option.some.injEq] at h; subst h
      unfold ptrT at hb
      split at hb
      · rename_i e hu; simp [Op.equalIn, run_underlying hu]
      · cases hb
    · cases h
  · split at h
    · rename_i hb
      simp only [Option.some.injEq] at h; subst h
      unfold slT at hb
      split at hb
      · rename_i hu
        exact run_equalIn_slice_nil w d t _ _ _ _ hu
      · cases hb
    · cases h
  · split at h
    · rename_i hu; simp only [Option.some.injEq] at h; subst h; simp [Op.equalIn, run_underlying hu]
    · cases h
  · split at h
    · rename_i hu; simp only [Option.some.injEq] at h; subst h; simp [Op.equalIn, run_underlying hu]
    · cases h
  · cases h
theorem run_eqV {t : TypeId} {x y : Value} {b : Bool} (h : eqV P t x y = some b) : (Op.equal t x y).run P w = .ok b w := run_eqIn 9999 h

theorem eqV_guard {t : TypeId} {x y : Value} {a b : Operand} {op : BinOp} {c : Bool} (h : eqV P t x y = some c) : (eqGuard op t a b x y).run P w = .ok () w := by
  unfold eqGuard
  unfold eqV at h
  split at h <;> first | cases h; done | (cases op <;> simp)

theorem run_pvBin {op : BinOp} {t : TypeId} {x y v : Value} {a b : Operand} (h : pvBin P op t x y = some v) :
    (do eqGuard op t a b x y; binOp op t x y : Sem Value).run P w = .ok v w := by
  unfold pvBin at h
  split at h
  · have := run_pvInt (P := P) (w := w) (t := t) h
    cases op <;> simp [eqGuard, this]
  · have := run_pvStr (P := P) (w := w) (t := t) h
    cases op <;> simp [eqGuard, this]
  · rename_i n1 n2
    split at h
    · obtain ⟨c, hc, e⟩ := Option.map_eq_some_iff.1 h
      have hg := eqV_guard (w := w) (a := a) (b := b) (op := .eql) hc
      have hr := run_eqV (w := w) hc
      subst e
      have hb : (binOp .eql t x y) = (do pure (.bool (← Op.equal t x y))) := by
        unfold eqV at hc
        split at hc <;> first | cases hc; done | rfl
      simp [hg, hb, hr]
    · obtain ⟨c, hc, e⟩ := Option.map_eq_some_iff.1 h
      have hg := eqV_guard (w := w) (a := a) (b := b) (op := .neq) hc
      have hr := run_eqV (w := w) hc
      subst e
      have hb : (binOp .neq t x y) = (do pure (.bool (!(← Op.equal t x y)))) := by
        unfold eqV at hc
        split at hc <;> first | cases hc; done | rfl
      simp [hg, hb, hr]
    · cases h

theorem run_pvUn {op : UnOp} {x v : Value} (h : pvUn op x = some v) : (Op.unary op x).run P w = .ok v w := by
  unfold pvUn at h
  split at h
  · split at h
    · cases h; rfl
    · cases h
  · split at h
    · simp only [Option.some.injEq] at h; subst h; simp [Op.unary, Op.intArith]
    · simp only [Option.some.injEq] at h; subst h; simp [Op.unary, Op.intBits, bitV]
    · cases h
  · cases h

theorem run_fadV {s : TypeId} {f : Nat} {x v : Value} (h : fadV P s f x = some v) : (Instr.fieldAt s x f).run P w = .ok v w := by
  unfold fadV at h
  split at h
  · rename_i b o
    obtain ⟨n, hn, e⟩ := Option.map_eq_some_iff.1 h
    subst e
    unfold fieldT at hn
    split at hn
    · rename_i fs hu
      obtain ⟨fd, hfd, hn⟩ := Option.bind_eq_some_iff.1 hn
      obtain ⟨m, hm, hn⟩ := Option.bind_eq_some_iff.1 hn
      split at hn
      · cases hn
      · rename_i hm0
        simp only [Option.some.injEq] at hn
        obtain ⟨i, hi, him⟩ : ∃ i, P.info? fd.type = some i ∧ i.size = m := by simpa [szT] using hm
        have hadd : (⟨b, o, none⟩ : Addr).add fd.offset = ⟨b, o + fd.offset, none⟩ := by unfold Addr.add; split <;> simp_all
        simp [Instr.fieldAt, run_underlying hu, hfd, Instr.sureAddr, fieldPlace, sizeOf, typeInfo, hi, him, hm0, hn]
        rw [hn] at hadd; rw [hadd]
    · cases hn
  · cases h

theorem run_part {t : TypeId} {cs : Array Value} {o : Nat} {v : Value}
    (h : (match aggT P t, szT P t with | some true, some n => some (.agg (cs.extract o (o + n))) | some false, _ => cs[o]? | _, _ => none) = some v) : (part t cs o).run P w = .ok v w := by
  unfold part isAgg
  cases hu : P.underlying t with
  | none => simp [aggT, hu] at h
  | some d =>
    split at h
    · rename_i n e1 e2
      obtain ⟨i, hi, hin⟩ : ∃ i, P.info? t = some i ∧ i.size = n := by simpa [szT] using e2
      simp only [Option.some.injEq] at h
      subst h
      simp only [aggT, hu, Option.map_some, Option.some.injEq] at e1
      cases d <;> simp at e1 <;> simp [run_underlying hu, sizeOf, typeInfo, hi, hin]
    · rename_i e1
      simp only [aggT, hu, Option.map_some, Option.some.injEq] at e1
      cases d <;> simp at e1 <;> simp [run_underlying hu, h]
    · cases h

theorem run_fieldV {s : TypeId} {f : Nat} {x v : Value} {cs : Array Value} (hx : aggV x = some cs) (h : fieldV P s f cs = some v) : (Instr.field s x f).run P w = .ok v w := by
  unfold aggV at hx
  split at hx
  · simp only [Option.some.injEq] at hx
    subst hx
    unfold fieldV at h
    split at h
    · rename_i fs hu
      obtain ⟨fd, hfd, hn⟩ := Option.bind_eq_some_iff.1 h
      simp [Instr.field, run_underlying hu, hfd, asAgg, run_part hn]
    · cases h
  · cases hx

theorem run_idxA {t : TypeId} {x i v : Value} (h : idxA P t x i = some v) : (Instr.indexAt t x i).run P w = .ok v w := by
  unfold idxA at h
  split at h
  · rename_i b o n c k i
    obtain ⟨s, hs, h⟩ := Option.bind_eq_some_iff.1 h
    obtain ⟨⟨h0, h1⟩, rfl⟩ := ifV_some h
    unfold slT at hs
    split at hs
    · rename_i e hu
      obtain ⟨q, hq, hqs⟩ : ∃ q, P.info? e = some q ∧ q.size = s := by simpa [szT] using hs
      have hadd : (⟨b, o, none⟩ : Addr).add (i.toNat * s) = ⟨b, o + i.toNat * s, none⟩ := by unfold Addr.add; split <;> simp_all
      simp [Instr.indexAt, asIntOf, run_underlying hu, sizeOf, typeInfo, hq, hqs, h0, h1, hadd]
    · cases hs
  · rename_i b o k i
    obtain ⟨p, hp, h⟩ := Option.bind_eq_some_iff.1 h
    obtain ⟨⟨h0, h1⟩, rfl⟩ := ifV_some h
    unfold arT at hp
    split at hp
    · rename_i n e hu
      obtain ⟨s, hs, e'⟩ := Option.map_eq_some_iff.1 hp
      subst e'
      obtain ⟨q, hq, hqs⟩ : ∃ q, P.info? e = some q ∧ q.size = s := by simpa [szT] using hs
      have hadd : (⟨b, o, none⟩ : Addr).add (i.toNat * s) = ⟨b, o + i.toNat * s, none⟩ := by unfold Addr.add; split <;> simp_all
      simp at h0 h1
      simp [Instr.indexAt, asIntOf, run_underlying hu, sizeOf, typeInfo, hq, hqs, h0, h1, hadd, Instr.sureAddr]
    · cases hp
  · cases h

theorem run_idxV {t : TypeId} {x i v : Value} (h : idxV P t x i = some v) : (Instr.index t x i).run P w = .ok v w := by
  unfold idxV at h
  split at h
  · rename_i s k i
    split at h
    · rename_i hb
      obtain ⟨⟨h0, h1⟩, rfl⟩ := ifV_some h
      unfold strT at hb
      split at hb
      · rename_i hu
        have hlt : i.toNat < s.size := by omega
        simp [Instr.index, asIntOf, run_underlying hu, h0, getElem?_pos s i.toNat hlt]
      · cases hb
    · cases h
  · cases h

theorem run_lenV {t ty : TypeId} {x v : Value} (h : lenV P w.heap t x = some v) : (Builtin.len_ #[t] ty #[x]).run P w = .ok v w := by
  unfold lenV at h
  split at h
  · split at h
    · rename_i hb
      unfold slT at hb
      split at hb
      · rename_i hu
        simp only [Option.some.injEq] at h; subst h
        simp [Builtin.len_, run_underlying hu, goInt]
      · cases hb
    · cases h
  · split at h
    · rename_i hb
      unfold strT at hb
      split at hb
      · rename_i hu
        simp only [Option.some.injEq] at h; subst h
        simp [Builtin.len_, run_underlying hu, goInt]
      · cases hb
    · cases h
  · split at h
    · rename_i hu hb
      simp only [Option.some.injEq] at h; subst h
      simp [Builtin.len_, run_underlying hu, goInt, getObj, Sem.run, hb]
    · cases h
  · cases h

theorem run_convV {s d : TypeId} {x v : Value} (h : convV P s d x = some v) : (convert s d x).run P w = .ok v w := by
  unfold convV at h
  split at h
  · split at h
    · rename_i n hs
      obtain ⟨k, hk, e⟩ := Option.map_eq_some_iff.1 h
      subst e
      unfold intT at hk
      split at hk
      · rename_i k' hu
        cases hk
        obtain ⟨ds, hds⟩ := Option.isSome_iff_exists.1 hs
        simp [convert, run_underlying hds, run_underlying hu, Conv.intToInt]
      · cases hk
    · cases h
  · split at h
    · rename_i s' hs
      simp only [Bool.and_eq_true] at hs
      obtain ⟨hs, hd⟩ := hs
      obtain ⟨ds, hds⟩ := Option.isSome_iff_exists.1 hs
      unfold strT at hd
      split at hd
      · rename_i hu
        simp only [Option.some.injEq] at h; subst h
        simp [convert, run_underlying hds, run_underlying hu]
      · cases hd
    · cases h
  · cases h

def bq (y d : Nat) (code : BoundsCode) : Option Value → Sem Nat
  | some v => Instr.sliceBound v y code
  | none => pure d
theorem run_bnd {y : Nat} {code : BoundsCode} {x : Option Value} {d : Nat} {i : Int} (h : bnd d x = some i) (h0 : 0 ≤ i) (h1 : i ≤ y) :
    (bq y d code x).run P w = .ok i.toNat w := by
  unfold bnd at h
  split at h
  · simp only [Option.some.injEq] at h; subst h; simp [bq]
  · simp only [Option.some.injEq] at h; subst h
    simp [bq, Instr.sliceBound, asIntOf, h0, h1]
  · cases h

theorem run_bounds {isSlice : Bool} {n c : Nat} {lo hi mx : Option Value} {l h m : Int} (hl : bnd 0 lo = some l) (hh : bnd n hi = some h) (hm : bnd c mx = some m)
    (h0 : 0 ≤ l) (h1 : l ≤ h) (h2 : h ≤ m) (h3 : m ≤ (c : Int)) (hmh : mx.isSome = true → hi.isSome = true) : (Instr.sliceBounds isSlice n c lo hi mx).run P w = .ok (l.toNat, h.toNat, m.toNat) w := by
  have e1 := fun code => run_bnd (P := P) (w := w) (y := c) (code := code) hm (by omega) h3
  have hmm : ((m.toNat : Nat) : Int) = m := by omega
  have hhh : ((h.toNat : Nat) : Int) = h := by omega
  have e2 := fun (y : Nat) code (hy : h ≤ (y : Int)) => run_bnd (P := P) (w := w) (y := y) (code := code) hh (by omega) hy
  have e3 := fun code => run_bnd (P := P) (w := w) (y := h.toNat) (code := code) hl h0 (by omega)
  unfold Instr.sliceBounds
  cases mx with
  | none =>
    simp only [bnd, Option.some.injEq] at hm
    subst hm
    cases hi with
    | none =>
      simp only [bnd, Option.some.injEq] at hh
      subst hh
      cases lo with
      | none => simp only [bnd, Option.some.injEq] at hl; subst hl; simp
      | some v => have := e3 .sliceB; simp only [bq, Int.toNat_natCast] at this; simp [this]
    | some u =>
      have hu := e2 c (if isSlice then .sliceAcap else .sliceAlen) h2
      simp only [bq] at hu
      cases lo with
      | none => simp only [bnd, Option.some.injEq] at hl; subst hl; simp [hu]
      | some v => have := e3 .sliceB; simp only [bq] at this; simp [hu, this]
  | some x =>
    have hx := e1 (if isSlice then .slice3Acap else .slice3Alen)
    simp only [bq] at hx
    cases hi with
    | none => simp at hmh
    | some u =>
      have hu := e2 m.toNat .slice3B (by omega)
      simp only [bq] at hu
      cases lo with
      | none => simp only [bnd, Option.some.injEq] at hl; subst hl; simp [hx, hu]
      | some v => have := e3 .slice3C; simp only [bq] at this; simp [hx, hu, this]

theorem run_sliceV {t : TypeId} {x v : Value} {lo hi mx : Option Value} (h : sliceV P t x lo hi mx = some v) : (Instr.sliceAt t x lo hi mx).run P w = .ok v w := by
  unfold sliceV at h
  split at h
  · rename_i b o n c
    obtain ⟨s, hs, h⟩ := Option.bind_eq_some_iff.1 h
    obtain ⟨l, hl, h⟩ := Option.bind_eq_some_iff.1 h
    obtain ⟨hh, hhi, h⟩ := Option.bind_eq_some_iff.1 h
    obtain ⟨m, hm, h⟩ := Option.bind_eq_some_iff.1 h
    obtain ⟨⟨⟨h0, h1, h2, h3⟩, h4⟩, rfl⟩ := ifV_some h
    have hb := run_bounds (P := P) (w := w) (isSlice := true) hl hhi hm h0 h1 h2 h3 h4
    unfold slT at hs
    split at hs
    · rename_i e hu
      obtain ⟨q, hq, hqs⟩ : ∃ q, P.info? e = some q ∧ q.size = s := by simpa [szT] using hs
      have hadd : (⟨b, o, none⟩ : Addr).add (l.toNat * s) = ⟨b, o + l.toNat * s, none⟩ := by unfold Addr.add; split <;> simp_all
      simp [Instr.sliceAt, run_underlying hu, Instr.slice, hb, sizeOf, typeInfo, hq, hqs, hadd, slOff]
      split <;> rfl
    · cases hs
  · rename_i n c
    obtain ⟨s, hs, h⟩ := Option.bind_eq_some_iff.1 h
    obtain ⟨l, hl, h⟩ := Option.bind_eq_some_iff.1 h
    obtain ⟨hh, hhi, h⟩ := Option.bind_eq_some_iff.1 h
    obtain ⟨m, hm, h⟩ := Option.bind_eq_some_iff.1 h
    obtain ⟨⟨⟨h0, h1, h2, h3⟩, h4⟩, rfl⟩ := ifV_some h
    have hb := run_bounds (P := P) (w := w) (isSlice := true) hl hhi hm h0 h1 h2 h3 h4
    unfold slT at hs
    split at hs
    · rename_i e hu
      obtain ⟨q, hq, hqs⟩ : ∃ q, P.info? e = some q ∧ q.size = s := by simpa [szT] using hs
      simp [Instr.sliceAt, run_underlying hu, Instr.slice, hb, sizeOf, typeInfo, hq]
    · cases hs
  · rename_i s
    split at h
    · rename_i hc
      simp only [Bool.and_eq_true] at hc
      obtain ⟨hst, hmx⟩ := hc
      cases mx with
      | some y => simp at hmx
      | none =>
        obtain ⟨l, hl, h⟩ := Option.bind_eq_some_iff.1 h
        obtain ⟨hh, hhi, h⟩ := Option.bind_eq_some_iff.1 h
        obtain ⟨⟨h0, h1, h2⟩, rfl⟩ := ifV_some h
        have hb := run_bounds (P := P) (w := w) (isSlice := false) (mx := none) (m := s.size) hl hhi rfl h0 h1 h2 (Int.le_refl _) (by simp)
        unfold strT at hst
        split at hst
        · rename_i hu
          simp [Instr.sliceAt, run_underlying hu, Instr.slice, hb]
        · cases hst
    · cases h
  · cases h
end sound
end Go.V
namespace Go.V
open Go
section
variable {P : Program} {w : World} {n : Nat} {fr : Fr} {a : Act}

theorem evl_arr {l : List Operand} {vs : List Value} (hA : At n fr a) (h : evl fr l = some vs) {xs : Array Operand} (hx : xs.toList = l) : xs.map a.eval = vs.toArray := by
  have := hA.evl h
  rw [← hx] at this
  rw [← this, ← Array.toList_inj]
  simp

theorem opt_ev {x : Option Operand} {v : Option Value} (hA : At n fr a) (h : (match x with | none => some none | some o => (ev fr o).map some) = some v) : x.map a.eval = v := by
  cases x with
  | none => simpa using h
  | some o =>
    obtain ⟨u, hu, e⟩ := Option.map_eq_some_iff.1 h
    rw [← e]
    simp [hA.ev hu]

theorem run_fnV {x v : Value} (h : fnV x = some v) : v = x ∧ ((∃ q, x = .pointer (some q)) ∨ ∃ f y z, x = .func (.func f) y z) := by
  unfold fnV at h
  split at h
  · cases h; exact ⟨rfl, .inl ⟨_, rfl⟩⟩
  · cases h; exact ⟨rfl, .inr ⟨_, _, _, rfl⟩⟩
  · cases h

/-- A pure operation yields its value, and leaves the world. -/
theorem pv_run {o : Oper} {v : Value} (hA : At n fr a) (h : pv P fr w.heap o.op = some v) : (execOp a.eval o).run P w = .ok (.value v) w := by
  obtain ⟨dst, op, ty, pos, after, guard⟩ := o
  change pv P fr w.heap op = some v at h
  unfold pv at h
  split at h
  · simp [execOp, hA.ev h]
  · simp [execOp, hA.ev h]
  · unfold pickV at h
    rename_i c x y
    split at h
    · rename_i hc; simp [execOp, hA.ev hc, hA.ev h, asBool]
    · rename_i hc; simp [execOp, hA.ev hc, hA.ev h, asBool]
    · cases h
  · obtain ⟨p, hp, h⟩ := Option.bind_eq_some_iff.1 h
    unfold ldV at h
    split at h
    · simp [execOp, hA.ev hp, run_rd h]
    · cases h
  · obtain ⟨p, hp, h⟩ := Option.bind_eq_some_iff.1 h
    obtain ⟨rfl, h | h⟩ := run_fnV h
    · obtain ⟨q, rfl⟩ := h; simp [execOp, hA.ev hp]
    · obtain ⟨f, y, z, rfl⟩ := h; simp [execOp, hA.ev hp]
  · obtain ⟨x, hx, h⟩ := Option.bind_eq_some_iff.1 h
    obtain ⟨y, hy, h⟩ := Option.bind_eq_some_iff.1 h
    simp only [execOp, hA.ev hx, hA.ev hy]
    rw [Sem.run_bind, run_pvBin (w := w) h]
    rfl
  · obtain ⟨x, hx, h⟩ := Option.bind_eq_some_iff.1 h
    simp [execOp, hA.ev hx, run_pvUn h]
  · obtain ⟨x, hx, h⟩ := Option.bind_eq_some_iff.1 h
    simp [execOp, hA.ev hx, run_convV h]
  · obtain ⟨x, hx, h⟩ := Option.bind_eq_some_iff.1 h
    split at h
    · rename_i hc
      cases h
      simp [execOp, hA.ev hx, run_makeInterface, hc]
    · cases h
  · obtain ⟨x, hx, h⟩ := Option.bind_eq_some_iff.1 h
    obtain ⟨y, hy, h⟩ := Option.bind_eq_some_iff.1 h
    cases h
    simp [execOp, evl_arr hA hx rfl, evl_arr hA hy rfl, Instr.makeFunc]
  · obtain ⟨x, hx, h⟩ := Option.bind_eq_some_iff.1 h
    obtain ⟨l, hl, h⟩ := Option.bind_eq_some_iff.1 h
    obtain ⟨hh, hhi, h⟩ := Option.bind_eq_some_iff.1 h
    obtain ⟨m, hm, h⟩ := Option.bind_eq_some_iff.1 h
    simp [execOp, hA.ev hx, opt_ev hA hl, opt_ev hA hhi, opt_ev hA hm, run_sliceV h]
  · obtain ⟨x, hx, h⟩ := Option.bind_eq_some_iff.1 h
    simp [execOp, hA.ev hx, run_fadV h]
  · obtain ⟨x, hx, h⟩ := Option.bind_eq_some_iff.1 h
    obtain ⟨u, hu, hx⟩ := Option.bind_eq_some_iff.1 hx
    simp [execOp, hA.ev hu, run_fieldV hx h]
  · obtain ⟨x, hx, h⟩ := Option.bind_eq_some_iff.1 h
    obtain ⟨y, hy, h⟩ := Option.bind_eq_some_iff.1 h
    simp [execOp, hA.ev hx, hA.ev hy, run_idxA h]
  · obtain ⟨x, hx, h⟩ := Option.bind_eq_some_iff.1 h
    obtain ⟨y, hy, h⟩ := Option.bind_eq_some_iff.1 h
    simp [execOp, hA.ev hx, hA.ev hy, run_idxV h]
  · obtain ⟨x, hx, h⟩ := Option.bind_eq_some_iff.1 h
    unfold tupV at h
    split at h
    · simp [execOp, hA.ev hx, Instr.extract, h]
    · cases h
  · rename_i args ts
    split at h
    · rename_i x t hx ht
      obtain ⟨u, hu, h⟩ := Option.bind_eq_some_iff.1 h
      have e1 : args = #[x] := by rw [← Array.toList_inj]; simp [hx]
      have e2 : ts = #[t] := by rw [← Array.toList_inj]; simp [ht]
      subst e1 e2
      have := run_lenV (ty := ty) h
      simp [execOp, resolve, invoke, builtin, hA.ev hu, this]
    · cases h
  · rename_i args ts
    split at h
    · rename_i x y hx
      obtain ⟨u, hu, h⟩ := Option.bind_eq_some_iff.1 h
      obtain ⟨v', hv, h⟩ := Option.bind_eq_some_iff.1 h
      have e1 : args = #[x, y] := by rw [← Array.toList_inj]; simp [hx]
      subst e1
      unfold mnV at h
      split at h
      · cases h; simp [execOp, resolve, invoke, builtin, hA.ev hu, hA.ev hv, run_min_int2]
      · cases h
    · cases h
  · rename_i args ts
    split at h
    · rename_i x y hx
      obtain ⟨u, hu, h⟩ := Option.bind_eq_some_iff.1 h
      obtain ⟨v', hv, h⟩ := Option.bind_eq_some_iff.1 h
      have e1 : args = #[x, y] := by rw [← Array.toList_inj]; simp [hx]
      subst e1
      unfold mxV at h
      split at h
      · cases h; simp [execOp, resolve, invoke, builtin, hA.ev hu, hA.ev hv, run_max_int2]
      · cases h
    · cases h
  · cases h
end
end Go.V
namespace Go.V
open Go

/-! contracts -/
def callable (P : Program) (f : FuncId) : Prop := ∃ fn, P.funcs[f]? = some fn ∧ (fn.name == "runtime.NumGoroutine") = false ∧ fn.body.isSome = true
/-- What a call of f does: it returns; the streams stay; R. -/
def Ct (P : Program) (f : FuncId) (args : List Value) (h : Heap) (R : Value → Heap → Prop) : Prop :=
  callable P f ∧ ∀ w : World, w.heap = h → Calls P f args.toArray w fun e w' => ∃ v, e = .returned v ∧ Same w w' ∧ R v w'.heap
theorem Ct.mono {P : Program} {f : FuncId} {args : List Value} {h : Heap} {R R' : Value → Heap → Prop} (hf : Ct P f args h R) (hr : ∀ v h', R v h' → R' v h') : Ct P f args h R' :=
  ⟨hf.1, fun w hw => (hf.2 w hw).mono fun _ _ ⟨v, e1, e2, e3⟩ => ⟨v, e1, e2, hr _ _ e3⟩⟩

/-! writing -/
def hset1 (h : Heap) (b o : Nat) (v : Value) : Heap := h.modify b fun | .cells c e f => .cells (c.setIfInBounds o v) e f | x => x
def hset (h : Heap) (b : Nat) : Nat → List Value → Heap
  | _, [] => h
  | o, v :: vs => hset (hset1 h b o v) b (o + 1) vs
def okW (h : Heap) (b o n : Nat) : Prop := ∃ c e, h[b]? = some (.cells c e (0, 0)) ∧ o + n ≤ c.size
def one1 (vs : List Value) : Bool := vs.all (·.oneCell')

structure Grow (h h' : Heap) (row : Option Nat) : Prop where
  size : h.size ≤ h'.size
  block : ∀ k, k < h.size → some k ≠ row → h'[k]? = h[k]?
theorem Grow.ge {h h' : Heap} (g : Grow h h' none) : Ge h h' := ⟨g.size, fun k hk => g.block k hk (by simp)⟩

/-- What is asked of an operation: 'k' of its value ('undef' where there is none) and the heap behind it. -/
def vcall (P : Program) (f : FuncId) (args : List Value) (h : Heap) (k : Value → Heap → Prop) : Prop := Ct P f args h k
def vcallv (P : Program) (fv : Value) (vs : List Value) (h : Heap) (k : Value → Heap → Prop) : Prop :=
  match fv with
  | .func (.func f) first cap => vcall P f (first.toList ++ vs ++ cap.toList) h k
  | _ => False
def vst (P : Program) (h : Heap) (t : TypeId) (p v : Value) (k : Value → Heap → Prop) : Prop :=
  match p with
  | .pointer (some ⟨b, o, none⟩) => szT P t = some v.cells.size ∧ one1 v.cells.toList = true ∧ okW h b o v.cells.size ∧ k undef (hset h b o v.cells.toList)
  | _ => False
/-- An operation of which nothing more is computed: whatever world. -/
def vraw (P : Program) (s : Sem Value) (h : Heap) (k : Value → Heap → Prop) : Prop :=
  ∀ w : World, w.heap = h → ∃ v w', s.run P w = .ok v w' ∧ Same w w' ∧ k v w'.heap
def vrawU (P : Program) (s : Sem Unit) (h : Heap) (k : Value → Heap → Prop) : Prop :=
  ∀ w : World, w.heap = h → ∃ w', s.run P w = .ok () w' ∧ Same w w' ∧ k undef w'.heap
def vapp (P : Program) (ts : Array TypeId) (ty : TypeId) (s x : Value) (h : Heap) (k : Value → Heap → Prop) : Prop := vraw P (Builtin.append_ ts ty #[s, x]) h k
def vmk (P : Program) (t : TypeId) (l c : Value) (h : Heap) (k : Value → Heap → Prop) : Prop := vraw P (Instr.makeSlice t l c) h k
def vbs (P : Program) (t : TypeId) (len : Nat) (parts : List (Nat × Value)) (h : Heap) (k : Value → Heap → Prop) : Prop := vraw P (Instr.buildSlice t len parts.toArray) h k
def vbd (P : Program) (t : TypeId) (parts : List (Nat × Value)) (h : Heap) (k : Value → Heap → Prop) : Prop := vraw P (Instr.build t parts.toArray) h k
def vlook (P : Program) (t : TypeId) (m x : Value) (ok : Bool) (h : Heap) (k : Value → Heap → Prop) : Prop := vraw P (Instr.lookup t m x ok) h k
def vupd (P : Program) (t : TypeId) (m x v : Value) (h : Heap) (k : Value → Heap → Prop) : Prop := vrawU P (Instr.mapUpdate t m x v) h k
def vment (P : Program) (t : TypeId) (m x : Value) (h : Heap) (k : Value → Heap → Prop) : Prop := vraw P (Instr.mapEntry t m x) h k
def vest (P : Program) (t : TypeId) (m s v : Value) (h : Heap) (k : Value → Heap → Prop) : Prop := vrawU P (Instr.entryStore t m s v) h k
def vrng (P : Program) (t : TypeId) (x : Value) (h : Heap) (k : Value → Heap → Prop) : Prop := vraw P (Instr.range t x) h k
def vnext (P : Program) (x : Value) (s : Bool) (ty : TypeId) (h : Heap) (k : Value → Heap → Prop) : Prop := vraw P (Instr.next x s ty) h k
def vconv (P : Program) (src dst : TypeId) (x : Value) (h : Heap) (k : Value → Heap → Prop) : Prop := vraw P (convert src dst x) h k
def vcopy (P : Program) (ts : Array TypeId) (ty : TypeId) (args : List Value) (h : Heap) (k : Value → Heap → Prop) : Prop := vraw P (Builtin.copy_ ts ty args.toArray) h k
def vdel (P : Program) (ts : Array TypeId) (ty : TypeId) (args : List Value) (h : Heap) (k : Value → Heap → Prop) : Prop := vraw P (Builtin.delete_ ts ty args.toArray) h k
def veq (P : Program) (op : BinOp) (t : TypeId) (x y : Operand) (a b : Value) (h : Heap) (k : Value → Heap → Prop) : Prop := vraw P (do eqGuard op t x y a b; binOp op t a b) h k
def vinv (P : Program) (recv : Value) (name : String) (vs : List Value) (h : Heap) (k : Value → Heap → Prop) : Prop :=
  ∀ w : World, w.heap = h → ∃ f as, (callMethod recv name vs.toArray).run P w = .ok (.enter f as) w ∧ vcall P f as.toList h k

def evp (fr : Fr) : List (Nat × Operand) → Option (List (Nat × Value))
  | [] => some []
  | (i, x) :: r => (ev fr x).bind fun v => (evp fr r).bind fun vs => some ((i, v) :: vs)

def isRef : Value → Bool
  | .int .. | .string _ => false
  | _ => true
/-- '==' at types whose values are no numbers, strings, bools, nor held against nil. -/
def hardEq (P : Program) (op : BinOp) (t : TypeId) : Bool := (op == .eql || op == .neq) && (match P.underlying t with | some (.struct _) | some (.array ..) | some (.interface _) => true | _ => false)

def vop (P : Program) (fr : Fr) (h : Heap) (ty : TypeId) (op : Op) (k : Value → Heap → Prop) : Prop :=
  match op with
  | .alloc e => onV (zeroT P e) fun z => k (ptr h.size 0) (h.push (.cells z.cells e))
  | .box e x => onV (ev fr x) fun v => k (ptr h.size 0) (h.push (.cells v.cells e))
  | .store t x y => onV (ev fr x) fun p => onV (ev fr y) fun v => vst P h t p v k
  | .build t ps => onV (evp fr ps.toList) fun l => vbd P t l h k
  | .buildSlice t n ps => onV (evp fr ps.toList) fun l => vbs P t n l h k
  | .makeMap _ none => k (.map (some h.size)) (h.push (.map #[] 0))
  | .makeMap t (some r) => onV (ev fr r) fun v => vraw P (Instr.makeMap t (some v)) h k
  | .makeSlice t l c => onV (ev fr l) fun a => onV (ev fr c) fun b => vmk P t a b h k
  | .lookup t m x ok => onV (ev fr m) fun a => onV (ev fr x) fun b => vlook P t a b ok h k
  | .mapUpdate t m x v | .insert t m x v => onV (ev fr m) fun a => onV (ev fr x) fun b => onV (ev fr v) fun c => vupd P t a b c h k
  | .mapEntry t m x => onV (ev fr m) fun a => onV (ev fr x) fun b => vment P t a b h k
  | .entryStore t m s v => onV (ev fr m) fun a => onV (ev fr s) fun b => onV (ev fr v) fun c => vest P t a b c h k
  | .range t x => onV (ev fr x) fun a => vrng P t a h k
  | .next x s => onV (ev fr x) fun a => vnext P a s ty h k
  | .call ⟨.value f, args, _⟩ => onV (ev fr f) fun fv => onV (evl fr args.toList) fun vs => vcallv P fv vs h k
  | .call ⟨.invoke r name, args, _⟩ => onV (ev fr r) fun rv => onV (evl fr args.toList) fun vs => vinv P rv name vs h k
  | .call ⟨.builtin .append, args, ts⟩ => match args.toList with | [s, x] => onV (ev fr s) fun a => onV (ev fr x) fun b => vapp P ts ty a b h k | _ => False
  | .call ⟨.builtin .copy, args, ts⟩ => onV (evl fr args.toList) fun vs => vcopy P ts ty vs h k
  | .call ⟨.builtin .delete, args, ts⟩ => onV (evl fr args.toList) fun vs => vdel P ts ty vs h k
  | _ => onV (pv P fr h op) fun v => k v h

section
variable {P : Program} {n : Nat} {fr : Fr} {a : Act}

theorem At.evp (hA : At n fr a) : ∀ {l : List (Nat × Operand)} {vs : List (Nat × Value)}, evp fr l = some vs → l.map (fun (i, x) => (i, a.eval x)) = vs
  | [], vs, e => by simp [V.evp] at e; simp [e]
  | (i, x) :: r, vs, e => by
    simp only [V.evp, Option.bind_eq_some_iff] at e
    obtain ⟨v, hv, vs', hvs, e⟩ := e
    simp only [Option.some.injEq] at e
    subst e
    simp [hA.ev hv, hA.evp hvs]

theorem run_storeCells_h {b : Nat} : ∀ {vs : List Value} {o i : Nat} {w : World}, okW w.heap b (o + i) vs.length → one1 vs = true →
    ∃ w', (storeCells ⟨b, o, none⟩ vs i).run P w = .ok () w' ∧ Same w w' ∧ w'.heap = hset w.heap b (o + i) vs
  | [], o, i, w, _, _ => ⟨w, by simp [storeCells], Same.refl _, rfl⟩
  | v :: vs, o, i, w, hw, h1 => by
    obtain ⟨c, e, hb, hc⟩ := hw
    simp only [List.length_cons] at hc
    simp only [one1, List.all_cons, Bool.and_eq_true] at h1
    obtain ⟨hv, h1⟩ := h1
    have hadd : (⟨b, o, none⟩ : Addr).add i = ⟨b, o + i, none⟩ := by unfold Addr.add; split <;> simp_all
    have hlt : o + i < c.size := by omega
    have hcell : w.cell? ⟨b, o + i, none⟩ = some (c[o + i]) := by
      rw [cell_eq]; simp [hcell, hb, hlt]
    have hfz : w.frozen? ⟨b, o + i, none⟩ = false := by simp [World.frozen?, hb]
    have hblt : b < w.heap.size := (Array.getElem?_eq_some_iff.1 hb).1
    have hh : (w.setCell ⟨b, o + i, none⟩ v).heap = hset1 w.heap b (o + i) v := by
      simp only [World.setCell, hset1]
      rfl
    have hb' : (w.setCell ⟨b, o + i, none⟩ v).heap[b]? = some (.cells (c.setIfInBounds (o + i) v) e (0, 0)) := by
      rw [hh, hset1, Array.getElem?_modify, if_pos rfl, hb]; rfl
    obtain ⟨w', hr, hs, hh'⟩ := run_storeCells_h (b := b) (vs := vs) (o := o) (i := i + 1) (w := w.setCell ⟨b, o + i, none⟩ v)
      ⟨_, e, hb', by simp; omega⟩ h1
    have hst : (store ((⟨b, o, none⟩ : Addr).add i) v).run P w = .ok () (w.setCell ⟨b, o + i, none⟩ v) := by
      rw [hadd, run_store P w _ v _ hv]
      simp [hcell, hfz]
    refine ⟨w', ?_, ⟨hs.os, hs.tape, hs.output⟩, ?_⟩
    · simp [storeCells, hst, hr]
    · rw [hh', hh]; rfl

theorem vraw_ok {s : Sem Value} {w : World} {k : Value → Heap → Prop} (h : vraw P s w.heap k) : ∃ v w', s.run P w = .ok v w' ∧ Same w w' ∧ k v w'.heap := h w rfl

/-- Soundness of one operation: the next, or a call. -/
def Does (P : Program) (o : Oper) (a : Act) (w : World) (K : Value → Heap → Prop) : Prop :=
  (∃ v w', (execOp a.eval o).run P w = .ok (.value v) w' ∧ Same w w' ∧ K v w'.heap) ∨
  (∃ w', (execOp a.eval o).run P w = .ok .skip w' ∧ Same w w' ∧ K undef w'.heap) ∨
  (∃ f as, (execOp a.eval o).run P w = .ok (.enter f as) w ∧ Ct P f as.toList w.heap K)

theorem vcall_run {f : FuncId} {args : Array Value} {w : World} (hc : callable P f) : (callFunc f args).run P w = .ok (.enter f args) w := by
  obtain ⟨fn, hf, hn, hb⟩ := hc
  have hb' : fn.body.isNone = false := by
    obtain ⟨x, hx⟩ := Option.isSome_iff_exists.1 hb; simp [hx]
  unfold callFunc
  rw [Sem.run_bind]
  simp only [run_program, Result.andThen_ok, hf, hn, hb', Bool.false_eq_true, if_false]
  rfl

theorem vop_sound {o : Oper} {w : World} {k : Value → Heap → Prop} (hA : At n fr a) (h : vop P fr w.heap o.type o.op k) : Does P o a w k := by
  obtain ⟨dst, op, ty, pos, after, guard⟩ := o
  change vop P fr w.heap ty op k at h
  have val : ∀ (s : Sem Value), vraw P s w.heap k → (execOp a.eval ⟨dst, op, ty, pos, after, guard⟩) = (do pure (.value (← s))) → Does P ⟨dst, op, ty, pos, after, guard⟩ a w k := by
    intro s hs he
    obtain ⟨v, w', hr, h1, h2⟩ := hs w rfl
    exact .inl ⟨v, w', by rw [he, Sem.run_bind, hr]; rfl, h1, h2⟩
  have unt : ∀ (s : Sem Unit), vrawU P s w.heap k → (execOp a.eval ⟨dst, op, ty, pos, after, guard⟩) = (do s; pure .skip) → Does P ⟨dst, op, ty, pos, after, guard⟩ a w k := by
    intro s hs he
    obtain ⟨w', hr, h1, h2⟩ := hs w rfl
    exact .inr (.inl ⟨w', by rw [he, Sem.run_bind, hr]; rfl, h1, h2⟩)
  unfold vop at h
  split at h
  · rename_i e
    cases hz : zeroT P e with
    | none => simp [hz, onV] at h
    | some z =>
      simp only [hz, onV] at h
      obtain ⟨i, hi, hiz⟩ := Option.bind_eq_some_iff.1 hz
      exact .inl ⟨_, w.alloc (.cells z.cells e), by simp [execOp, Instr.alloc, zeroValue, typeInfo, hi, hiz, newVar, newRow], ⟨rfl, rfl, rfl⟩, h⟩
  · rename_i e x
    cases hx : ev fr x with
    | none => simp [hx, onV] at h
    | some v =>
      simp only [hx, onV] at h
      exact .inl ⟨_, w.alloc (.cells v.cells e), by simp [execOp, Instr.box, hA.ev hx, newVar, newRow], ⟨rfl, rfl, rfl⟩, h⟩
  · rename_i t x y
    cases hx : ev fr x with
    | none => simp [hx, onV] at h
    | some p =>
      cases hy : ev fr y with
      | none => simp [hx, hy, onV] at h
      | some v =>
        simp only [hx, hy, onV] at h
        unfold vst at h
        split at h
        · rename_i b o
          obtain ⟨h1, h2, h3, h4⟩ := h
          obtain ⟨i, hi, him⟩ : ∃ i, P.info? t = some i ∧ i.size = v.cells.size := by simpa [szT] using h1
          obtain ⟨w', hr, hs, hh⟩ := run_storeCells_h (P := P) (b := b) (vs := v.cells.toList) (o := o) (i := 0) (w := w) (by simpa using h3) h2
          refine .inr (.inl ⟨w', ?_, hs, ?_⟩)
          · simp [execOp, hA.ev hx, hA.ev hy, Instr.storeAt, Instr.sureAddr, storeVar, sizeOf, typeInfo, hi, him, hr]
          · rw [hh]; exact h4
        · exact h.elim
  · rename_i t ps
    cases hx : evp fr ps.toList with
    | none => simp [hx, onV] at h
    | some l =>
      simp only [hx, onV] at h
      refine val _ h ?_
      have := hA.evp hx
      simp only [execOp, ← this]
      congr 2
      rw [← Array.toList_inj]; simp
  · rename_i t m ps
    cases hx : evp fr ps.toList with
    | none => simp [hx, onV] at h
    | some l =>
      simp only [hx, onV] at h
      refine val _ h ?_
      have := hA.evp hx
      simp only [execOp, ← this]
      congr 2
      rw [← Array.toList_inj]; simp
  · exact .inl ⟨_, w.alloc (.map #[] 0), by simp [execOp, Instr.makeMap], ⟨rfl, rfl, rfl⟩, h⟩
  · rename_i t r
    cases hx : ev fr r with
    | none => simp [hx, onV] at h
    | some v => simp only [hx, onV] at h; exact val _ h (by simp [execOp, hA.ev hx])
  · rename_i t l c
    cases hx : ev fr l with
    | none => simp [hx, onV] at h
    | some x =>
      cases hy : ev fr c with
      | none => simp [hx, hy, onV] at h
      | some y => simp only [hx, hy, onV] at h; exact val _ h (by simp [execOp, hA.ev hx, hA.ev hy])
  · rename_i t l c ok
    cases hx : ev fr l with
    | none => simp [hx, onV] at h
    | some x =>
      cases hy : ev fr c with
      | none => simp [hx, hy, onV] at h
      | some y => simp only [hx, hy, onV] at h; exact val _ h (by simp [execOp, hA.ev hx, hA.ev hy])
  · rename_i t l c z
    cases hx : ev fr l with
    | none => simp [hx, onV] at h
    | some x =>
      cases hy : ev fr c with
      | none => simp [hx, hy, onV] at h
      | some y =>
        cases hz : ev fr z with
        | none => simp [hx, hy, hz, onV] at h
        | some u => simp only [hx, hy, hz, onV] at h; exact unt _ h (by simp [execOp, hA.ev hx, hA.ev hy, hA.ev hz])
  · rename_i t l c z
    cases hx : ev fr l with
    | none => simp [hx, onV] at h
    | some x =>
      cases hy : ev fr c with
      | none => simp [hx, hy, onV] at h
      | some y =>
        cases hz : ev fr z with
        | none => simp [hx, hy, hz, onV] at h
        | some u => simp only [hx, hy, hz, onV] at h; exact unt _ h (by simp [execOp, hA.ev hx, hA.ev hy, hA.ev hz])
  · rename_i t l c
    cases hx : ev fr l with
    | none => simp [hx, onV] at h
    | some x =>
      cases hy : ev fr c with
      | none => simp [hx, hy, onV] at h
      | some y => simp only [hx, hy, onV] at h; exact val _ h (by simp [execOp, hA.ev hx, hA.ev hy])
  · rename_i t l c z
    cases hx : ev fr l with
    | none => simp [hx, onV] at h
    | some x =>
      cases hy : ev fr c with
      | none => simp [hx, hy, onV] at h
      | some y =>
        cases hz : ev fr z with
        | none => simp [hx, hy, hz, onV] at h
        | some u => simp only [hx, hy, hz, onV] at h; exact unt _ h (by simp [execOp, hA.ev hx, hA.ev hy, hA.ev hz])
  · rename_i t x
    cases hx : ev fr x with
    | none => simp [hx, onV] at h
    | some v => simp only [hx, onV] at h; exact val _ h (by simp [execOp, hA.ev hx])
  · rename_i x s
    cases hx : ev fr x with
    | none => simp [hx, onV] at h
    | some v => simp only [hx, onV] at h; exact val _ h (by simp [execOp, hA.ev hx])
  · rename_i f args ts
    cases hx : ev fr f with
    | none => simp [hx, onV] at h
    | some fv =>
      cases hy : evl fr args.toList with
      | none => simp [hx, hy, onV] at h
      | some vs =>
        simp only [hx, hy, onV] at h
        unfold vcallv at h
        split at h
        · rename_i g first cap
          refine .inr (.inr ⟨g, (first.toList ++ vs ++ cap.toList).toArray, ?_, by simpa [vcall] using h⟩)
          have e := evl_arr hA hy rfl
          have hargs : first ++ vs.toArray ++ cap = (first.toList ++ vs ++ cap.toList).toArray := by rw [← Array.toList_inj]; simp
          simp only [execOp, resolve, hA.ev hx, e, Deferred.ofValue, invoke]
          simp [vcall_run h.1]
        · exact h.elim
  · rename_i r name args ts
    cases hx : ev fr r with
    | none => simp [hx, onV] at h
    | some rv =>
      cases hy : evl fr args.toList with
      | none => simp [hx, hy, onV] at h
      | some vs =>
        simp only [hx, hy, onV] at h
        obtain ⟨f, as, hr, hv⟩ := h w rfl
        refine .inr (.inr ⟨f, as, ?_, hv⟩)
        have e := evl_arr hA hy rfl
        simp [execOp, resolve, hA.ev hx, e, invoke, hr]
  · rename_i args ts
    split at h
    · rename_i s x hargs
      cases hx : ev fr s with
      | none => simp [hx, onV] at h
      | some u =>
        cases hy : ev fr x with
        | none => simp [hx, hy, onV] at h
        | some v =>
          simp only [hx, hy, onV] at h
          have e1 : args = #[s, x] := by rw [← Array.toList_inj]; simp [hargs]
          subst e1
          exact val _ h (by simp [execOp, resolve, invoke, builtin, hA.ev hx, hA.ev hy])
    · exact h.elim
  · rename_i args ts
    cases hy : evl fr args.toList with
    | none => simp [hy, onV] at h
    | some vs =>
      simp only [hy, onV] at h
      have e := evl_arr hA hy rfl
      exact val _ h (by simp [execOp, resolve, invoke, builtin, e])
  · rename_i args ts
    cases hy : evl fr args.toList with
    | none => simp [hy, onV] at h
    | some vs =>
      simp only [hy, onV] at h
      have e := evl_arr hA hy rfl
      exact val _ h (by simp [execOp, resolve, invoke, builtin, e])
  · cases hx : pv P fr w.heap op with
    | none => simp [hx, onV] at h
    | some v =>
      simp only [hx, onV] at h
      exact .inl ⟨v, w, pv_run hA hx, Same.refl _, h⟩
end
end Go.V
namespace Go.V
open Go

def vgd (g : Option Bool) (A B : Prop) : Prop := match g with | some true => A | some false => B | none => False
theorem vgd_split {g : Bool} {A B : Prop} (h1 : g = true → A) (h2 : g = false → B) : vgd (some g) A B := by cases g; exact h2 rfl; exact h1 rfl
def isB (b : Bool) : Value → Bool
  | .bool c => c == b
  | _ => false
def gslot : List Oper → Nat → Option Nat
  | [], _ => none
  | o :: _, 0 => o.dst
  | _ :: r, j + 1 => gslot r j
theorem gslot_eq : ∀ (l : List Oper) (j : Nat), gslot l j = (l[j]?).bind (·.dst)
  | [], _ => by simp [gslot]
  | o :: r, 0 => by simp [gslot]
  | o :: r, j + 1 => by simp [gslot, gslot_eq r j]
def gd2 (fr : Fr) (want : Bool) (d : Option Nat) : Option Bool := d.bind fun d => (get fr d).bind fun v => some (isB want v)
def gd (ops : List Oper) (fr : Fr) : Option (Nat × Bool) → Option Bool
  | none => some true
  | some (j, want) => gd2 fr want (gslot ops j)
def put (d : Option Nat) (v : Value) (fr : Fr) : Fr := match d with | some d => (d, v) :: fr | none => fr

/-- A list of operations, one behind the other. -/
def vl (P : Program) (ops : List Oper) (K : Fr → Heap → Prop) : List Oper → Fr → Heap → Prop
  | [], fr, h => K fr h
  | o :: rest, fr, h => vgd (gd ops fr o.guard) (vop P fr h o.type o.op fun v h' => vl P ops K rest (put o.dst v fr) h') (vl P ops K rest (put o.dst undef fr) h)

/-- A call that leaves what was there, and hands back one value wherever more has been made. -/
def vqcall (P : Program) (Rl : Heap → Heap → Prop) (f : FuncId) (args : List Value) (h : Heap) (k : Value → Prop) : Prop :=
  ∃ v, (∀ h', Rl h h' → Ct P f args h' fun v' h'' => v' = v ∧ Rl h' h'') ∧ k v
def vqcallv (P : Program) (Rl : Heap → Heap → Prop) (fv : Value) (vs : List Value) (h : Heap) (k : Value → Prop) : Prop :=
  match fv with
  | .func (.func f) first cap => vqcall P Rl f (first.toList ++ vs ++ cap.toList) h k
  | _ => False
/-- An operation that turns nothing that was there: the same value wherever more has been made. -/
def vqraw (P : Program) (s : Sem Value) (h : Heap) (k : Value → Prop) : Prop :=
  ∃ v, (∀ w : World, Ge h w.heap → s.run P w = .ok v w) ∧ k v
def vqop (P : Program) (Rl : Heap → Heap → Prop) (fr : Fr) (h : Heap) (op : Op) (k : Value → Prop) : Prop :=
  match op with
  | .lookup t m x ok => onV (ev fr m) fun a => onV (ev fr x) fun b => vqraw P (Instr.lookup t a b ok) h k
  | .call ⟨.value f, args, _⟩ => onV (ev fr f) fun fv => onV (evl fr args.toList) fun vs => vqcallv P Rl fv vs h k
  | _ => onV (pv P fr h op) k
def vq (P : Program) (Rl : Heap → Heap → Prop) (ops : List Oper) (K : Fr → Prop) (h : Heap) : List Oper → Fr → Prop
  | [], fr => K fr
  | o :: rest, fr => vgd (gd ops fr o.guard) (vqop P Rl fr h o.op fun v => vq P Rl ops K h rest (put o.dst v fr)) (vq P Rl ops K h rest (put o.dst undef fr))

theorem pv_ge {P : Program} {fr : Fr} {h h' : Heap} {op : Op} {v : Value} (g : Ge h h') (hp : pv P fr h op = some v) : pv P fr h' op = some v := by
  unfold pv at *
  split at hp
  case h_4 =>
    obtain ⟨p, h1, h2⟩ := Option.bind_eq_some_iff.1 hp
    simp only [h1, Option.bind_some]
    unfold ldV at *
    split at h2
    · exact g.rd h2
    · cases h2
  case h_17 =>
    rename_i args ts
    split at hp
    · rename_i x t hx ht
      obtain ⟨u, hu, h2⟩ := Option.bind_eq_some_iff.1 hp
      simp only [hu, Option.bind_some]
      unfold lenV at *
      split at h2
      · exact h2
      · exact h2
      · rename_i r
        split at h2
        · rename_i hu hb
          rw [hu, g.lookup hb]; exact h2
        · cases h2
      · cases h2
    · cases hp
  all_goals exact hp

def dstB (n : Nat) (l : List Oper) : Bool := l.all fun o => match o.dst with | some d => decide (d < n) | none => true
theorem dstB_cons {n : Nat} {o : Oper} {l : List Oper} (h : dstB n (o :: l) = true) : (∀ d, o.dst = some d → d < n) ∧ dstB n l = true := by
  simp only [dstB, List.all_cons, Bool.and_eq_true] at h ⊢
  refine ⟨fun d hd => ?_, h.2⟩
  have := h.1
  rw [hd] at this
  simpa using this

theorem At.puts {n : Nat} {fr : Fr} {a : Act} (hA : At n fr a) {d : Option Nat} (hd : ∀ x, d = some x → x < n) (v : Value) : At n (V.put d v fr) (a.put d v) := by
  cases d with
  | none => exact hA
  | some d => exact hA.put (hd d rfl) v

theorem gd_wanted {n : Nat} {fr : Fr} {a : Act} (hA : At n fr a) {ops : Array Oper} {o : Oper} {b : Bool} (h : gd ops.toList fr o.guard = some b) : Region.wanted o (yielded ops a.tmps) = b := by
  unfold gd at h
  unfold Region.wanted
  split at h
  · rename_i e; simp [e]; simpa using h
  · rename_i j want e
    obtain ⟨d, hd, h⟩ := Option.bind_eq_some_iff.1 h
    obtain ⟨v, hv, h⟩ := Option.bind_eq_some_iff.1 h
    have hs := hA.slot _ _ hv
    rw [gslot_eq] at hd
    simp only [Array.getElem?_toList] at hd
    simp only [e, yielded, hd, Option.bind_some, hs]
    simp only [Option.some.injEq] at h
    rw [← h]
    cases v <;> simp [isB]

/-- What stands behind a piece of code: how it is left, in which frame, in which heap. -/
def Post (w0 : World) (n : Nat) (K : Fr → Heap → Prop) (E : Exit → Fr → Heap → Prop) : Exit → Act → World → Prop := fun e a w =>
  Same w0 w ∧ ∃ fr, At n fr a ∧ match e with | .normal => K fr w.heap | e => E e fr w.heap
theorem Post.same {w0 w1 : World} {n : Nat} {K : Fr → Heap → Prop} {E : Exit → Fr → Heap → Prop} {e : Exit} {a : Act} {w : World} (h : Same w0 w1) (p : Post w1 n K E e a w) : Post w0 n K E e a w := ⟨h.trans p.1, p.2⟩

theorem Does.wp {P : Program} {o : Oper} {a : Act} {w w0 : World} {K : Value → Heap → Prop} {next : Act → World → Prop} {Q : Exit → Act → World → Prop}
    (h : Does P o a w K) (hw : Same w0 w) (hn : ∀ v w', Same w0 w' → K v w'.heap → next (a.put o.dst v) w') : o.wp P a w next Q := by
  unfold Oper.wp
  rcases h with ⟨v, w', hr, hs, hk⟩ | ⟨w', hr, hs, hk⟩ | ⟨f, as, hr, hf⟩
  · rw [hr]; exact hn _ _ (hw.trans hs) hk
  · rw [hr]; exact hn _ _ (hw.trans hs) hk
  · rw [hr, Oper.upon_enter]
    refine (hf.2 w rfl).mono ?_
    rintro e w' ⟨v, rfl, hs, hk⟩
    exact hn _ _ (hw.trans hs) hk

theorem vl_sound {P : Program} {n : Nat} {ops : Array Oper} {K : Fr → Heap → Prop} {E : Exit → Fr → Heap → Prop} {w0 : World} : ∀ {l : List Oper} {fr : Fr} {a : Act} {w : World},
    dstB n l = true → At n fr a → Same w0 w → vl P ops.toList K l fr w.heap → wpList P ops (Post w0 n K E) l a w
  | [], fr, a, w, _, hA, hs, h => ⟨hs, fr, hA, h⟩
  | o :: rest, fr, a, w, hd, hA, hs, h => by
    obtain ⟨hd1, hd2⟩ := dstB_cons hd
    unfold vl at h
    unfold wpList
    cases hg : gd ops.toList fr o.guard with
    | none => rw [hg] at h; exact h.elim
    | some b =>
      rw [hg] at h
      rw [gd_wanted hA hg]
      cases b with
      | true =>
        simp only [if_true]
        simp only [vgd] at h
        exact .inl ((vop_sound hA h).wp hs fun v w' hs' hk => vl_sound hd2 (hA.puts hd1 v) hs' hk)
      | false =>
        simp only [Bool.false_eq_true, if_false]
        exact vl_sound hd2 (hA.puts hd1 undef) hs h

theorem vq_sound {P : Program} {n : Nat} {ops : Array Oper} {h0 : Heap} {K : Fr → Prop} {w0 : World} {Q : Act → Prop} {Rl : Heap → Heap → Prop} (hG : ∀ a b, Rl a b → Ge a b) (hT : ∀ a b c, Rl a b → Rl b c → Rl a c) (hQ : ∀ fr a, At n fr a → K fr → Q a) : ∀ {l : List Oper} {fr : Fr} {a : Act},
    dstB n l = true → At n fr a → vq P Rl ops.toList K h0 l fr → wpQuiet P ops (fun w => Same w0 w ∧ Rl h0 w.heap) Q l a
  | [], fr, a, _, hA, h => hQ fr a hA h
  | o :: rest, fr, a, hd, hA, h => by
    obtain ⟨hd1, hd2⟩ := dstB_cons hd
    unfold vq at h
    unfold wpQuiet
    cases hg : gd ops.toList fr o.guard with
    | none => rw [hg] at h; exact h.elim
    | some b =>
      rw [hg] at h
      rw [gd_wanted hA hg]
      cases b with
      | false =>
        simp only [Bool.false_eq_true, if_false]
        exact vq_sound hG hT hQ hd2 (hA.puts hd1 undef) h
      | true =>
        simp only [if_true]
        simp only [vgd] at h
        unfold vqop at h
        split at h
        · rename_i t m x ok ho
          cases hm : ev fr m with
          | none => simp [hm, onV] at h
          | some mv =>
            cases hx : ev fr x with
            | none => simp [hm, hx, onV] at h
            | some xv =>
              simp only [hm, hx, onV] at h
              obtain ⟨v, hv, hk⟩ := h
              refine ⟨v, fun w hw => ?_, vq_sound hG hT hQ hd2 (hA.puts hd1 v) hk⟩
              unfold Oper.quietAt
              have : (execOp a.eval o).run P w = .ok (.value v) w := by
                simp [execOp, ho, hA.ev hm, hA.ev hx, hv w (hG _ _ hw.2)]
              rw [this]; exact ⟨rfl, rfl⟩
        · rename_i f args ts ho
          cases hf : ev fr f with
          | none => simp [hf, onV] at h
          | some fv =>
            cases hx : evl fr args.toList with
            | none => simp [hf, hx, onV] at h
            | some vs =>
              simp only [hf, hx, onV] at h
              unfold vqcallv at h
              split at h
              · rename_i g first cap
                obtain ⟨v, hv, hk⟩ := h
                refine ⟨v, fun w hw => ?_, vq_sound hG hT hQ hd2 (hA.puts hd1 v) hk⟩
                have hc := hv w.heap hw.2
                unfold Oper.quietAt
                have e := evl_arr hA hx rfl
                have hargs : first ++ vs.toArray ++ cap = (first.toList ++ vs ++ cap.toList).toArray := by rw [← Array.toList_inj]; simp
                have : (execOp a.eval o).run P w = .ok (.enter g (first.toList ++ vs ++ cap.toList).toArray) w := by
                  simp only [execOp, ho, resolve, hA.ev hf, e, Deferred.ofValue, invoke]
                  simp [vcall_run hc.1]
                rw [this]
                refine ⟨rfl, (hc.2 w rfl).mono ?_⟩
                rintro e w' ⟨v', rfl, hs, rfl, hg'⟩
                exact ⟨rfl, hw.1.trans hs, hT _ _ _ hw.2 hg'⟩
              · exact h.elim
        · cases hp : pv P fr h0 o.op with
          | none => simp [hp, onV] at h
          | some v =>
            simp only [hp, onV] at h
            refine ⟨v, fun w hw => ?_, vq_sound hG hT hQ hd2 (hA.puts hd1 v) h⟩
            unfold Oper.quietAt
            rw [pv_run hA (pv_ge (hG _ _ hw.2) hp)]
            exact ⟨rfl, rfl⟩

/-- A region that draws its order: whatever is shown of it. -/
def vdraw (P : Program) (ops : Array Oper) (K : Fr → Heap → Prop) (fr : Fr) (h : Heap) : Prop :=
  ∀ (n id : Nat) (w0 w : World) (a : Act) (E : Exit → Fr → Heap → Prop), dstB n ops.toList = true → At n fr a → Same w0 w → w.heap = h → (Code.region id ops true).wp P (Post w0 n K E) a w
theorem vdraw_rel {P : Program} {l : List Oper} {K : Fr → Heap → Prop} {fr : Fr} {h : Heap} (Rl : Heap → Heap → Prop) (hG : ∀ a b, Rl a b → Ge a b) (hT : ∀ a b c, Rl a b → Rl b c → Rl a c) (hR : ∀ a, Rl a a) (hm : P.follows .mixedOrders = true) (hB : Region.lexB .any l.toArray = true)
    (hq : vq P Rl l (fun fr' => ∀ h', Rl h h' → K fr' h') h l fr) : vdraw P l.toArray K fr h := by
  intro n id w0 w a E hd hA hs hw
  subst hw
  refine wp_mono (wp_region_quiet (C := fun w' => Same w0 w' ∧ Rl w.heap w'.heap) (Q := fun e a' w' => Post w0 n K E e a' w') hm hB ⟨⟨hs.os, hs.tape, hs.output⟩, hR _⟩ ?_) fun _ _ _ q => q
  exact vq_sound (w0 := w0) (ops := l.toArray) (K := fun fr' => ∀ h', Rl w.heap h' → K fr' h') hG hT (fun fr' a' hA' hk w' hw' => ⟨hw'.1, fr', hA', hk _ hw'.2⟩) hd hA (by simpa using hq)
/-- whose calls may make memory -/
theorem vdraw_quiet {P : Program} {l : List Oper} {K : Fr → Heap → Prop} {fr : Fr} {h : Heap} (hm : P.follows .mixedOrders = true) (hB : Region.lexB .any l.toArray = true)
    (hq : vq P Ge l (fun fr' => ∀ h', Ge h h' → K fr' h') h l fr) : vdraw P l.toArray K fr h :=
  vdraw_rel Ge (fun _ _ g => g) (fun _ _ _ => Ge.trans) Ge.refl hm hB hq
/-- whose calls leave the heap -/
theorem vdraw_pure {P : Program} {l : List Oper} {K : Fr → Heap → Prop} {fr : Fr} {h : Heap} (hm : P.follows .mixedOrders = true) (hB : Region.lexB .any l.toArray = true)
    (hq : vq P Eq l (fun fr' => K fr' h) h l fr) : vdraw P l.toArray K fr h := by
  refine vdraw_rel Eq (fun a b e => e ▸ Ge.refl a) (fun _ _ _ => Eq.trans) (fun _ => rfl) hm hB ?_
  have e : (fun fr' => K fr' h) = (fun fr' => ∀ h', h = h' → K fr' h') := by funext fr'; exact propext ⟨fun q h' e => e ▸ q, fun q => q _ rfl⟩
  rw [← e]; exact hq
end Go.V
namespace Go.V
open Go

def vif (c : Option Value) (A B : Prop) : Prop := match c with | some (.bool true) => A | some (.bool false) => B | _ => False
theorem vif_split {c : Bool} {A B : Prop} (h1 : c = true → A) (h2 : c = false → B) : vif (some (.bool c)) A B := by cases c; exact h2 rfl; exact h1 rfl
def inB (id : Nat) (K : Fr → Heap → Prop) (E : Exit → Fr → Heap → Prop) : Exit → Fr → Heap → Prop
  | .exit id' => if id' = id then K else E (.exit id')
  | e => E e

/-- A loop: an invariant that bears a number, which each round lowers. -/
def vloop (C : (Fr → Heap → Prop) → Fr → Heap → Prop) (fr : Fr) (h : Heap) : Prop :=
  ∃ (I : Nat → Fr → Heap → Prop) (k0 : Nat), (∃ s, Sub s fr ∧ I k0 s h) ∧ ∀ k fr h, I k fr h → C (fun fr' h' => ∃ k', k' < k ∧ ∃ s, Sub s fr' ∧ I k' s h') fr h

def dstC (n : Nat) : Code → Bool
  | .region _ ops _ => dstB n ops.toList
  | .seq x y => dstC n x && dstC n y
  | .cond _ x y => dstC n x && dstC n y
  | .block _ c => dstC n c
  | .loop c => dstC n c
  | .scope c => dstC n c
  | _ => true

/-- What a piece of code does, from a frame and a heap, in whatever world. -/
def sem (P : Program) (c : Code) (K : Fr → Heap → Prop) (E : Exit → Fr → Heap → Prop) (fr : Fr) (h : Heap) : Prop :=
  ∀ (n : Nat) (w0 w : World) (a : Act), dstC n c = true → At n fr a → Same w0 w → w.heap = h → c.wp P (Post w0 n K E) a w
def vc (P : Program) : Code → (Fr → Heap → Prop) → (Exit → Fr → Heap → Prop) → Fr → Heap → Prop
  | .skip, K, _, fr, h => K fr h
  | .region _ ops false, K, _, fr, h => vl P ops.toList K ops.toList fr h
  | .region _ ops true, K, _, fr, h => vdraw P ops K fr h
  | .seq x y, K, E, fr, h => vc P x (fun fr h => vc P y K E fr h) E fr h
  | .cond c x y, K, E, fr, h => vif (ev fr c) (vc P x K E fr h) (vc P y K E fr h)
  | .block id c, K, E, fr, h => vc P c K (inB id K E) fr h
  | .loop c, _, E, fr, h => vloop (fun K' => vc P c K' E) fr h
  | .exit id, _, E, fr, h => E (.exit id) fr h
  | .label _, K, _, fr, h => K fr h
  | .goto l, _, E, fr, h => E (.goto l) fr h
  | .ret, _, E, fr, h => E .ret fr h
  | .scope c, K, E, fr, h => sem P (.scope c) K E fr h
  | _, _, _, _, _ => False

theorem vc_sound {P : Program} {n : Nat} {w0 : World} (c : Code) : ∀ {K : Fr → Heap → Prop} {E : Exit → Fr → Heap → Prop} {fr : Fr} {a : Act} {w : World},
    dstC n c = true → At n fr a → Same w0 w → vc P c K E fr w.heap → c.wp P (Post w0 n K E) a w := by
  induction c with
  | skip => intro K E fr a w _ hA hs h; exact wp_skip ⟨hs, fr, hA, h⟩
  | region id ops draw =>
    intro K E fr a w hd hA hs h
    cases draw with
    | false => exact wp_region_list (vl_sound (K := K) hd hA hs h)
    | true => exact h n id w0 w a E hd hA hs rfl
  | seq x y hx hy =>
    intro K E fr a w hd hA hs h
    simp only [dstC, Bool.and_eq_true] at hd
    refine wp_seq (wp_mono (hx hd.1 hA hs h) ?_)
    intro e a' w' q
    cases e with
    | normal => obtain ⟨hs', fr', hA', hk⟩ := q; exact hy hd.2 hA' hs' hk
    | exit _ => exact q
    | goto _ => exact q
    | ret => exact q
    | panic _ => exact q
    | outgrown => exact q
  | cond c x y hx hy =>
    intro K E fr a w hd hA hs h
    simp only [dstC, Bool.and_eq_true] at hd
    simp only [vc] at h
    unfold vif at h
    split at h
    · rename_i hc; exact wp_cond_true (hA.ev hc) (hx hd.1 hA hs h)
    · rename_i hc; exact wp_cond_false (hA.ev hc) (hy hd.2 hA hs h)
    · exact h.elim
  | block id c hc =>
    intro K E fr a w hd hA hs h
    refine wp_block (wp_mono (hc hd hA hs h) ?_)
    intro e a' w' q
    cases e with
    | exit id' =>
      obtain ⟨hs', fr', hA', hk⟩ := q
      simp only [inB] at hk
      simp only [Exit.inBlock]
      split at hk
      · rename_i e; rw [if_pos e]; exact ⟨hs', fr', hA', hk⟩
      · rename_i e; rw [if_neg e]; exact ⟨hs', fr', hA', hk⟩
    | normal => exact q
    | goto _ => exact q
    | ret => exact q
    | panic _ => exact q
    | outgrown => exact q
  | loop c hc =>
    intro K E fr a w hd hA hs h
    obtain ⟨I, k0, ⟨s, hsub, hI⟩, hround⟩ := h
    refine wp_loop_ghost (fun k a w => Same w0 w ∧ ∃ fr, At n fr a ∧ I k fr w.heap) k0 ⟨hs, s, hA.sub hsub, hI⟩ ?_
    rintro k a w ⟨hs, fr, hA, hI⟩
    refine wp_mono (hc hd hA hs (hround k fr w.heap hI)) ?_
    intro e a' w' q
    cases e with
    | normal =>
      obtain ⟨hs', fr', hA', k', hk', s', hsub', hI'⟩ := q
      exact ⟨k', hk', hs', s', hA'.sub hsub', hI'⟩
    | exit _ => exact q
    | goto _ => exact q
    | ret => exact q
    | panic _ => exact q
    | outgrown => exact q
  | exit id => intro K E fr a w _ hA hs h; exact wp_exit ⟨hs, fr, hA, h⟩
  | label l => intro K E fr a w _ hA hs h; exact wp_label ⟨hs, fr, hA, h⟩
  | goto l => intro K E fr a w _ hA hs h; exact wp_goto ⟨hs, fr, hA, h⟩
  | ret => intro K E fr a w _ hA hs h; exact wp_ret ⟨hs, fr, hA, h⟩
  | rangeFunc _ _ _ _ => intro K E fr a w _ _ _ h; exact h.elim
  | scope c _ => intro K E fr a w hd hA hs h; exact h n w0 w a hd hA hs rfl
  | refuse _ => intro K E fr a w _ _ _ h; exact h.elim

theorem sem_of_vc {P : Program} {c : Code} {K : Fr → Heap → Prop} {E : Exit → Fr → Heap → Prop} {fr : Fr} {h : Heap} (q : vc P c K E fr h) : sem P c K E fr h :=
  fun n w0 w a hd hA hs hw => vc_sound c hd hA hs (by rw [hw]; exact q)
theorem sem_sub {P : Program} {c : Code} {K : Fr → Heap → Prop} {E : Exit → Fr → Heap → Prop} {s fr : Fr} {h : Heap} (hs : Sub s fr) (q : sem P c K E s h) : sem P c K E fr h :=
  fun n w0 w a hd hA hS hw => q n w0 w a hd (hA.sub hs) hS hw
theorem sem_seq {P : Program} {x y : Code} {K : Fr → Heap → Prop} {E : Exit → Fr → Heap → Prop} {fr : Fr} {h : Heap} (q : sem P x (fun fr h => sem P y K E fr h) E fr h) : sem P (.seq x y) K E fr h := by
  intro n w0 w a hd hA hs hw
  simp only [dstC, Bool.and_eq_true] at hd
  refine wp_seq (wp_mono (q n w0 w a hd.1 hA hs hw) ?_)
  intro e a' w' q
  cases e with
  | normal => obtain ⟨hs', fr', hA', hk⟩ := q; exact hk n w0 w' a' hd.2 hA' hs' rfl
  | exit _ => exact q
  | goto _ => exact q
  | ret => exact q
  | panic _ => exact q
  | outgrown => exact q
/-- a cut: what holds between two pieces of code -/
theorem sem_cut {P : Program} {x y : Code} {K : Fr → Heap → Prop} {E : Exit → Fr → Heap → Prop} {fr : Fr} {h : Heap} (M : Fr → Heap → Prop) (q : sem P x (fun fr' h' => ∃ s, Sub s fr' ∧ M s h') E fr h)
    (r : ∀ s h', M s h' → sem P y K E s h') : sem P (.seq x y) K E fr h := by
  refine sem_seq fun n w0 w a hd hA hs hw => wp_mono (q n w0 w a hd hA hs hw) ?_
  intro e a' w' q
  cases e with
  | normal => obtain ⟨hs', fr', hA', s, hsub, hm⟩ := q; exact ⟨hs', fr', hA', sem_sub hsub (r s _ hm)⟩
  | exit _ => exact q
  | goto _ => exact q
  | ret => exact q
  | panic _ => exact q
  | outgrown => exact q
theorem sem_cond {P : Program} {c : Operand} {x y : Code} {K : Fr → Heap → Prop} {E : Exit → Fr → Heap → Prop} {fr : Fr} {h : Heap} (q : vif (ev fr c) (sem P x K E fr h) (sem P y K E fr h)) : sem P (.cond c x y) K E fr h := by
  intro n w0 w a hd hA hs hw
  simp only [dstC, Bool.and_eq_true] at hd
  unfold vif at q
  split at q
  · rename_i hc; exact wp_cond_true (hA.ev hc) (q n w0 w a hd.1 hA hs hw)
  · rename_i hc; exact wp_cond_false (hA.ev hc) (q n w0 w a hd.2 hA hs hw)
  · exact q.elim
theorem sem_block {P : Program} {id : Nat} {c : Code} {K : Fr → Heap → Prop} {E : Exit → Fr → Heap → Prop} {fr : Fr} {h : Heap} (q : sem P c K (inB id K E) fr h) : sem P (.block id c) K E fr h := by
  intro n w0 w a hd hA hs hw
  refine wp_block (wp_mono (q n w0 w a hd hA hs hw) ?_)
  intro e a' w' q
  cases e with
  | exit id' =>
    obtain ⟨hs', fr', hA', hk⟩ := q
    simp only [inB] at hk
    simp only [Exit.inBlock]
    split at hk
    · rename_i e; rw [if_pos e]; exact ⟨hs', fr', hA', hk⟩
    · rename_i e; rw [if_neg e]; exact ⟨hs', fr', hA', hk⟩
  | normal => exact q
  | goto _ => exact q
  | ret => exact q
  | panic _ => exact q
  | outgrown => exact q
theorem sem_loop {P : Program} {c : Code} {K : Fr → Heap → Prop} {E : Exit → Fr → Heap → Prop} {fr : Fr} {h : Heap} (q : vloop (fun K' => sem P c K' E) fr h) : sem P (.loop c) K E fr h := by
  intro n w0 w a hd hA hs hw
  subst hw
  obtain ⟨I, k0, ⟨s, hsub, hI⟩, hround⟩ := q
  refine wp_loop_ghost (fun k a w => Same w0 w ∧ ∃ fr, At n fr a ∧ I k fr w.heap) k0 ⟨hs, s, hA.sub hsub, hI⟩ ?_
  rintro k a w ⟨hs, fr, hA, hI⟩
  refine wp_mono (hround k fr w.heap hI n w0 w a hd hA hs rfl) ?_
  intro e a' w' q
  cases e with
  | normal =>
    obtain ⟨hs', fr', hA', k', hk', s', hsub', hI'⟩ := q
    exact ⟨k', hk', hs', s', hA'.sub hsub', hI'⟩
  | exit _ => exact q
  | goto _ => exact q
  | ret => exact q
  | panic _ => exact q
  | outgrown => exact q
/-- as E; by a goto to label l: G -/
def jmp (l : Nat) (G : Fr → Heap → Prop) (E : Exit → Fr → Heap → Prop) : Exit → Fr → Heap → Prop
  | .goto l' => fun fr h => l' = l ∧ G fr h
  | e => E e
theorem dstC_find {n l : Nat} : ∀ {c rest : Code}, findLabel c l = some rest → dstC n c = true → dstC n rest = true
  | .seq x y, rest, hf, hd => by
    simp only [dstC, Bool.and_eq_true] at hd
    simp only [findLabel] at hf
    split at hf
    · rename_i r hr
      cases hf
      simp [dstC, dstC_find hr hd.1, hd.2]
    · exact dstC_find hf hd.2
  | .label l', rest, hf, _ => by
    simp only [findLabel] at hf
    split at hf
    · cases hf; rfl
    · cases hf
  | .skip, _, hf, _ => by simp [findLabel] at hf
  | .region _ _ _, _, hf, _ => by simp [findLabel] at hf
  | .cond _ _ _, _, hf, _ => by simp [findLabel] at hf
  | .block _ _, _, hf, _ => by simp [findLabel] at hf
  | .loop _, _, hf, _ => by simp [findLabel] at hf
  | .rangeFunc _ _ _ _, _, hf, _ => by simp [findLabel] at hf
  | .exit _, _, hf, _ => by simp [findLabel] at hf
  | .scope _, _, hf, _ => by simp [findLabel] at hf
  | .goto _, _, hf, _ => by simp [findLabel] at hf
  | .ret, _, hf, _ => by simp [findLabel] at hf
  | .refuse _, _, hf, _ => by simp [findLabel] at hf
/-- a scope in which the run jumps back to one label -/
theorem sem_scope {P : Program} {c rest : Code} {K : Fr → Heap → Prop} {E : Exit → Fr → Heap → Prop} {fr : Fr} {h : Heap} (l : Nat) (J : Nat → Fr → Heap → Prop) (hf : findLabel c l = some rest)
    (first : sem P c K (jmp l (fun fr h => ∃ k s, Sub s fr ∧ J k s h) E) fr h)
    (pass : ∀ k fr h, J k fr h → sem P rest K (jmp l (fun fr h => ∃ k', k' < k ∧ ∃ s, Sub s fr ∧ J k' s h) E) fr h) : sem P (.scope c) K E fr h := by
  intro n w0 w a hd hA hs hw
  have hdr := dstC_find hf (show dstC n c = true from hd)
  refine wp_scope_jumps (Q := Post w0 n K E) l (fun a w => ∃ k, Same w0 w ∧ ∃ fr, At n fr a ∧ J k fr w.heap) (fun a w => leastOf fun k => Same w0 w ∧ ∃ fr, At n fr a ∧ J k fr w.heap) hf ?_ ?_
  · refine wp_mono (first n w0 w a hd hA hs hw) ?_
    intro e a' w' q
    cases e with
    | goto l' =>
      obtain ⟨hs', fr', hA', e, k, s, hsub, hJ⟩ := q
      exact ⟨e, k, hs', s, hA'.sub hsub, hJ⟩
    | exit _ => exact q
    | normal => exact q
    | ret => exact q
    | panic _ => exact q
    | outgrown => exact q
  · intro a w hJ
    obtain ⟨hs, fr, hA, hJ'⟩ := (leastOf_spec hJ).1
    refine wp_mono (pass _ fr w.heap hJ' n w0 w a hdr hA hs rfl) ?_
    intro e a' w' q
    cases e with
    | goto l' =>
      obtain ⟨hs', fr', hA', e, k', hk', s, hsub, hJ2⟩ := q
      have hex : Same w0 w' ∧ ∃ fr, At n fr a' ∧ J k' fr w'.heap := ⟨hs', s, hA'.sub hsub, hJ2⟩
      exact ⟨e, ⟨k', hex⟩, Nat.lt_of_le_of_lt ((leastOf_spec ⟨k', hex⟩).2 k' hex) hk'⟩
    | exit _ => exact q
    | normal => exact q
    | ret => exact q
    | panic _ => exact q
    | outgrown => exact q

/-! a function -/
def resL (P : Program) (fr : Fr) (h : Heap) : List ResultVar → Option (List Value)
  | [] => some []
  | .tmp t :: r => (get fr t).bind fun v => (resL P fr h r).bind fun vs => some (v :: vs)
  | .cell a t :: r => ((get fr a).bind (ldV P h t)).bind fun v => (resL P fr h r).bind fun vs => some (v :: vs)
def mkRes : List Value → Value
  | [v] => v
  | l => .tuple l.toArray
/-- A function's end. -/
def vend (P : Program) (rs : List ResultVar) (R : Value → Heap → Prop) (fr : Fr) (h : Heap) : Prop := onV (resL P fr h rs) fun l => R (mkRes l) h
def vexit (P : Program) (rs : List ResultVar) (R : Value → Heap → Prop) : Exit → Fr → Heap → Prop
  | .ret => vend P rs R
  | _ => fun _ _ => False
def initFr : List Value → Fr
  | [] => []
  | [a] => [(0, a)]
  | [a, b] => [(0, a), (1, b)]
  | [a, b, c] => [(0, a), (1, b), (2, c)]
  | [a, b, c, d] => [(0, a), (1, b), (2, c), (3, d)]
  | [a, b, c, d, e] => [(0, a), (1, b), (2, c), (3, d), (4, e)]
  | [a, b, c, d, e, f] => [(0, a), (1, b), (2, c), (3, d), (4, e), (5, f)]
  | [a, b, c, d, e, f, g] => [(0, a), (1, b), (2, c), (3, d), (4, e), (5, f), (6, g)]
  | _ => []
theorem init0 : initFr [] = [] := rfl
theorem init1 (a : Value) : initFr [a] = [(0, a)] := rfl
theorem init2 (a b : Value) : initFr [a, b] = [(0, a), (1, b)] := rfl
theorem init3 (a b c : Value) : initFr [a, b, c] = [(0, a), (1, b), (2, c)] := rfl
theorem init4 (a b c d : Value) : initFr [a, b, c, d] = [(0, a), (1, b), (2, c), (3, d)] := rfl
theorem init5 (a b c d e : Value) : initFr [a, b, c, d, e] = [(0, a), (1, b), (2, c), (3, d), (4, e)] := rfl
theorem init6 (a b c d e f : Value) : initFr [a, b, c, d, e, f] = [(0, a), (1, b), (2, c), (3, d), (4, e), (5, f)] := rfl
theorem init7 (a b c d e f g : Value) : initFr [a, b, c, d, e, f, g] = [(0, a), (1, b), (2, c), (3, d), (4, e), (5, f), (6, g)] := rfl
def resOne (tmps : Array Value) : ResultVar → Sem Value
  | .tmp t => pure (tmps.getD t undef)
  | .cell x t => do loadVar t (← asAddr (tmps.getD x undef))
theorem resL_run {P : Program} {n : Nat} {fr : Fr} {a : Act} (hA : At n fr a) {w : World} : ∀ {rs : List ResultVar} {l : List Value}, resL P fr w.heap rs = some l →
    (rs.mapM (resOne a.tmps)).run P w = .ok l w
  | [], l, h => by simp only [resL, Option.some.injEq] at h; subst h; rfl
  | .tmp t :: r, l, h => by
    simp only [resL, Option.bind_eq_some_iff, Option.some.injEq] at h
    obtain ⟨v, hv, vs, hvs, rfl⟩ := h
    have h1 : (resOne a.tmps (.tmp t)).run P w = .ok v w := by show (pure (a.tmps.getD t undef) : Sem Value).run P w = _; rw [hA.get hv]; rfl
    simp only [List.mapM_cons, Sem.run_bind, h1, Result.andThen_ok, resL_run hA hvs, Sem.run_pure]
  | .cell x t :: r, l, h => by
    simp only [resL, Option.bind_eq_some_iff, Option.some.injEq] at h
    obtain ⟨v, ⟨p, hp, hv⟩, vs, hvs, rfl⟩ := h
    unfold ldV at hv
    split at hv
    · have := run_rd (P := P) (w := w) hv
      simp only [Instr.loadAt, Instr.sureAddr, Sem.run_bind, Sem.run_pure, Result.andThen_ok] at this
      have h1 : (resOne a.tmps (.cell x t)).run P w = .ok v w := by show (do loadVar t (← asAddr (a.tmps.getD x undef)) : Sem Value).run P w = _; rw [hA.get hp]; simp only [asAddr, Sem.run_bind, Sem.run_pure, Result.andThen_ok, this]
      simp only [List.mapM_cons, Sem.run_bind, h1, Result.andThen_ok, resL_run hA hvs, Sem.run_pure]
    · cases hv
theorem results_eq (fn : Func) (tmps : Array Value) : results fn tmps = (do let vs ← fn.results.mapM (resOne tmps); pure (if h : vs.size = 1 then vs[0] else .tuple vs)) := by
  unfold results
  congr 1

theorem get_init {t : Nat} {v : Value} {l : List Value} (h : get (initFr l) t = some v) : l[t]? = some v := by
  unfold initFr at h
  split at h <;> simp only [get] at h <;> (repeat' split at h) <;> first | (subst t; simpa using h) | cases h

theorem enter_sem {P : Program} {f : FuncId} {fn : Func} {c : Code} {rs : List ResultVar} {fr : Fr} {args : List Value} {h : Heap} {R : Value → Heap → Prop} (hf : P.funcs[f]? = some fn) (hn : (fn.name == "runtime.NumGoroutine") = false)
    (hb : fn.body = some c) (hr : fn.results = rs.toArray) (hl : Nat.ble args.length fn.ntmps = true) (hd : dstC fn.ntmps c = true) (hi : initFr args = fr) (hv : sem P c (vend P rs R) (vexit P rs R) fr h) : Ct P f args h R := by
  obtain rfl : fn.results.toList = rs := by rw [hr]
  subst hi
  refine ⟨⟨fn, hf, hn, by simp [hb]⟩, fun w hw => ?_⟩
  subst hw
  have hA : At fn.ntmps (initFr args) { tmps := args.toArray ++ Array.replicate (fn.ntmps - args.toArray.size) undef, defers := [] } := by
    have hl := Nat.le_of_ble_eq_true hl
    refine ⟨rfl, by simp; omega, fun t v hg => ?_⟩
    have h2 := get_init hg
    have hlt : t < args.length := (List.getElem?_eq_some_iff.1 h2).1
    simp only
    rw [Array.getElem?_append_left (by simpa using hlt)]
    simpa using h2
  refine calls_of_wp hf hb (wp_mono (hv fn.ntmps w w _ hd hA (Same.refl w) rfl) ?_)
  have fin : ∀ a' w' fr', Same w w' → At fn.ntmps fr' a' → vend P fn.results.toList R fr' w'.heap →
      a'.defers = [] ∧ ∃ v, (results fn a'.tmps).run P w' = .ok v w' ∧ ∃ u, Ending.returned v = .returned u ∧ Same w w' ∧ R u w'.heap := by
    intro a' w' fr' hs hA' hk
    unfold vend at hk
    cases hr : resL P fr' w'.heap fn.results.toList with
    | none => rw [hr] at hk; exact hk.elim
    | some l =>
      rw [hr] at hk
      refine ⟨hA'.defers, mkRes l, ?_, _, rfl, hs, hk⟩
      have := resL_run hA' hr
      rw [results_eq]
      have he : fn.results = fn.results.toList.toArray := by simp
      rw [he, List.mapM_toArray]
      simp only [Sem.run_bind, map_eq_pure_bind, this, Result.andThen_ok, Sem.run_pure]
      congr 1
      match l with
      | [] => rfl
      | [v] => rfl
      | _ :: _ :: _ => simp [mkRes]
  intro e a' w' q
  obtain ⟨hs, fr', hA', hk⟩ := q
  cases e with
  | normal => exact fin a' w' fr' hs hA' hk
  | ret => exact fin a' w' fr' hs hA' hk
  | exit _ => exact hk.elim
  | goto _ => exact hk.elim
  | panic _ => exact hk.elim
  | outgrown => exact hk.elim
theorem enter {P : Program} {f : FuncId} {fn : Func} {c : Code} {rs : List ResultVar} {fr : Fr} {args : List Value} {h : Heap} {R : Value → Heap → Prop} (hf : P.funcs[f]? = some fn) (hn : (fn.name == "runtime.NumGoroutine") = false)
    (hb : fn.body = some c) (hr : fn.results = rs.toArray) (hl : Nat.ble args.length fn.ntmps = true) (hd : dstC fn.ntmps c = true) (hi : initFr args = fr) (hv : vc P c (vend P rs R) (vexit P rs R) fr h) : Ct P f args h R :=
  enter_sem hf hn hb hr hl hd hi (sem_of_vc hv)
end Go.V
namespace Go.V
open Go
def tick0 : Prop := True
def tick1 : Prop := True
theorem tick : tick0 = tick1 := propext ⟨id, id⟩
abbrev V0T : Prop :=
  (∀ d op ty pos aft g r, gslot (⟨d, op, ty, pos, aft, g⟩ :: r) 0 = d) ∧ (∀ o r j, gslot (o :: r) (j + 1) = gslot r j) ∧
  (∀ t, get [] t = none) ∧
  (∀ k v r t, get ((k, v) :: r) t = if k = t then some v else get r t) ∧
  (∀ fr t, ev fr (.tmp t) = get fr t) ∧
  (∀ fr v, ev fr (.const v) = some v) ∧
  (∀ fr g, ev fr (.global g) = some (.pointer (some ⟨g, 0, none⟩))) ∧
  (∀ fr f, ev fr (.func f) = some (.func (.func f) #[] #[])) ∧
  (∀ fr, evl fr [] = some []) ∧
  (∀ fr x r, evl fr (x :: r) = (ev fr x).bind fun v => (evl fr r).bind fun vs => some (v :: vs)) ∧
  (∀ fr, evp fr [] = some []) ∧
  (∀ fr i x r, evp fr ((i, x) :: r) = (ev fr x).bind fun v => (evp fr r).bind fun vs => some ((i, v) :: vs)) ∧
  (∀ (α : Type) (v : α) k, onV (some v) k = k v) ∧
  (∀ A B, vgd (some true) A B = A) ∧
  (∀ A B, vgd (some false) A B = B) ∧
  (∀ A B, vif (some (.bool true)) A B = A) ∧
  (∀ A B, vif (some (.bool false)) A B = B) ∧
  (∀ fr, Sub [] fr = True) ∧
  (∀ t v r fr, Sub ((t, v) :: r) fr = (get fr t = some v ∧ Sub r fr)) ∧
  (∀ ops fr, gd ops fr none = some true) ∧
  (∀ ops fr j w, gd ops fr (some (j, w)) = gd2 fr w (gslot ops j)) ∧ (∀ fr w d, gd2 fr w (some d) = (get fr d).bind fun v => some (isB w v)) ∧
  (∀ c, isB true (.bool c) = c) ∧
  (∀ c, isB false (.bool c) = !c) ∧
  (∀ w, isB w undef = false) ∧
  (∀ id K E id' fr h, inB id K E (.exit id') fr h = if id' = id then K fr h else E (.exit id') fr h) ∧
  (∀ id K E fr h, inB id K E .ret fr h = E .ret fr h) ∧ (∀ l G E fr h, jmp l G E .ret fr h = E .ret fr h) ∧ (∀ l G E l' fr h, jmp l G E (.goto l') fr h = (l' = l ∧ G fr h)) ∧ (∀ l G E i fr h, jmp l G E (.exit i) fr h = E (.exit i) fr h) ∧
  (∀ id K E l fr h, inB id K E (.goto l) fr h = E (.goto l) fr h)
theorem V0 : V0T := by
  refine ⟨?_, ?_, ?_, ?_, ?_, ?_, ?_, ?_, ?_, ?_, ?_, ?_, ?_, ?_, ?_, ?_, ?_, ?_, ?_, ?_, ?_, ?_, ?_, ?_, ?_, ?_, ?_, ?_, ?_, ?_, ?_⟩ <;> intros <;> first
    | rfl
    | (rename_i c; cases c <;> rfl)
    | (simp only [inB]; split <;> rfl)
section
variable {P : Program}
@[congr] theorem c_vdraw (ops : Array Oper) (K : Fr → Heap → Prop) (fr : Fr) (h : Heap) {tk : Prop} (_ : tick0 = tk) : vdraw P ops K fr h = vdraw P ops K fr h := rfl
@[congr] theorem c_sem (c : Code) (K : Fr → Heap → Prop) (E : Exit → Fr → Heap → Prop) (fr : Fr) (h : Heap) {tk : Prop} (_ : tick0 = tk) : sem P c K E fr h = sem P c K E fr h := rfl
@[congr] theorem c_vloop (C : (Fr → Heap → Prop) → Fr → Heap → Prop) (fr : Fr) (h : Heap) {tk : Prop} (_ : tick0 = tk) : vloop C fr h = vloop C fr h := rfl
@[congr] theorem c_vment (t : TypeId) {p p' v v' : Value} (h : Heap) (k : Value → Heap → Prop) (e : p = p') (e' : v = v') {tk : Prop} (_ : tick0 = tk) : vment P t p v h k = vment P t p' v' h k := by rw [e, e']
@[congr] theorem c_vest (t : TypeId) {p p' v v' u u' : Value} (h : Heap) (k : Value → Heap → Prop) (e : p = p') (e' : v = v') (e'' : u = u') {tk : Prop} (_ : tick0 = tk) : vest P t p v u h k = vest P t p' v' u' h k := by rw [e, e', e'']
@[congr] theorem c_vrng (t : TypeId) {p p' : Value} (h : Heap) (k : Value → Heap → Prop) (e : p = p') {tk : Prop} (_ : tick0 = tk) : vrng P t p h k = vrng P t p' h k := by rw [e]
@[congr] theorem c_vnext {p p' : Value} (s : Bool) (t : TypeId) (h : Heap) (k : Value → Heap → Prop) (e : p = p') {tk : Prop} (_ : tick0 = tk) : vnext P p s t h k = vnext P p' s t h k := by rw [e]
@[congr] theorem c_vcopy (ts : Array TypeId) (ty : TypeId) {l l' : List Value} (h : Heap) (k : Value → Heap → Prop) (e : l = l') {tk : Prop} (_ : tick0 = tk) : vcopy P ts ty l h k = vcopy P ts ty l' h k := by rw [e]
@[congr] theorem c_vdel (ts : Array TypeId) (ty : TypeId) {l l' : List Value} (h : Heap) (k : Value → Heap → Prop) (e : l = l') {tk : Prop} (_ : tick0 = tk) : vdel P ts ty l h k = vdel P ts ty l' h k := by rw [e]
@[congr] theorem c_vinv {r r' : Value} (nm : String) {l l' : List Value} (h : Heap) (k : Value → Heap → Prop) (e0 : r = r') (e : l = l') {tk : Prop} (_ : tick0 = tk) : vinv P r nm l h k = vinv P r' nm l' h k := by rw [e, e0]
@[congr] theorem c_vraw (s : Sem Value) (h : Heap) (k : Value → Heap → Prop) {tk : Prop} (_ : tick0 = tk) : vraw P s h k = vraw P s h k := rfl
@[congr] theorem c_vqraw (s : Sem Value) (h : Heap) (k : Value → Prop) {tk : Prop} (_ : tick0 = tk) : vqraw P s h k = vqraw P s h k := rfl
@[congr] theorem c_gd2 (fr : Fr) (w : Bool) {d d' : Option Nat} (e : d = d') {tk : Prop} (_ : tick0 = tk) : gd2 fr w d = gd2 fr w d' := by rw [e]
@[congr] theorem c_obind {α β : Type} {o o' : Option α} (f : α → Option β) (e : o = o') {tk : Prop} (_ : tick0 = tk) : o.bind f = o'.bind f := by rw [e]
@[congr] theorem c_omap {α β : Type} {o o' : Option α} (f : α → β) (e : o = o') {tk : Prop} (_ : tick0 = tk) : o.map f = o'.map f := by rw [e]
@[congr] theorem c_pickV (fr : Fr) (a b : Operand) {o o' : Option Value} (h : o = o') {tk : Prop} (_ : tick0 = tk) : pickV fr a b o = pickV fr a b o' := by rw [h]
@[congr] theorem c_onV {α : Type} {o o' : Option α} (k : α → Prop) (h : o = o') {tk : Prop} (_ : tick0 = tk) : onV o k = onV o' k := by rw [h]
@[congr] theorem c_vgd {o o' : Option Bool} (A B : Prop) (h : o = o') {tk : Prop} (_ : tick0 = tk) : vgd o A B = vgd o' A B := by rw [h]
@[congr] theorem c_vif {o o' : Option Value} (A B : Prop) (h : o = o') {tk : Prop} (_ : tick0 = tk) : vif o A B = vif o' A B := by rw [h]
@[congr] theorem c_vcall {f : FuncId} {l l' : List Value} (h : Heap) (k : Value → Heap → Prop) (e : l = l') {tk : Prop} (_ : tick0 = tk) : vcall P f l h k = vcall P f l' h k := by rw [e]
@[congr] theorem c_vcallv {f f' : Value} {l l' : List Value} (h : Heap) (k : Value → Heap → Prop) (e0 : f = f') (e : l = l') {tk : Prop} (_ : tick0 = tk) : vcallv P f l h k = vcallv P f' l' h k := by rw [e, e0]
@[congr] theorem c_vqcall {Rl : Heap → Heap → Prop} {f : FuncId} {l l' : List Value} (h : Heap) (k : Value → Prop) (e : l = l') {tk : Prop} (_ : tick0 = tk) : vqcall P Rl f l h k = vqcall P Rl f l' h k := by rw [e]
@[congr] theorem c_vqcallv {Rl : Heap → Heap → Prop} {f f' : Value} {l l' : List Value} (h : Heap) (k : Value → Prop) (e0 : f = f') (e : l = l') {tk : Prop} (_ : tick0 = tk) : vqcallv P Rl f l h k = vqcallv P Rl f' l' h k := by rw [e, e0]
@[congr] theorem c_vst {t : TypeId} {p p' v v' : Value} (h : Heap) (k : Value → Heap → Prop) (e : p = p') (e' : v = v') {tk : Prop} (_ : tick0 = tk) : vst P h t p v k = vst P h t p' v' k := by rw [e, e']
@[congr] theorem c_vapp (ts : Array TypeId) (ty : TypeId) {p p' v v' : Value} (h : Heap) (k : Value → Heap → Prop) (e : p = p') (e' : v = v') {tk : Prop} (_ : tick0 = tk) : vapp P ts ty p v h k = vapp P ts ty p' v' h k := by rw [e, e']
@[congr] theorem c_vmk (t : TypeId) {p p' v v' : Value} (h : Heap) (k : Value → Heap → Prop) (e : p = p') (e' : v = v') {tk : Prop} (_ : tick0 = tk) : vmk P t p v h k = vmk P t p' v' h k := by rw [e, e']
@[congr] theorem c_vbs (t : TypeId) (n : Nat) {l l' : List (Nat × Value)} (h : Heap) (k : Value → Heap → Prop) (e : l = l') {tk : Prop} (_ : tick0 = tk) : vbs P t n l h k = vbs P t n l' h k := by rw [e]
@[congr] theorem c_vbd (t : TypeId) {l l' : List (Nat × Value)} (h : Heap) (k : Value → Heap → Prop) (e : l = l') {tk : Prop} (_ : tick0 = tk) : vbd P t l h k = vbd P t l' h k := by rw [e]
@[congr] theorem c_vlook (t : TypeId) {p p' v v' : Value} (ok : Bool) (h : Heap) (k : Value → Heap → Prop) (e : p = p') (e' : v = v') {tk : Prop} (_ : tick0 = tk) : vlook P t p v ok h k = vlook P t p' v' ok h k := by rw [e, e']
@[congr] theorem c_vupd (t : TypeId) {p p' v v' u u' : Value} (h : Heap) (k : Value → Heap → Prop) (e : p = p') (e' : v = v') (e'' : u = u') {tk : Prop} (_ : tick0 = tk) : vupd P t p v u h k = vupd P t p' v' u' h k := by rw [e, e', e'']

theorem when_true {c : Prop} [Decidable c] {α : Type} {v : α} (h : c) : ifV c v = some v := if_pos h

abbrev VPT (P : Program) : Prop :=
  (∀ ops K fr h, vl P ops K [] fr h = K fr h) ∧
  (∀ ops K d op ty pos aft g rest fr h, vl P ops K (⟨some d, op, ty, pos, aft, g⟩ :: rest) fr h = vgd (gd ops fr g) (vop P fr h ty op fun v h' => vl P ops K rest ((d, v) :: fr) h') (vl P ops K rest ((d, undef) :: fr) h)) ∧
  (∀ ops K op ty pos aft g rest fr h, vl P ops K (⟨none, op, ty, pos, aft, g⟩ :: rest) fr h = vgd (gd ops fr g) (vop P fr h ty op fun _ h' => vl P ops K rest fr h') (vl P ops K rest fr h)) ∧
  (∀ Rl ops K fr h, vq P Rl ops K h [] fr = K fr) ∧
  (∀ Rl ops K d op ty pos aft g rest fr h, vq P Rl ops K h (⟨some d, op, ty, pos, aft, g⟩ :: rest) fr = vgd (gd ops fr g) (vqop P Rl fr h op fun v => vq P Rl ops K h rest ((d, v) :: fr)) (vq P Rl ops K h rest ((d, undef) :: fr))) ∧
  (∀ Rl ops K op ty pos aft g rest fr h, vq P Rl ops K h (⟨none, op, ty, pos, aft, g⟩ :: rest) fr = vgd (gd ops fr g) (vqop P Rl fr h op fun _ => vq P Rl ops K h rest fr) (vq P Rl ops K h rest fr)) ∧
  (∀ K E fr h, vc P .skip K E fr h = K fr h) ∧
  (∀ id l K E fr h, vc P (.region id (List.toArray l) false) K E fr h = vl P l K l fr h) ∧
  (∀ id ops K E fr h, vc P (.region id ops true) K E fr h = vdraw P ops K fr h) ∧
  (∀ x y K E fr h, vc P (.seq x y) K E fr h = vc P x (fun fr h => vc P y K E fr h) E fr h) ∧
  (∀ c x y K E fr h, vc P (.cond c x y) K E fr h = vif (ev fr c) (vc P x K E fr h) (vc P y K E fr h)) ∧
  (∀ id c K E fr h, vc P (.block id c) K E fr h = vc P c K (inB id K E) fr h) ∧
  (∀ c K E fr h, vc P (.loop c) K E fr h = vloop (fun K' => vc P c K' E) fr h) ∧
  (∀ id K E fr h, vc P (.exit id) K E fr h = E (.exit id) fr h) ∧
  (∀ l K E fr h, vc P (.label l) K E fr h = K fr h) ∧
  (∀ l K E fr h, vc P (.goto l) K E fr h = E (.goto l) fr h) ∧
  (∀ K E fr h, vc P .ret K E fr h = E .ret fr h) ∧ (∀ c K E fr h, vc P (.scope c) K E fr h = sem P (.scope c) K E fr h) ∧
  (∀ rs R fr h, vexit P rs R .ret fr h = vend P rs R fr h) ∧
  (∀ rs R fr h, vend P rs R fr h = onV (resL P fr h rs) fun l => R (mkRes l) h) ∧
  (∀ fr h, resL P fr h [] = some []) ∧
  (∀ fr h t r, resL P fr h (.tmp t :: r) = (get fr t).bind fun v => (resL P fr h r).bind fun vs => some (v :: vs)) ∧
  (∀ fr h a t r, resL P fr h (.cell a t :: r) = ((get fr a).bind (ldV P h t)).bind fun v => (resL P fr h r).bind fun vs => some (v :: vs))
theorem VP : VPT P := by
  refine ⟨?_, ?_, ?_, ?_, ?_, ?_, ?_, ?_, ?_, ?_, ?_, ?_, ?_, ?_, ?_, ?_, ?_, ?_, ?_, ?_, ?_, ?_, ?_⟩ <;> intros <;> first
    | rfl
    | (rename_i c; cases c <;> rfl)
    | (simp only [inB]; split <;> rfl)
/-- the operations -/
abbrev OT (P : Program) : Prop :=
  (∀ Rl fr h t m x ok k, vqop P Rl fr h (.lookup t m x ok) k = onV (ev fr m) fun a => onV (ev fr x) fun b => vqraw P (Instr.lookup t a b ok) h k) ∧ (∀ Rl fr h f args ts k, vqop P Rl fr h (.call ⟨.value f, args, ts⟩) k = onV (ev fr f) fun fv => onV (evl fr args.toList) fun vs => vqcallv P Rl fv vs h k) ∧
  (∀ Rl fr h x k, vqop P Rl fr h (.move x) k = onV (ev fr x) k) ∧ (∀ Rl fr h x k, vqop P Rl fr h (.assign x) k = onV (ev fr x) k) ∧ (∀ Rl fr h c a b k, vqop P Rl fr h (.pick c a b) k = onV (pickV fr a b (ev fr c)) k) ∧ (∀ Rl fr h t x k, vqop P Rl fr h (.load t x) k = onV ((ev fr x).bind (ldV P h t)) k) ∧ (∀ Rl fr h x k, vqop P Rl fr h (.nilCheck x) k = onV ((ev fr x).bind fnV) k) ∧
  (∀ Rl fr h op t x y t' k, vqop P Rl fr h (.binOp op t x y t') k = onV ((ev fr x).bind fun a => (ev fr y).bind fun b => pvBin P op t a b) k) ∧ (∀ Rl fr h op t x k, vqop P Rl fr h (.unOp op t x) k = onV ((ev fr x).bind (pvUn op)) k) ∧ (∀ Rl fr h s d x k, vqop P Rl fr h (.convert s d x) k = onV ((ev fr x).bind (convV P s d)) k) ∧
  (∀ Rl fr h s x f k, vqop P Rl fr h (.fieldAddr s x f) k = onV ((ev fr x).bind (fadV P s f)) k) ∧ (∀ Rl fr h s x f k, vqop P Rl fr h (.field s x f) k = onV (((ev fr x).bind aggV).bind (fieldV P s f)) k) ∧ (∀ Rl fr h t x i k, vqop P Rl fr h (.indexAddr t x i) k = onV ((ev fr x).bind fun a => (ev fr i).bind fun b => idxA P t a b) k) ∧
  (∀ Rl fr h t x i k, vqop P Rl fr h (.index t x i) k = onV ((ev fr x).bind fun a => (ev fr i).bind fun b => idxV P t a b) k) ∧ (∀ Rl fr h x i k, vqop P Rl fr h (.extract x i) k = onV ((ev fr x).bind (tupV i)) k) ∧ (∀ Rl fr h t x lo hi mx k, vqop P Rl fr h (.slice t x lo hi mx) k = onV (pv P fr h (.slice t x lo hi mx)) k) ∧
  (∀ Rl fr h args ts k, vqop P Rl fr h (.call ⟨.builtin .len, args, ts⟩) k = onV (pv P fr h (.call ⟨.builtin .len, args, ts⟩)) k) ∧ (∀ Rl fr h args ts k, vqop P Rl fr h (.call ⟨.builtin .min, args, ts⟩) k = onV (pv P fr h (.call ⟨.builtin .min, args, ts⟩)) k) ∧ (∀ Rl fr h args ts k, vqop P Rl fr h (.call ⟨.builtin .max, args, ts⟩) k = onV (pv P fr h (.call ⟨.builtin .max, args, ts⟩)) k) ∧
  (∀ fr h ty x k, vop P fr h ty (.move x) k = onV (ev fr x) fun v => k v h) ∧ (∀ fr h ty x k, vop P fr h ty (.assign x) k = onV (ev fr x) fun v => k v h) ∧
  (∀ fr h ty c a b k, vop P fr h ty (.pick c a b) k = onV (pickV fr a b (ev fr c)) fun v => k v h) ∧
  (∀ fr h ty e k, vop P fr h ty (.alloc e) k = onV (zeroT P e) fun z => k (ptr h.size 0) (h.push (.cells z.cells e))) ∧
  (∀ fr h ty e x k, vop P fr h ty (.box e x) k = onV (ev fr x) fun v => k (ptr h.size 0) (h.push (.cells v.cells e))) ∧
  (∀ fr h ty t x k, vop P fr h ty (.load t x) k = onV ((ev fr x).bind (ldV P h t)) fun v => k v h) ∧
  (∀ fr h ty t x y k, vop P fr h ty (.store t x y) k = onV (ev fr x) fun p => onV (ev fr y) fun v => vst P h t p v k) ∧
  (∀ fr h ty x k, vop P fr h ty (.nilCheck x) k = onV ((ev fr x).bind fnV) fun v => k v h) ∧
  (∀ fr h ty op t x y t' k, vop P fr h ty (.binOp op t x y t') k = onV ((ev fr x).bind fun a => (ev fr y).bind fun b => pvBin P op t a b) fun v => k v h) ∧
  (∀ fr h ty op t x k, vop P fr h ty (.unOp op t x) k = onV ((ev fr x).bind (pvUn op)) fun v => k v h) ∧
  (∀ fr h ty s d x k, vop P fr h ty (.convert s d x) k = onV ((ev fr x).bind (convV P s d)) fun v => k v h) ∧
  (∀ fr h ty t x k, vop P fr h ty (.makeInterface t x) k = onV ((ev fr x).bind fun v => if P.concrete t then some (.iface t v) else none) fun v => k v h) ∧
  (∀ fr h ty fn a b k, vop P fr h ty (.makeFunc fn a b) k = onV ((evl fr a.toList).bind fun x => (evl fr b.toList).bind fun y => some (.func fn x.toArray y.toArray)) fun v => k v h) ∧
  (∀ fr h ty s x f k, vop P fr h ty (.fieldAddr s x f) k = onV ((ev fr x).bind (fadV P s f)) fun v => k v h) ∧
  (∀ fr h ty s x f k, vop P fr h ty (.field s x f) k = onV (((ev fr x).bind aggV).bind (fieldV P s f)) fun v => k v h) ∧
  (∀ fr h ty t x i k, vop P fr h ty (.indexAddr t x i) k = onV ((ev fr x).bind fun a => (ev fr i).bind fun b => idxA P t a b) fun v => k v h) ∧
  (∀ fr h ty t x i k, vop P fr h ty (.index t x i) k = onV ((ev fr x).bind fun a => (ev fr i).bind fun b => idxV P t a b) fun v => k v h) ∧
  (∀ fr h ty x i k, vop P fr h ty (.extract x i) k = onV ((ev fr x).bind (tupV i)) fun v => k v h) ∧
  (∀ fr h ty t x lo hi mx k, vop P fr h ty (.slice t x lo hi mx) k = onV (pv P fr h (.slice t x lo hi mx)) fun v => k v h) ∧
  (∀ fr h ty args ts k, vop P fr h ty (.call ⟨.builtin .len, args, ts⟩) k = onV (pv P fr h (.call ⟨.builtin .len, args, ts⟩)) fun v => k v h) ∧
  (∀ fr h ty args ts k, vop P fr h ty (.call ⟨.builtin .min, args, ts⟩) k = onV (pv P fr h (.call ⟨.builtin .min, args, ts⟩)) fun v => k v h) ∧
  (∀ fr h ty args ts k, vop P fr h ty (.call ⟨.builtin .max, args, ts⟩) k = onV (pv P fr h (.call ⟨.builtin .max, args, ts⟩)) fun v => k v h) ∧
  (∀ fr h ty t ps k, vop P fr h ty (.build t ps) k = onV (evp fr ps.toList) fun l => vbd P t l h k) ∧
  (∀ fr h ty t n ps k, vop P fr h ty (.buildSlice t n ps) k = onV (evp fr ps.toList) fun l => vbs P t n l h k) ∧
  (∀ fr h ty t k, vop P fr h ty (.makeMap t none) k = k (.map (some h.size)) (h.push (.map #[] 0))) ∧
  (∀ fr h ty t l c k, vop P fr h ty (.makeSlice t l c) k = onV (ev fr l) fun a => onV (ev fr c) fun b => vmk P t a b h k) ∧
  (∀ fr h ty t m x ok k, vop P fr h ty (.lookup t m x ok) k = onV (ev fr m) fun a => onV (ev fr x) fun b => vlook P t a b ok h k) ∧
  (∀ fr h ty t m x v k, vop P fr h ty (.mapUpdate t m x v) k = onV (ev fr m) fun a => onV (ev fr x) fun b => onV (ev fr v) fun c => vupd P t a b c h k) ∧
  (∀ fr h ty t m x v k, vop P fr h ty (.insert t m x v) k = onV (ev fr m) fun a => onV (ev fr x) fun b => onV (ev fr v) fun c => vupd P t a b c h k) ∧
  (∀ fr h ty t m x k, vop P fr h ty (.mapEntry t m x) k = onV (ev fr m) fun a => onV (ev fr x) fun b => vment P t a b h k) ∧
  (∀ fr h ty t m s v k, vop P fr h ty (.entryStore t m s v) k = onV (ev fr m) fun a => onV (ev fr s) fun b => onV (ev fr v) fun c => vest P t a b c h k) ∧
  (∀ fr h ty t x k, vop P fr h ty (.range t x) k = onV (ev fr x) fun a => vrng P t a h k) ∧
  (∀ fr h ty x s k, vop P fr h ty (.next x s) k = onV (ev fr x) fun a => vnext P a s ty h k) ∧
  (∀ fr h ty f args ts k, vop P fr h ty (.call ⟨.value f, args, ts⟩) k = onV (ev fr f) fun fv => onV (evl fr args.toList) fun vs => vcallv P fv vs h k) ∧
  (∀ fr h ty r nm args ts k, vop P fr h ty (.call ⟨.invoke r nm, args, ts⟩) k = onV (ev fr r) fun rv => onV (evl fr args.toList) fun vs => vinv P rv nm vs h k) ∧
  (∀ fr h ty args ts k, vop P fr h ty (.call ⟨.builtin .append, args, ts⟩) k = match args.toList with | [s, x] => onV (ev fr s) fun a => onV (ev fr x) fun b => vapp P ts ty a b h k | _ => False) ∧
  (∀ fr h ty args ts k, vop P fr h ty (.call ⟨.builtin .copy, args, ts⟩) k = onV (evl fr args.toList) fun vs => vcopy P ts ty vs h k) ∧
  (∀ fr h ty args ts k, vop P fr h ty (.call ⟨.builtin .delete, args, ts⟩) k = onV (evl fr args.toList) fun vs => vdel P ts ty vs h k)
theorem O : OT P := by
  refine ⟨?_, ?_, ?_, ?_, ?_, ?_, ?_, ?_, ?_, ?_, ?_, ?_, ?_, ?_, ?_, ?_, ?_, ?_, ?_, ?_, ?_, ?_, ?_, ?_, ?_, ?_, ?_, ?_, ?_, ?_, ?_, ?_, ?_, ?_, ?_, ?_, ?_, ?_, ?_, ?_, ?_, ?_, ?_, ?_, ?_, ?_, ?_, ?_, ?_, ?_, ?_, ?_, ?_, ?_, ?_, ?_, ?_⟩ <;> intros <;> first
    | rfl
    | (rename_i c; cases c <;> rfl)
    | (simp only [inB]; split <;> rfl)
end
end Go.V
namespace Go.V
open Go
def rdA (a : Option Bool) (n : Option Nat) (h : Heap) (b o : Nat) : Option Value :=
  match a, n with
  | some true, some n => (rdRow h b o n).map fun l => .agg l.toArray
  | some false, _ => hcell h b o
  | _, _ => none
def ifB {α : Type} (c : Bool) (v : Option α) : Option α := if c then v else none
abbrev W0T : Prop :=
  (∀ a, fnV (.pointer (some a)) = some (.pointer (some a))) ∧
  (∀ f x y, fnV (.func (.func f) x y) = some (.func (.func f) x y)) ∧
  (∀ fr a b, pickV fr a b (some (.bool true)) = ev fr a) ∧
  (∀ fr a b, pickV fr a b (some (.bool false)) = ev fr b) ∧
  (∀ cs, aggV (.agg cs) = some cs) ∧
  (∀ i vs, tupV i (.tuple vs) = vs[i]?) ∧
  (∀ k a b, pvInt .add k k a b = some (.int k (k.wrap (a + b)))) ∧
  (∀ k a b, pvInt .sub k k a b = some (.int k (k.wrap (a - b)))) ∧
  (∀ k a b, pvInt .mul k k a b = some (.int k (k.wrap (a * b)))) ∧
  (∀ k a b, pvInt .quo k k a b = ifV (b ≠ 0) (.int k (k.wrap (a.tdiv b)))) ∧
  (∀ k a b, pvInt .rem k k a b = ifV (b ≠ 0) (.int k (a.tmod b))) ∧
  (∀ k a b, pvInt .and k k a b = some (.int k (bitV .and k a b))) ∧
  (∀ k a b, pvInt .or k k a b = some (.int k (bitV .or k a b))) ∧
  (∀ k a b, pvInt .xor k k a b = some (.int k (bitV .xor k a b))) ∧
  (∀ k a b, pvInt .andNot k k a b = some (.int k (bitV .andNot k a b))) ∧
  (∀ k a b, pvInt .eql k k a b = some (.bool (decide (a = b)))) ∧
  (∀ k a b, pvInt .neq k k a b = some (.bool (decide (¬ a = b)))) ∧
  (∀ k a b, pvInt .lss k k a b = some (.bool (decide (a < b)))) ∧
  (∀ k a b, pvInt .leq k k a b = some (.bool (decide (a ≤ b)))) ∧
  (∀ k a b, pvInt .gtr k k a b = some (.bool (decide (b < a)))) ∧
  (∀ k a b, pvInt .geq k k a b = some (.bool (decide (b ≤ a)))) ∧
  (∀ k k' a b, pvInt .shl k k' a b = ifV (0 ≤ b) (.int k (k.wrap (a * 2 ^ min b.toNat k.bits)))) ∧
  (∀ k k' a b, pvInt .shr k k' a b = ifV (0 ≤ b) (.int k (a.fdiv (2 ^ min b.toNat k.bits)))) ∧
  (∀ a b, pvStr .add a b = ifV (a.size + b.size ≤ 9223372036854775807) (.string (a ++ b))) ∧
  (∀ a b, pvStr .eql a b = some (.bool (decide (a = b)))) ∧
  (∀ a b, pvStr .neq a b = some (.bool (decide (¬ a = b)))) ∧
  (∀ a b, pvStr .lss a b = some (.bool (Op.bytesLess a.toList b.toList))) ∧
  (∀ b, pvUn .not (.bool b) = some (.bool !b)) ∧
  (∀ k a, pvUn .neg (.int k a) = some (.int k (k.wrap (0 - a)))) ∧
  (∀ k a, pvUn .xor (.int k a) = some (.int k (bitV .xor k (if k.signed then -1 else k.max) a))) ∧
  (∀ k x k' y, mnV (.int k x) (.int k' y) = some (.int k (if y < x then y else x))) ∧
  (∀ k x k' y, mxV (.int k x) (.int k' y) = some (.int k (if y > x then y else x))) ∧
  (∀ d, bnd d none = some (d : Int)) ∧
  (∀ d k i, bnd d (some (.int k i)) = some i) ∧
  (∀ α (v : Option α), ifB true v = v) ∧
  (∀ h b o n, rdA (some false) n h b o = hcell h b o) ∧
  (∀ h b o n, rdA (some true) (some n) h b o = (rdRow h b o n).map fun l => .agg l.toArray) ∧
  (∀ v, mkRes [v] = v) ∧
  (mkRes [] = .tuple #[]) ∧
  (∀ a b l, mkRes (a :: b :: l) = .tuple (a :: b :: l).toArray)
theorem W0 : W0T := by
  refine ⟨?_, ?_, ?_, ?_, ?_, ?_, ?_, ?_, ?_, ?_, ?_, ?_, ?_, ?_, ?_, ?_, ?_, ?_, ?_, ?_, ?_, ?_, ?_, ?_, ?_, ?_, ?_, ?_, ?_, ?_, ?_, ?_, ?_, ?_, ?_, ?_, ?_, ?_, ?_, ?_⟩ <;> intros <;> first
    | rfl
    | (unfold pvInt; simp; done)
    | (simp only [pvBin, eqV, ifB]; split <;> rfl)
    | (simp only [sliceV, ifB, Option.isNone_none, Bool.and_true])

abbrev B0T : Prop :=
  (!false) = true ∧ (!true) = false ∧ (∀ [Decidable True], decide True = true) ∧ (∀ [Decidable False], decide False = false) ∧ (∀ (α β : Type) (v : α) (f : α → Option β), (some v).bind f = f v) ∧ (∀ (α β : Type) (v : α) (f : α → β), (some v).map f = some (f v)) ∧
  (∀ (α : Type) (x : α), (x = x) = True) ∧ (¬ True) = False ∧ (¬ False) = True ∧ (∀ p : Prop, (True ∧ p) = p) ∧ (∀ p : Prop, (p ∧ True) = p) ∧ (∀ (α : Type) (v : α), (some v).isSome = true) ∧ (∀ (α : Type), (none : Option α).isSome = false) ∧ (∀ (α : Type) (v : α), (some v).isNone = false) ∧ (∀ (α : Type), (none : Option α).isNone = true) ∧
  (∀ (α : Type) (a : α) (l : List α), (a :: l)[0]? = some a) ∧ (∀ (α : Type) (a : α) (l : List α) (n : Nat), (a :: l)[n + 1]? = l[n]?) ∧ (∀ (α : Type) (l : List α) (n : Nat), l.toArray[n]? = l[n]?) ∧ (∀ (α : Type) (l : List α), l.toArray.toList = l) ∧ (∀ (α : Type) (l : List α), [] ++ l = l) ∧ (∀ (α : Type) (l : List α), l ++ [] = l) ∧ (∀ (α : Type) (a : α) (l r : List α), (a :: l) ++ r = a :: (l ++ r)) ∧
  (∀ n : Nat, ((n : Int)).toNat = n) ∧ (∀ o s m, slOff o 0 s m = o) ∧ (∀ n : Nat, n - 0 = n) ∧ (∀ p : Prop, (p → True) = True) ∧ (∀ p : Prop, (True → p) = p) ∧ (∀ n : Nat, 0 + n = n) ∧ (∀ n : Nat, n * 1 = n) ∧ ((false = true) = False) ∧ (∀ p : Prop, (False → p) = True)
theorem B0 : B0T := by
  refine ⟨rfl, rfl, by simp, by simp, fun _ _ _ _ => rfl, fun _ _ _ _ => rfl, by simp, by simp, by simp, by simp, by simp, fun _ _ => rfl, fun _ => rfl, fun _ _ => rfl, fun _ => rfl, by simp, by simp, by simp, by simp, by simp, by simp, by simp, by simp, fun o s m => by simp [slOff], fun _ => rfl, by simp, by simp, by simp, by simp, by simp, by simp⟩
section
variable {P : Program}
@[congr] theorem c_ifV {c c' : Prop} [Decidable c] [Decidable c'] {α : Type} (v : α) (e : c = c') {tk : Prop} (_ : tick0 = tk) : ifV c v = ifV c' v := by unfold ifV; simp only [e]
theorem rd_eq (h : Heap) (t : TypeId) (b o : Nat) : rd P h t b o = rdA (aggT P t) (szT P t) h b o := rfl
/-- the values -/
abbrev WPT (P : Program) : Prop :=
  (∀ h t b o, ldV P h t (.pointer (some ⟨b, o, none⟩)) = rd P h t b o) ∧
  (∀ s f b o, fadV P s f (.pointer (some ⟨b, o, none⟩)) = (fieldT P s f).map fun n => ptr b (o + n)) ∧
  (∀ op t k k' a b, pvBin P op t (.int k a) (.int k' b) = pvInt op k k' a b) ∧
  (∀ op t a b, pvBin P op t (.string a) (.string b) = pvStr op a b) ∧
  (∀ t a b, pvBin P .eql t (.bool a) (.bool b) = ifB (boolT P t) (some (.bool (a == b)))) ∧
  (∀ t a b, pvBin P .neq t (.bool a) (.bool b) = ifB (boolT P t) (some (.bool (!(a == b))))) ∧
  (∀ t p, pvBin P .eql t (.pointer none) (.pointer p) = ifB (ptrT P t) (some (.bool p.isNone))) ∧
  (∀ t p, pvBin P .neq t (.pointer none) (.pointer p) = ifB (ptrT P t) (some (.bool (!p.isNone)))) ∧
  (∀ t p, pvBin P .eql t (.pointer (some p)) (.pointer none) = ifB (ptrT P t) (some (.bool false))) ∧
  (∀ t p, pvBin P .neq t (.pointer (some p)) (.pointer none) = ifB (ptrT P t) (some (.bool true))) ∧
  (∀ t a l c, pvBin P .eql t (.slice a l c) (.slice none 0 0) = ifB (slT P t).isSome (some (.bool a.isNone))) ∧
  (∀ t a l c, pvBin P .neq t (.slice a l c) (.slice none 0 0) = ifB (slT P t).isSome (some (.bool (!a.isNone)))) ∧
  (∀ t b o n c k i, idxA P t (.slice (some ⟨b, o, none⟩) n c) (.int k i) = (slT P t).bind fun s => ifV (0 ≤ i ∧ i < (n : Int)) (ptr b (o + i.toNat * s))) ∧
  (∀ t b o k i, idxA P t (.pointer (some ⟨b, o, none⟩)) (.int k i) = (arT P t).bind fun p => ifV (0 ≤ i ∧ i < (p.1 : Int)) (ptr b (o + i.toNat * p.2))) ∧
  (∀ t s k i, idxV P t (.string s) (.int k i) = ifB (strT P t) (ifV (0 ≤ i ∧ i < (s.size : Int)) (.int .u8 ((s[i.toNat]?).getD 0).toNat))) ∧
  (∀ s d k n, convV P s d (.int k n) = ifB (P.underlying s).isSome ((intT P d).map fun k => .int k (k.wrap n))) ∧
  (∀ h t a n c, lenV P h t (.slice a n c) = ifB (slT P t).isSome (some (.int .i64 n))) ∧
  (∀ h t s, lenV P h t (.string s) = ifB (strT P t) (some (.int .i64 s.size))) ∧
  (∀ t b o n c lo hi mx, sliceV P t (.slice (some ⟨b, o, none⟩) n c) lo hi mx = (slT P t).bind fun s => (bnd 0 lo).bind fun l => (bnd n hi).bind fun h => (bnd c mx).bind fun m =>
      ifV ((0 ≤ l ∧ l ≤ h ∧ h ≤ m ∧ m ≤ (c : Int)) ∧ (mx.isSome = true → hi.isSome = true)) (sl b (slOff o l.toNat s m.toNat) (h.toNat - l.toNat) (m.toNat - l.toNat))) ∧
  (∀ t n c lo hi mx, sliceV P t (.slice none n c) lo hi mx = (slT P t).bind fun _ => (bnd 0 lo).bind fun l => (bnd n hi).bind fun h => (bnd c mx).bind fun m =>
      ifV ((0 ≤ l ∧ l ≤ h ∧ h ≤ m ∧ m ≤ (c : Int)) ∧ (mx.isSome = true → hi.isSome = true)) (.slice none (h.toNat - l.toNat) (m.toNat - l.toNat))) ∧
  (∀ t s lo hi, sliceV P t (.string s) lo hi none = ifB (strT P t) ((bnd 0 lo).bind fun l => (bnd s.size hi).bind fun h => ifV (0 ≤ l ∧ l ≤ h ∧ h ≤ (s.size : Int)) (.string (s.extract l.toNat h.toNat)))) ∧
  (∀ fr h t x lo hi mx, pv P fr h (.slice t x lo hi mx) = (ev fr x).bind fun v => (match lo with | none => some none | some o => (ev fr o).map some).bind fun l =>
      (match hi with | none => some none | some o => (ev fr o).map some).bind fun h' => (match mx with | none => some none | some o => (ev fr o).map some).bind fun m => sliceV P t v l h' m) ∧
  (∀ fr h x t, pv P fr h (.call ⟨.builtin .len, #[x], #[t]⟩) = (ev fr x).bind (lenV P h t)) ∧
  (∀ fr h x y ts, pv P fr h (.call ⟨.builtin .min, #[x, y], ts⟩) = (ev fr x).bind fun a => (ev fr y).bind fun b => mnV a b) ∧
  (∀ fr h x y ts, pv P fr h (.call ⟨.builtin .max, #[x, y], ts⟩) = (ev fr x).bind fun a => (ev fr y).bind fun b => mxV a b) ∧
  (∀ f first cap vs h k, vcallv P (.func (.func f) first cap) vs h k = vcall P f (first.toList ++ vs ++ cap.toList) h k) ∧
  (∀ Rl f first cap vs h k, vqcallv P Rl (.func (.func f) first cap) vs h k = vqcall P Rl f (first.toList ++ vs ++ cap.toList) h k)
theorem WP : WPT P := by
  refine ⟨?_, ?_, ?_, ?_, ?_, ?_, ?_, ?_, ?_, ?_, ?_, ?_, ?_, ?_, ?_, ?_, ?_, ?_, ?_, ?_, ?_, ?_, ?_, ?_, ?_, ?_, ?_⟩ <;> intros <;> first
    | rfl
    | (unfold pvInt; simp; done)
    | (simp only [pvBin, eqV, ifB]; split <;> rfl)
    | (simp only [sliceV, ifB, Option.isNone_none, Bool.and_true])

variable (P) in
theorem S : V0T ∧ W0T ∧ B0T ∧ (tick0 = tick1) ∧ VPT P ∧ OT P ∧ WPT P := ⟨V0, W0, B0, tick, VP, O, WP⟩
/-- what arithmetic decides: 'simp (disch := omega) only [A]' -/
theorem A : (∀ (c : Prop) [Decidable c] (α : Type) (v : α), c → ifV c v = some v) ∧ (∀ (p : Prop) [Decidable p], p → decide p = true) ∧ (∀ (p : Prop) [Decidable p], ¬ p → decide p = false) ∧
  (∀ n : Int, (-9223372036854775808 ≤ n ∧ n ≤ 9223372036854775807) → IntKind.i64.wrap n = n) ∧ (∀ n : Int, (0 ≤ n ∧ n ≤ 18446744073709551615) → IntKind.u64.wrap n = n) ∧
  (∀ a b : Int, 0 ≤ a → a.tdiv b = a / b) ∧ (∀ a b : Int, 0 ≤ a → a.tmod b = a % b) :=
  ⟨fun _ _ _ _ h => if_pos h, fun _ _ h => decide_eq_true h, fun _ _ h => decide_eq_false h, fun n h => IntWalk.i64_in n h, fun n h => IntWalk.u64_in n h, fun _ _ h => Int.tdiv_eq_ediv_of_nonneg h, fun _ _ h => Int.tmod_eq_emod_of_nonneg h⟩
/-- a call that leaves what was there -/
theorem vcall_mk {f : FuncId} {l : List Value} {h : Heap} {k R : Value → Heap → Prop} (c : Ct P f l h R) (hk : ∀ v h', R v h' → k v h') : vcall P f l h k := c.mono hk
theorem vqcall_mk {f : FuncId} {l : List Value} {h : Heap} {k : Value → Prop} (v : Value) (c : ∀ h', Ge h h' → Ct P f l h' fun v' h'' => v' = v ∧ Ge h' h'') (hk : k v) : vqcall P Ge f l h k := ⟨v, c, hk⟩
theorem vqcall_eq {f : FuncId} {l : List Value} {h : Heap} {k : Value → Prop} (v : Value) (c : Ct P f l h fun v' h'' => v' = v ∧ h = h'') (hk : k v) : vqcall P Eq f l h k := ⟨v, fun h' e => by subst e; exact c, hk⟩
theorem vloop_mk {C : (Fr → Heap → Prop) → Fr → Heap → Prop} {fr : Fr} {h : Heap} (I : Nat → Fr → Heap → Prop) (k0 : Nat) (s : Fr) (hs : Sub s fr) (h0 : I k0 s h)
    (hr : ∀ k fr h, I k fr h → C (fun fr' h' => ∃ k', k' < k ∧ ∃ s, Sub s fr' ∧ I k' s h') fr h) : vloop C fr h := ⟨I, k0, ⟨s, hs, h0⟩, hr⟩
end
end Go.V
