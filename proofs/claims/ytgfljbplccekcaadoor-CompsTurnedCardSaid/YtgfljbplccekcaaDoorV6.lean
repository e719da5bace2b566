/-
  The framework: more slots known do no harm, so a region that draws may be cut behind; conditions: none.
-/
import Derived.Test.YtgfljbplccekcaaDoorV5
set_option linter.unusedSimpArgs false
set_option linter.unusedVariables false
set_option maxRecDepth 100000
namespace Go.V
open Go

/-- all that the one frame tells the other tells too -/
def Sup (s fr : Fr) : Prop := ∀ t v, get s t = some v → get fr t = some v
theorem Sub.sup {s fr : Fr} (h : Sub s fr) : Sup s fr := fun _ _ hg => h.get hg
theorem Sup.sub {s fr : Fr} (h : Sup s fr) : ∀ {r : Fr}, Sub r s → Sub r fr
  | [], _ => trivial
  | (t, v) :: r, q => ⟨h t v q.1, Sup.sub h q.2⟩
theorem Sup.put {s fr : Fr} (h : Sup s fr) (d : Option Nat) (v : Value) : Sup (put d v s) (put d v fr) := by
  cases d with
  | none => exact h
  | some d =>
    intro u w hu
    simp only [V.put, get] at hu ⊢
    split
    · rename_i e; rw [if_pos e] at hu; exact hu
    · rename_i e; rw [if_neg e] at hu; exact h _ _ hu
theorem Sup.ev {s fr : Fr} (h : Sup s fr) {x : Operand} {v : Value} (e : ev s x = some v) : ev fr x = some v := by
  cases x with
  | tmp t => exact h _ _ e
  | const _ => exact e
  | global _ => exact e
  | func _ => exact e
theorem Sup.evl {s fr : Fr} (h : Sup s fr) : ∀ {l : List Operand} {vs : List Value}, evl s l = some vs → evl fr l = some vs
  | [], _, e => e
  | x :: r, vs, e => by
    simp only [V.evl, Option.bind_eq_some_iff] at e ⊢
    obtain ⟨v, hv, vs', hvs, e⟩ := e
    exact ⟨v, h.ev hv, vs', h.evl hvs, e⟩
theorem Sup.evp {s fr : Fr} (h : Sup s fr) : ∀ {l : List (Nat × Operand)} {vs : List (Nat × Value)}, evp s l = some vs → evp fr l = some vs
  | [], _, e => e
  | (i, x) :: r, vs, e => by
    simp only [V.evp, Option.bind_eq_some_iff] at e ⊢
    obtain ⟨v, hv, vs', hvs, e⟩ := e
    exact ⟨v, h.ev hv, vs', h.evp hvs, e⟩
theorem onV_mono {α : Type} {a b : Option α} {k k' : α → Prop} (h : ∀ v, a = some v → b = some v) (hk : ∀ v, k v → k' v) (q : onV a k) : onV b k' := by
  cases ha : a with
  | none => rw [ha] at q; exact q.elim
  | some v => rw [ha] at q; rw [h v ha]; exact hk v q
theorem Sup.pv {P : Program} {s fr : Fr} {hp : Heap} (h : Sup s fr) {op : Op} {v : Value} (e : pv P s hp op = some v) : pv P fr hp op = some v := by
  unfold V.pv at e ⊢
  split at e
  · exact h.ev e
  · exact h.ev e
  · rename_i c x y
    unfold pickV at e ⊢
    split at e
    · rename_i hc; rw [h.ev hc]; exact h.ev e
    · rename_i hc; rw [h.ev hc]; exact h.ev e
    · cases e
  · obtain ⟨p, h1, h2⟩ := Option.bind_eq_some_iff.1 e; simp only [h.ev h1, Option.bind_some]; exact h2
  · obtain ⟨p, h1, h2⟩ := Option.bind_eq_some_iff.1 e; simp only [h.ev h1, Option.bind_some]; exact h2
  · obtain ⟨p, h1, e⟩ := Option.bind_eq_some_iff.1 e
    obtain ⟨p', h2, e⟩ := Option.bind_eq_some_iff.1 e
    simp only [h.ev h1, h.ev h2, Option.bind_some]; exact e
  · obtain ⟨p, h1, h2⟩ := Option.bind_eq_some_iff.1 e; simp only [h.ev h1, Option.bind_some]; exact h2
  · obtain ⟨p, h1, h2⟩ := Option.bind_eq_some_iff.1 e; simp only [h.ev h1, Option.bind_some]; exact h2
  · obtain ⟨p, h1, h2⟩ := Option.bind_eq_some_iff.1 e; simp only [h.ev h1, Option.bind_some]; exact h2
  · obtain ⟨p, h1, e⟩ := Option.bind_eq_some_iff.1 e
    obtain ⟨p', h2, e⟩ := Option.bind_eq_some_iff.1 e
    simp only [h.evl h1, h.evl h2, Option.bind_some]; exact e
  · rename_i t x lo hi mx
    obtain ⟨x', hx, e⟩ := Option.bind_eq_some_iff.1 e
    rw [h.ev hx, Option.bind_some]
    have key : ∀ (o : Operand) (r : Option Value), (V.ev s o).map some = some r → (V.ev fr o).map some = some r := fun o r e => by
      obtain ⟨u, hu, e2⟩ := Option.map_eq_some_iff.1 e
      rw [h.ev hu, Option.map_some, e2]
    obtain ⟨l, hl, e⟩ := Option.bind_eq_some_iff.1 e
    obtain ⟨hh, hhi, e⟩ := Option.bind_eq_some_iff.1 e
    obtain ⟨m, hm, e⟩ := Option.bind_eq_some_iff.1 e
    refine Option.bind_eq_some_iff.2 ⟨l, ?_, Option.bind_eq_some_iff.2 ⟨hh, ?_, Option.bind_eq_some_iff.2 ⟨m, ?_, e⟩⟩⟩
    · cases lo with
      | none => exact hl
      | some o => exact key o _ hl
    · cases hi with
      | none => exact hhi
      | some o => exact key o _ hhi
    · cases mx with
      | none => exact hm
      | some o => exact key o _ hm
  · obtain ⟨p, h1, h2⟩ := Option.bind_eq_some_iff.1 e; simp only [h.ev h1, Option.bind_some]; exact h2
  · obtain ⟨p, h1, h2⟩ := Option.bind_eq_some_iff.1 e
    obtain ⟨u, h3, h4⟩ := Option.bind_eq_some_iff.1 h1
    simp only [h.ev h3, Option.bind_some, h4]; exact h2
  · obtain ⟨p, h1, e⟩ := Option.bind_eq_some_iff.1 e
    obtain ⟨p', h2, e⟩ := Option.bind_eq_some_iff.1 e
    simp only [h.ev h1, h.ev h2, Option.bind_some]; exact e
  · obtain ⟨p, h1, e⟩ := Option.bind_eq_some_iff.1 e
    obtain ⟨p', h2, e⟩ := Option.bind_eq_some_iff.1 e
    simp only [h.ev h1, h.ev h2, Option.bind_some]; exact e
  · obtain ⟨p, h1, h2⟩ := Option.bind_eq_some_iff.1 e; simp only [h.ev h1, Option.bind_some]; exact h2
  · split at e
    · obtain ⟨p, h1, h2⟩ := Option.bind_eq_some_iff.1 e; simp only [h.ev h1, Option.bind_some]; exact h2
    · cases e
  · split at e
    · obtain ⟨p, h1, e⟩ := Option.bind_eq_some_iff.1 e
      obtain ⟨p', h2, e⟩ := Option.bind_eq_some_iff.1 e
      simp only [h.ev h1, h.ev h2, Option.bind_some]; exact e
    · cases e
  · split at e
    · obtain ⟨p, h1, e⟩ := Option.bind_eq_some_iff.1 e
      obtain ⟨p', h2, e⟩ := Option.bind_eq_some_iff.1 e
      simp only [h.ev h1, h.ev h2, Option.bind_some]; exact e
    · cases e
  · cases e
theorem vraw_mono {P : Program} {s : Sem Value} {h : Heap} {k k' : Value → Heap → Prop} (hk : ∀ v h', k v h' → k' v h') (q : vraw P s h k) : vraw P s h k' := fun w hw => by
  obtain ⟨v, w', a, b, c⟩ := q w hw; exact ⟨v, w', a, b, hk _ _ c⟩
theorem vrawU_mono {P : Program} {s : Sem Unit} {h : Heap} {k k' : Value → Heap → Prop} (hk : ∀ v h', k v h' → k' v h') (q : vrawU P s h k) : vrawU P s h k' := fun w hw => by
  obtain ⟨w', a, b, c⟩ := q w hw; exact ⟨w', a, b, hk _ _ c⟩
theorem vop_mono {P : Program} {s fr : Fr} {h : Heap} {ty : TypeId} {op : Op} {k k' : Value → Heap → Prop} (hs : Sup s fr) (hk : ∀ v h', k v h' → k' v h') (q : vop P s h ty op k) : vop P fr h ty op k' := by
  unfold vop at q ⊢
  split at q
  · exact onV_mono (fun _ => id) (fun v => hk _ _) q
  · exact onV_mono (fun _ => hs.ev) (fun v => hk _ _) q
  · refine onV_mono (fun _ => hs.ev) (fun p q => onV_mono (fun _ => hs.ev) (fun v q => ?_) q) q
    unfold vst at q ⊢
    split at q
    · exact ⟨q.1, q.2.1, q.2.2.1, hk _ _ q.2.2.2⟩
    · exact q.elim
  · exact onV_mono (fun _ => hs.evp) (fun _ => vraw_mono hk) q
  · exact onV_mono (fun _ => hs.evp) (fun _ => vraw_mono hk) q
  · exact hk _ _ q
  · exact onV_mono (fun _ => hs.ev) (fun _ => vraw_mono hk) q
  · exact onV_mono (fun _ => hs.ev) (fun _ q => onV_mono (fun _ => hs.ev) (fun _ => vraw_mono hk) q) q
  · exact onV_mono (fun _ => hs.ev) (fun _ q => onV_mono (fun _ => hs.ev) (fun _ => vraw_mono hk) q) q
  · exact onV_mono (fun _ => hs.ev) (fun _ q => onV_mono (fun _ => hs.ev) (fun _ q => onV_mono (fun _ => hs.ev) (fun _ => vrawU_mono hk) q) q) q
  · exact onV_mono (fun _ => hs.ev) (fun _ q => onV_mono (fun _ => hs.ev) (fun _ q => onV_mono (fun _ => hs.ev) (fun _ => vrawU_mono hk) q) q) q
  · exact onV_mono (fun _ => hs.ev) (fun _ q => onV_mono (fun _ => hs.ev) (fun _ => vraw_mono hk) q) q
  · exact onV_mono (fun _ => hs.ev) (fun _ q => onV_mono (fun _ => hs.ev) (fun _ q => onV_mono (fun _ => hs.ev) (fun _ => vrawU_mono hk) q) q) q
  · exact onV_mono (fun _ => hs.ev) (fun _ => vraw_mono hk) q
  · exact onV_mono (fun _ => hs.ev) (fun _ => vraw_mono hk) q
  · refine onV_mono (fun _ => hs.ev) (fun fv q => onV_mono (fun _ => hs.evl) (fun vs q => ?_) q) q
    unfold vcallv at q ⊢
    split at q
    · exact Ct.mono q hk
    · exact q.elim
  · refine onV_mono (fun _ => hs.ev) (fun fv q => onV_mono (fun _ => hs.evl) (fun vs q => ?_) q) q
    intro w hw
    obtain ⟨f, as, h1, h2⟩ := q w hw
    exact ⟨f, as, h1, Ct.mono h2 hk⟩
  · split at q
    · exact onV_mono (fun _ => hs.ev) (fun _ q => onV_mono (fun _ => hs.ev) (fun _ => vraw_mono hk) q) q
    · exact q.elim
  · exact onV_mono (fun _ => hs.evl) (fun _ => vraw_mono hk) q
  · exact onV_mono (fun _ => hs.evl) (fun _ => vraw_mono hk) q
  · exact onV_mono (fun _ => hs.pv) (fun v => hk _ _) q

/-- what holds in a frame holds in a greater one -/
def Mono (K : Fr → Heap → Prop) : Prop := ∀ s fr h, Sup s fr → K s h → K fr h
def MonoE (E : Exit → Fr → Heap → Prop) : Prop := ∀ e, Mono (E e)
theorem gd_mono {s fr : Fr} (hs : Sup s fr) {ops : List Oper} {g : Option (Nat × Bool)} {b : Bool} (h : gd ops s g = some b) : gd ops fr g = some b := by
  unfold gd at h ⊢
  split at h
  · exact h
  · obtain ⟨d, hd, h⟩ := Option.bind_eq_some_iff.1 h
    obtain ⟨v, hv, h⟩ := Option.bind_eq_some_iff.1 h
    simp only [gd2, hd, Option.bind_some, hs _ _ hv]; exact h
theorem vgd_mono {a b : Option Bool} {A A' B B' : Prop} (h : ∀ x, a = some x → b = some x) (h1 : A → A') (h2 : B → B') (q : vgd a A B) : vgd b A' B' := by
  cases ha : a with
  | none => rw [ha] at q; exact q.elim
  | some x =>
    rw [ha] at q
    rw [h x ha]
    cases x
    · exact h2 q
    · exact h1 q
theorem vl_mono {P : Program} {ops : List Oper} {K : Fr → Heap → Prop} (hK : Mono K) : ∀ (l : List Oper), Mono (vl P ops K l)
  | [] => hK
  | o :: rest => by
    intro s fr h hs q
    unfold vl at q ⊢
    exact vgd_mono (fun _ => gd_mono hs) (vop_mono hs fun v h' => vl_mono hK rest _ _ _ (hs.put o.dst v)) (vl_mono hK rest _ _ _ (hs.put o.dst undef)) q
theorem At.sup {n : Nat} {s fr : Fr} {a : Act} (h : At n fr a) (hs : Sup s fr) : At n s a := ⟨h.defers, h.size, fun t v hg => h.slot t v (hs t v hg)⟩
theorem inB_mono {id : Nat} {K : Fr → Heap → Prop} {E : Exit → Fr → Heap → Prop} (hK : Mono K) (hE : MonoE E) : MonoE (inB id K E) := by
  intro e
  cases e with
  | exit id' =>
    show Mono (if id' = id then K else E (.exit id'))
    split
    · exact hK
    · exact hE _
  | normal => exact hE _
  | goto _ => exact hE _
  | ret => exact hE _
  | panic _ => exact hE _
  | outgrown => exact hE _
theorem vc_mono {P : Program} (c : Code) : ∀ {K : Fr → Heap → Prop} {E : Exit → Fr → Heap → Prop}, Mono K → MonoE E → Mono (vc P c K E) := by
  induction c with
  | skip => intro K E hK hE; exact hK
  | region id ops draw =>
    intro K E hK hE
    cases draw with
    | false => exact vl_mono hK _
    | true =>
      intro s fr h hs q n i w0 w a E' hd hA hsm hw
      exact q n i w0 w a E' hd (hA.sup hs) hsm hw
  | seq x y hx hy => intro K E hK hE; exact hx (hy hK hE) hE
  | cond c x y hx hy =>
    intro K E hK hE s fr h hs q
    simp only [vc] at q ⊢
    unfold vif at q ⊢
    split at q
    · rename_i hc; rw [hs.ev hc]; exact hx hK hE _ _ _ hs q
    · rename_i hc; rw [hs.ev hc]; exact hy hK hE _ _ _ hs q
    · exact q.elim
  | block id c hc => intro K E hK hE; exact hc hK (inB_mono hK hE)
  | loop c hc =>
    intro K E hK hE s fr h hs q
    obtain ⟨I, k0, ⟨r, hr, hI⟩, hround⟩ := q
    exact ⟨I, k0, ⟨r, hs.sub hr, hI⟩, hround⟩
  | exit id => intro K E hK hE; exact hE _
  | label l => intro K E hK hE; exact hK
  | goto l => intro K E hK hE; exact hE _
  | ret => intro K E hK hE; exact hE _
  | rangeFunc _ _ _ _ => intro K E hK hE s fr h hs q; exact q.elim
  | scope c _ =>
    intro K E hK hE s fr h hs q n w0 w a hd hA hsm hw
    exact q n w0 w a hd (hA.sup hs) hsm hw
  | refuse _ => intro K E hK hE s fr h hs q; exact q.elim
theorem resL_mono {P : Program} {s fr : Fr} {h : Heap} (hs : Sup s fr) : ∀ {rs : List ResultVar} {l : List Value}, resL P s h rs = some l → resL P fr h rs = some l
  | [], _, e => e
  | .tmp t :: r, l, e => by
    simp only [resL, Option.bind_eq_some_iff] at e ⊢
    obtain ⟨v, hv, vs, hvs, e⟩ := e
    exact ⟨v, hs _ _ hv, vs, resL_mono hs hvs, e⟩
  | .cell x t :: r, l, e => by
    simp only [resL, Option.bind_eq_some_iff] at e ⊢
    obtain ⟨v, ⟨p, hp, hv⟩, vs, hvs, e⟩ := e
    exact ⟨v, ⟨p, hs _ _ hp, hv⟩, vs, resL_mono hs hvs, e⟩
theorem vend_mono {P : Program} (rs : List ResultVar) (R : Value → Heap → Prop) : Mono (vend P rs R) := fun s fr h hs q => onV_mono (fun _ => resL_mono hs) (fun _ => id) q
theorem vexit_mono {P : Program} (rs : List ResultVar) (R : Value → Heap → Prop) : MonoE (vexit P rs R) := by
  intro e
  cases e with
  | ret => exact vend_mono rs R
  | exit _ => exact fun _ _ _ _ q => q
  | normal => exact fun _ _ _ _ q => q
  | goto _ => exact fun _ _ _ _ q => q
  | panic _ => exact fun _ _ _ _ q => q
  | outgrown => exact fun _ _ _ _ q => q
theorem vround_mono (I : Nat → Fr → Heap → Prop) (k : Nat) : Mono fun fr' h' => ∃ k', k' < k ∧ ∃ s, Sub s fr' ∧ I k' s h' := fun s fr h hs ⟨k', hk, r, hr, hI⟩ => ⟨k', hk, r, hs.sub hr, hI⟩
theorem jmp_mono {l : Nat} {G : Fr → Heap → Prop} {E : Exit → Fr → Heap → Prop} (hG : Mono G) (hE : MonoE E) : MonoE (jmp l G E) := by
  intro e
  cases e with
  | goto l' => exact fun s fr h hs ⟨e, q⟩ => ⟨e, hG _ _ _ hs q⟩
  | exit _ => exact hE _
  | normal => exact hE _
  | ret => exact hE _
  | panic _ => exact hE _
  | outgrown => exact hE _
/-- a region that draws, cut behind it -/
theorem vdraw_cut {P : Program} {ops : Array Oper} {K : Fr → Heap → Prop} {fr : Fr} {h : Heap} (M : Fr → Heap → Prop) (hK : Mono K) (q : vdraw P ops (fun fr' h' => ∃ s, Sub s fr' ∧ M s h') fr h) (r : ∀ s h', M s h' → K s h') : vdraw P ops K fr h := by
  intro n id w0 w a E hd hA hs hw
  refine wp_mono (q n id w0 w a E hd hA hs hw) ?_
  intro e a' w' p
  cases e with
  | normal => obtain ⟨hs', fr', hA', s, hsub, hm⟩ := p; exact ⟨hs', fr', hA', hK _ _ _ hsub.sup (r s _ hm)⟩
  | exit _ => exact p
  | goto _ => exact p
  | ret => exact p
  | panic _ => exact p
  | outgrown => exact p
/-- code, cut behind it -/
theorem vc_cut {P : Program} {c : Code} {K : Fr → Heap → Prop} {E : Exit → Fr → Heap → Prop} {fr : Fr} {h : Heap} (M : Fr → Heap → Prop) (hK : Mono K) (q : vc P c (fun fr' h' => ∃ s, Sub s fr' ∧ M s h') E fr h) (r : ∀ s h', M s h' → K s h') (mono : ∀ {K K' : Fr → Heap → Prop}, (∀ fr h, K fr h → K' fr h) → vc P c K E fr h → vc P c K' E fr h) : vc P c K E fr h :=
  mono (fun fr' h' ⟨s, hs, hm⟩ => hK _ _ _ hs.sup (r s h' hm)) q
end Go.V
