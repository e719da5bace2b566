/-
  Plain law: Tarjan's way with a stack of its own finds the strong components; conditions: edges lead between numbers below the bound.
-/
set_option linter.unusedVariables false
namespace Go.Tar

/-- one number reaches another -/
inductive R (E : Nat → Nat → Bool) : Nat → Nat → Prop
  | refl (x : Nat) : R E x x
  | step {x y z : Nat} : E x y = true → R E y z → R E x z
theorem R.trans {E : Nat → Nat → Bool} {x y z : Nat} (h : R E x y) (k : R E y z) : R E x z := by
  induction h with
  | refl => exact k
  | step e _ ih => exact .step e (ih k)
theorem R.edge {E : Nat → Nat → Bool} {x y : Nat} (h : E x y = true) : R E x y := .step h (.refl y)

structure St where
  next : Nat
  num : Nat → Nat
  low : Nat → Nat
  on : Nat → Bool
  op : List Nat
  out : List (List Nat)
  stk : List (Nat × List Nat)
def upd {α : Type} (f : Nat → α) (i : Nat) (x : α) : Nat → α := fun k => if k = i then x else f k
theorem upd_same {α : Type} (f : Nat → α) (i : Nat) (x : α) : upd f i x i = x := if_pos rfl
theorem upd_ne {α : Type} (f : Nat → α) {i k : Nat} (x : α) (h : k ≠ i) : upd f i x k = f k := if_neg h

/-- what a node leads to -/
def succ (n : Nat) (E : Nat → Nat → Bool) (u : Nat) : List Nat := (List.range n).filter (E u)
theorem mem_succ {n : Nat} {E : Nat → Nat → Bool} {u y : Nat} : y ∈ succ n E u ↔ y < n ∧ E u y = true := by simp [succ]

/-- begin with a node, the stack being as handed in -/
def enter (n : Nat) (E : Nat → Nat → Bool) (σ : St) (s : List (Nat × List Nat)) (m : Nat) : St :=
  { next := σ.next + 1, num := upd σ.num m (σ.next + 1), low := upd σ.low m (σ.next + 1), on := upd σ.on m true, op := σ.op ++ [m], out := σ.out, stk := (m, succ n E m) :: s }
/-- look at an edge to a node that was met -/
def look (σ : St) (v m : Nat) (rest : List Nat) (s : List (Nat × List Nat)) : St :=
  { σ with low := if σ.on m then upd σ.low v (min (σ.low v) (σ.num m)) else σ.low, stk := (v, rest) :: s }
def lowUp (low : Nat → Nat) (v : Nat) : List (Nat × List Nat) → Nat → Nat
  | [] => low
  | (u, _) :: _ => upd low u (min (low u) (low v))
/-- a node is left, no component is told -/
def leaveA (σ : St) (v : Nat) (s : List (Nat × List Nat)) : St := { σ with low := lowUp σ.low v s, stk := s }
/-- a node is left, a component is told -/
def leaveB (σ : St) (v : Nat) (s : List (Nat × List Nat)) (pre c cs : List Nat) : St :=
  { σ with on := fun x => if x ∈ c then false else σ.on x, op := pre, out := σ.out ++ [cs], low := lowUp σ.low v s, stk := s }

structure Inv (n : Nat) (E : Nat → Nat → Bool) (σ : St) : Prop where
  a1 : ∀ x, σ.num x ≤ σ.next
  a2 : ∀ x y, σ.num x = σ.num y → σ.num x ≠ 0 → x = y
  a3 : ∀ x, σ.num x ≠ 0 → x < n
  on1 : ∀ x, σ.on x = true ↔ x ∈ σ.op
  op1 : σ.op.Pairwise (fun x y => σ.num x < σ.num y)
  op2 : ∀ x ∈ σ.op, σ.num x ≠ 0
  st1 : σ.stk.Pairwise (fun f g => σ.num g.1 < σ.num f.1 ∧ R E g.1 f.1)
  st2 : ∀ f ∈ σ.stk, f.1 ∈ σ.op
  st3 : ∀ f ∈ σ.stk, ∀ m ∈ f.2, E f.1 m = true
  ed1 : ∀ x, σ.num x ≠ 0 → ∀ y, E x y = true → σ.num y ≠ 0 ∨ ∃ f ∈ σ.stk, f.1 = x ∧ y ∈ f.2
  dn : ∀ x, σ.num x ≠ 0 → σ.on x = false → ∀ y, E x y = true → σ.num y ≠ 0 ∧ σ.on y = false
  out1 : ∀ x, (σ.num x ≠ 0 ∧ σ.on x = false) ↔ ∃ c ∈ σ.out, x ∈ c
  out2 : ∀ c ∈ σ.out, ∀ x ∈ c, ∀ y, y ∈ c ↔ (R E x y ∧ R E y x)
  out3 : ∀ c ∈ σ.out, c.Pairwise (· < ·) ∧ c ≠ []
  out4 : σ.out.Pairwise (fun c d => ∀ x ∈ c, x ∉ d)
  seg : ∀ x ∈ σ.op, ∃ f ∈ σ.stk, σ.num f.1 ≤ σ.num x ∧ R E f.1 x ∧ ∀ g ∈ σ.stk, σ.num g.1 ≤ σ.num x → σ.num g.1 ≤ σ.num f.1
  back : ∀ x ∈ σ.op, ∃ f ∈ σ.stk, σ.num f.1 ≤ σ.num x ∧ R E x f.1
  low1 : ∀ f ∈ σ.stk, ∃ y ∈ σ.op, σ.num y = σ.low f.1 ∧ R E f.1 y ∧ σ.low f.1 ≤ σ.num f.1
  lowC : ∀ f ∈ σ.stk, ∀ x ∈ σ.op, σ.num f.1 ≤ σ.num x → (∀ g ∈ σ.stk, σ.num g.1 ≤ σ.num x → σ.num g.1 ≤ σ.num f.1) → ∀ y ∈ σ.op, E x y = true → (x = f.1 ∧ y ∈ f.2) ∨ σ.low f.1 ≤ σ.num y

section
variable {n : Nat} {E : Nat → Nat → Bool} {σ : St}

theorem Inv.init : Inv n E { next := 0, num := fun _ => 0, low := fun _ => 0, on := fun _ => false, op := [], out := [], stk := [] } := by
  constructor <;> simp

/-- frames of one node are one -/
theorem Inv.one (q : Inv n E σ) : ∀ {f g : Nat × List Nat}, f ∈ σ.stk → g ∈ σ.stk → f.1 = g.1 → f = g := by
  have key : ∀ (l : List (Nat × List Nat)), l.Pairwise (fun f g => σ.num g.1 < σ.num f.1 ∧ R E g.1 f.1) → ∀ f g, f ∈ l → g ∈ l → f.1 = g.1 → f = g := by
    intro l
    induction l with
    | nil => intro _ f g h; simp at h
    | cons a r ih =>
      intro hp f g hf hg e
      obtain ⟨h1, h2⟩ := List.pairwise_cons.1 hp
      rcases List.mem_cons.1 hf with k1 | k1 <;> rcases List.mem_cons.1 hg with k2 | k2
      · rw [k1, k2]
      · have h3 := (h1 g k2).1; rw [k1] at e; rw [e] at h3; omega
      · have h3 := (h1 f k1).1; rw [k2] at e; rw [e] at h3; omega
      · exact ih h2 f g k1 k2 e
  intro f g hf hg e
  exact key _ q.st1 _ _ hf hg e

theorem Inv.empty (q : Inv n E σ) (hs : σ.stk = []) : σ.op = [] := by
  cases h : σ.op with
  | nil => rfl
  | cons x r =>
    obtain ⟨f, hf, _⟩ := q.seg x (by rw [h]; simp)
    rw [hs] at hf; simp at hf

/-- a node is begun with; ahead of it the stack is empty, or its top has the edge -/
theorem Inv.enter (q : Inv n E σ) (hE : ∀ x y, E x y = true → y < n) {s : List (Nat × List Nat)} {m : Nat} (hm : σ.num m = 0) (hmn : m < n)
    (hs : (σ.stk = [] ∧ s = []) ∨ ∃ v rest t, σ.stk = (v, m :: rest) :: t ∧ s = (v, rest) :: t) : Inv n E (Tar.enter n E σ s m) := by
  have hmo : m ∉ σ.op := fun h => q.op2 m h hm
  -- frames of the new stack below the top are those of the old one, with fewer edges
  have hfr : ∀ f ∈ s, ∃ g ∈ σ.stk, g.1 = f.1 ∧ (∀ y ∈ f.2, y ∈ g.2) ∧ (∀ y ∈ g.2, y ∈ f.2 ∨ y = m) := by
    intro f hf
    rcases hs with ⟨_, rfl⟩ | ⟨v, rest, t, h1, rfl⟩
    · simp at hf
    · rcases List.mem_cons.1 hf with rfl | hf
      · exact ⟨(v, m :: rest), by rw [h1]; simp, rfl, fun y hy => List.mem_cons_of_mem _ hy, fun y hy => by rcases List.mem_cons.1 hy with h | h; exact .inr h; exact .inl h⟩
      · exact ⟨f, by rw [h1]; exact List.mem_cons_of_mem _ hf, rfl, fun _ h => h, fun _ h => .inl h⟩
  have hbk : ∀ g ∈ σ.stk, ∃ f ∈ s, f.1 = g.1 ∧ (∀ y ∈ g.2, y ∈ f.2 ∨ y = m) := by
    intro g hg
    rcases hs with ⟨h0, _⟩ | ⟨v, rest, t, h1, rfl⟩
    · rw [h0] at hg; simp at hg
    · rw [h1] at hg
      rcases List.mem_cons.1 hg with rfl | hg
      · exact ⟨(v, rest), by simp, rfl, fun y hy => by rcases List.mem_cons.1 hy with h | h; exact .inr h; exact .inl h⟩
      · exact ⟨g, List.mem_cons_of_mem _ hg, rfl, fun _ h => .inl h⟩
  have hop : ∀ f ∈ s, f.1 ∈ σ.op := fun f hf => by obtain ⟨g, hg, e, _⟩ := hfr f hf; rw [← e]; exact q.st2 g hg
  have hne : ∀ f ∈ s, f.1 ≠ m := fun f hf e => hmo (e ▸ hop f hf)
  have num1 : ∀ x, x ≠ m → upd σ.num m (σ.next + 1) x = σ.num x := fun x hx => upd_ne _ _ hx
  have low1' : ∀ x, x ≠ m → upd σ.low m (σ.next + 1) x = σ.low x := fun x hx => upd_ne _ _ hx
  have onm : ∀ x ∈ σ.op, x ≠ m := fun x hx e => hmo (e ▸ hx)
  have hsp : s.Pairwise (fun f g => σ.num g.1 < σ.num f.1 ∧ R E g.1 f.1) := by
    rcases hs with ⟨_, rfl⟩ | ⟨v, rest, t, h1, rfl⟩
    · exact List.Pairwise.nil
    · have := q.st1
      rw [h1, List.pairwise_cons] at this
      exact List.pairwise_cons.2 this
  have reach : ∀ f ∈ s, R E f.1 m := by
    intro f hf
    rcases hs with ⟨_, rfl⟩ | ⟨v, rest, t, h1, rfl⟩
    · simp at hf
    · have hvm : R E v m := R.edge (q.st3 (v, m :: rest) (by rw [h1]; simp) m (by simp))
      rcases List.mem_cons.1 hf with rfl | hf
      · exact hvm
      · exact ((List.pairwise_cons.1 hsp).1 f hf).2.trans hvm
  constructor
  · intro x
    show upd σ.num m (σ.next + 1) x ≤ σ.next + 1
    by_cases e : x = m
    · subst e; rw [upd_same]; exact Nat.le_refl _
    · rw [num1 x e]; exact Nat.le_succ_of_le (q.a1 x)
  · intro x y
    show upd σ.num m (σ.next + 1) x = upd σ.num m (σ.next + 1) y → upd σ.num m (σ.next + 1) x ≠ 0 → x = y
    by_cases e : x = m <;> by_cases e' : y = m
    · intros; rw [e, e']
    · rw [e, upd_same, num1 y e']; intro h; have := q.a1 y; omega
    · rw [e', upd_same, num1 x e]; intro h; have := q.a1 x; omega
    · rw [num1 x e, num1 y e']; exact q.a2 x y
  · intro x
    show upd σ.num m (σ.next + 1) x ≠ 0 → x < n
    by_cases e : x = m
    · intro _; rw [e]; exact hmn
    · rw [num1 x e]; exact q.a3 x
  · intro x
    show upd σ.on m true x = true ↔ x ∈ σ.op ++ [m]
    by_cases e : x = m
    · subst e; simp [upd_same]
    · rw [upd_ne _ _ e, q.on1 x]; simp [e]
  · show (σ.op ++ [m]).Pairwise (fun x y => upd σ.num m (σ.next + 1) x < upd σ.num m (σ.next + 1) y)
    rw [List.pairwise_append]
    refine ⟨?_, by simp, ?_⟩
    · refine q.op1.imp_of_mem ?_
      intro a b ha hb h
      rw [num1 a (onm a ha), num1 b (onm b hb)]; exact h
    · intro a ha b hb
      simp only [List.mem_singleton] at hb
      subst hb
      rw [num1 a (onm a ha), upd_same]
      have := q.a1 a; omega
  · intro x hx
    show upd σ.num m (σ.next + 1) x ≠ 0
    by_cases e : x = m
    · subst e; rw [upd_same]; omega
    · rw [num1 x e]
      refine q.op2 x ?_
      have hx' : x ∈ σ.op ++ [m] := hx
      simpa [e] using hx'
  · show ((m, succ n E m) :: s).Pairwise (fun f g => upd σ.num m (σ.next + 1) g.1 < upd σ.num m (σ.next + 1) f.1 ∧ R E g.1 f.1)
    rw [List.pairwise_cons]
    refine ⟨fun g hg => ?_, ?_⟩
    · rw [num1 _ (hne g hg), upd_same]
      exact ⟨by have := q.a1 g.1; omega, reach g hg⟩
    · refine hsp.imp_of_mem ?_
      intro a b ha hb h
      rw [num1 _ (hne a ha), num1 _ (hne b hb)]; exact h
  · intro f hf
    show f.1 ∈ σ.op ++ [m]
    rcases List.mem_cons.1 hf with rfl | hf
    · simp
    · exact List.mem_append_left _ (hop f hf)
  · intro f hf y hy
    rcases List.mem_cons.1 hf with rfl | hf
    · exact (mem_succ.1 hy).2
    · obtain ⟨g, hg, e, h1, _⟩ := hfr f hf
      rw [← e]; exact q.st3 g hg y (h1 y hy)
  · intro x
    show upd σ.num m (σ.next + 1) x ≠ 0 → ∀ y, E x y = true → upd σ.num m (σ.next + 1) y ≠ 0 ∨ ∃ f ∈ (m, succ n E m) :: s, f.1 = x ∧ y ∈ f.2
    intro hx y hy
    by_cases e : x = m
    · right; exact ⟨(m, succ n E m), by simp, e.symm, mem_succ.2 ⟨hE x y hy, e ▸ hy⟩⟩
    · rw [num1 x e] at hx
      by_cases e' : y = m
      · left; rw [e', upd_same]; omega
      · rw [num1 y e']
        rcases q.ed1 x hx y hy with h | ⟨g, hg, h1, h2⟩
        · exact .inl h
        · obtain ⟨f, hf, h3, h4⟩ := hbk g hg
          rcases h4 y h2 with h5 | h5
          · exact .inr ⟨f, List.mem_cons_of_mem _ hf, by rw [h3, h1], h5⟩
          · exact absurd h5 e'
  · intro x
    show upd σ.num m (σ.next + 1) x ≠ 0 → upd σ.on m true x = false → ∀ y, E x y = true → upd σ.num m (σ.next + 1) y ≠ 0 ∧ upd σ.on m true y = false
    intro hx ho y hy
    by_cases e : x = m
    · rw [e, upd_same] at ho; cases ho
    · rw [num1 x e] at hx
      rw [upd_ne _ _ e] at ho
      obtain ⟨h1, h2⟩ := q.dn x hx ho y hy
      have e' : y ≠ m := by rintro rfl; exact h1 hm
      rw [num1 y e', upd_ne _ _ e']; exact ⟨h1, h2⟩
  · intro x
    show (upd σ.num m (σ.next + 1) x ≠ 0 ∧ upd σ.on m true x = false) ↔ ∃ c ∈ σ.out, x ∈ c
    by_cases e : x = m
    · subst e
      rw [upd_same]
      constructor
      · rintro ⟨_, h⟩; rw [upd_same] at h; cases h
      · intro h; exact absurd hm ((q.out1 x).2 h).1
    · rw [num1 x e, upd_ne _ _ e]; exact q.out1 x
  · exact q.out2
  · exact q.out3
  · exact q.out4
  · intro x hx
    show ∃ f ∈ (m, succ n E m) :: s, upd σ.num m (σ.next + 1) f.1 ≤ upd σ.num m (σ.next + 1) x ∧ R E f.1 x ∧ ∀ g ∈ (m, succ n E m) :: s, upd σ.num m (σ.next + 1) g.1 ≤ upd σ.num m (σ.next + 1) x → upd σ.num m (σ.next + 1) g.1 ≤ upd σ.num m (σ.next + 1) f.1
    by_cases e : x = m
    · subst e
      exact ⟨_, List.mem_cons_self .., Nat.le_refl _, R.refl _, fun g hg h => h⟩
    · have hx' : x ∈ σ.op := by
        have hx' : x ∈ σ.op ++ [m] := hx
        simpa [e] using hx'
      obtain ⟨g, hg, h1, h2, h3⟩ := q.seg x hx'
      obtain ⟨f, hf, h4, _⟩ := hbk g hg
      refine ⟨f, List.mem_cons_of_mem _ hf, ?_, by rw [h4]; exact h2, ?_⟩
      · rw [num1 _ (hne f hf), num1 x e, h4]; exact h1
      · intro k hk hkx
        rw [num1 x e] at hkx
        rcases List.mem_cons.1 hk with rfl | hk
        · simp only [upd_same] at hkx
          have := q.a1 x; omega
        · rw [num1 _ (hne k hk)] at hkx ⊢
          rw [num1 _ (hne f hf), h4]
          obtain ⟨k', hk', e', _⟩ := hfr k hk
          rw [← e'] at hkx ⊢
          exact h3 k' hk' hkx
  · intro x hx
    show ∃ f ∈ (m, succ n E m) :: s, upd σ.num m (σ.next + 1) f.1 ≤ upd σ.num m (σ.next + 1) x ∧ R E x f.1
    by_cases e : x = m
    · subst e; exact ⟨_, List.mem_cons_self .., Nat.le_refl _, R.refl _⟩
    · have hx' : x ∈ σ.op := by
        have hx' : x ∈ σ.op ++ [m] := hx
        simpa [e] using hx'
      obtain ⟨g, hg, h1, h2⟩ := q.back x hx'
      obtain ⟨f, hf, h4, _⟩ := hbk g hg
      refine ⟨f, List.mem_cons_of_mem _ hf, ?_, by rw [h4]; exact h2⟩
      rw [num1 _ (hne f hf), num1 x e, h4]; exact h1
  · intro f hf
    show ∃ y ∈ σ.op ++ [m], upd σ.num m (σ.next + 1) y = upd σ.low m (σ.next + 1) f.1 ∧ R E f.1 y ∧ upd σ.low m (σ.next + 1) f.1 ≤ upd σ.num m (σ.next + 1) f.1
    rcases List.mem_cons.1 hf with rfl | hf
    · exact ⟨m, by simp, by simp [upd_same], R.refl _, by simp [upd_same]⟩
    · obtain ⟨g, hg, e, _⟩ := hfr f hf
      obtain ⟨y, hy, h1, h2, h3⟩ := q.low1 g hg
      rw [e] at h1 h2 h3
      refine ⟨y, List.mem_append_left _ hy, ?_, h2, ?_⟩
      · rw [num1 y (onm y hy), low1' _ (hne f hf)]; exact h1
      · rw [num1 _ (hne f hf), low1' _ (hne f hf)]; exact h3
  · intro f hf x hx
    show upd σ.num m (σ.next + 1) f.1 ≤ upd σ.num m (σ.next + 1) x → (∀ g ∈ (m, succ n E m) :: s, upd σ.num m (σ.next + 1) g.1 ≤ upd σ.num m (σ.next + 1) x → upd σ.num m (σ.next + 1) g.1 ≤ upd σ.num m (σ.next + 1) f.1) → ∀ y ∈ σ.op ++ [m], E x y = true → (x = f.1 ∧ y ∈ f.2) ∨ upd σ.low m (σ.next + 1) f.1 ≤ upd σ.num m (σ.next + 1) y
    intro hfx hnear y hy hxy
    rcases List.mem_cons.1 hf with rfl | hf
    · -- the new node itself
      simp only [upd_same] at hfx
      by_cases e : x = m
      · left; exact ⟨e, mem_succ.2 ⟨hE x y hxy, e ▸ hxy⟩⟩
      · rw [num1 x e] at hfx; have := q.a1 x; omega
    · by_cases e : x = m
      · -- the nearest one of the new node is itself
        have := hnear (m, succ n E m) (by simp) (by simp [e])
        rw [num1 _ (hne f hf)] at this
        simp only [upd_same] at this
        have := q.a1 f.1; omega
      · have hx' : x ∈ σ.op := by
          have hx' : x ∈ σ.op ++ [m] := hx
          simpa [e] using hx'
        rw [num1 _ (hne f hf), num1 x e] at hfx
        rw [low1' _ (hne f hf)]
        obtain ⟨g, hg, eg, hin, hout⟩ := hfr f hf
        by_cases e' : y = m
        · -- an edge to the new node: only from the top
          subst e'
          right
          rw [upd_same]
          obtain ⟨z, hz, h1, _, h3⟩ := q.low1 g hg
          rw [eg] at h3
          have := q.a1 f.1; omega
        · have hy' : y ∈ σ.op := by simpa [e'] using hy
          rw [num1 y e']
          have := q.lowC g hg x hx' (by rw [eg]; exact hfx) (fun k hk hkx => by
            obtain ⟨k', hk', e2, _⟩ := hbk k hk
            have := hnear k' (List.mem_cons_of_mem _ hk') (by rw [num1 _ (hne k' hk'), num1 x e, e2]; exact hkx)
            rw [num1 _ (hne k' hk'), num1 _ (hne f hf), e2] at this
            rw [eg]; exact this) y hy' hxy
          rcases this with ⟨h1, h2⟩ | h1
          · rcases hout y h2 with h3 | h3
            · exact .inl ⟨by rw [h1, eg], h3⟩
            · exact absurd h3 e'
          · right; rw [← eg]; exact h1

/-- an edge to a node that was met -/
theorem Inv.look (q : Inv n E σ) {v m : Nat} {rest : List Nat} {s : List (Nat × List Nat)} (hs : σ.stk = (v, m :: rest) :: s) (hm : σ.num m ≠ 0) : Inv n E (Tar.look σ v m rest s) := by
  have hvin : (v, m :: rest) ∈ σ.stk := by rw [hs]; simp
  have hfr : ∀ f ∈ (v, rest) :: s, ∃ g ∈ σ.stk, g.1 = f.1 ∧ (∀ y ∈ f.2, y ∈ g.2) ∧ (∀ y ∈ g.2, y ∈ f.2 ∨ (f.1 = v ∧ y = m)) := by
    intro f hf
    rcases List.mem_cons.1 hf with rfl | hf
    · exact ⟨(v, m :: rest), hvin, rfl, fun y hy => List.mem_cons_of_mem _ hy, fun y hy => by rcases List.mem_cons.1 hy with h | h; exact .inr ⟨rfl, h⟩; exact .inl h⟩
    · exact ⟨f, by rw [hs]; exact List.mem_cons_of_mem _ hf, rfl, fun _ h => h, fun _ h => .inl h⟩
  have hbk : ∀ g ∈ σ.stk, ∃ f ∈ (v, rest) :: s, f.1 = g.1 ∧ (∀ y ∈ g.2, y ∈ f.2 ∨ (g.1 = v ∧ y = m)) := by
    intro g hg
    rw [hs] at hg
    rcases List.mem_cons.1 hg with rfl | hg
    · exact ⟨(v, rest), by simp, rfl, fun y hy => by rcases List.mem_cons.1 hy with h | h; exact .inr ⟨rfl, h⟩; exact .inl h⟩
    · exact ⟨g, List.mem_cons_of_mem _ hg, rfl, fun _ h => .inl h⟩
  have hvop := q.st2 _ hvin
  have hlow : ∀ x, (Tar.look σ v m rest s).low x ≤ σ.low x := by
    intro x
    show (if σ.on m then upd σ.low v (min (σ.low v) (σ.num m)) else σ.low) x ≤ σ.low x
    split
    · by_cases e : x = v
      · subst e; rw [upd_same]; exact Nat.min_le_left _ _
      · rw [upd_ne _ _ e]; exact Nat.le_refl _
    · exact Nat.le_refl _
  constructor
  · exact q.a1
  · exact q.a2
  · exact q.a3
  · exact q.on1
  · exact q.op1
  · exact q.op2
  · show ((v, rest) :: s).Pairwise (fun f g => σ.num g.1 < σ.num f.1 ∧ R E g.1 f.1)
    have := q.st1
    rw [hs, List.pairwise_cons] at this
    exact List.pairwise_cons.2 this
  · intro f hf
    obtain ⟨g, hg, e, _⟩ := hfr f hf
    rw [← e]; exact q.st2 g hg
  · intro f hf y hy
    obtain ⟨g, hg, e, h1, _⟩ := hfr f hf
    rw [← e]; exact q.st3 g hg y (h1 y hy)
  · intro x hx y hy
    rcases q.ed1 x hx y hy with h | ⟨g, hg, h1, h2⟩
    · exact .inl h
    · obtain ⟨f, hf, h3, h4⟩ := hbk g hg
      rcases h4 y h2 with h5 | ⟨_, h5⟩
      · exact .inr ⟨f, hf, by rw [h3, h1], h5⟩
      · left; rw [h5]; exact hm
  · exact q.dn
  · exact q.out1
  · exact q.out2
  · exact q.out3
  · exact q.out4
  · intro x hx
    obtain ⟨g, hg, h1, h2, h3⟩ := q.seg x hx
    obtain ⟨f, hf, h4, _⟩ := hbk g hg
    refine ⟨f, hf, by rw [h4]; exact h1, by rw [h4]; exact h2, fun k hk hkx => ?_⟩
    obtain ⟨k', hk', e', _⟩ := hfr k hk
    rw [h4, ← e']
    exact h3 k' hk' (by rw [e']; exact hkx)
  · intro x hx
    obtain ⟨g, hg, h1, h2⟩ := q.back x hx
    obtain ⟨f, hf, h4, _⟩ := hbk g hg
    exact ⟨f, hf, by rw [h4]; exact h1, by rw [h4]; exact h2⟩
  · intro f hf
    obtain ⟨g, hg, e, _⟩ := hfr f hf
    obtain ⟨y, hy, h1, h2, h3⟩ := q.low1 g hg
    rw [e] at h1 h2 h3
    show ∃ y ∈ σ.op, σ.num y = (if σ.on m then upd σ.low v (min (σ.low v) (σ.num m)) else σ.low) f.1 ∧ R E f.1 y ∧ (if σ.on m then upd σ.low v (min (σ.low v) (σ.num m)) else σ.low) f.1 ≤ σ.num f.1
    split
    · rename_i hon
      by_cases ev : f.1 = v
      · rw [ev, upd_same]
        rw [ev] at h1 h2 h3
        by_cases hle : σ.low v ≤ σ.num m
        · rw [Nat.min_eq_left hle]; exact ⟨y, hy, h1, h2, h3⟩
        · rw [Nat.min_eq_right (by omega)]
          exact ⟨m, (q.on1 m).1 hon, rfl, R.edge (q.st3 _ hvin m (by simp)), by omega⟩
      · rw [upd_ne _ _ ev]; exact ⟨y, hy, h1, h2, h3⟩
    · exact ⟨y, hy, h1, h2, h3⟩
  · intro f hf x hx hfx hnear y hy hxy
    obtain ⟨g, hg, eg, hin, hout⟩ := hfr f hf
    have hfx' : σ.num f.1 ≤ σ.num x := hfx
    have := q.lowC g hg x hx (by rw [eg]; exact hfx') (fun k hk hkx => by
      obtain ⟨k', hk', e2, _⟩ := hbk k hk
      have := hnear k' hk' (by show σ.num k'.1 ≤ σ.num x; rw [e2]; exact hkx)
      have this' : σ.num k'.1 ≤ σ.num f.1 := this
      rw [e2] at this'
      rw [eg]; exact this') y hy hxy
    rcases this with ⟨h1, h2⟩ | h1
    · rcases hout y h2 with h3 | ⟨h3, h4⟩
      · exact .inl ⟨by rw [h1, eg], h3⟩
      · -- the edge that is looked at
        right
        show (if σ.on m then upd σ.low v (min (σ.low v) (σ.num m)) else σ.low) f.1 ≤ σ.num y
        have hon : σ.on m = true := (q.on1 m).2 (h4 ▸ hy)
        rw [if_pos hon, h3, upd_same, h4]
        exact Nat.min_le_right _ _
    · right
      rw [eg] at h1
      exact Nat.le_trans (hlow f.1) h1

/-- the top is left, and has reached beneath itself -/
theorem Inv.leaveA (q : Inv n E σ) {v : Nat} {s : List (Nat × List Nat)} (hs : σ.stk = (v, []) :: s) (hl : σ.low v ≠ σ.num v) : Inv n E (Tar.leaveA σ v s) ∧ s ≠ [] := by
  have hvin : (v, []) ∈ σ.stk := by rw [hs]; simp
  have hvop := q.st2 _ hvin
  have hpw := q.st1
  rw [hs, List.pairwise_cons] at hpw
  obtain ⟨hp1, hp2⟩ := hpw
  obtain ⟨yv, hyv, hy1, hy2, hy3⟩ := q.low1 _ hvin
  simp only at hy1 hy2 hy3
  have hlt : σ.low v < σ.num v := by omega
  have hin : ∀ g ∈ s, g ∈ σ.stk := fun g hg => by rw [hs]; exact List.mem_cons_of_mem _ hg
  have hcase : ∀ g ∈ σ.stk, g = (v, []) ∨ g ∈ s := fun g hg => by rw [hs] at hg; exact List.mem_cons.1 hg
  obtain ⟨fb, hfb, hb1, hb2⟩ := q.back yv hyv
  have hfbs : fb ∈ s := by
    rcases hcase fb hfb with rfl | h
    · simp only at hb1; omega
    · exact h
  cases hss : s with
  | nil => rw [hss] at hfbs; simp at hfbs
  | cons top t =>
    obtain ⟨u, ru⟩ := top
    have huin : (u, ru) ∈ s := by rw [hss]; simp
    have huv : σ.num u < σ.num v ∧ R E u v := hp1 _ huin
    have hmaxu : ∀ g ∈ s, σ.num g.1 ≤ σ.num u := by
      intro g hg
      rw [hss] at hg hp2
      rcases List.mem_cons.1 hg with rfl | hg
      · exact Nat.le_refl _
      · exact Nat.le_of_lt ((List.pairwise_cons.1 hp2).1 g hg).1
    have hlow : ∀ x, x ≠ u → lowUp σ.low v ((u, ru) :: t) x = σ.low x := fun x hx => upd_ne _ _ hx
    have hlowu : lowUp σ.low v ((u, ru) :: t) u = min (σ.low u) (σ.low v) := upd_same _ _ _
    have hle : ∀ x, lowUp σ.low v ((u, ru) :: t) x ≤ σ.low x := by
      intro x
      by_cases e : x = u
      · subst e; rw [hlowu]; exact Nat.min_le_left _ _
      · rw [hlow x e]; exact Nat.le_refl _
    rw [← hss]
    refine ⟨?_, by rw [hss]; simp⟩
    have hlu : ∀ x, (Tar.leaveA σ v s).low x = lowUp σ.low v ((u, ru) :: t) x := fun x => by rw [← hss]; rfl
    constructor
    · exact q.a1
    · exact q.a2
    · exact q.a3
    · exact q.on1
    · exact q.op1
    · exact q.op2
    · exact hp2
    · exact fun f hf => q.st2 f (hin f hf)
    · exact fun f hf => q.st3 f (hin f hf)
    · intro x hx y hy
      rcases q.ed1 x hx y hy with h | ⟨g, hg, h1, h2⟩
      · exact .inl h
      · rcases hcase g hg with rfl | hg
        · simp at h2
        · exact .inr ⟨g, hg, h1, h2⟩
    · exact q.dn
    · exact q.out1
    · exact q.out2
    · exact q.out3
    · exact q.out4
    · intro x hx
      obtain ⟨f, hf, h1, h2, h3⟩ := q.seg x hx
      rcases hcase f hf with rfl | hf
      · simp only at h1 h2
        exact ⟨(u, ru), huin, by show σ.num u ≤ σ.num x; omega, huv.2.trans h2, fun g hg _ => hmaxu g hg⟩
      · exact ⟨f, hf, h1, h2, fun g hg h => h3 g (hin g hg) h⟩
    · intro x hx
      obtain ⟨f, hf, h1, h2⟩ := q.back x hx
      rcases hcase f hf with rfl | hf
      · simp only at h1 h2
        exact ⟨fb, hfbs, by show σ.num fb.1 ≤ σ.num x; omega, h2.trans (hy2.trans hb2)⟩
      · exact ⟨f, hf, h1, h2⟩
    · intro f hf
      rw [hlu]
      obtain ⟨y, hy, h1, h2, h3⟩ := q.low1 f (hin f hf)
      by_cases e : f.1 = u
      · rw [e, hlowu]
        rw [e] at h1 h2 h3
        by_cases hc : σ.low u ≤ σ.low v
        · rw [Nat.min_eq_left hc]; exact ⟨y, hy, h1, h2, h3⟩
        · rw [Nat.min_eq_right (by omega)]
          exact ⟨yv, hyv, hy1, huv.2.trans hy2, by show σ.low v ≤ σ.num u; omega⟩
      · rw [hlow _ e]; exact ⟨y, hy, h1, h2, h3⟩
    · intro f hf x hx hfx hnear y hy hxy
      rw [hlu]
      have hfx' : σ.num f.1 ≤ σ.num x := hfx
      by_cases hvx : σ.num v ≤ σ.num x
      · -- the nearest one was the top
        have hnu : σ.num u ≤ σ.num f.1 := hnear (u, ru) huin (by show σ.num u ≤ σ.num x; omega)
        have hfu : f.1 = u := q.a2 _ _ (by have := hmaxu f hf; omega) (q.op2 _ (q.st2 f (hin f hf)))
        have := q.lowC _ hvin x hx hvx (fun g hg _ => by
          rcases hcase g hg with rfl | hg
          · exact Nat.le_refl _
          · exact Nat.le_of_lt (hp1 g hg).1) y hy hxy
        rcases this with ⟨_, h2⟩ | h1
        · simp at h2
        · right
          rw [hfu, hlowu]
          simp only at h1
          exact Nat.le_trans (Nat.min_le_right _ _) h1
      · have := q.lowC f (hin f hf) x hx hfx' (fun g hg h => by
          rcases hcase g hg with rfl | hg
          · exact absurd h hvx
          · exact hnear g hg h) y hy hxy
        rcases this with h | h
        · exact .inl h
        · exact .inr (Nat.le_trans (hle f.1) h)

/-- the top is left, and has reached nothing beneath itself: a component -/
theorem Inv.leaveB (q : Inv n E σ) {v : Nat} {s : List (Nat × List Nat)} (hs : σ.stk = (v, []) :: s) (hl : σ.low v = σ.num v) {pre c cs : List Nat} (hop : σ.op = pre ++ c) (hc : c.head? = some v)
    (hcs : cs.Perm c) (hsort : cs.Pairwise (· < ·)) : Inv n E (Tar.leaveB σ v s pre c cs) := by
  have hvin : (v, []) ∈ σ.stk := by rw [hs]; simp
  have hvop := q.st2 _ hvin
  have hpw := q.st1
  rw [hs, List.pairwise_cons] at hpw
  obtain ⟨hp1, hp2⟩ := hpw
  have hin : ∀ g ∈ s, g ∈ σ.stk := fun g hg => by rw [hs]; exact List.mem_cons_of_mem _ hg
  have hcase : ∀ g ∈ σ.stk, g = (v, []) ∨ g ∈ s := fun g hg => by rw [hs] at hg; exact List.mem_cons.1 hg
  have hvmax : ∀ g ∈ σ.stk, σ.num g.1 ≤ σ.num v := by
    intro g hg
    rcases hcase g hg with rfl | hg
    · exact Nat.le_refl _
    · exact Nat.le_of_lt (hp1 g hg).1
  obtain ⟨c', rfl⟩ : ∃ c', c = v :: c' := by
    cases c with
    | nil => simp at hc
    | cons a r => simp at hc; exact ⟨r, by rw [hc]⟩
  have hpo := q.op1
  rw [hop, List.pairwise_append] at hpo
  obtain ⟨hpre, hcc, hcross⟩ := hpo
  have hS : ∀ x ∈ σ.op, (x ∈ v :: c' ↔ σ.num v ≤ σ.num x) := by
    intro x hx
    constructor
    · intro h
      rcases List.mem_cons.1 h with rfl | h
      · exact Nat.le_refl _
      · exact Nat.le_of_lt ((List.pairwise_cons.1 hcc).1 x h)
    · intro h
      rw [hop] at hx
      rcases List.mem_append.1 hx with hx | hx
      · have := hcross x hx v (by simp); omega
      · exact hx
  have hSop : ∀ x ∈ v :: c', x ∈ σ.op := fun x hx => by rw [hop]; exact List.mem_append_right _ hx
  have hpreop : ∀ x ∈ pre, x ∈ σ.op ∧ x ∉ v :: c' ∧ σ.num x < σ.num v := by
    intro x hx
    have h1 : x ∈ σ.op := by rw [hop]; exact List.mem_append_left _ hx
    have h2 := hcross x hx v (by simp)
    exact ⟨h1, fun h => by have := (hS x h1).1 h; omega, h2⟩
  have hprei : ∀ x ∈ σ.op, σ.num x < σ.num v → x ∈ pre := by
    intro x hx h
    rw [hop] at hx
    rcases List.mem_append.1 hx with hx' | hx'
    · exact hx'
    · have := (hS x (by rw [hop]; exact hx)).1 hx'; omega
  have hSnear : ∀ x ∈ v :: c', ∀ g ∈ σ.stk, σ.num g.1 ≤ σ.num x → σ.num g.1 ≤ σ.num v := fun x hx g hg _ => hvmax g hg
  -- an edge from the component leads into it, or to what is done
  have hcl : ∀ x ∈ v :: c', ∀ y, E x y = true → y ∈ v :: c' ∨ (σ.num y ≠ 0 ∧ σ.on y = false) := by
    intro x hx y hy
    have hxo := hSop x hx
    have hvx := (hS x hxo).1 hx
    have hy0 : σ.num y ≠ 0 := by
      rcases q.ed1 x (q.op2 x hxo) y hy with h | ⟨g, hg, h1, h2⟩
      · exact h
      · rcases hcase g hg with rfl | hg
        · simp at h2
        · have h3 := (hp1 g hg).1
          rw [h1] at h3
          have h4 : σ.num x < σ.num v := h3
          omega
    by_cases hon : σ.on y = true
    · left
      have hyo := (q.on1 y).1 hon
      rw [hS y hyo]
      rcases q.lowC _ hvin x hxo hvx (hSnear x hx) y hyo hy with ⟨_, h2⟩ | h1
      · simp at h2
      · simp only at h1; omega
    · right; exact ⟨hy0, by simpa using hon⟩
  have hdone : ∀ x y, R E x y → (σ.num x ≠ 0 ∧ σ.on x = false) → σ.num y ≠ 0 ∧ σ.on y = false := by
    intro x y hr
    induction hr with
    | refl => exact id
    | step e _ ih => intro h; exact ih (q.dn _ h.1 h.2 _ e)
  have hreach : ∀ x y, R E x y → x ∈ v :: c' → y ∈ v :: c' ∨ (σ.num y ≠ 0 ∧ σ.on y = false) := by
    intro x y hr
    induction hr with
    | refl => exact .inl
    | step e hr ih =>
      intro h
      rcases hcl _ h _ e with h | h
      · exact ih h
      · exact .inr (hdone _ _ hr h)
  have hfrom : ∀ x ∈ v :: c', R E v x := by
    intro x hx
    have hxo := hSop x hx
    obtain ⟨f, hf, h1, h2, h3⟩ := q.seg x hxo
    have := h3 _ hvin ((hS x hxo).1 hx)
    have e : f.1 = v := q.a2 _ _ (by have := hvmax f hf; simp only at *; omega) (q.op2 _ (q.st2 f hf))
    rw [← e]; exact h2
  have hto : ∀ x ∈ v :: c', R E x v := by
    intro x hx
    have hxo := hSop x hx
    obtain ⟨f, hf, h1, h2⟩ := q.back x hxo
    have hfo := q.st2 f hf
    rcases hreach x f.1 h2 hx with h | ⟨_, h⟩
    · have := (hS _ hfo).1 h
      have e : f.1 = v := q.a2 _ _ (by have := hvmax f hf; omega) (q.op2 _ hfo)
      rw [← e]; exact h2
    · have := (q.on1 _).2 hfo; rw [h] at this; cases this
  have hcsm : ∀ x, x ∈ cs ↔ x ∈ v :: c' := fun x => hcs.mem_iff
  have hold : ∀ d ∈ σ.out, ∀ x ∈ d, σ.num x ≠ 0 ∧ σ.on x = false := fun d hd x hx => (q.out1 x).2 ⟨d, hd, hx⟩
  have hlow : ∀ f ∈ s, lowUp σ.low v s f.1 = σ.low f.1 := by
    intro f hf
    cases hss : s with
    | nil => rfl
    | cons top t =>
      obtain ⟨u, ru⟩ := top
      show upd σ.low u (min (σ.low u) (σ.low v)) f.1 = σ.low f.1
      by_cases e : f.1 = u
      · have huin : (u, ru) ∈ s := by rw [hss]; simp
        obtain ⟨y, hy, h1, h2, h3⟩ := q.low1 _ (hin _ huin)
        have := (hp1 _ huin).1
        simp only at h3 this
        rw [e, upd_same, Nat.min_eq_left (by omega)]
      · rw [upd_ne _ _ e]
  have hon' : ∀ x, (Tar.leaveB σ v s pre (v :: c') cs).on x = if x ∈ v :: c' then false else σ.on x := fun _ => rfl
  have hnin : ∀ x, σ.on x = false → x ∉ v :: c' := fun x h h' => by have := (q.on1 x).2 (hSop x h'); rw [h] at this; cases this
  constructor
  · exact q.a1
  · exact q.a2
  · exact q.a3
  · intro x
    rw [hon']
    show (if x ∈ v :: c' then false else σ.on x) = true ↔ x ∈ pre
    by_cases h : x ∈ v :: c'
    · rw [if_pos h]
      constructor
      · intro h'; cases h'
      · intro h'; exact absurd h (hpreop x h').2.1
    · rw [if_neg h, q.on1 x, hop, List.mem_append]
      constructor
      · rintro (h' | h')
        · exact h'
        · exact absurd h' h
      · exact .inl
  · exact hpre
  · exact fun x hx => q.op2 x (hpreop x hx).1
  · exact hp2
  · exact fun f hf => hprei _ (q.st2 f (hin f hf)) (hp1 f hf).1
  · exact fun f hf => q.st3 f (hin f hf)
  · intro x hx y hy
    rcases q.ed1 x hx y hy with h | ⟨g, hg, h1, h2⟩
    · exact .inl h
    · rcases hcase g hg with rfl | hg
      · simp at h2
      · exact .inr ⟨g, hg, h1, h2⟩
  · intro x hx
    rw [hon']
    intro ho y hy
    rw [hon']
    show σ.num y ≠ 0 ∧ _
    by_cases h : x ∈ v :: c'
    · rcases hcl x h y hy with h' | ⟨h1, h2⟩
      · exact ⟨q.op2 y (hSop y h'), by rw [if_pos h']⟩
      · exact ⟨h1, by rw [if_neg (hnin y h2)]; exact h2⟩
    · rw [if_neg h] at ho
      obtain ⟨h1, h2⟩ := q.dn x hx ho y hy
      exact ⟨h1, by rw [if_neg (hnin y h2)]; exact h2⟩
  · intro x
    rw [hon']
    show (σ.num x ≠ 0 ∧ _) ↔ ∃ d ∈ σ.out ++ [cs], x ∈ d
    by_cases h : x ∈ v :: c'
    · rw [if_pos h]
      exact ⟨fun _ => ⟨cs, by simp, (hcsm x).2 h⟩, fun _ => ⟨q.op2 x (hSop x h), rfl⟩⟩
    · rw [if_neg h, q.out1 x]
      constructor
      · rintro ⟨d, hd, hx⟩; exact ⟨d, List.mem_append_left _ hd, hx⟩
      · rintro ⟨d, hd, hx⟩
        rcases List.mem_append.1 hd with hd | hd
        · exact ⟨d, hd, hx⟩
        · simp only [List.mem_singleton] at hd
          subst hd
          exact absurd ((hcsm x).1 hx) h
  · intro d hd x hx y
    rcases List.mem_append.1 hd with hd | hd
    · exact q.out2 d hd x hx y
    · simp only [List.mem_singleton] at hd
      subst hd
      rw [hcsm] at hx ⊢
      constructor
      · intro hy; exact ⟨(hto x hx).trans (hfrom y hy), (hto y hy).trans (hfrom x hx)⟩
      · rintro ⟨h1, h2⟩
        rcases hreach x y h1 hx with h | h
        · exact h
        · exact absurd hx (hnin x (hdone y x h2 h).2)
  · intro d hd
    rcases List.mem_append.1 hd with hd | hd
    · exact q.out3 d hd
    · simp only [List.mem_singleton] at hd
      subst hd
      exact ⟨hsort, fun e => by have := (hcsm v).2 (by simp); rw [e] at this; simp at this⟩
  · show (σ.out ++ [cs]).Pairwise (fun c d => ∀ x ∈ c, x ∉ d)
    rw [List.pairwise_append]
    refine ⟨q.out4, by simp, ?_⟩
    intro d hd e he x hx
    simp only [List.mem_singleton] at he
    subst he
    rw [hcsm]
    exact hnin x (hold d hd x hx).2
  · intro x hx
    obtain ⟨hxo, _, hxv⟩ := hpreop x hx
    obtain ⟨f, hf, h1, h2, h3⟩ := q.seg x hxo
    rcases hcase f hf with rfl | hf
    · simp only at h1; omega
    · exact ⟨f, hf, h1, h2, fun g hg h => h3 g (hin g hg) h⟩
  · intro x hx
    obtain ⟨hxo, _, hxv⟩ := hpreop x hx
    obtain ⟨f, hf, h1, h2⟩ := q.back x hxo
    rcases hcase f hf with rfl | hf
    · simp only at h1; omega
    · exact ⟨f, hf, h1, h2⟩
  · intro f hf
    show ∃ y ∈ pre, σ.num y = lowUp σ.low v s f.1 ∧ R E f.1 y ∧ lowUp σ.low v s f.1 ≤ σ.num f.1
    rw [hlow f hf]
    obtain ⟨y, hy, h1, h2, h3⟩ := q.low1 f (hin f hf)
    have := (hp1 f hf).1
    simp only at this
    exact ⟨y, hprei y hy (by omega), h1, h2, h3⟩
  · intro f hf x hx hfx hnear y hy hxy
    show _ ∨ lowUp σ.low v s f.1 ≤ σ.num y
    rw [hlow f hf]
    obtain ⟨hxo, _, hxv⟩ := hpreop x hx
    exact q.lowC f (hin f hf) x hxo hfx (fun g hg h => by
      rcases hcase g hg with rfl | hg
      · simp only at h; omega
      · exact hnear g hg h) y (hpreop y hy).1 hxy
end

/-! the components, each one told once, in order -/
/-- lists of numbers that are the strong components of the numbers below n -/
structure Comps (n : Nat) (E : Nat → Nat → Bool) (L : List (List Nat)) : Prop where
  all : ∀ x, x < n ↔ ∃ c ∈ L, x ∈ c
  strong : ∀ c ∈ L, ∀ x ∈ c, ∀ y, y ∈ c ↔ (R E x y ∧ R E y x)
  rises : ∀ c ∈ L, c.Pairwise (· < ·) ∧ c ≠ []
  apart : L.Pairwise (fun c d => ∀ x ∈ c, x ∉ d)
theorem Inv.comps {n : Nat} {E : Nat → Nat → Bool} {σ : St} (q : Inv n E σ) (hs : σ.stk = []) (hall : ∀ x, x < n → σ.num x ≠ 0) : Comps n E σ.out := by
  have hop := q.empty hs
  refine ⟨fun x => ?_, q.out2, q.out3, q.out4⟩
  rw [← q.out1 x]
  constructor
  · intro h
    refine ⟨hall x h, ?_⟩
    cases ho : σ.on x with
    | false => rfl
    | true => have := (q.on1 x).1 ho; rw [hop] at this; simp at this
  · rintro ⟨h, _⟩; exact q.a3 x h
theorem Comps.perm {n : Nat} {E : Nat → Nat → Bool} {L L' : List (List Nat)} (q : Comps n E L) (hp : L'.Perm L) : Comps n E L' := by
  refine ⟨fun x => by rw [q.all x]; simp [hp.mem_iff], fun c hc => q.strong c (hp.mem_iff.1 hc), fun c hc => q.rises c (hp.mem_iff.1 hc), ?_⟩
  exact (hp.symm.pairwise_iff (fun {a b} h x hb ha => h x ha hb)).1 q.apart
theorem rising_eq : ∀ {a b : List Nat}, a.Pairwise (· < ·) → b.Pairwise (· < ·) → (∀ x, x ∈ a ↔ x ∈ b) → a = b
  | [], [], _, _, _ => rfl
  | [], y :: b, _, _, h => by have := (h y).2 (by simp); simp at this
  | x :: a, [], _, _, h => by have := (h x).1 (by simp); simp at this
  | x :: a, y :: b, ha, hb, h => by
    obtain ⟨ha1, ha2⟩ := List.pairwise_cons.1 ha
    obtain ⟨hb1, hb2⟩ := List.pairwise_cons.1 hb
    have e : x = y := by
      rcases List.mem_cons.1 ((h x).1 (by simp)) with h1 | h1
      · exact h1
      · rcases List.mem_cons.1 ((h y).2 (by simp)) with h2 | h2
        · exact h2.symm
        · have := hb1 x h1; have := ha1 y h2; omega
    subst e
    rw [rising_eq ha2 hb2]
    intro z
    have hz := h z
    simp only [List.mem_cons] at hz
    constructor
    · intro hza
      rcases hz.1 (.inr hza) with h1 | h1
      · have := ha1 z hza; omega
      · exact h1
    · intro hzb
      rcases hz.2 (.inr hzb) with h1 | h1
      · have := hb1 z hzb; omega
      · exact h1
/-- lists that stand in order of their first numbers -/
def Heads (L : List (List Nat)) : Prop := L.Pairwise (fun c d => c.headD 0 < d.headD 0)
theorem heads_eq : ∀ {a b : List (List Nat)}, Heads a → Heads b → (∀ x, x ∈ a ↔ x ∈ b) → a = b
  | [], [], _, _, _ => rfl
  | [], y :: b, _, _, h => by have := (h y).2 (by simp); simp at this
  | x :: a, [], _, _, h => by have := (h x).1 (by simp); simp at this
  | x :: a, y :: b, ha, hb, h => by
    obtain ⟨ha1, ha2⟩ := List.pairwise_cons.1 ha
    obtain ⟨hb1, hb2⟩ := List.pairwise_cons.1 hb
    have e : x = y := by
      rcases List.mem_cons.1 ((h x).1 (by simp)) with h1 | h1
      · exact h1
      · rcases List.mem_cons.1 ((h y).2 (by simp)) with h2 | h2
        · exact h2.symm
        · have := hb1 x h1; have := ha1 y h2; omega
    subst e
    rw [heads_eq ha2 hb2]
    intro z
    have hz := h z
    simp only [List.mem_cons] at hz
    constructor
    · intro hza
      rcases hz.1 (.inr hza) with h1 | h1
      · have := ha1 z hza; rw [h1] at this; omega
      · exact h1
    · intro hzb
      rcases hz.2 (.inr hzb) with h1 | h1
      · have := hb1 z hzb; rw [h1] at this; omega
      · exact h1
theorem Comps.heads_ne {n : Nat} {E : Nat → Nat → Bool} {L : List (List Nat)} (q : Comps n E L) {c d : List Nat} (hc : c ∈ L) (hd : d ∈ L) (h : ∀ x ∈ c, x ∉ d) : c.headD 0 ≠ d.headD 0 := by
  intro e
  have h1 := (q.rises c hc).2
  have h2 := (q.rises d hd).2
  cases c with
  | nil => exact h1 rfl
  | cons x c =>
    cases d with
    | nil => exact h2 rfl
    | cons y d =>
      simp only [List.headD_cons] at e
      exact h x (by simp) (by rw [e]; simp)
/-- sorted by first numbers, weakly, is sorted strictly -/
theorem Comps.sorted {n : Nat} {E : Nat → Nat → Bool} {L : List (List Nat)} (q : Comps n E L) (h : L.Pairwise (fun c d => c.headD 0 ≤ d.headD 0)) : Heads L := by
  have := (h.and q.apart).imp_of_mem (S := fun c d => c.headD 0 < d.headD 0) (fun {c d} hc hd hcd => by
    have := q.heads_ne hc hd hcd.2
    omega)
  exact this
theorem Comps.unique {n : Nat} {E : Nat → Nat → Bool} {L L' : List (List Nat)} (q : Comps n E L) (q' : Comps n E L') (h : Heads L) (h' : Heads L') : L = L' := by
  have key : ∀ {A B : List (List Nat)}, Comps n E A → Comps n E B → ∀ c ∈ A, c ∈ B := by
    intro A B qa qb c hc
    obtain ⟨hr, hne⟩ := qa.rises c hc
    obtain ⟨x, hx⟩ := List.exists_mem_of_ne_nil c hne
    have hxn := (qa.all x).2 ⟨c, hc, hx⟩
    obtain ⟨d, hd, hxd⟩ := (qb.all x).1 hxn
    have : c = d := rising_eq hr (qb.rises d hd).1 fun y => by rw [qa.strong c hc x hx y, qb.strong d hd x hxd y]
    rw [this]; exact hd
  exact heads_eq h h' fun c => ⟨key q q' c, key q' q c⟩
end Go.Tar
