/-
  Plain law: what Tarjan's way has left to do grows less; sizes; conditions: none.
-/
import Derived.Test.YtgfljbplccekcaaDoorTopo
set_option linter.unusedVariables false
namespace Go.Tar

def whites (n : Nat) (σ : St) : Nat := (List.range n).countP fun x => σ.num x == 0
def phi (n : Nat) (E : Nat → Nat → Bool) (σ : St) : Nat := ((List.range n).map fun x => if σ.num x = 0 then (succ n E x).length + 2 else 0).sum + (σ.stk.map fun f => f.2.length + 1).sum
theorem sum_upd {l : List Nat} (hn : l.Nodup) {f g : Nat → Nat} {m d : Nat} (hm : m ∈ l) (hfm : f m = g m + d) (hne : ∀ x, x ≠ m → f x = g x) : (l.map f).sum = (l.map g).sum + d := by
  induction l with
  | nil => simp at hm
  | cons a r ih =>
    obtain ⟨h1, h2⟩ := List.nodup_cons.1 hn
    simp only [List.map_cons, List.sum_cons]
    rcases List.mem_cons.1 hm with rfl | hm
    · have : r.map f = r.map g := List.map_congr_left fun x hx => hne x (by rintro rfl; exact h1 hx)
      rw [hfm, this]; omega
    · have : a ≠ m := by rintro rfl; exact h1 hm
      rw [ih h2 hm, hne a this]; omega
theorem whites_enter {n : Nat} {E : Nat → Nat → Bool} {σ : St} {s : List (Nat × List Nat)} {m : Nat} (hm : m < n) (h0 : σ.num m = 0) : whites n σ = whites n (enter n E σ s m) + 1 := by
  have key : ∀ (l : List Nat), l.Nodup → m ∈ l → l.countP (fun x => σ.num x == 0) = l.countP (fun x => (enter n E σ s m).num x == 0) + 1 := by
    intro l
    induction l with
    | nil => intro _ h; simp at h
    | cons a r ih =>
      intro hn hm
      obtain ⟨h1, h2⟩ := List.nodup_cons.1 hn
      rw [List.countP_cons, List.countP_cons]
      rcases List.mem_cons.1 hm with rfl | hm
      · have : r.countP (fun x => σ.num x == 0) = r.countP (fun x => (enter n E σ s m).num x == 0) := List.countP_congr fun x hx => by
          have hne : x ≠ m := by rintro rfl; exact h1 hx
          show (σ.num x == 0) = true ↔ (upd σ.num m (σ.next + 1) x == 0) = true
          rw [upd_ne _ _ hne]
        rw [this]
        have e1 : (enter n E σ s m).num m = σ.next + 1 := upd_same _ _ _
        simp [h0, e1]
      · have hne : a ≠ m := by rintro rfl; exact h1 hm
        have e1 : (enter n E σ s m).num a = σ.num a := upd_ne _ _ hne
        rw [ih h2 hm, e1]; omega
  exact key _ List.nodup_range (List.mem_range.2 hm)
theorem phi_enter {n : Nat} {E : Nat → Nat → Bool} {σ : St} {v m : Nat} {rest : List Nat} {t : List (Nat × List Nat)} (hm : m < n) (h0 : σ.num m = 0) (hs : σ.stk = (v, m :: rest) :: t) : phi n E (enter n E σ ((v, rest) :: t) m) < phi n E σ := by
  unfold phi
  have := sum_upd (l := List.range n) List.nodup_range (f := fun x => if σ.num x = 0 then (succ n E x).length + 2 else 0) (g := fun x => if (enter n E σ ((v, rest) :: t) m).num x = 0 then (succ n E x).length + 2 else 0) (m := m) (d := (succ n E m).length + 2) (List.mem_range.2 hm)
    (by
      have e1 : (enter n E σ ((v, rest) :: t) m).num m = σ.next + 1 := upd_same _ _ _
      simp [h0, e1]) (fun x hx => by
      have e1 : (enter n E σ ((v, rest) :: t) m).num x = σ.num x := upd_ne _ _ hx
      simp only [e1])
  rw [this, hs]
  have e2 : (enter n E σ ((v, rest) :: t) m).stk = (m, succ n E m) :: (v, rest) :: t := rfl
  rw [e2]
  simp only [List.map_cons, List.sum_cons, List.length_cons]
  omega
theorem phi_look {n : Nat} {E : Nat → Nat → Bool} {σ : St} {v m : Nat} {rest : List Nat} {t : List (Nat × List Nat)} (hs : σ.stk = (v, m :: rest) :: t) : phi n E (look σ v m rest t) < phi n E σ := by
  unfold phi
  have e2 : (look σ v m rest t).stk = (v, rest) :: t := rfl
  have e3 : (look σ v m rest t).num = σ.num := rfl
  rw [e2, e3, hs]
  simp only [List.map_cons, List.sum_cons, List.length_cons]
  omega
theorem phi_leave {n : Nat} {E : Nat → Nat → Bool} {σ σ' : St} {v : Nat} {t : List (Nat × List Nat)} (hs : σ.stk = (v, []) :: t) (hn : σ'.num = σ.num) (hs' : σ'.stk = t) : phi n E σ' < phi n E σ := by
  unfold phi
  rw [hn, hs, hs']
  simp only [List.map_cons, List.sum_cons]
  simp
theorem Inv.op_nodup {n : Nat} {E : Nat → Nat → Bool} {σ : St} (q : Inv n E σ) : σ.op.Nodup := q.op1.imp fun h => by rintro rfl; omega
theorem Inv.op_len {n : Nat} {E : Nat → Nat → Bool} {σ : St} (q : Inv n E σ) : σ.op.length ≤ n := by
  have h1 : σ.op ⊆ List.range n := fun x hx => List.mem_range.2 (q.a3 x (q.op2 x hx))
  have := List.Nodup.length_le_of_subset q.op_nodup h1
  simpa using this
theorem Inv.out_len {n : Nat} {E : Nat → Nat → Bool} {σ : St} (q : Inv n E σ) : σ.out.length ≤ n := by
  have hlt : ∀ c ∈ σ.out, c.headD 0 < n ∧ c.headD 0 ∈ c := by
    intro c hc
    have h1 := (q.out3 c hc).2
    cases c with
    | nil => exact absurd rfl h1
    | cons x r =>
      have := (q.out1 x).2 ⟨_, hc, by simp⟩
      exact ⟨q.a3 x this.1, by simp⟩
  have h1 : (σ.out.map fun c => c.headD 0) ⊆ List.range n := fun x hx => by
    obtain ⟨c, hc, rfl⟩ := List.mem_map.1 hx
    exact List.mem_range.2 (hlt c hc).1
  have h2 : (σ.out.map fun c => c.headD 0).Nodup := by
    rw [List.nodup_iff_pairwise_ne, List.pairwise_map]
    refine q.out4.imp_of_mem fun {c d} hc hd h e => ?_
    exact h _ (hlt c hc).2 (e ▸ (hlt d hd).2)
  have := List.Nodup.length_le_of_subset h2 h1
  simpa using this
/-- where the top's own number lies among those that are open -/
theorem Inv.split {n : Nat} {E : Nat → Nat → Bool} {σ : St} (q : Inv n E σ) {v : Nat} (hv : v ∈ σ.op) : ∃ pre c', σ.op = pre ++ v :: c' ∧ v ∉ pre := by
  obtain ⟨pre, c', h⟩ := List.append_of_mem hv
  refine ⟨pre, c', h, fun hm => ?_⟩
  have := q.op_nodup
  rw [h, List.nodup_append] at this
  exact this.2.2 v hm v (by simp) rfl
end Go.Tar
