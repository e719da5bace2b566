/-
  Plain law: a ring of numbers is one component; without one of its edges it is a chain; conditions: at least two numbers.
-/
import Derived.Test.YtgfljbplccekcaaDoorParts
set_option linter.unusedVariables false
namespace Go.Tar

/-- the ring -/
def ring (n : Nat) (u k : Nat) : Bool := decide (u < n) && decide (k = (u + 1) % n)
/-- the ring without the edge from c -/
def cutr (n c : Nat) (u k : Nat) : Bool := decide (u < n) && decide (k = (u + 1) % n) && decide (u ≠ c)
theorem ring_iff {n u k : Nat} : ring n u k = true ↔ u < n ∧ k = (u + 1) % n := by simp [ring]
theorem cutr_iff {n c u k : Nat} : cutr n c u k = true ↔ u < n ∧ k = (u + 1) % n ∧ u ≠ c := by simp [cutr, and_assoc]
theorem ring_R {n : Nat} (hn : 0 < n) {x : Nat} (hx : x < n) : ∀ d, R (ring n) x ((x + d) % n)
  | 0 => by rw [Nat.add_zero, Nat.mod_eq_of_lt hx]; exact .refl _
  | d + 1 => by
    refine (ring_R hn hx d).trans (.edge ?_)
    rw [ring_iff]
    refine ⟨Nat.mod_lt _ hn, ?_⟩
    rw [Nat.add_mod ((x + d) % n) 1 n, Nat.mod_mod, ← Nat.add_mod, Nat.add_assoc]
theorem ring_all {n : Nat} (hn : 0 < n) {x y : Nat} (hx : x < n) (hy : y < n) : R (ring n) x y := by
  have := ring_R hn hx (y + n - x)
  rwa [show x + (y + n - x) = y + n from by omega, Nat.add_mod_right, Nat.mod_eq_of_lt hy] at this
theorem ring_one {n : Nat} (hn : 0 < n) {C : List (List Nat)} (q : Comps n (ring n) C) : C.length = 1 := by
  have h0 := (q.all 0).1 hn
  obtain ⟨c, hc, h0c⟩ := h0
  match C, q, hc with
  | [a], q, hc => rfl
  | a :: b :: r, q, hc =>
    exfalso
    have ha := (q.rises a (by simp)).2
    have hb := (q.rises b (by simp)).2
    obtain ⟨x, hx⟩ := List.exists_mem_of_ne_nil a ha
    obtain ⟨y, hy⟩ := List.exists_mem_of_ne_nil b hb
    have hxn := (q.all x).2 ⟨a, by simp, hx⟩
    have hyn := (q.all y).2 ⟨b, by simp, hy⟩
    have hya := (q.strong a (by simp) x hx y).2 ⟨ring_all hn hxn hyn, ring_all hn hyn hxn⟩
    exact (List.pairwise_cons.1 q.apart).1 b (by simp) y hya hy
theorem ring_great {n : Nat} (hn : 2 ≤ n) {C : List (List Nat)} (q : Comps n (ring n) C) : ∃ c ∈ C, 1 < c.length := by
  obtain ⟨c, hc, h0⟩ := (q.all 0).1 (by omega)
  refine ⟨c, hc, ?_⟩
  have h1 := (q.strong c hc 0 h0 1).2 ⟨ring_all (by omega) (by omega) (by omega), ring_all (by omega) (by omega) (by omega)⟩
  match c, h0, h1 with
  | [a], h0, h1 => simp at h0 h1; omega
  | a :: b :: r, _, _ => simp
/-- the chain's numbers -/
def chain (n c i : Nat) : List Nat := (List.range i).map fun j => (c + 1 + j) % n
theorem mod_inj {n a b c : Nat} (ha : a < n) (hb : b < n) (h : (c + a) % n = (c + b) % n) : a = b := by
  have h1 := Nat.sub_mod_eq_zero_of_mod_eq h
  have h2 := Nat.sub_mod_eq_zero_of_mod_eq h.symm
  rw [show c + a - (c + b) = a - b from by omega] at h1
  rw [show c + b - (c + a) = b - a from by omega] at h2
  rw [Nat.mod_eq_of_lt (by omega)] at h1 h2
  omega
theorem chain_mem {n c i v : Nat} : v ∈ chain n c i ↔ ∃ j, j < i ∧ (c + 1 + j) % n = v := by simp [chain]
theorem cut_pred {n c : Nat} (hn : 0 < n) (hc : c < n) {v : Nat} (hv : v < n) : ∃ d, d < n ∧ v = (c + 1 + d) % n := by
  refine ⟨(v + n - (c + 1)) % n, Nat.mod_lt _ hn, ?_⟩
  rw [Nat.add_mod, Nat.mod_mod, ← Nat.add_mod, show c + 1 + (v + n - (c + 1)) = v + n from by omega, Nat.add_mod_right, Nat.mod_eq_of_lt hv]
theorem cut_pick {n c i : Nat} (hn : 2 ≤ n) (hc : c < n) (hi : i < n) : pick n (cutr n c) (chain n c i) = some ((c + 1 + i) % n) := by
  have hpos : 0 < n := by omega
  have huniq : ∀ v, v < n → v ∉ chain n c i → (∀ u, u < n → cutr n c u v = true → u ∈ chain n c i) → v = (c + 1 + i) % n := by
    intro v hv hnot hall
    obtain ⟨d, hd, rfl⟩ := cut_pred hpos hc hv
    have hdi : i ≤ d := by
      rcases Nat.lt_or_ge d i with h | h
      · exact absurd (chain_mem.2 ⟨d, h, rfl⟩) hnot
      · exact h
    rcases Nat.eq_or_lt_of_le hdi with h | h
    · rw [h]
    · exfalso
      have hu : (c + 1 + (d - 1)) % n < n := Nat.mod_lt _ hpos
      have hedge : cutr n c ((c + 1 + (d - 1)) % n) ((c + 1 + d) % n) = true := by
        rw [cutr_iff]
        refine ⟨hu, ?_, ?_⟩
        · rw [Nat.add_mod ((c + 1 + (d - 1)) % n) 1 n, Nat.mod_mod, ← Nat.add_mod]
          congr 1
          omega
        · intro e
          have e2 : (c + d) % n = (c + 0) % n := by
            rw [show c + 1 + (d - 1) = c + d from by omega] at e
            rw [e, Nat.add_zero, Nat.mod_eq_of_lt hc]
          have := mod_inj (by omega) (by omega) e2
          omega
      obtain ⟨j, hj, he⟩ := chain_mem.1 (hall _ hu hedge)
      have := mod_inj (by omega) (by omega) he
      omega
  have hfree : free n (cutr n c) (chain n c i) ((c + 1 + i) % n) = true := by
    rw [free_iff]
    refine ⟨fun hm => ?_, fun u hu he => ?_⟩
    · obtain ⟨j, hj, he⟩ := chain_mem.1 hm
      have := mod_inj (by omega) (by omega) he
      omega
    · obtain ⟨_, h2, h3⟩ := cutr_iff.1 he
      obtain ⟨d, hd, rfl⟩ := cut_pred hpos hc hu
      have e : (c + 1 + i) % n = (c + 1 + (d + 1)) % n := by
        rw [h2, Nat.add_mod ((c + 1 + d) % n) 1 n, Nat.mod_mod, ← Nat.add_mod, Nat.add_assoc (c + 1)]
      rcases Nat.lt_or_ge (d + 1) n with h | h
      · have := mod_inj (by omega) h e
        exact chain_mem.2 ⟨d, by omega, rfl⟩
      · have hd1 : d + 1 = n := by omega
        exfalso
        refine h3 ?_
        rw [show c + 1 + d = c + n from by omega, Nat.add_mod_right, Nat.mod_eq_of_lt hc]
  cases hp : pick n (cutr n c) (chain n c i) with
  | none =>
    rw [pick, List.find?_eq_none] at hp
    exact absurd hfree (hp _ (List.mem_range.2 (Nat.mod_lt _ hpos)))
  | some v =>
    obtain ⟨h1, h2, h3⟩ := pick_some hp
    rw [huniq v h1 h2 h3]
theorem cut_ord {n c : Nat} (hn : 2 ≤ n) (hc : c < n) : ∀ k i, i + k = n → ordF n (cutr n c) k (chain n c i) = some (chain n c n)
  | 0, i, h => by rw [ordF, show i = n from by omega]
  | k + 1, i, h => by
    rw [ordF, cut_pick hn hc (by omega)]
    simp only [Option.bind_some]
    have : chain n c i ++ [(c + 1 + i) % n] = chain n c (i + 1) := by simp [chain, List.range_succ]
    rw [this]
    exact cut_ord hn hc k (i + 1) (by omega)
theorem cut_order {n c : Nat} (hn : 2 ≤ n) (hc : c < n) : ordF n (cutr n c) n [] = some (chain n c n) := cut_ord hn hc n 0 (by omega)
theorem cut_irr {n c : Nat} (hn : 2 ≤ n) (x : Nat) : cutr n c x x = false := by
  cases h : cutr n c x x with
  | false => rfl
  | true =>
    obtain ⟨h1, h2, _⟩ := cutr_iff.1 h
    exfalso
    rcases Nat.lt_or_ge (x + 1) n with h | h
    · rw [Nat.mod_eq_of_lt h] at h2; omega
    · rw [show x + 1 = n from by omega, Nat.mod_self] at h2; omega
theorem ring_irr {n : Nat} (hn : 2 ≤ n) (x : Nat) : ring n x x = false := by
  cases h : ring n x x with
  | false => rfl
  | true =>
    obtain ⟨h1, h2⟩ := ring_iff.1 h
    exfalso
    rcases Nat.lt_or_ge (x + 1) n with h | h
    · rw [Nat.mod_eq_of_lt h] at h2; omega
    · rw [show x + 1 = n from by omega, Nat.mod_self] at h2; omega
theorem cut_len {n c : Nat} (hn : 2 ≤ n) (hc : c < n) {C : List (List Nat)} (q : Comps n (cutr n c) C) : C.length = n := by
  have hE : ∀ x y, cutr n c x y = true → x < n ∧ y < n := fun x y h => by
    obtain ⟨h1, h2, _⟩ := cutr_iff.1 h
    exact ⟨h1, by rw [h2]; exact Nat.mod_lt _ (by omega)⟩
  have h1 := (ord_comps hE (cut_irr hn) q).1 (by rw [cut_order hn hc]; rfl)
  have h2 : ∀ c ∈ C, c.length = 1 := fun c hc => by
    have := List.length_pos_iff.2 (q.rises c hc).2
    have := h1 c hc
    omega
  have h3 := q.flat.2
  have h4 : ∀ L : List (List Nat), (∀ c ∈ L, c.length = 1) → L.flatten.length = L.length := by
    intro L
    induction L with
    | nil => intro _; rfl
    | cons a L ih =>
      intro h
      rw [List.flatten_cons, List.length_append, ih (fun c hc => h c (List.mem_cons_of_mem _ hc)), h a (by simp), List.length_cons]
      omega
  rw [h4 C h2] at h3
  exact h3
theorem none_ord {n : Nat} {E : Nat → Nat → Bool} (hE : ∀ x y, E x y = false) : (ordF n E n []).isSome = true := by
  have := acyclic_ord (n := n) (E := E) (fun x y h => by rw [hE] at h; cases h) (fun x => hE x x) (fun x y _ h1 _ => by
    cases h1 with
    | refl => rfl
    | step e _ => rw [hE] at e; cases e) (k := n) Told.nil (by simp)
  cases h : ordF n E n [] with
  | none => exact absurd h this
  | some _ => rfl
end Go.Tar
