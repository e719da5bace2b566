/-
  The framework, ninth part: rows that begin anywhere in their block (queues); conditions: none.
-/
import Derived.Test.YtgfljbplccekcaaDoorV8
import Derived.Deep.AppendSrc
import Derived.Deep.Upon
set_option linter.unusedSimpArgs false
set_option linter.unusedVariables false
set_option maxRecDepth 100000
namespace Go.V
open Go

/-- a row of single cells that the call has made, beginning anywhere in its block -/
def Que (h : Heap) (base e : Nat) (v : Value) (xs : List Value) : Prop :=
  (v = .slice none 0 0 ∧ xs = []) ∨
    ∃ g o cap cur, v = .slice (some ⟨g, o, none⟩) xs.length cap ∧ base ≤ g ∧ h[g]? = some (.cells cur e (0, 0)) ∧ xs.length ≤ cap ∧ cap ≤ maxLen ∧ o + cap ≤ cur.size ∧ (cur.toList.drop o).take xs.length = xs
theorem Own.que {h : Heap} {base e : Nat} {v : Value} {n : Nat} {xs : List Value} (o : Own h base e 1 v n xs) : Que h base e v xs := by
  have hl : xs.length = n := by simpa using o.1
  rcases o.2 with ⟨hv, h0⟩ | ⟨g, cap, cur, hv, hb, hg, hc, hm, hs, ht⟩
  · exact .inl ⟨hv, List.eq_nil_of_length_eq_zero (by omega)⟩
  · exact .inr ⟨g, 0, cap, cur, by rw [hv, hl], hb, hg, by omega, hm, by omega, by rw [hl]; simpa using ht⟩
theorem Que.mono {h h' : Heap} {base e : Nat} {v : Value} {xs : List Value} (q : Que h base e v xs) (hk : ∀ b, v.ownBlock = some b → h'[b]? = h[b]?) : Que h' base e v xs := by
  rcases q with q | ⟨g, o, cap, cur, rfl, hb, hg, r⟩
  · exact .inl q
  · exact .inr ⟨g, o, cap, cur, rfl, hb, by rw [hk g rfl]; exact hg, r⟩
theorem Que.ge {h h' : Heap} {base e : Nat} {v : Value} {xs : List Value} (q : Que h base e v xs) (g : Ge h h') : Que h' base e v xs :=
  q.mono fun b hb => by
    rcases q with ⟨rfl, _⟩ | ⟨g', o, cap, cur, rfl, _, hg, r⟩
    · cases hb
    · cases hb; exact g.block _ (Ge.lt hg)
theorem Que.blk {h : Heap} {base e : Nat} {v : Value} {xs : List Value} (q : Que h base e v xs) {b : Nat} (hb : v.ownBlock = some b) : base ≤ b ∧ ∃ cur, h[b]? = some (.cells cur e (0, 0)) := by
  rcases q with ⟨rfl, _⟩ | ⟨g', o, cap, cur, rfl, hb', hg, r⟩
  · cases hb
  · cases hb; exact ⟨hb', cur, hg⟩
theorem Que.shape {h : Heap} {base e : Nat} {v : Value} {xs : List Value} (q : Que h base e v xs) : ∃ a c, v = .slice a xs.length c ∧ xs.length ≤ c ∧ c ≤ 9223372036854775807 := by
  rcases q with ⟨rfl, rfl⟩ | ⟨g', o, cap, cur, rfl, _, hg, hc, hm, _⟩
  · exact ⟨_, _, rfl, by simp, by omega⟩
  · exact ⟨_, _, rfl, hc, by unfold maxLen at hm; omega⟩
theorem Que.head {h : Heap} {base e : Nat} {v x : Value} {xs : List Value} (q : Que h base e v (x :: xs)) : ∃ g o c, v = sl g o (xs.length + 1) c ∧ xs.length + 1 ≤ c ∧ c ≤ 9223372036854775807 ∧ hcell h g o = some x ∧ Que h base e (sl g (slOff o 1 1 c) xs.length (c - 1)) xs := by
  rcases q with ⟨_, h0⟩ | ⟨g, o, cap, cur, rfl, hb, hg, hc, hm, hs, ht⟩
  · cases h0
  · have hx : cur.toList[o]? = some x := by
      have := congrArg (·[0]?) ht
      simpa using this
    simp only [List.length_cons] at hc ht
    have hd : cur.toList.drop o = x :: cur.toList.drop (o + 1) := by
      obtain ⟨ho, e1⟩ := List.getElem?_eq_some_iff.1 hx
      rw [List.drop_eq_getElem_cons ho, e1]
    rw [hd, List.take_succ_cons] at ht
    simp only [List.cons.injEq, true_and] at ht
    refine ⟨g, o, cap, rfl, hc, by unfold maxLen at hm; omega, by simp only [hcell, hg]; simpa using hx, ?_⟩
    unfold slOff
    split
    · have : xs = [] := List.eq_nil_of_length_eq_zero (by omega)
      subst this
      exact .inr ⟨g, o, cap - 1, cur, rfl, hb, hg, by simp, by omega, by omega, by simp⟩
    · exact .inr ⟨g, o + 1, cap - 1, cur, by simp, hb, hg, by omega, by omega, by omega, ht⟩
/-- append to a row that begins anywhere -/
theorem vapp_que {P : Program} {h : Heap} {k : Value → Heap → Prop} {t e by_ : Nat} {z : Value} (he : elT P t = some (e, 1, by_, z)) (hzs : z.cells.size = 1) {ty base m c : Nat} {a : Option Addr} {v : Value} {xs news : List Value} (q : Que h base e v xs)
    (hm : m = news.length) (hn : m = 0 ∨ ∃ b o, a = some ⟨b, o, none⟩ ∧ rdRow h b o m = some news) (h1 : news.all (·.oneCell') = true) (hl : xs.length + news.length ≤ 140737488355327) (hb : (xs.length + news.length) * by_ ≤ 140737488355328) (hbase : base ≤ h.size)
    (hk : ∀ v' h', Que h' base e v' (xs ++ news) → Grow h h' v.ownBlock → (v'.ownBlock = v.ownBlock ∨ ∃ b, v'.ownBlock = some b ∧ h.size ≤ b) → k v' h') : vapp P #[t, t] ty v (.slice a m c) h k := by
  obtain ⟨hu, i, hi, hz, hs1, rfl⟩ := elT_parts he
  subst hm
  intro w hw
  subst hw
  by_cases h0 : news = []
  · subst h0
    obtain ⟨av, cv, rfl, hle, _⟩ := q.shape
    have hs : Src P i.size t (.slice a 0 c) 0 [] w := by
      cases a with
      | none => exact Src.ofNil w hu c
      | some a => exact Src.ofSlice w hu a 0 c [] (by simp) (by simp) (by simp)
    refine ⟨_, w, run_append_nothing w t t ty e i hu hi av xs.length cv hle _ hs, Same.refl _, hk _ _ (by simpa using q) ⟨Nat.le_refl _, fun _ _ _ => rfl⟩ (.inl rfl)⟩
  · have hpos : 0 < news.length := List.length_pos_iff.2 h0
    obtain ⟨b, o, rfl, hr⟩ : ∃ b o, a = some ⟨b, o, none⟩ ∧ rdRow w.heap b o news.length = some news := by
      rcases hn with hn | hn
      · omega
      · exact hn
    obtain ⟨_, hc⟩ := rdRow_at hr
    have hs : Src P i.size t (.slice (some ⟨b, o, none⟩) news.length c) news.length news w :=
      Src.ofSlice w hu _ _ c news (by rw [hs1]; simp) (fun j u hj => by
        have hadd : (⟨b, o, none⟩ : Addr).add j = ⟨b, o + j, none⟩ := by unfold Addr.add; split <;> simp_all
        rw [hadd, cell_eq]; exact hc j u hj) (by simpa using h1)
    have grown : ∀ (av : Option Addr) (cv : Nat), v = .slice av xs.length cv → cv < xs.length + news.length → (Builtin.firstCells i.size xs.length (.slice av xs.length cv)).run P w.drew = .ok xs.toArray w.drew →
        ∃ v' w', (Builtin.append_ #[t, t] ty #[v, .slice (some ⟨b, o, none⟩) news.length c]).run P w = .ok v' w' ∧ Same w w' ∧ k v' w'.heap := by
      intro av cv hv hlt hold
      subst hv
      have hr2 := run_append_grow_src (P := P) w t t ty e i z hu hi hz av xs.length cv xs hold _ news.length news hs hlt (by omega) (growslice_fits hlt hb)
      have hge := grownCap_ge w (xs.length + news.length) cv e
      have hcm : grownCap w (xs.length + news.length) cv e ≤ maxLen := grownCap_le_maxLen w (xs.length + news.length) cv e (by unfold maxLen; omega)
      refine ⟨_, _, hr2, ⟨rfl, rfl, rfl⟩, hk _ _ (.inr ⟨w.heap.size, 0, _, _, by simp, hbase, heap_alloc_new w.drew _, by simpa using hge, hcm, ?_, ?_⟩) ⟨by simp, fun k hk _ => heap_alloc_old w.drew _ hk⟩ (.inr ⟨_, rfl, Nat.le_refl _⟩)⟩
      · simp only [Array.size_append, List.size_toArray, size_zeroCells, hzs, List.length_append]; omega
      · simp only [List.drop_zero, Array.toList_append, List.length_append]
        rw [← List.length_append]
        exact List.take_left
    have q' := q
    rcases q' with ⟨rfl, rfl⟩ | ⟨g, og, cap, cur, rfl, hbg, hg, hle, hcm, hsz, ht⟩
    · exact grown none 0 rfl (by simpa using hpos) (by simpa using run_firstCells_none w.drew i.size 0 0 0)
    · by_cases hroom : xs.length + news.length ≤ cap
      · have hcell : ∀ j, j < news.length → (w.cell? ⟨g, og + xs.length * i.size + j, none⟩).isSome = true := by
          intro j hj
          rw [hs1, Nat.mul_one, cell_eq]
          simp only [V.hcell, hg]
          rw [Array.getElem?_eq_getElem (by omega)]; rfl
        have hfr : ∀ j, j < news.length → w.frozen? ⟨g, og + xs.length * i.size + j, none⟩ = false := by
          intro j hj
          simp [World.frozen?, hg]
        have hr2 := run_append_room_src (P := P) w t t ty e i hu hi g og xs.length cap _ news.length news hs hroom hcell hfr
        have hst := run_storeCells_cells (P := P) g (og + xs.length * i.size) news 0 w (by simpa using hcell) (by simpa using hfr) hs.one
        obtain ⟨w', hr3, hsm, hh⟩ := run_storeCells_h (P := P) (b := g) (vs := news) (o := og + xs.length * i.size) (i := 0) (w := w) ⟨cur, e, hg, by rw [hs1]; omega⟩ (by simpa [one1] using h1)
        rw [hst] at hr3
        simp only [Result.ok.injEq, true_and, Nat.add_zero] at hr3
        simp only [Nat.add_zero] at hh
        rw [hr3] at hr2
        obtain ⟨h2, h3⟩ := hset_up news w.heap g (og + xs.length * i.size) cur e (0, 0) hg
        rw [← hh] at h2 h3
        rw [hs1, Nat.mul_one] at h2
        refine ⟨_, w', hr2, hsm, hk _ _ (.inr ⟨g, og, cap, _, by simp, hbg, h2, by simpa using hroom, hcm, by rw [← Array.length_toList, setL_take _ _ _ (by omega)]; simp; omega, ?_⟩) ⟨Nat.le_of_eq h3.size.symm, fun k hk hne => h3.other k (fun e => hne (by rw [e]; rfl))⟩ (.inl rfl)⟩
        rw [setL_take _ _ _ (by omega)]
        have e1 : (cur.toList.take (og + xs.length)).drop og = xs := by
          rw [List.drop_take, show og + xs.length - og = xs.length from by omega]; exact ht
        have e2 : og ≤ (cur.toList.take (og + xs.length)).length := by simp; omega
        rw [List.append_assoc, List.drop_append_of_le_length e2, e1, List.length_append, ← List.append_assoc, ← List.length_append]
        exact List.take_left
      · refine grown (some ⟨g, og, none⟩) cap rfl (by omega) ?_
        have := run_firstCells_some (P := P) w.drew i.size xs.length ⟨g, og, none⟩ xs.length cap xs (by rw [hs1]; simp) (fun j u hj => by
          have hadd : (⟨g, og, none⟩ : Addr).add j = ⟨g, og + j, none⟩ := by unfold Addr.add; split <;> simp_all
          rw [hadd, cell_eq]
          simp only [V.hcell]
          show (match w.heap[g]? with | some (.cells c _ _) => c[og + j]? | _ => none) = some u
          rw [hg]
          rw [← ht, List.getElem?_take] at hj
          split at hj
          · simpa using hj
          · cases hj)
        exact this
end Go.V
