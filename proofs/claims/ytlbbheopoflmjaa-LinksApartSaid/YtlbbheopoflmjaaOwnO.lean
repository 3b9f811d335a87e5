/- A row of one's own that begins at some place of its block (a queue: its head goes, an element comes behind); elements of one cell; bounds stand in each statement. -/
import Derived.Test.YtlbbheopoflmjaaLib
import Derived.ArgAppend
namespace Go.Proofs.Ytlbbheopoflmjaa
open Go.RowKit

structure OwnO {α : Type} (w : World) (T : TypeId) (E : El α) (v : Value) (l : List α) : Prop where
  one : E.k = 1
  ex : ∃ g o c cur, v = .slice (some ⟨g, o, none⟩) l.length c ∧ w.heap[g]? = some (.cells cur T (0, 0)) ∧ o + c ≤ cur.size ∧ c ≤ maxLen ∧ l.length ≤ c ∧ (cur.toList.drop o).take l.length = E.flat l
section
variable {α : Type} {w w' : World} {T : TypeId} {E : El α} {v : Value} {l : List α}
theorem OwnO.frame (h : OwnO w T E v l) {F : Nat → Prop} (hc : Chg F w w') (hn : ∀ g, v.ownBlock = some g → ¬ F g) : OwnO w' T E v l := by
  obtain ⟨h1, g, o, c, cur, rfl, hb, rest⟩ := h
  exact ⟨h1, g, o, c, cur, rfl, hc.at hb (hn g rfl), rest⟩
theorem OwnO.below (h : OwnO w T E v l) (hc : Below w.heap.size w w') : OwnO w' T E v l := h.frame (Chg.of_below hc NoF) fun _ _ h => h
theorem OwnO.blk' (h : OwnO w T E v l) {g : Nat} (hg : v.ownBlock = some g) : ∃ cur, w.heap[g]? = some (.cells cur T (0, 0)) := by
  obtain ⟨h1, g', o, c, cur, rfl, hb, rest⟩ := h
  cases hg
  exact ⟨cur, hb⟩
theorem OwnO.at (h : OwnO w T E v l) (i : Nat) (hi : i < l.length) : ∃ g o c, v = .slice (some ⟨g, o, none⟩) l.length c ∧ w.cell? ⟨g, o + i, none⟩ = (E.f l[i])[0]? ∧ l.length ≤ c ∧ c ≤ maxLen := by
  obtain ⟨h1, g, o, c, cur, rfl, hb, h2, h3, h4, h5⟩ := h
  refine ⟨g, o, c, rfl, ?_, h4, h3⟩
  rw [blk_c hb]
  have h6 : (E.flat l)[i]? = (E.f l[i])[0]? := by
    have := E.flat_get l i 0 hi (by rw [h1]; decide)
    rwa [h1, Nat.mul_one, Nat.add_zero] at this
  rw [← h6, ← h5, List.getElem?_take, if_pos hi, List.getElem?_drop]
  simp
/-- The head goes. -/
theorem OwnO.tail {x : α} {g o n c : Nat} (h : OwnO w T E (.slice (some ⟨g, o, none⟩) n c) (x :: l)) (hc : 1 < c) : OwnO w T E (.slice (some ⟨g, o + 1, none⟩) l.length (c - 1)) l := by
  obtain ⟨h1, g', o', c', cur, hv, hb, h2, h3, h4, h5⟩ := h
  cases hv
  refine ⟨h1, g, o + 1, c - 1, cur, rfl, hb, by omega, by omega, by simp at h4; omega, ?_⟩
  rw [E.flat_cons] at h5
  have hl : (E.f x).length = 1 := by rw [E.len, h1]
  have h6 : (cur.toList.drop (o + 1)).take l.length = ((cur.toList.drop o).take (l.length + 1)).drop 1 := by
    rw [List.drop_take, List.drop_drop]
    simp
  rw [h6]
  simp only [List.length_cons] at h5
  rw [h5, ← hl, List.drop_left]
theorem OwnO.tail0 {x : α} {g o n c : Nat} (h : OwnO w T E (.slice (some ⟨g, o, none⟩) n c) (x :: l)) (hc : ¬ 1 < c) : l = [] ∧ OwnO w T E (.slice (some ⟨g, o, none⟩) 0 0) ([] : List α) := by
  obtain ⟨h1, g', o', c', cur, hv, hb, h2, h3, h4, h5⟩ := h
  cases hv
  simp only [List.length_cons] at h4
  exact ⟨List.eq_nil_of_length_eq_zero (by omega), h1, g, o, 0, cur, rfl, hb, by omega, by simp [maxLen], Nat.le_refl _, by simp [El.flat]⟩
theorem OwnO.of_own {g n c : Nat} (h : Own w T E (.slice (some ⟨g, 0, none⟩) n c) l) (h1 : E.k = 1) : OwnO w T E (.slice (some ⟨g, 0, none⟩) l.length c) l := by
  rcases h.row.2 with ⟨h0, _⟩ | ⟨g', cap, cur, h0, _, hg, hc, hm, hs, ht⟩
  · cases h0
  · cases h0
    rw [h1, Nat.mul_one] at hs ht
    exact ⟨h1, g, 0, c, cur, rfl, hg, by omega, hm, hc, by simpa using ht⟩
/-- A row of one element that has just been laid. -/
theorem OwnO.new (w : World) (T : TypeId) (E : El α) (h1 : E.k = 1) (x : α) (cs : Array Value) (hcs : cs.toList = E.f x) : OwnO (w.alloc (.cells cs T)) T E (.slice (some ⟨w.heap.size, 0, none⟩) 1 1) [x] := by
  have hl : cs.size = 1 := by rw [← Array.length_toList, hcs, E.len, h1]
  refine ⟨h1, w.heap.size, 0, 1, cs, rfl, blk_new w _, by omega, by simp [maxLen], Nat.le_refl _, ?_⟩
  rw [E.flat_one, ← hcs]
  show (cs.toList.drop 0).take 1 = cs.toList
  rw [List.drop_zero, List.take_of_length_le (by simp [hl])]
variable {P : Program} {t ty : TypeId} {by_ : Nat}
theorem run_appO (hT : SlT P t T E by_) (h : OwnO w T E v l) (y : α) {b c0 : Nat} (hy : w.cell? ⟨b, 0, none⟩ = (E.f y)[0]?) (hb : (l.length + 1) * by_ ≤ 140737488355328) (hmax : l.length + 1 ≤ 9000000000000000000) :
    ∃ v' w', (Builtin.append_ #[t, t] ty #[v, .slice (some ⟨b, 0, none⟩) 1 c0]).run P w = .ok v' w' ∧ OwnO w' T E v' (l ++ [y]) ∧ Chg (fun g => v.ownBlock = some g) w w' ∧ (v'.ownBlock = v.ownBlock ∨ ∃ g, v'.ownBlock = some g ∧ w.heap.size ≤ g) := by
  obtain ⟨hu, i, z, hi, hz, hsz, hby, hzs⟩ := hT
  obtain ⟨h1, g, o, c, cur, rfl, hbk, h2, h3, h4, h5⟩ := h
  have hly : (E.f y).length = 1 := by rw [E.len, h1]
  obtain ⟨u, hu1⟩ : ∃ u, E.f y = [u] := by
    match he : E.f y, hly with
    | [u], _ => exact ⟨u, rfl⟩
  have hone : u.oneCell' = true := E.one y u (by rw [hu1]; simp)
  rw [hu1] at hy
  have hsrc : ∀ (j : Nat) (u' : Value), [u][j]? = some u' → w.cell? ((⟨b, 0, none⟩ : Addr).add j) = some u' := by
    intro j u' hj
    cases j with
    | zero => cases hj; exact hy
    | succ j => simp at hj
  by_cases hroom : l.length + 1 ≤ c
  · have hp : o + l.length < cur.size := by omega
    have hr := run_append_room_cells (P := P) w t ty T i hu hi g o l.length c ⟨b, 0, none⟩ 1 c0 [u] (by rw [hsz, h1]; rfl) hsrc (by simpa using hone) hroom
      (by intro j hj; rw [hsz, h1, Nat.mul_one, blk_c hbk]; simp at hj; subst hj; simp [hp])
      (by intro j _; exact blk_f hbk _)
    rw [hsz, h1, Nat.mul_one] at hr
    refine ⟨_, _, hr, ⟨h1, g, o, c, cur.setIfInBounds (o + l.length) u, by simp, ?_, by simpa using h2, h3, by simp; omega, ?_⟩, ?_, .inl rfl⟩
    · exact blk_set hbk _ _
    · rw [E.flat_append, E.flat_one, hu1, ← h5, List.length_append, List.length_singleton]
      apply List.ext_getElem?
      intro j
      rw [List.getElem?_take]
      have hlen : ((cur.toList.drop o).take l.length).length = l.length := by have hcl : cur.toList.length = cur.size := (by simp); rw [List.length_take, List.length_drop, hcl]; omega
      by_cases hj : j < l.length
      · rw [if_pos (by omega), List.getElem?_append_left (by rw [hlen]; exact hj), List.getElem?_take, if_pos hj, List.getElem?_drop, List.getElem?_drop]
        simp only [Array.getElem?_toList]
        rw [Array.getElem?_setIfInBounds_ne (by omega)]
      · by_cases hj2 : j = l.length
        · subst hj2
          rw [if_pos (by omega), List.getElem?_append_right (by rw [hlen]; exact Nat.le_refl _), hlen, List.getElem?_drop]
          simp [hp]
        · rw [if_neg (by omega), List.getElem?_append_right (by rw [hlen]; omega), hlen]
          rw [List.getElem?_eq_none_iff.2 (by simp; omega)]
    · exact (chg_cell w g (o + l.length) u).mono fun k _ e => by rw [e]; rfl
  · have holds : ∀ (j : Nat) (u' : Value), (E.flat l)[j]? = some u' → w.cell? ((⟨g, o, none⟩ : Addr).add j) = some u' := by
      intro j u' hj
      rw [← h5, List.getElem?_take] at hj
      split at hj
      · rw [List.getElem?_drop] at hj
        rw [Addr.add_lit, blk_c hbk]
        simpa using hj
      · cases hj
    obtain ⟨v', w', hr, ho, hgr⟩ := run_append_arg_grows (P := P) w t ty T i z 1 by_ hu hi hz (by rw [hsz, h1]) hby (by rw [hzs, h1]) (by decide) ⟨g, o, none⟩ l.length c (E.flat l) (by rw [E.flat_length, h1]) holds
      ⟨b, 0, none⟩ 1 c0 [u] rfl hsrc (by omega) (by simp only [maxLen]; omega) hb
    have hl2 : (E.flat (l ++ [y])).length = l.length + 1 := by rw [E.flat_length, h1]; simp
    rcases ho.2 with ⟨_, hn⟩ | ⟨g', cap, cur', rfl, hge, hg', hc', hm', hs', ht'⟩
    · omega
    · rw [Nat.mul_one] at hs' ht'
      refine ⟨_, w', hr, ⟨h1, g', 0, cap, cur', by simp, hg', by omega, hm', by simpa using hc', ?_⟩, ⟨hgr.os, hgr.tape, hgr.output, hgr.size, fun k hk _ => hgr.block k hk (by simp)⟩, .inr ⟨g', rfl, hge⟩⟩
      rw [E.flat_append, E.flat_one, hu1, List.drop_zero, List.length_append, List.length_singleton]
      exact ht'
variable {ops : Array Oper} {rest : List Oper} {o : Oper} {a : Act} {Q : Exit → Act → World → Prop}
/-- append of one element that has just been laid, as one step of the walk. -/
theorem appO_ev (hT : SlT P t T E by_) (y : α) (hgd : o.guard = none) (s x : Operand) (ho : o.op = .call { callee := .builtin .append, args := #[s, x], argTypes := #[t, t] })
    {W0 : World} {cs : Array Value} (hown : OwnO W0 T E v l) (hW : w = W0.alloc (.cells cs T)) (hs : a.eval s = v) {bn : Nat} (hx : a.eval x = .slice (some ⟨bn, 0, none⟩) 1 1) (hbn : bn = W0.heap.size) (hcs : cs.toList = E.f y)
    (hb : (l.length + 1) * by_ ≤ 140737488355328) (hmax : l.length + 1 ≤ 9000000000000000000)
    (h : ∀ g' o' n' c' w', Kp (n' = l.length + 1) → OwnO w' T E (.slice (some ⟨g', o', none⟩) n' c') (l ++ [y]) → Chg (fun g => v.ownBlock = some g) W0 w' → ((Value.slice (some ⟨g', o', none⟩) n' c').ownBlock = v.ownBlock ∨ ∃ g, (Value.slice (some ⟨g', o', none⟩) n' c').ownBlock = some g ∧ W0.heap.size ≤ g) → wpList P ops Q rest (a.put o.dst (.slice (some ⟨g', o', none⟩) n' c')) w') :
    wpList P ops Q (o :: rest) a w := by
  subst hW
  subst hbn
  have hk : (W0.alloc (.cells cs T)).cell? ⟨W0.heap.size, 0, none⟩ = (E.f y)[0]? := by rw [blk_c (blk_new W0 _), ← hcs]; simp
  obtain ⟨v', w', hr, h2, h3, h4⟩ := run_appO (P := P) (ty := o.type) (c0 := 1) hT (hown.below ((Below.refl _ W0).alloc (Nat.le_refl _) _)) y hk hb hmax
  obtain ⟨h1', g', o', c', cur', hv, rest'⟩ := h2
  rw [List.length_append, List.length_singleton] at hv
  subst hv
  refine wpList_plain hgd fun K hK => ?_
  unfold Oper.wp execOp
  simp only [ho, resolve, invoke, builtin, Sem.run_bind, Sem.run_pure, Result.andThen_ok, List.map_toArray, List.map_cons, List.map_nil, hs, hx, hr]
  refine hK _ _ (h g' o' _ c' w' ⟨rfl⟩ ⟨h1', g', o', c', cur', by simp, rest'⟩ (((Chg.refl _ W0).alloc _).then h3) ?_)
  rcases h4 with h4 | ⟨g, h4, h5⟩
  · exact .inl h4
  · exact .inr ⟨g, h4, by simp at h5; omega⟩
end
end Go.Proofs.Ytlbbheopoflmjaa
