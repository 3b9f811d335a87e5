/- Plain: the heap of package timer: what up and down keep; no condition. -/
import Derived.Test.YtobgabjoehjpcaaI
namespace Go.Proofs.Ytobgabjoehjpcaa

def ltE (a b : Ent) : Prop := a.dl < b.dl ∨ (a.dl = b.dl ∧ a.tn < b.tn)
theorem lessB_iff (a b : Ent) : lessB a b = true ↔ ltE a b := by
  unfold lessB aheadV orV cmpV ltE
  rw [decide_eq_true_iff]
  split <;> split <;> (try split) <;> (try split) <;> omega
def le' (a b : Ent) : Prop := ¬ ltE b a
theorem le'_trans {a b c : Ent} (h : le' a b) (k : le' b c) : le' a c := by unfold le' ltE at *; omega
theorem le'_of_lt {a b : Ent} (h : ltE a b) : le' a b := by unfold le' ltE at *; omega
theorem le'_refl (a : Ent) : le' a a := by unfold le' ltE; omega
theorem not_less {a b : Ent} : lessB a b = false ↔ le' b a := by
  rw [Bool.eq_false_iff, Ne, lessB_iff]; rfl
def par (i : Nat) : Nat := (i - 1) / 2
/-- The first n are a heap. -/
def HeapN (l : List Ent) (n : Nat) : Prop := ∀ k, 0 < k → k < n → le' (gt l (par k)) (gt l k)
def UpInv (l : List Ent) (n j : Nat) : Prop := (∀ k, 0 < k → k < n → k ≠ j → le' (gt l (par k)) (gt l k)) ∧ (0 < j → ∀ k, 0 < k → k < n → par k = j → le' (gt l (par j)) (gt l k))
theorem upL_step (l : List Ent) (j : Nat) (h0 : j ≠ 0) (hj : j < l.length) : upL l j = if lessB (gt l j) (gt l (par j)) then upL (swapL l (par j) j (gt l (par j)) (gt l j)) (par j) else l := by
  conv => lhs; unfold upL
  rw [if_neg h0, gt_at l j hj, gt_at l ((j - 1) / 2) (by omega)]
  rfl
theorem upL_heap (l : List Ent) (n j : Nat) (hn : n ≤ l.length) (hj : j < n) (h : UpInv l n j) : HeapN (upL l j) n := by
  induction j using Nat.strongRecOn generalizing l with
  | _ j ih =>
    by_cases h0 : j = 0
    · subst h0
      unfold upL
      rw [if_pos rfl]
      exact fun k h1 h2 => h.1 k h1 h2 (by omega)
    rw [upL_step l j h0 (by omega)]
    have hpj : par j < j := by unfold par; omega
    cases hb : lessB (gt l j) (gt l (par j)) with
    | false =>
      rw [if_neg (by simp)]
      intro k h1 h2
      by_cases e : k = j
      · subst e; exact not_less.1 hb
      · exact h.1 k h1 h2 e
    | true =>
      rw [if_pos rfl]
      have hlt := (lessB_iff _ _).1 hb
      have g : ∀ k, gt (swapL l (par j) j (gt l (par j)) (gt l j)) k = if k = j then gt l (par j) else if k = par j then gt l j else gt l k := fun k => gt_swap _ _ _ _ _ _ (by omega) (by omega)
      refine ih (par j) hpj _ (by rw [swapL_len]; exact hn) (by omega) ⟨fun k h1 h2 hk => ?_, fun h0p k h1 h2 hk => ?_⟩
      · rw [g k, g (par k)]
        by_cases e : k = j
        · subst e
          rw [if_pos rfl, if_neg (by omega), if_pos rfl]
          exact le'_of_lt hlt
        · rw [if_neg e, if_neg hk]
          by_cases e1 : par k = j
          · rw [if_pos e1]
            exact h.2 (by omega) k h1 h2 e1
          · rw [if_neg e1]
            by_cases e2 : par k = par j
            · rw [if_pos e2]
              have := h.1 k h1 h2 e
              rw [e2] at this
              exact le'_trans (le'_of_lt hlt) this
            · rw [if_neg e2]
              exact h.1 k h1 h2 e
      · have hpp : par (par j) < par j := by unfold par at *; omega
        rw [g k, g (par (par j)), if_neg (by omega), if_neg (by omega)]
        have hp := h.1 (par j) h0p (by omega) (by omega)
        by_cases e : k = j
        · rw [if_pos e]; exact hp
        · have hkp : k ≠ par j := by intro e9; rw [e9] at hk; unfold par at *; omega
          rw [if_neg e, if_neg hkp]
          have := h.1 k h1 h2 e
          rw [hk] at this
          exact le'_trans hp this
theorem kid_min (l : List Ent) (n i : Nat) (h : 2 * i + 1 < n) : par (kid l n (2 * i + 1)) = i ∧ 0 < kid l n (2 * i + 1) ∧ kid l n (2 * i + 1) < n ∧ ∀ k, 0 < k → k < n → par k = i → le' (gt l (kid l n (2 * i + 1))) (gt l k) := by
  have hb := kid_bd l n (2 * i + 1) h
  unfold kid at *
  split
  · rename_i hc
    refine ⟨by unfold par; omega, by omega, hc.1, fun k h1 h2 h3 => ?_⟩
    have hk : k = 2 * i + 1 ∨ k = 2 * i + 1 + 1 := by unfold par at h3; omega
    rcases hk with rfl | rfl
    · exact le'_of_lt ((lessB_iff _ _).1 hc.2)
    · exact le'_refl _
  · rename_i hc
    refine ⟨by unfold par; omega, by omega, h, fun k h1 h2 h3 => ?_⟩
    have hk : k = 2 * i + 1 ∨ k = 2 * i + 1 + 1 := by unfold par at h3; omega
    rcases hk with rfl | rfl
    · exact le'_refl _
    · refine not_less.1 ?_
      cases hq : lessB (gt l (2 * i + 1 + 1)) (gt l (2 * i + 1)) with
      | false => rfl
      | true => exact absurd ⟨h2, hq⟩ hc
def DownInv (l : List Ent) (n i : Nat) : Prop := (∀ k, 0 < k → k < n → par k ≠ i → le' (gt l (par k)) (gt l k)) ∧ (0 < i → ∀ k, 0 < k → k < n → par k = i → le' (gt l (par i)) (gt l k))
theorem downL_heap (l : List Ent) (n i : Nat) (hn : n ≤ l.length) (h : DownInv l n i) : HeapN (downL l n i).1 n := by
  induction l, i using downL.induct (n := n) with
  | case1 l i hc h1 ih =>
    obtain ⟨kp, k0, kn, kmin⟩ := kid_min l n i hc
    unfold downL
    rw [dif_pos hc, if_pos h1]
    generalize hj : kid l n (2 * i + 1) = j at *
    have hlt := (lessB_iff _ _).1 h1
    have hij : i ≠ j := by unfold par at kp; omega
    have g : ∀ k, gt (swapL l i j (gt l i) (gt l j)) k = if k = j then gt l i else if k = i then gt l j else gt l k := fun k => gt_swap _ _ _ _ _ _ (by unfold par at kp; omega) (by omega)
    refine ih (by rw [swapL_len]; exact hn) ⟨fun k h2 h3 h4 => ?_, fun _ k h2 h3 h4 => ?_⟩
    · rw [g k, g (par k), if_neg h4]
      by_cases e : k = j
      · subst e
        rw [if_pos rfl, if_pos kp]
        exact le'_of_lt hlt
      · rw [if_neg e]
        by_cases e1 : k = i
        · subst e1
          rw [if_pos rfl, if_neg (by unfold par; omega)]
          exact h.2 h2 j k0 kn kp
        · rw [if_neg e1]
          by_cases e2 : par k = i
          · rw [if_pos e2]; exact kmin k h2 h3 e2
          · rw [if_neg e2]; exact h.1 k h2 h3 e2
    · have hkj : k ≠ j := by intro e; rw [e] at h4; unfold par at *; omega
      have hki : k ≠ i := by intro e; rw [e] at h4; unfold par at *; omega
      rw [g k, g (par j), if_neg hkj, if_neg hki, kp, if_neg hij, if_pos rfl]
      have := h.1 k h2 h3 (by rw [h4]; exact fun e => hij e.symm)
      rw [h4] at this
      exact this
  | case2 l i hc h1 =>
    obtain ⟨kp, k0, kn, kmin⟩ := kid_min l n i hc
    unfold downL
    rw [dif_pos hc, if_neg h1]
    intro k h2 h3
    by_cases e : par k = i
    · rw [e]
      exact le'_trans (not_less.1 (by simpa using h1)) (kmin k h2 h3 e)
    · exact h.1 k h2 h3 e
  | case3 l i hc =>
    unfold downL
    rw [dif_neg hc]
    intro k h2 h3
    exact h.1 k h2 h3 (by unfold par; omega)
/-- Where nothing lies below, or the lower child is not less, it stays. -/
theorem downL_cases (l : List Ent) (n i : Nat) : (downL l n i = (l, i) ∧ ∀ k, 0 < k → k < n → par k = i → le' (gt l i) (gt l k)) ∨ (2 * i + 1 < n ∧ ltE (gt l (kid l n (2 * i + 1))) (gt l i) ∧ i < (downL l n i).2) := by
  have hge : ∀ (l : List Ent) (i : Nat), i ≤ (downL l n i).2 := by
    intro l i
    induction l, i using downL.induct (n := n) with
    | case1 l i hc h1 ih =>
      have hb := kid_bd l n (2 * i + 1) hc
      unfold downL
      rw [dif_pos hc, if_pos h1]
      omega
    | case2 l i hc h1 => unfold downL; rw [dif_pos hc, if_neg h1]; exact Nat.le_refl _
    | case3 l i hc => unfold downL; rw [dif_neg hc]; exact Nat.le_refl _
  by_cases hc : 2 * i + 1 < n
  · obtain ⟨kp, k0, kn, kmin⟩ := kid_min l n i hc
    have hb := kid_bd l n (2 * i + 1) hc
    cases h1 : lessB (gt l (kid l n (2 * i + 1))) (gt l i) with
    | true =>
      refine .inr ⟨hc, (lessB_iff _ _).1 h1, ?_⟩
      unfold downL
      rw [dif_pos hc, if_pos h1]
      have := hge (swapL l i (kid l n (2 * i + 1)) (gt l i) (gt l (kid l n (2 * i + 1)))) (kid l n (2 * i + 1))
      omega
    | false =>
      refine .inl ⟨by unfold downL; rw [dif_pos hc, if_neg (by rw [h1]; simp)], fun k h2 h3 h4 => le'_trans (not_less.1 h1) (kmin k h2 h3 h4)⟩
  · exact .inl ⟨by unfold downL; rw [dif_neg hc], fun k h2 h3 h4 => by unfold par at h4; omega⟩
theorem swapL_perm (l : List Ent) (i j : Nat) (hi : i < l.length) (hj : j < l.length) : (swapL l i j (gt l i) (gt l j)).Perm l := by
  have e1 : gt l i = l[i] := by unfold gt; rw [List.getD_eq_getElem?_getD, List.getElem?_eq_getElem hi]; rfl
  have e2 : gt l j = l[j] := by unfold gt; rw [List.getD_eq_getElem?_getD, List.getElem?_eq_getElem hj]; rfl
  unfold swapL
  rw [e1, e2]
  exact List.set_set_perm hi hj
theorem upL_perm (l : List Ent) (j : Nat) (hj : j < l.length) : (upL l j).Perm l := by
  induction j using Nat.strongRecOn generalizing l with
  | _ j ih =>
    by_cases h0 : j = 0
    · subst h0; unfold upL; rw [if_pos rfl]
    rw [upL_step l j h0 hj]
    have hpj : par j < j := by unfold par; omega
    split
    · exact (ih _ hpj _ (by rw [swapL_len]; omega)).trans (swapL_perm l (par j) j (by omega) hj)
    · exact List.Perm.refl _
theorem downL_perm (l : List Ent) (n i : Nat) (hn : n ≤ l.length) : (downL l n i).1.Perm l := by
  induction l, i using downL.induct (n := n) with
  | case1 l i hc h1 ih =>
    have hb := kid_bd l n (2 * i + 1) hc
    unfold downL
    rw [dif_pos hc, if_pos h1]
    exact (ih (by rw [swapL_len]; exact hn)).trans (swapL_perm _ _ _ (by omega) (by omega))
  | case2 l i hc h1 => unfold downL; rw [dif_pos hc, if_neg h1]
  | case3 l i hc => unfold downL; rw [dif_neg hc]
theorem gt_take (l : List Ent) (n k : Nat) (hk : k < n) : gt (l.take n) k = gt l k := by
  unfold gt
  rw [List.getD_eq_getElem?_getD, List.getD_eq_getElem?_getD, List.getElem?_take, if_pos hk]
theorem heap_take {l : List Ent} {n : Nat} (h : HeapN l n) : HeapN (l.take n) n := fun k h1 h2 => by
  rw [gt_take _ _ _ h2, gt_take _ _ _ (by unfold par; omega)]
  exact h k h1 h2
theorem gt_append (l : List Ent) (x : Ent) (k : Nat) : gt (l ++ [x]) k = if k < l.length then gt l k else if k = l.length then x else e0 := by
  unfold gt
  rw [List.getD_eq_getElem?_getD, List.getD_eq_getElem?_getD]
  by_cases h : k < l.length
  · rw [if_pos h, List.getElem?_append_left h]
  · rw [if_neg h, List.getElem?_append_right (by omega)]
    by_cases h2 : k = l.length
    · subst h2; rw [if_pos rfl, Nat.sub_self]; rfl
    · rw [if_neg h2, List.getElem?_eq_none (by simp; omega)]; rfl
theorem setL_heap (l : List Ent) (tn ref dl : Int) (h : HeapN l l.length) : HeapN (setL l tn ref dl) (setL l tn ref dl).length ∧ (setL l tn ref dl).Perm (l ++ [⟨ref, dl, tn + 1⟩]) := by
  unfold setL
  rw [upL_len]
  refine ⟨upL_heap _ _ _ (Nat.le_refl _) (by simp) ⟨fun k h1 h2 h3 => ?_, fun h0 k h1 h2 h3 => ?_⟩, upL_perm _ _ (by simp)⟩
  · rw [List.length_append, List.length_singleton] at h2
    rw [gt_append, gt_append, if_pos (by unfold par; omega), if_pos (by omega)]
    exact h k h1 (by omega)
  · rw [List.length_append, List.length_singleton] at h2
    unfold par at h3
    omega
theorem popL_heap (l : List Ent) (n : Nat) (hl : l.length = n + 1) (h : HeapN l l.length) : HeapN (popL l n) n ∧ ((gt l 0) :: popL l n).Perm l := by
  have hs := swapL_perm l 0 n (by omega) (by omega)
  have g : ∀ k, gt (swapL l 0 n (gt l 0) (gt l n)) k = if k = n then gt l 0 else if k = 0 then gt l n else gt l k := fun k => gt_swap _ _ _ _ _ _ (by omega) (by omega)
  have hd := downL_perm (swapL l 0 n (gt l 0) (gt l n)) n 0 (by rw [swapL_len]; omega)
  constructor
  · unfold popL
    refine heap_take (downL_heap _ _ _ (by rw [swapL_len]; omega) ⟨fun k h1 h2 h3 => ?_, fun h0 => by omega⟩)
    have hpk : par k < k := by unfold par; omega
    rw [g k, g (par k), if_neg (by omega), if_neg (by omega), if_neg (by omega), if_neg (by omega)]
    exact h k h1 (by omega)
  · have h1 := last_split (downL (swapL l 0 n (gt l 0) (gt l n)) n 0).1 n (by rw [downL_len, swapL_len, hl])
    rw [downL_hi _ _ _ (by rw [swapL_len]; omega) _ (Nat.le_refl _), g n, if_pos rfl] at h1
    have h2 : (popL l n ++ [gt l 0]).Perm l := by
      unfold popL
      rw [← h1]
      exact hd.trans hs
    exact (List.perm_append_comm (l₁ := [gt l 0]) (l₂ := popL l n)).trans h2
theorem remL_heap (l : List Ent) (n i : Nat) (hl : l.length = n + 1) (hi : i ≤ n) (h : HeapN l l.length) : HeapN (remL l n i) n ∧ ((gt l i) :: remL l n i).Perm l := by
  by_cases hni : n = i
  · subst hni
    unfold remL
    rw [if_pos rfl]
    refine ⟨heap_take fun k h1 h2 => h k h1 (by omega), ?_⟩
    have h1 := last_split l n hl
    exact (List.perm_append_comm (l₁ := [gt l n]) (l₂ := l.take n)).trans (by rw [← h1])
  · have hin : i < n := by omega
    have hs := swapL_perm l i n (by omega) (by omega)
    have g : ∀ k, gt (swapL l i n (gt l i) (gt l n)) k = if k = n then gt l i else if k = i then gt l n else gt l k := fun k => gt_swap _ _ _ _ _ _ (by omega) (by omega)
    have hls : (swapL l i n (gt l i) (gt l n)).length = n + 1 := by rw [swapL_len, hl]
    generalize hL : swapL l i n (gt l i) (gt l n) = L at *
    have hd := downL_perm L n i (by omega)
    -- those off i are as they were
    have off : ∀ k, 0 < k → k < n → k ≠ i → par k ≠ i → le' (gt L (par k)) (gt L k) := fun k h1 h2 h3 h4 => by
      have hpk : par k < k := by unfold par; omega
      rw [g k, g (par k), if_neg (by omega), if_neg (by omega), if_neg (by omega), if_neg (by omega)]
      exact h k h1 (by omega)
    have kids : 0 < i → ∀ k, 0 < k → k < n → par k = i → le' (gt L (par i)) (gt L k) := fun h0 k h1 h2 h3 => by
      have hpi : par i < i := by unfold par; omega
      have hki : k ≠ i := by intro e; rw [e] at h3; omega
      rw [g k, g (par i), if_neg (by omega), if_neg (by omega), if_neg (by omega), if_neg hki]
      have a1 := h i h0 (by omega)
      have a2 := h k h1 (by omega)
      rw [h3] at a2
      exact le'_trans a1 a2
    have hrem : remL l n i = (if i < (downL L n i).2 then (downL L n i).1 else upL (downL L n i).1 i).take n := by
      unfold remL
      rw [if_neg hni, hL]
    have hgn : ∀ M : List Ent, M.length = n + 1 → M.Perm L → gt M n = gt l i → ((gt l i) :: M.take n).Perm l := fun M h1 h2 h3 => by
      have h4 := last_split M n h1
      rw [h3] at h4
      refine (List.perm_append_comm (l₁ := [gt l i]) (l₂ := M.take n)).trans ?_
      rw [← h4]
      exact h2.trans hs
    have hLn : gt L n = gt l i := by rw [g n, if_pos rfl]
    rcases downL_cases L n i with ⟨hq, hk⟩ | ⟨hc, hlt, hq⟩
    · rw [hrem, hq, if_neg (by simp)]
      constructor
      · refine heap_take (upL_heap L n i (by omega) hin ⟨fun k h1 h2 h3 => ?_, kids⟩)
        by_cases e : par k = i
        · rw [e]; exact hk k h1 h2 e
        · exact off k h1 h2 h3 e
      · exact hgn _ (by rw [upL_len, hls]) (upL_perm L i (by omega)) (by rw [upL_hi L i n hin (by omega)]; exact hLn)
    · rw [hrem, if_pos hq]
      constructor
      · refine heap_take (downL_heap L n i (by omega) ⟨fun k h1 h2 h3 => ?_, kids⟩)
        by_cases e : k = i
        · rw [e] at h1 h3 ⊢
          obtain ⟨kp, k0, kn, _⟩ := kid_min L n i hc
          have hle := kids h1 _ k0 kn kp
          exact le'_trans hle (le'_of_lt hlt)
        · exact off k h1 h2 e h3
      · exact hgn _ (by rw [downL_len, hls]) hd (by rw [downL_hi L n i (by omega) n (Nat.le_refl _)]; exact hLn)
theorem heap_min {l : List Ent} (h : HeapN l l.length) (k : Nat) (hk : k < l.length) : le' (gt l 0) (gt l k) := by
  induction k using Nat.strongRecOn with
  | _ k ih =>
    by_cases h0 : k = 0
    · subst h0; exact le'_refl _
    · have hp : par k < k := by unfold par; omega
      exact le'_trans (ih _ hp (by omega)) (h k (by omega) hk)
end Go.Proofs.Ytobgabjoehjpcaa
