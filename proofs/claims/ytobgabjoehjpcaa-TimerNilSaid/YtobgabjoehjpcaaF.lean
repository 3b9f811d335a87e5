/- What Pop and Remove of container/heap do over package timer's queue; no condition but bounds. -/
import Derived.Test.YtobgabjoehjpcaaE
namespace Go.Proofs.Ytobgabjoehjpcaa
open Go.RowKit

theorem Own.take {α : Type} {w : World} {T : TypeId} {E : El α} {l : List α} {g n c : Nat} (h : Own w T E (.slice (some ⟨g, 0, none⟩) n c) l) (m : Nat) (hm : m ≤ l.length) : Own w T E (.slice (some ⟨g, 0, none⟩) m c) (l.take m) := by
  rcases h.row.2 with ⟨h1, _⟩ | ⟨g', cap, cur, h1, _, hg, hc, hmx, hs, ht⟩
  · cases h1
  · cases h1
    have e : (l.take m).length = m := by rw [List.length_take]; omega
    refine ⟨⟨E.flat_length _, .inr ⟨g, c, cur, by rw [e], Nat.zero_le _, hg, by rw [e]; omega, hmx, hs, ?_⟩⟩⟩
    have e2 : E.flat (l.take m) = (E.flat l).take (m * E.k) := by
      have h2 : E.flat l = E.flat (l.take m) ++ E.flat (l.drop m) := by rw [← E.flat_append, List.take_append_drop]
      have h3 : (E.flat (l.take m)).length = m * E.k := by rw [E.flat_length, e]
      rw [h2, ← h3, List.take_left]
    rw [e, e2, ← ht, List.take_take]
    congr 1
    have := Nat.mul_le_mul_right E.k hm
    omega
theorem gt_swap (l : List Ent) (i j k : Nat) (a b : Ent) (hi : i < l.length) (hj : j < l.length) : gt (swapL l i j a b) k = if k = j then a else if k = i then b else gt l k := by
  unfold gt swapL
  rw [List.getD_eq_getElem?_getD, List.getD_eq_getElem?_getD, List.getElem?_set, List.getElem?_set]
  by_cases h1 : k = j
  · subst h1; rw [if_pos rfl, if_pos (by simpa using hj), if_pos rfl]; rfl
  · rw [if_neg (fun e => h1 e.symm), if_neg h1]
    by_cases h2 : k = i
    · subst h2; rw [if_pos rfl, if_pos hi, if_pos rfl]; rfl
    · rw [if_neg (fun e => h2 e.symm), if_neg h2]
theorem downL_len (l : List Ent) (n i : Nat) : (downL l n i).1.length = l.length := by
  induction l, i using downL.induct (n := n) with
  | case1 l i h h1 ih => unfold downL; rw [dif_pos h, if_pos h1, ih, swapL_len]
  | case2 l i h h1 => unfold downL; rw [dif_pos h, if_neg h1]
  | case3 l i h => unfold downL; rw [dif_neg h]
theorem downL_hi (l : List Ent) (n i : Nat) (hn : n ≤ l.length) (j : Nat) (hj : n ≤ j) : gt (downL l n i).1 j = gt l j := by
  induction l, i using downL.induct (n := n) with
  | case1 l i h h1 ih =>
    unfold downL
    have hk := kid_bd l n (2 * i + 1) h
    rw [dif_pos h, if_pos h1, ih (by rw [swapL_len]; exact hn), gt_swap _ _ _ _ _ _ (by omega) (by omega), if_neg (by omega), if_neg (by omega)]
  | case2 l i h h1 => unfold downL; rw [dif_pos h, if_neg h1]
  | case3 l i h => unfold downL; rw [dif_neg h]
theorem upL_len (l : List Ent) (j : Nat) : (upL l j).length = l.length := by
  induction j using Nat.strongRecOn generalizing l with
  | _ j ih =>
    unfold upL
    split
    · rfl
    · split
      · split
        · rw [ih _ (by omega), swapL_len]
        · rfl
      · rfl
theorem upL_hi (l : List Ent) (j k : Nat) (hk : j < k) (hl : j < l.length) : gt (upL l j) k = gt l k := by
  induction j using Nat.strongRecOn generalizing l with
  | _ j ih =>
    unfold upL
    split
    · rfl
    · split
      · split
        · rw [ih _ (by omega) _ (by omega) (by rw [swapL_len]; omega), gt_swap _ _ _ _ _ _ (by omega) hl, if_neg (by omega), if_neg (by omega)]
        · rfl
      · rfl
theorem last_split (l : List Ent) (n : Nat) (h : l.length = n + 1) : l = l.take n ++ [gt l n] := by
  have h1 := List.take_succ_eq_append_getElem (l := l) (i := n) (by omega)
  rw [List.take_of_length_le (by omega)] at h1
  have h2 : gt l n = l[n] := by unfold gt; rw [List.getD_eq_getElem?_getD, List.getElem?_eq_getElem (by omega)]; rfl
  rw [h2]; exact h1
def PopPost (w : World) (p : Nat) (qv : Value) (x : Ent) (l' : List Ent) (tn : Int) (e : Ending) (w' : World) : Prop :=
  e = .returned (.iface 60 (.agg #[.int .i64 x.ref, .int .i64 x.dl, .int .i64 x.tn])) ∧ ∃ qv', IsWh w' p qv' l' tn ∧ qv'.ownBlock = qv.ownBlock ∧ Chg (FW p qv) w w'
set_option maxRecDepth 100000 in
set_option maxHeartbeats 1000000 in
theorem pop_any (w : World) (p : Nat) (qv : Value) (l : List Ent) (n : Nat) (tn : Int) (h : IsWh w p qv l tn) (hl : l.length = n + 1) (hn : n ≤ 1000000) :
    Calls Try.prog 87 #[.pointer (some ⟨p, 0, none⟩)] w (PopPost w p qv (gt l n) (l.take n) tn) := by
  obtain ⟨A, c, hv, hc, _, hs0, hs1⟩ := h.own.shape
  obtain ⟨g, rfl⟩ : ∃ g, A = some ⟨g, 0, none⟩ := by
    cases A with
    | none => have := (hs0 rfl).1; rw [this] at hl; simp at hl
    | some a => obtain ⟨g, rfl⟩ := hs1 a rfl; exact ⟨g, rfl⟩
  rw [hl] at hv hc
  have q := h.c0
  rw [hv] at q
  have qf := h.fz 0
  have ho := h.own
  rw [hv] at ho
  obtain ⟨a0, a1, a2⟩ := ho.ent n _ (gt_at l n (by omega))
  have hpl := h.lt
  have hgl := ho.lt (g := g) rfl
  have hc1 : n ≤ c := by omega
  have hc2 : (n : Int) ≤ (c : Int) := by omega
  have hn0 : (n : Int) < (n : Int) + 1 := by omega
  have hn1 : (0 : Int) ≤ (n : Int) := by omega
  have HV := Kp.mk hv
  have HH := Kp.mk h
  have HL := Kp.mk hl
  have HO := Kp.mk ho
  obtain ⟨x, hx⟩ : ∃ x, x = gt l n := ⟨_, rfl⟩
  rw [← hx] at a0 a1 a2 ⊢
  clear h hv hs0 hs1 hl ho hc hx
  go_enter Try.func87, Try.ntmps87
  go_wp2
  go_ret
  have h2 := HO.out.take n (by rw [HL.out]; omega)
  have h3 := IsWh.setQ HH.out.blk h2
  exact ⟨rfl, .slice (some ⟨g, 0, none⟩) n c, h3.below ((Below.refl _ _).alloc (Nat.le_refl _) _), by rw [HV.out]; rfl, ((Chg.refl (FW p qv) w).set (p := ⟨p, 0, none⟩) (.inl (.inl rfl)) _).alloc _⟩
def popL (l : List Ent) (n : Nat) : List Ent := (downL (swapL l 0 n (gt l 0) (gt l n)) n 0).1.take n
theorem PopPost.trans {w w1 w2 : World} {p : Nat} {qv : Value} {x : Ent} {l' : List Ent} {tn : Int} {e : Ending} {g : Nat} (hg : qv.ownBlock = some g) (hc : Chg (fun x => x = g) w w1) (h : PopPost w1 p qv x l' tn e w2) : PopPost w p qv x l' tn e w2 := by
  obtain ⟨he, qv', h1, h2, h3⟩ := h
  exact ⟨he, qv', h1, h2, (hc.mono fun x _ hx => .inr (by rw [hg, hx])).then h3⟩
set_option maxRecDepth 100000 in
set_option maxHeartbeats 1000000 in
theorem hpop_any (w : World) (p : Nat) (qv : Value) (l : List Ent) (n : Nat) (tn : Int) (h : IsWh w p qv l tn) (hl : l.length = n + 1) (hn : n ≤ 900000) :
    Calls Try.prog 28 #[.iface 62 (.pointer (some ⟨p, 0, none⟩))] w (PopPost w p qv (gt l 0) (popL l n) tn) := by
  obtain ⟨A, c, hv, hc, _, hs0, hs1⟩ := h.own.shape
  obtain ⟨g, rfl⟩ : ∃ g, A = some ⟨g, 0, none⟩ := by
    cases A with
    | none => have := (hs0 rfl).1; rw [this] at hl; simp at hl
    | some a => obtain ⟨g, rfl⟩ := hs1 a rfl; exact ⟨g, rfl⟩
  rw [hl] at hv
  have q := h.c0
  rw [hv] at q
  have hml := meth_len w p _ q
  have hms := meth_swap w p _ q
  have ho := h.own
  rw [hv] at ho
  have hpg : p ≠ g := fun e => h.ne (by rw [hv, e]; rfl)
  have HSW := Kp.mk (swap_any w g (n + 1) c 0 n l _ _ ho hl.symm (gt_at l 0 (by omega)) (gt_at l n (by omega)) (by omega))
  have HV := Kp.mk hv
  have HH := Kp.mk h
  have HL := Kp.mk hl
  have HG : Kp (qv.ownBlock = some g) := ⟨by rw [hv]; rfl⟩
  clear h hv hs0 hs1 hl ho hc
  go_enter Try.func28, Try.ntmps28
  go_wp2_with fail
  refine (len_any w _ _ _).mono ?_
  rintro e w1 ⟨rfl, rfl⟩
  go_wp2_with fail
  refine HSW.out.mono ?_
  rintro e w1 ⟨⟨v1, rfl⟩, o1, c1⟩
  have H1 := Kp.mk (HH.out.row HG.out c1 (by rw [HV.out]; exact o1))
  have C1 := Kp.mk c1
  have q1 := H1.out.c0
  rw [HV.out] at q1
  have HD := Kp.mk (down_any w1 p g (n + 1) c 0 n _ q1 hpg o1 (by rw [swapL_len, HL.out]) (by omega) (by omega) (by omega))
  clear o1 c1 hml hms q HSW
  go_wp2_with fail
  refine HD.out.mono ?_
  rintro e w2 ⟨rfl, o2, c2⟩
  have H2 := Kp.mk (H1.out.row HG.out c2 (by rw [HV.out]; exact o2))
  have C2 : Kp (Chg (fun x => x = g) w w2) := ⟨C1.out.then c2⟩
  have hmp := meth_pop w2 p
  have HPO := Kp.mk (pop_any w2 p qv _ n tn H2.out (by rw [downL_len, swapL_len, HL.out]) (by omega))
  rw [downL_hi _ _ _ (by rw [swapL_len, HL.out]; omega) _ (Nat.le_refl _), gt_swap _ _ _ _ _ _ (by rw [HL.out]; omega) (by rw [HL.out]; omega), if_pos rfl] at HPO
  clear o2 c2 q1 HD
  go_wp2_with fail
  refine HPO.out.mono ?_
  rintro e w3 h3
  have H3 := Kp.mk (h3.trans HG.out C2.out)
  obtain ⟨he, _⟩ := h3
  subst he
  clear HPO hmp
  go_wp2
  go_ret
  exact H3.out
def remL (l : List Ent) (n i : Nat) : List Ent :=
  if n = i then l.take n else
    let d := downL (swapL l i n (gt l i) (gt l n)) n i
    (if i < d.2 then d.1 else upL d.1 i).take n
set_option maxRecDepth 100000 in
set_option maxHeartbeats 1000000 in
theorem hrem_any (w : World) (p : Nat) (qv : Value) (l : List Ent) (n i : Nat) (tn : Int) (h : IsWh w p qv l tn) (hl : l.length = n + 1) (hi : i ≤ n) (hn : n ≤ 900000) :
    Calls Try.prog 33 #[.iface 62 (.pointer (some ⟨p, 0, none⟩)), .int .i64 i] w (PopPost w p qv (gt l i) (remL l n i) tn) := by
  obtain ⟨A, c, hv, hc, _, hs0, hs1⟩ := h.own.shape
  obtain ⟨g, rfl⟩ : ∃ g, A = some ⟨g, 0, none⟩ := by
    cases A with
    | none => have := (hs0 rfl).1; rw [this] at hl; simp at hl
    | some a => obtain ⟨g, rfl⟩ := hs1 a rfl; exact ⟨g, rfl⟩
  rw [hl] at hv
  have q := h.c0
  rw [hv] at q
  have hml := meth_len w p _ q
  have hms := meth_swap w p _ q
  have hmp0 := meth_pop w p
  have ho := h.own
  rw [hv] at ho
  have hpg : p ≠ g := fun e => h.ne (by rw [hv, e]; rfl)
  have HSW := Kp.mk (swap_any w g (n + 1) c i n l _ _ ho hl.symm (gt_at l i (by omega)) (gt_at l n (by omega)) (by omega))
  have HV := Kp.mk hv
  have HH := Kp.mk h
  have HL := Kp.mk hl
  have HG : Kp (qv.ownBlock = some g) := ⟨by rw [hv]; rfl⟩
  clear h hv hs0 hs1 hl ho hc
  by_cases hni : n = i
  · have e : Kp (remL l n i = l.take n) := ⟨by unfold remL; rw [if_pos hni]⟩
    have hnb : ((n : Int) != (i : Int)) = false := by simp; omega
    have hnp : (n : Int) = (i : Int) := by omega
    have HPO := Kp.mk (pop_any w p qv _ n tn HH.out HL.out (by omega))
    rw [← e.out] at HPO
    subst hni
    go_enter Try.func33, Try.ntmps33
    go_wp2_with fail
    refine (len_any w _ _ _).mono ?_
    rintro e w1 ⟨rfl, rfl⟩
    go_wp2_with fail
    refine HPO.out.mono ?_
    rintro e w3 h3
    have H3 := Kp.mk h3
    obtain ⟨he, _⟩ := h3
    subst he
    clear HPO
    go_wp2
    go_ret
    exact H3.out
  · have hnb : ((n : Int) != (i : Int)) = true := by simp; omega
    have hnp : ¬ ((n : Int) = (i : Int)) := by omega
    obtain ⟨l1, hl1⟩ : ∃ l1, l1 = swapL l i n (gt l i) (gt l n) := ⟨_, rfl⟩
    obtain ⟨d, hd⟩ : ∃ d, d = downL l1 n i := ⟨_, rfl⟩
    have e : Kp (remL l n i = (if i < d.2 then d.1 else upL d.1 i).take n) := ⟨by unfold remL; rw [if_neg hni, ← hl1, ← hd]⟩
    have L1 : Kp (l1.length = n + 1 ∧ gt l1 n = gt l i) := ⟨by rw [hl1, swapL_len, HL.out]; exact ⟨rfl, by rw [gt_swap _ _ _ _ _ _ (by rw [HL.out]; omega) (by rw [HL.out]; omega), if_pos rfl]⟩⟩
    have LD : Kp (d.1.length = n + 1 ∧ gt d.1 n = gt l i) := ⟨by rw [hd, downL_len, L1.out.1]; exact ⟨rfl, by rw [downL_hi _ _ _ (by rw [L1.out.1]; omega) _ (Nat.le_refl _)]; exact L1.out.2⟩⟩
    rw [← hl1] at HSW
    have HD1 := Kp.mk hd
    have hin : i < n := by omega
    clear hl1 hd hni
    go_enter Try.func33, Try.ntmps33
    go_wp2_with fail
    refine (len_any w _ _ _).mono ?_
    rintro e w1 ⟨rfl, rfl⟩
    go_wp2_with fail
    refine HSW.out.mono ?_
    rintro e w1 ⟨⟨v1, rfl⟩, o1, c1⟩
    have H1 := Kp.mk (HH.out.row HG.out c1 (by rw [HV.out]; exact o1))
    have C1 := Kp.mk c1
    have q1 := H1.out.c0
    rw [HV.out] at q1
    have HD := Kp.mk (down_any w1 p g (n + 1) c i n _ q1 hpg o1 L1.out.1.symm (by omega) (by omega) (by omega))
    rw [← HD1.out] at HD
    clear o1 c1 hml hms q HSW hmp0
    go_wp2_with fail
    refine HD.out.mono ?_
    rintro e w2 ⟨rfl, o2, c2⟩
    have H2 := Kp.mk (H1.out.row HG.out c2 (by rw [HV.out]; exact o2))
    have C2 : Kp (Chg (fun x => x = g) w w2) := ⟨C1.out.then c2⟩
    have hmp := meth_pop w2 p
    have q2 := H2.out.c0
    rw [HV.out] at q2
    have HUP := Kp.mk (up_any w2 p g (n + 1) c i _ q2 hpg o2 LD.out.1.symm (by omega) (by omega))
    have Q2 := Kp.mk q2
    clear o2 c2 q1 HD q2
    by_cases hlt : i < d.2
    · have hdt : decide (i < d.2) = true := by simpa using hlt
      have HPO := Kp.mk (pop_any w2 p qv _ n tn H2.out LD.out.1 (by omega))
      have e2 := e.out
      rw [if_pos hlt] at e2
      rw [LD.out.2, ← e2] at HPO
      clear hlt e2
      go_wp2_with fail
      refine HPO.out.mono ?_
      rintro e w3 h3
      have H3 := Kp.mk (h3.trans HG.out C2.out)
      obtain ⟨he, _⟩ := h3
      subst he
      clear HPO hmp
      go_wp2
      go_ret
      exact H3.out
    · have hdt : decide (i < d.2) = false := by simpa using hlt
      have e2 := e.out
      rw [if_neg hlt] at e2
      have E2 := Kp.mk e2
      clear hlt e2
      go_wp2_with fail
      refine HUP.out.mono ?_
      rintro e w4 ⟨⟨v4, rfl⟩, o4, c4⟩
      have H4 := Kp.mk (H2.out.row HG.out c4 (by rw [HV.out]; exact o4))
      have C4 : Kp (Chg (fun x => x = g) w w4) := ⟨C2.out.then c4⟩
      have hmp4 := meth_pop w4 p
      have HPO := Kp.mk (pop_any w4 p qv _ n tn H4.out (by rw [upL_len, LD.out.1]) (by omega))
      rw [upL_hi _ _ _ hin (by rw [LD.out.1]; omega), LD.out.2, ← E2.out] at HPO
      clear o4 c4 HUP hmp
      go_wp2_with fail
      refine HPO.out.mono ?_
      rintro e w3 h3
      have H3 := Kp.mk (h3.trans HG.out C4.out)
      obtain ⟨he, _⟩ := h3
      subst he
      clear HPO hmp4
      go_wp2
      go_ret
      exact H3.out
end Go.Proofs.Ytobgabjoehjpcaa
