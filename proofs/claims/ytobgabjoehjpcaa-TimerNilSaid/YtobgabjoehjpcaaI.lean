/- What Cancel and Due of package timer answer; no condition but bounds. -/
import Derived.Test.YtobgabjoehjpcaaH
namespace Go.Proofs.Ytobgabjoehjpcaa
open Go.RowKit

theorem first_eq {l : List Ent} {r : Int} {i j : Nat} (hi : (gt l i).ref = r) (hni : ∀ k, k < i → (gt l k).ref ≠ r) (hj : (gt l j).ref = r) (hnj : ∀ k, k < j → (gt l k).ref ≠ r) : i = j := by
  rcases Nat.lt_trichotomy i j with h | h | h
  · exact absurd hi (hnj i h)
  · exact h
  · exact absurd hj (hni j h)
def CancelPost (w : World) (p : Nat) (qv : Value) (l : List Ent) (tn ref : Int) (e : Ending) (w' : World) : Prop :=
  ∃ d, e = .returned (.tuple #[.int .i64 d, .int .i64 (whenE l ref)]) ∧ ((whenE l ref = 5 ∧ d = 0 ∧ Below w.heap.size w w') ∨
    (whenE l ref = 0 ∧ ∃ i, i < l.length ∧ (gt l i).ref = ref ∧ d = (gt l i).dl ∧ ∃ qv', IsWh w' p qv' (remL l (l.length - 1) i) tn ∧ qv'.ownBlock = qv.ownBlock ∧ Chg (FW p qv) w w'))
set_option maxRecDepth 100000 in
set_option maxHeartbeats 1000000 in
theorem cancel_any (w : World) (p : Nat) (qv : Value) (l : List Ent) (tn ref : Int) (h : IsWh w p qv l tn) (hn : l.length ≤ 900000) :
    Calls Try.prog 26 #[.pointer (some ⟨p, 0, none⟩), .int .i64 ref] w (CancelPost w p qv l tn ref) := by
  have HH := Kp.mk h
  have HW := Kp.mk (when_any w p qv l tn ref h (by omega))
  clear h
  go_enter Try.func26, Try.ntmps26
  go_wp2_with fail
  refine HW.out.mono ?_
  rintro e w1 ⟨d, rfl, hd, hb1⟩
  have H1 := Kp.mk (HH.out.below hb1)
  have HB1 := Kp.mk hb1
  have HD := Kp.mk hd
  rcases hd with ⟨he, rfl⟩ | ⟨he, i, hi, hri, hno, rfl⟩
  · have HE := Kp.mk he
    rw [he]
    clear he hb1 HW HD
    go_wp2
    go_ret2
    exact ⟨0, by rw [HE.out]; rfl, .inl ⟨HE.out, rfl, HB1.out⟩⟩
  · have HE := Kp.mk he
    rw [he]
    have HI := Kp.mk (And.intro hi (And.intro hri hno))
    obtain ⟨dl, hdl⟩ : ∃ dl, dl = (gt l i).dl := ⟨_, rfl⟩
    rw [← hdl]
    have HDL := Kp.mk hdl
    clear he hb1 HW HD hi hri hno hdl
    go_upto_region 3 with fail
    refine R_begin 999 (fun w9 => True) (by kernel_rfl) trivial (fun HP0 => ?_)
    refine R_pure 0 rfl (by kernel_rfl) HP0 ?_
    apply Exists.intro
    refine ⟨fun _ _ _ h => h, .inl ⟨by kernel_rfl, fun w9 h9 => ?_⟩, fun HP1 => ?_⟩
    · clear h9; go_simp; first | done | rfl
    clear HP0
    refine R_pure 1 rfl (by kernel_rfl) HP1 ?_
    apply Exists.intro
    refine ⟨fun _ _ _ h => h, .inl ⟨by kernel_rfl, fun w9 h9 => ?_⟩, fun HP2 => ?_⟩
    · clear h9; go_simp; first | done | rfl
    clear HP1
    refine R_pure 2 rfl (by kernel_rfl) HP2 ?_
    apply Exists.intro
    refine ⟨fun _ _ _ h => h, .inl ⟨by kernel_rfl, fun w9 h9 => ?_⟩, fun HP3 => ?_⟩
    · clear h9; go_simp; first | done | rfl
    clear HP2
    refine R_pure 3 rfl (by kernel_rfl) HP3 ?_
    apply Exists.intro
    refine ⟨fun _ _ _ h => h, .inl ⟨by kernel_rfl, fun w9 h9 => ?_⟩, fun HP4 => ?_⟩
    · clear h9; go_simp; first | done | rfl
    clear HP3
    refine R_pure 4 rfl (by kernel_rfl) HP4 ?_
    apply Exists.intro
    refine ⟨fun _ _ _ h => h, .inl ⟨by kernel_rfl, fun w9 h9 => ?_⟩, fun HP5 => ?_⟩
    · clear h9; go_simp; first | done | rfl
    clear HP4
    refine R_pure 5 rfl (by kernel_rfl) HP5 ?_
    apply Exists.intro
    refine ⟨fun _ _ _ h => h, .inl ⟨by kernel_rfl, fun w9 h9 => ?_⟩, fun HP6 => ?_⟩
    · clear h9; go_simp; first | done | rfl
    clear HP5
    refine R_all [6] (by kernel_rfl) ?_
    refine AllR.cons (i := 6) rfl (fun K9 HK9 => ?_) ?_
    · go_simp
      refine (at_any _ p qv l tn ref H1.out.drew (by omega)).mono ?_
      rintro e5 w5 ⟨k, hk, rfl, hb5⟩
      have H5 := Kp.mk (H1.out.drew.below hb5)
      have C5 : Kp (Chg (FW p qv) w w5) := ⟨(Chg.of_below HB1.out (FW p qv)).drew.then (Chg.of_below hb5 _)⟩
      obtain rfl : k = (i : Int) := by
        rcases hk with ⟨j, hj, rfl, hrj, hnj⟩ | ⟨rfl, hnj⟩
        · rw [first_eq HI.out.2.1 HI.out.2.2 hrj hnj]
        · exact absurd HI.out.2.1 (hnj i HI.out.1)
      clear hk hb5
      go_simp
      refine HK9.out _ _ (.inr trivial) (fun HP7 => ?_)
      clear HK9 K9
      refine R_all [7] (by kernel_rfl) ?_
      refine AllR.cons (i := 7) rfl (fun K9 HK9 => ?_) ?_
      · go_simp
        refine (hrem_any _ p qv l (l.length - 1) i tn H5.out (by have := HI.out.1; omega) (by have := HI.out.1; omega) (by omega)).mono ?_
        rintro e6 w6 ⟨rfl, qv', h6, hq6, hc6⟩
        have H6 := Kp.mk h6
        have Q6 := Kp.mk hq6
        have C6 : Kp (Chg (FW p qv) w w6) := ⟨C5.out.then hc6⟩
        clear h6 hq6 hc6
        go_simp
        refine HK9.out _ _ (.inr trivial) (fun HP8 => ?_)
        clear HK9 K9
        refine R_done (by kernel_rfl) ?_
        go_wp2
        go_ret2
        exact ⟨dl, by rw [HE.out]; rfl, .inr ⟨HE.out, i, HI.out.1, HI.out.2.1, HDL.out, qv', H6.out, Q6.out, C6.out⟩⟩
      exact AllR.nil
    exact AllR.nil
theorem popL_len (l : List Ent) (n : Nat) (h : l.length = n + 1) : (popL l n).length = n := by unfold popL; rw [List.length_take, downL_len, swapL_len]; omega
def dueL (l : List Ent) (now : Int) : List Ent × List Ent :=
  if h : l ≠ [] ∧ (gt l 0).dl ≤ now then ((gt l 0) :: (dueL (popL l (l.length - 1)) now).1, (dueL (popL l (l.length - 1)) now).2) else ([], l)
termination_by l.length
decreasing_by all_goals (have h1 := List.length_pos_iff.2 h.1; rw [popL_len _ _ (by omega)]; omega)
def dueE (now : Int) : Int := if now < 0 ∨ 1152921504606846976 < now then 1 else 0
def eRef (l : List Ent) : List Int := l.map (·.ref)
def DuePost (w : World) (p : Nat) (qv : Value) (l : List Ent) (tn now : Int) (e : Ending) (w' : World) : Prop :=
  (dueE now = 1 ∧ e = .returned (.tuple #[.slice none 0 0, .int .i64 1]) ∧ w = w') ∨
  (dueE now = 0 ∧ ∃ A c, e = .returned (.tuple #[.slice A (dueL l now).1.length c, .int .i64 0]) ∧ Own w' 2 eI64 (.slice A (dueL l now).1.length c) (eRef (dueL l now).1) ∧ Fresh w (.slice A (dueL l now).1.length c) ∧
    ∃ qv', IsWh w' p qv' (dueL l now).2 tn ∧ qv'.ownBlock = qv.ownBlock ∧ Chg (FW p qv) w w')
/-- How long the queue is. -/
def qlen (p : Nat) (w : World) : Nat := match w.cell? ⟨p, 0, none⟩ with | some (.slice _ n _) => n | _ => 0
theorem IsWh.qlen {w : World} {p : Nat} {qv : Value} {l : List Ent} {tn : Int} (h : IsWh w p qv l tn) : qlen p w = l.length := by
  obtain ⟨A, c, _, q⟩ := h.sh
  unfold Ytobgabjoehjpcaa.qlen
  rw [q]
set_option maxRecDepth 100000 in
set_option maxHeartbeats 4000000 in
theorem due_any (w : World) (p : Nat) (qv : Value) (l : List Ent) (tn now : Int) (h : IsWh w p qv l tn) (hn : l.length ≤ 100000) :
    Calls Try.prog 14 #[.pointer (some ⟨p, 0, none⟩), .int .i64 now] w (DuePost w p qv l tn now) := by
  have HH := Kp.mk h
  by_cases h1 : now < 0
  · have e : Kp (dueE now = 1) := ⟨by unfold dueE; rw [if_pos (.inl h1)]⟩
    have d1 : decide (now < 0) = true := by simpa using h1
    clear h
    go_enter Try.func14, Try.ntmps14
    go_wp2
    go_ret2
    exact .inl ⟨e.out, rfl, rfl⟩
  have d1 : decide (now < 0) = false := by simpa using h1
  by_cases h2 : 1152921504606846976 < now
  · have e : Kp (dueE now = 1) := ⟨by unfold dueE; rw [if_pos (.inr h2)]⟩
    have d2 : decide (1152921504606846976 < now) = true := by simpa using h2
    clear h
    go_enter Try.func14, Try.ntmps14
    go_wp2
    go_ret2
    exact .inl ⟨e.out, rfl, rfl⟩
  have d2 : decide (1152921504606846976 < now) = false := by simpa using h2
  have e : Kp (dueE now = 0) := ⟨by unfold dueE; rw [if_neg (by omega)]⟩
  clear h
  go_enter Try.func14, Try.ntmps14
  go_wp2
  go_loopw [6, 7] (fun lv ev wr => ∃ (D l' : List Ent) (qv' : Value) (A : Option Addr) (N c : Nat), lv = .slice A N c ∧ (∃ u, ev = u) ∧ N + l'.length ≤ 100000 ∧ Kp (N = D.length) ∧ Kp (Own wr 2 eI64 (.slice A N c) (eRef D)) ∧ Kp (Fresh w (.slice A N c)) ∧ Kp (IsWh wr p qv' l' tn) ∧ Kp (qv'.ownBlock = qv.ownBlock) ∧ Kp (D ++ (dueL l' now).1 = (dueL l now).1 ∧ (dueL l' now).2 = (dueL l now).2) ∧ Kp (Chg (FW p qv) w wr)) (fun _ _ wr => qlen p wr)
  case atStart => exact ⟨[], l, qv, none, 0, 0, rfl, ⟨_, rfl⟩, by simpa using hn, ⟨rfl⟩, ⟨Own.nil _ _ _⟩, ⟨Fresh.nil _ _ _⟩, HH, ⟨rfl⟩, ⟨rfl, rfl⟩, ⟨Chg.refl _ _⟩⟩
  case round =>
    obtain ⟨D, l', qv', A, N, c, rfl, ⟨u0, rfl⟩, hbd, hN, hO, hF, hW, hQ, hD, hC⟩ := hrel
    obtain ⟨B, cq, hv, q⟩ := hW.out.sh
    have ho := hW.out.own
    rw [hv] at ho
    by_cases hl : l' = []
    · have hs : Kp (dueL l' now = ([], l')) := ⟨by unfold dueL; rw [dif_neg (fun h => h.1 hl)]⟩
      have q0 := q
      rw [hl] at q0
      have E1 : Kp (D = (dueL l now).1 ∧ l' = (dueL l now).2) := ⟨by have h1 := hD.out; rw [hs.out] at h1; simpa using h1⟩
      clear ho hv q hl
      go_wp2
      go_ret2
      have h1 := E1.out.1
      have h2 := hN.out
      refine .inr ⟨e.out, A, c, by rw [← h1, ← h2]; rfl, by rw [← h1, ← h2]; exact hO.out, by rw [← h1, ← h2]; exact hF.out, qv', by rw [← E1.out.2]; exact hW.out, hQ.out, hC.out⟩
    · have hlen : 0 < l'.length := List.length_pos_iff.2 hl
      have HLE := Kp.mk hl
      obtain ⟨g, rfl⟩ : ∃ g, B = some ⟨g, 0, none⟩ := by
        obtain ⟨A2, c2, hv2, _, _, hs0, hs1⟩ := ho.shape
        have ea : B = A2 := by injection hv2
        cases hA : A2 with
        | none => have h1 := (hs0 hA).1; exact absurd h1 hl
        | some x => obtain ⟨g, rfl⟩ := hs1 x hA; exact ⟨g, by rw [ea, hA]⟩
      obtain ⟨a0, a1, a2⟩ := ho.ent 0 _ (gt_at l' 0 hlen)
      have k1 : (0 : Int) < (l'.length : Int) := by omega
      have k2 : decide ((0 : Int) < (l'.length : Int)) = true := by simpa using k1
      obtain ⟨x, hx⟩ : ∃ x, x = gt l' 0 := ⟨_, rfl⟩
      rw [← hx] at a0 a1 a2
      have HX := Kp.mk hx
      by_cases hnow : x.dl ≤ now
      · have hnd : decide (x.dl ≤ now) = true := by simpa using hnow
        have hs : Kp (dueL l' now = (x :: (dueL (popL l' (l'.length - 1)) now).1, (dueL (popL l' (l'.length - 1)) now).2)) := ⟨by
          conv => lhs; unfold dueL
          rw [dif_pos ⟨hl, by rw [← hx]; exact hnow⟩, ← hx]⟩
        have HPO := Kp.mk (hpop_any wr p qv' l' (l'.length - 1) tn hW.out (by omega) (by omega))
        rw [← hx] at HPO
        have hta := assert60
        clear ho hv hx hl
        go_wp2_with fail
        refine HPO.out.mono ?_
        rintro e5 w5 ⟨rfl, qv5, h5, hq5, hc5⟩
        have hpl : (popL l' (l'.length - 1)).length = l'.length - 1 := popL_len _ _ (by omega)
        have H5 := Kp.mk h5
        have Q5 := Kp.mk hq5
        have hFW : ∀ n, n < w.heap.size → FW p qv' n → FW p qv n := fun n _ hn => by
          rcases hn with h | h
          · exact .inl h
          · exact .inr (by rw [← hQ.out]; exact h)
        have C5 : Kp (Chg (FW p qv) w w5) := ⟨hC.out.trans hc5 hFW⟩
        have O5 := Kp.mk (hO.out.frame hc5 (fun g2 hg hF2 => by
          rcases hF2 with h | h
          · rw [h] at hg; exact hO.out.ne hW.out.blk (by decide) hg
          · obtain ⟨cur, hcur⟩ := hW.out.own.blk' h
            exact hO.out.ne hcur (by decide) hg))
        have al : Own (w5.alloc (.cells #[.int .i64 x.ref, .int .i64 x.dl, .int .i64 x.tn] 60)) 2 eI64 (.slice A N c) (eRef D) := O5.out.alloc _
        have HPL := Kp.mk hpl
        have hlD : (eRef D).length = N := by unfold eRef; rw [List.length_map, hN.out]
        have HLD := Kp.mk hlD
        clear h5 hq5 hc5 HPO a0 a1 a2 hFW hpl
        go_wp2_with (at_builtin; refine app1_ev T32 x.ref rfl _ _ rfl al rfl rfl rfl (by simp) rfl (by omega) (by omega) ?_; intro A' n' c' w6 b0 b1 b2 b3)
        have hb56 : Below w5.heap.size w5 (w5.alloc (.cells #[.int .i64 x.ref, .int .i64 x.dl, .int .i64 x.tn] 60)) := (Below.refl _ _).alloc (Nat.le_refl _) _
        have H6 : IsWh w6 p qv5 (popL l' (l'.length - 1)) tn := (H5.out.below hb56).frame b2 (fun g2 hg hF2 => by
          rcases hg with h | h
          · rw [h] at hF2; exact al.ne (H5.out.below hb56).blk (by decide) hF2
          · obtain ⟨cur, hcur⟩ := (H5.out.below hb56).own.blk' h
            exact al.ne hcur (by decide) hF2)
        have h6q := H6.qlen
        go_roundw
        case rel =>
          refine ⟨D ++ [x], popL l' (l'.length - 1), qv5, A', n', c', rfl, ⟨_, rfl⟩, ?_, ⟨?_⟩, ⟨?_⟩, ⟨hF.out.app (a := w5.alloc (.cells #[.int .i64 x.ref, .int .i64 x.dl, .int .i64 x.tn] 60)) (Nat.le_trans C5.out.size hb56.size) b3⟩, ⟨H6⟩, ⟨Q5.out.trans hQ.out⟩, ⟨?_⟩, ⟨?_⟩⟩
          · rw [HPL.out, b0.out, HLD.out]; omega
          · rw [b0.out, HLD.out, List.length_append, hN.out]; rfl
          · have h7 : eRef (D ++ [x]) = eRef D ++ [x.ref] := by simp [eRef]
            rw [h7]; exact b1
          · have h8 := hD.out
            rw [hs.out] at h8
            simpa using h8
          · exact (C5.out.then (Chg.of_below hb56 _)).trans b2 (fun n hn hF2 => by have h9 := hF.out n hF2; omega)
        case measure => rw [h6q, HPL.out, hW.out.qlen]; omega
      · have hnd : decide (x.dl ≤ now) = false := by simpa using hnow
        have hs : Kp (dueL l' now = ([], l')) := ⟨by unfold dueL; rw [dif_neg (fun h => hnow (by rw [hx]; exact h.2))]⟩
        have E1 : Kp (D = (dueL l now).1 ∧ l' = (dueL l now).2) := ⟨by have h1 := hD.out; rw [hs.out] at h1; simpa using h1⟩
        clear ho hv hx hl
        go_wp2
        go_ret2
        have h1 := E1.out.1
        have h2 := hN.out
        refine .inr ⟨e.out, A, c, by rw [← h1, ← h2]; rfl, by rw [← h1, ← h2]; exact hO.out, by rw [← h1, ← h2]; exact hF.out, qv', by rw [← E1.out.2]; exact hW.out, hQ.out, hC.out⟩
end Go.Proofs.Ytobgabjoehjpcaa
