/- What Set, When, Next, Len of package timer answer; no condition but bounds. -/
import Derived.Test.YtobgabjoehjpcaaG
namespace Go.Proofs.Ytobgabjoehjpcaa
open Go.RowKit

def setL (l : List Ent) (tn ref dl : Int) : List Ent := upL (l ++ [⟨ref, dl, tn + 1⟩]) l.length
def SetPost (w : World) (p : Nat) (qv : Value) (l : List Ent) (tn ref dl : Int) (e : Ending) (w' : World) : Prop :=
  e = .returned (.int .i64 (setE l ref dl)) ∧ ((setE l ref dl ≠ 0 ∧ Below w.heap.size w w') ∨ (setE l ref dl = 0 ∧ ∃ qv', IsWh w' p qv' (setL l tn ref dl) (tn + 1) ∧ Same w qv qv' ∧ Chg (FW p qv) w w'))
theorem AtRef.neg {l : List Ent} {r k : Int} (h : AtRef l r k) : k < 0 ↔ ¬ ∃ j, j < l.length ∧ (gt l j).ref = r := by
  rcases h with ⟨i, hi, rfl, he, _⟩ | ⟨rfl, hno⟩
  · constructor
    · intro h; omega
    · intro h; exact absurd ⟨i, hi, he⟩ h
  · constructor
    · rintro _ ⟨j, hj, hq⟩; exact hno j hj hq
    · intro _; omega
set_option maxRecDepth 100000 in
set_option maxHeartbeats 2000000 in
theorem set_any (w : World) (p : Nat) (qv : Value) (l : List Ent) (tn ref dl : Int) (h : IsWh w p qv l tn) (hn : l.length ≤ 256) (ht0 : 0 ≤ tn) (ht1 : tn ≤ 1000000000000000000) :
    Calls Try.prog 18 #[.pointer (some ⟨p, 0, none⟩), .int .i64 ref, .int .i64 dl] w (SetPost w p qv l tn ref dl) := by
  have HH := Kp.mk h
  by_cases h1 : ref < 1
  · have e : Kp (setE l ref dl = 1) := ⟨by unfold setE; rw [if_pos (.inl h1)]⟩
    have d1 : decide (ref < 1) = true := by simpa using h1
    clear h
    go_enter Try.func18, Try.ntmps18
    go_wp2
    go_ret
    exact ⟨by rw [e.out]; rfl, .inl ⟨by rw [e.out]; decide, Below.refl _ _⟩⟩
  have d1 : decide (ref < 1) = false := by simpa using h1
  by_cases h2 : 281474976710656 < ref
  · have e : Kp (setE l ref dl = 1) := ⟨by unfold setE; rw [if_pos (.inr (.inl h2))]⟩
    have d2 : decide (281474976710656 < ref) = true := by simpa using h2
    clear h
    go_enter Try.func18, Try.ntmps18
    go_wp2
    go_ret
    exact ⟨by rw [e.out]; rfl, .inl ⟨by rw [e.out]; decide, Below.refl _ _⟩⟩
  have d2 : decide (281474976710656 < ref) = false := by simpa using h2
  by_cases h3 : dl < 0
  · have e : Kp (setE l ref dl = 1) := ⟨by unfold setE; rw [if_pos (.inr (.inr (.inl h3)))]⟩
    have d3 : decide (dl < 0) = true := by simpa using h3
    clear h
    go_enter Try.func18, Try.ntmps18
    go_wp2
    go_ret
    exact ⟨by rw [e.out]; rfl, .inl ⟨by rw [e.out]; decide, Below.refl _ _⟩⟩
  have d3 : decide (dl < 0) = false := by simpa using h3
  by_cases h4 : 1152921504606846976 < dl
  · have e : Kp (setE l ref dl = 1) := ⟨by unfold setE; rw [if_pos (.inr (.inr (.inr h4)))]⟩
    have d4 : decide (1152921504606846976 < dl) = true := by simpa using h4
    clear h
    go_enter Try.func18, Try.ntmps18
    go_wp2
    go_ret
    exact ⟨by rw [e.out]; rfl, .inl ⟨by rw [e.out]; decide, Below.refl _ _⟩⟩
  have d4 : decide (1152921504606846976 < dl) = false := by simpa using h4
  have hno : ¬ (ref < 1 ∨ 281474976710656 < ref ∨ dl < 0 ∨ 1152921504606846976 < dl) := by omega
  have HNO := Kp.mk hno
  have HAT := Kp.mk (at_any w p qv l tn ref h (by omega))
  clear h hno
  go_enter Try.func18, Try.ntmps18
  go_wp2_with fail
  refine HAT.out.mono ?_
  rintro e w1 ⟨k, hk, rfl, hb1⟩
  have hneg := hk.neg
  have H1 := Kp.mk (HH.out.below hb1)
  have HB1 := Kp.mk hb1
  by_cases hk0 : 0 ≤ k
  · have e : Kp (setE l ref dl = 6) := ⟨by unfold setE; rw [if_neg HNO.out, if_pos (Classical.byContradiction fun hc => by have := hneg.2 hc; omega)]⟩
    have dk : decide (0 ≤ k) = true := by simpa using hk0
    clear hk hneg hb1 HAT
    go_wp2
    go_ret
    exact ⟨by rw [e.out]; rfl, .inl ⟨by rw [e.out]; decide, HB1.out⟩⟩
  have dk : decide (0 ≤ k) = false := by simpa using hk0
  have hne : ¬ ∃ j, j < l.length ∧ (gt l j).ref = ref := hneg.1 (by omega)
  obtain ⟨A, c, hv, q⟩ := H1.out.sh
  by_cases hfull : 256 ≤ l.length
  · have e : Kp (setE l ref dl = 8) := ⟨by unfold setE; rw [if_neg HNO.out, if_neg hne, if_pos hfull]⟩
    have df : decide ((256 : Int) ≤ (l.length : Int)) = true := by simp; omega
    have df2 : (256 : Int) ≤ (l.length : Int) := by omega
    clear hk hneg hb1 HAT hne hv
    go_wp2
    go_ret
    exact ⟨by rw [e.out]; rfl, .inl ⟨by rw [e.out]; decide, HB1.out⟩⟩
  have e : Kp (setE l ref dl = 0) := ⟨by unfold setE; rw [if_neg HNO.out, if_neg hne, if_neg hfull]⟩
  have df : decide ((256 : Int) ≤ (l.length : Int)) = false := by simp; omega
  have df2 : ¬ ((256 : Int) ≤ (l.length : Int)) := by omega
  have q1 := H1.out.c1
  have z1 := H1.out.fz 1
  have hpl := H1.out.lt
  have b2 := blk_set H1.out.blk 1 (.int .i64 (tn + 1))
  obtain ⟨W2, hW2⟩ : ∃ W2, W2 = w1.setCell ⟨p, 1, none⟩ (.int .i64 (tn + 1)) := ⟨_, rfl⟩
  have H2 : Kp (IsWh W2 p qv l (tn + 1)) := ⟨by rw [hW2]; exact ⟨b2, H1.out.own.set_ne H1.out.ne _⟩⟩
  have C2 : Kp (Chg (FW p qv) w W2) := ⟨by rw [hW2]; exact (Chg.of_below HB1.out (FW p qv)).set (p := ⟨p, 1, none⟩) (.inl (.inl rfl)) _⟩
  have HW2 := Kp.mk hW2
  clear hk hneg hb1 HAT hne hv b2 hW2
  go_upto_region 10 with fail
  rw [← HW2.out]
  have Q1 : Kp (W2.drew.cell? ⟨p, 1, none⟩ = some (.int .i64 (tn + 1))) := ⟨H2.out.c1⟩
  clear q q1 z1 hpl
  refine R_begin 999 (fun w9 => w9.cell? ⟨p, 1, none⟩ = some (.int .i64 (tn + 1))) (by kernel_rfl) Q1.out (fun HP0 => ?_)
  refine R_pure 0 rfl (by kernel_rfl) HP0 ?_
  apply Exists.intro
  refine ⟨fun _ _ _ h => h, .inl ⟨by kernel_rfl, fun w9 h9 => ?_⟩, fun HP1 => ?_⟩
  · clear h9; go_simp; first | done | rfl
  clear HP0
  refine R_pure 1 rfl (by kernel_rfl) HP1 ?_
  apply Exists.intro
  refine ⟨fun _ _ _ h => h, .inl ⟨by kernel_rfl, fun w9 h9 => ?_⟩, fun HP2 => ?_⟩
  · clear h9; go_simp; first | done | rfl
  clear HP1
  refine R_pure 2 rfl (by kernel_rfl) HP2 ?_
  apply Exists.intro
  refine ⟨fun _ _ _ h => h, .inl ⟨by kernel_rfl, fun w9 h9 => ?_⟩, fun HP3 => ?_⟩
  · clear h9; go_simp; first | done | rfl
  clear HP2
  refine R_pure 3 rfl (by kernel_rfl) HP3 ?_
  apply Exists.intro
  refine ⟨fun _ _ _ h => h, .inl ⟨by kernel_rfl, fun w9 h9 => ?_⟩, fun HP4 => ?_⟩
  · clear h9; go_simp; first | done | rfl
  clear HP3
  refine R_pure 4 rfl (by kernel_rfl) HP4 ?_
  apply Exists.intro
  refine ⟨fun _ _ _ h => h, .inl ⟨by kernel_rfl, fun w9 h9 => ?_⟩, fun HP5 => ?_⟩
  · clear h9; go_simp; first | done | rfl
  clear HP4
  refine R_pure 5 rfl (by kernel_rfl) HP5 ?_
  apply Exists.intro
  refine ⟨fun _ _ _ h => h, .inl ⟨by kernel_rfl, fun w9 h9 => ?_⟩, fun HP6 => ?_⟩
  · clear h9; go_simp; first | done | rfl
  clear HP5
  refine R_pure 6 rfl (by kernel_rfl) HP6 ?_
  apply Exists.intro
  refine ⟨fun _ _ _ h => h, .inl ⟨by kernel_rfl, fun w9 h9 => ?_⟩, fun HP7 => ?_⟩
  · clear h9; go_simp; first | done | rfl
  clear HP6
  refine R_pure 7 rfl (by kernel_rfl) HP7 ?_
  apply Exists.intro
  refine ⟨fun _ _ _ h => h, .inl ⟨by kernel_rfl, fun w9 h9 => ?_⟩, fun HP8 => ?_⟩
  · clear h9; go_simp; first | done | rfl
  clear HP7
  refine R_pure 8 rfl (by kernel_rfl) HP8 ?_
  apply Exists.intro
  refine ⟨fun _ _ _ h => h, .inl ⟨by kernel_rfl, fun w9 h9 => ?_⟩, fun HP9 => ?_⟩
  · clear h9; go_simp; first | done | rfl
  clear HP8
  refine R_take 9 rfl (by kernel_rfl) HP9 ?_
  apply Exists.intro
  refine ⟨fun _ _ _ h => h, .inl ⟨by kernel_rfl, fun w9 h9 => ?_⟩, fun HP10 => ?_⟩
  · obtain s1 := h9; go_simp; first | done | rfl
  clear HP9
  refine R_pure 10 rfl (by kernel_rfl) HP10 ?_
  apply Exists.intro
  refine ⟨fun _ _ _ h => h, .inl ⟨by kernel_rfl, fun w9 h9 => ?_⟩, fun HP11 => ?_⟩
  · clear h9; go_simp; first | done | rfl
  clear HP10
  refine R_pure 11 rfl (by kernel_rfl) HP11 ?_
  apply Exists.intro
  refine ⟨fun _ _ _ h => h, .inl ⟨by kernel_rfl, fun w9 h9 => ?_⟩, fun HP12 => ?_⟩
  · clear h9; go_simp; first | done | rfl
  clear HP11
  refine R_all [12] (by kernel_rfl) ?_
  refine AllR.cons (i := 12) rfl (fun K9 HK9 => ?_) ?_
  · go_simp
    refine (hpush_any _ p qv l (tn + 1) ⟨ref, dl, tn + 1⟩ H2.out.drew (by omega)).mono ?_
    rintro e5 w5 ⟨⟨v, rfl⟩, qv', h5, hs5, hc5⟩
    have H5 := Kp.mk h5
    have S5 := Kp.mk hs5
    have C5 : Kp (Chg (FW p qv) w w5) := ⟨(C2.out.drew).then hc5⟩
    have hc1 := h5.c1
    clear h5 hs5 hc5
    go_simp
    refine HK9.out _ _ (.inr hc1) (fun HP13 => ?_)
    clear HK9 K9
    refine R_done (by kernel_rfl) ?_
    go_wp2
    go_ret
    exact ⟨by rw [e.out]; rfl, .inr ⟨e.out, qv', H5.out, S5.out.elim .inl fun ⟨g, h8, h9⟩ => .inr ⟨g, h8, Nat.le_trans C2.out.size h9⟩, C5.out⟩⟩
  exact AllR.nil
def whenE (l : List Ent) (ref : Int) : Int := if ∃ j, j < l.length ∧ (gt l j).ref = ref then 0 else 5
def WhenPost (w : World) (l : List Ent) (ref : Int) (e : Ending) (w' : World) : Prop :=
  ∃ d, e = .returned (.tuple #[.int .i64 d, .int .i64 (whenE l ref)]) ∧ ((whenE l ref = 5 ∧ d = 0) ∨ (whenE l ref = 0 ∧ ∃ i, i < l.length ∧ (gt l i).ref = ref ∧ (∀ j, j < i → (gt l j).ref ≠ ref) ∧ d = (gt l i).dl)) ∧ Below w.heap.size w w'
set_option maxHeartbeats 1000000 in
theorem when_any (w : World) (p : Nat) (qv : Value) (l : List Ent) (tn ref : Int) (h : IsWh w p qv l tn) (hn : l.length ≤ 1000000) :
    Calls Try.prog 23 #[.pointer (some ⟨p, 0, none⟩), .int .i64 ref] w (WhenPost w l ref) := by
  have HH := Kp.mk h
  have HAT := Kp.mk (at_any w p qv l tn ref h hn)
  clear h
  go_enter Try.func23, Try.ntmps23
  go_wp2_with fail
  refine HAT.out.mono ?_
  rintro e w1 ⟨k, hk, rfl, hb1⟩
  have H1 := Kp.mk (HH.out.below hb1)
  have HB1 := Kp.mk hb1
  have hneg := hk.neg
  rcases hk with ⟨i, hi, rfl, he, hno⟩ | ⟨rfl, hno⟩
  · have e : Kp (whenE l ref = 0) := ⟨by unfold whenE; rw [if_pos ⟨i, hi, he⟩]⟩
    obtain ⟨A, c, hv, q⟩ := H1.out.sh
    have ho := H1.out.own
    rw [hv] at ho
    obtain ⟨g, rfl⟩ : ∃ g, A = some ⟨g, 0, none⟩ := by
      obtain ⟨A2, c2, hv2, _, _, hs0, hs1⟩ := ho.shape
      have ea : A = A2 := by injection hv2
      cases hA : A2 with
      | none => have h1 := (hs0 hA).1; rw [h1] at hi; simp at hi
      | some x => obtain ⟨g, rfl⟩ := hs1 x hA; exact ⟨g, by rw [ea, hA]⟩
    obtain ⟨a0, a1, a2⟩ := ho.ent i _ (gt_at l i hi)
    have k0 : (0 : Int) ≤ (i : Int) := by omega
    have k1 : (i : Int) < (l.length : Int) := by omega
    have F := Kp.mk (And.intro hi (And.intro he hno))
    obtain ⟨x, hx⟩ : ∃ x, x = gt l i := ⟨_, rfl⟩
    rw [← hx] at a0 a1 a2
    have HX := Kp.mk hx
    clear he hno hneg hb1 HAT hv ho hx
    go_wp2
    go_ret2
    exact ⟨x.dl, by rw [e.out]; rfl, .inr ⟨e.out, i, F.out.1, F.out.2.1, F.out.2.2, by rw [HX.out]⟩, HB1.out⟩
  · have e : Kp (whenE l ref = 5) := ⟨by unfold whenE; rw [if_neg (hneg.1 (by omega))]⟩
    clear hno hneg hb1 HAT
    go_wp2
    go_ret2
    exact ⟨0, by rw [e.out]; rfl, .inl ⟨e.out, rfl⟩, HB1.out⟩
set_option maxHeartbeats 400000 in
theorem wlen_any (w : World) (p : Nat) (qv : Value) (l : List Ent) (tn : Int) (h : IsWh w p qv l tn) : Calls Try.prog 24 #[.pointer (some ⟨p, 0, none⟩)] w fun e w' => e = .returned (.int .i64 l.length) ∧ w = w' := by
  obtain ⟨A, c, hv, q⟩ := h.sh
  clear h hv
  go_enter Try.func24, Try.ntmps24
  go_wp2
  go_ret
  exact ⟨rfl, rfl⟩
def nextE (l : List Ent) : Int := if l = [] then 5 else 0
def nextV (l : List Ent) : Int := if l = [] then 0 else (gt l 0).dl
set_option maxHeartbeats 400000 in
theorem next_any (w : World) (p : Nat) (qv : Value) (l : List Ent) (tn : Int) (h : IsWh w p qv l tn) : Calls Try.prog 25 #[.pointer (some ⟨p, 0, none⟩)] w fun e w' => e = .returned (.tuple #[.int .i64 (nextV l), .int .i64 (nextE l)]) ∧ w = w' := by
  obtain ⟨A, c, hv, q⟩ := h.sh
  have ho := h.own
  rw [hv] at ho
  by_cases hl : l = []
  · have e : Kp (nextE l = 5 ∧ nextV l = 0) := ⟨by unfold nextE nextV; rw [if_pos hl, if_pos hl]; exact ⟨rfl, rfl⟩⟩
    rw [hl] at q
    clear h hv ho hl
    go_enter Try.func25, Try.ntmps25
    go_wp2
    go_ret2
    exact ⟨by rw [e.out.1, e.out.2]; rfl, rfl⟩
  · have e : Kp (nextE l = 0 ∧ nextV l = (gt l 0).dl) := ⟨by unfold nextE nextV; rw [if_neg hl, if_neg hl]; exact ⟨rfl, rfl⟩⟩
    have hi : 0 < l.length := List.length_pos_iff.2 hl
    obtain ⟨g, rfl⟩ : ∃ g, A = some ⟨g, 0, none⟩ := by
      obtain ⟨A2, c2, hv2, _, _, hs0, hs1⟩ := ho.shape
      have ea : A = A2 := by injection hv2
      cases hA : A2 with
      | none => have h1 := (hs0 hA).1; exact absurd h1 hl
      | some x => obtain ⟨g, rfl⟩ := hs1 x hA; exact ⟨g, by rw [ea, hA]⟩
    obtain ⟨a0, a1, a2⟩ := ho.ent 0 _ (gt_at l 0 hi)
    have k1 : (0 : Int) < (l.length : Int) := by omega
    have k2 : ((l.length : Int) == 0) = false := by simp; omega
    have k3 : ¬ ((l.length : Int) = 0) := by omega
    clear h hv ho hl
    go_enter Try.func25, Try.ntmps25
    go_wp2
    go_ret2
    exact ⟨by rw [e.out.1, e.out.2]; rfl, rfl⟩
end Go.Proofs.Ytobgabjoehjpcaa
