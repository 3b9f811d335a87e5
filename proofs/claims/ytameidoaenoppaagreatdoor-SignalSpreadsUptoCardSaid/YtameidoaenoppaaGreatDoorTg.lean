/- Send of package signal walked; bounds stand in the statement. -/
import Derived.Test.YtameidoaenoppaaGreatDoorTf
namespace Go.Proofs.YtameidoaenoppaaGreatDoor
open Go.RowKit

/-- What a signal does, a text in new memory, and an errno. -/
def SPost (w : World) (k : Int) (l : List Ce) (er : Int) (e : Ending) (w' : World) : Prop := ∃ v, e = .returned (.tuple #[.int .i64 k, v, .int .i64 er]) ∧ Own w' 63 eCe v l ∧ Fresh w v ∧ Below w.heap.size w w'
set_option maxRecDepth 100000 in
set_option maxHeartbeats 8000000 in
theorem send_any (w : World) (a b : Int) (trap : Bool) (A : Option Addr) (c : Nat) (r : List Ce) (hs : Src w eCe A c r) (hn : r.length ≤ 9000000000000) (hT : Tabs w) :
    Calls Tryz.prog 43 #[.int .i64 a, .int .i64 b, .slice A r.length c, .bool trap] w (SPost w (sendK a b r trap) (sendL a b r trap) (sendE a b r)) := by
  have HS := Kp.mk hs
  have HT := Kp.mk hT
  clear hs hT
  have bad : sendE a b r ≠ 0 → Kp (sendK a b r trap = 0 ∧ sendL a b r trap = []) := fun h => ⟨by unfold sendK; rw [if_pos h], by unfold sendL; rw [if_pos h]⟩
  have BAD := Kp.mk bad
  clear bad
  by_cases ha : IsPid a
  rotate_left
  · have E0 : Kp (sendE a b r = 1) := ⟨by unfold sendE; rw [if_neg (fun h => ha h.1)]⟩
    obtain ⟨E1, E2⟩ := (BAD.out (by rw [E0.out]; decide)).out
    have hpa : decide (IsPid a) = false := decide_eq_false ha
    rw [E1, E2, E0.out]
    clear E1 E2
    go_enter Tryz.func43, Tryz.ntmps43
    go_wp2_with (first
      | (go_at_call 53; ((with_reducible refine (isPidS_any _ a).mono ?_); rintro e w1 ⟨rfl, hw1⟩; obtain rfl := hw1.symm; rw [hpa])))
    go_ret3
    exact ⟨_, rfl, Own.nil _ _ _, Fresh.nil _ _ _, Below.refl _ _⟩
  have hpa : decide (IsPid a) = true := decide_eq_true ha
  by_cases hb : IsPid b
  rotate_left
  · have E0 : Kp (sendE a b r = 1) := ⟨by unfold sendE; rw [if_neg (fun h => hb h.2)]⟩
    obtain ⟨E1, E2⟩ := (BAD.out (by rw [E0.out]; decide)).out
    have hpb : decide (IsPid b) = false := decide_eq_false hb
    rw [E1, E2, E0.out]
    clear E1 E2
    go_enter Tryz.func43, Tryz.ntmps43
    go_wp2_with (first
      | (go_at_call 53; first | ((with_reducible refine (isPidS_any _ a).mono ?_); rintro e w1 ⟨rfl, hw1⟩; obtain rfl := hw1.symm; rw [hpa]) | ((with_reducible refine (isPidS_any _ b).mono ?_); rintro e w1 ⟨rfl, hw1⟩; obtain rfl := hw1.symm; rw [hpb])))
    go_ret3
    exact ⟨_, rfl, Own.nil _ _ _, Fresh.nil _ _ _, Below.refl _ _⟩
  have hpb : decide (IsPid b) = true := decide_eq_true hb
  have EE : Kp (sendE a b r = (rightE r).1) := ⟨by unfold sendE; rw [if_pos ⟨ha, hb⟩]⟩
  obtain ⟨E1, hE1⟩ : ∃ E1, E1 = (rightE r).1 := ⟨_, rfl⟩
  obtain ⟨E2, hE2⟩ : ∃ E2, E2 = (rightE r).2 := ⟨_, rfl⟩
  have hR := wright_any w A c r HS.out hn HT.out
  unfold rightV at hR
  rw [← hE1, ← hE2] at hR
  rw [← hE1] at EE
  have HR := Kp.mk hR
  clear hR
  by_cases h0 : E1 = 0
  rotate_left
  · obtain ⟨K1, K2⟩ := (BAD.out (by rw [EE.out]; exact h0)).out
    rw [K1, K2, EE.out]
    have hb0 : (E1 != 0) = true := by simpa using h0
    clear h0 hE1 hE2 K1 K2
    go_enter Tryz.func43, Tryz.ntmps43
    go_wp2_with (first
      | (go_at_call 53; first | ((with_reducible refine (isPidS_any _ a).mono ?_); rintro e w1 ⟨rfl, hw1⟩; obtain rfl := hw1.symm; rw [hpa]) | ((with_reducible refine (isPidS_any _ b).mono ?_); rintro e w1 ⟨rfl, hw1⟩; obtain rfl := hw1.symm; rw [hpb]))
      | (go_at_call 55; refine HR.out.mono ?_; rintro e w2 ⟨rfl, b2⟩; have HB2 := Kp.mk b2; clear b2))
    go_ret3
    exact ⟨_, rfl, Own.nil _ _ _, Fresh.nil _ _ _, HB2.out⟩
  have hlen : 1 ≤ r.length ∧ r.length ≤ 1024 := rightE_len (by rw [← hE1]; exact h0)
  have EX : Kp (exitE a r = 0 ∧ exitL a r = exitM a r) := ⟨by unfold exitE; rw [if_pos ha, ← hE1]; exact h0, by unfold exitL; rw [if_pos (by unfold exitE; rw [if_pos ha, ← hE1]; exact h0)]⟩
  have hb0 : (E1 != 0) = false := by simpa using h0
  have EZ : Kp (sendE a b r = 0) := ⟨EE.out.trans h0⟩
  obtain ⟨hlen1, hlen2⟩ := hlen
  clear h0 hE1 hE2
  rw [EZ.out]
  have hnz : ¬ sendE a b r ≠ 0 := fun h => h EZ.out
  have SK : Kp (sendK a b r trap = if isA r killS then 1 else if trap then 2 else if isA r normalS ∧ a ≠ b then 0 else 1) := ⟨by unfold sendK; rw [if_neg hnz]⟩
  have SL : Kp (sendL a b r trap = if isA r killS then [atomC killedS] else if trap then exitM a r else if isA r normalS ∧ a ≠ b then [] else r) := ⟨by unfold sendL; rw [if_neg hnz]⟩
  clear hnz
  have HKC : Kp (∀ w2, Below w.heap.size w w2 → Calls Tryz.prog 30 #[.slice A r.length c, .string { data := #[107, 105, 108, 108] }] w2 fun e w' => e = .returned (.bool (isA r killS)) ∧ w' = w2) := ⟨fun w2 hb => is_any w2 A c r killS (HS.out.below hb) hn⟩
  have HNC : Kp (∀ w2, Below w.heap.size w w2 → Calls Tryz.prog 30 #[.slice A r.length c, .string { data := #[110, 111, 114, 109, 97, 108] }] w2 fun e w' => e = .returned (.bool (isA r normalS)) ∧ w' = w2) := ⟨fun w2 hb => is_any w2 A c r normalS (HS.out.below hb) hn⟩
  cases hk : isA r killS
  rotate_left
  · rw [hk, if_pos rfl] at SK SL
    rw [hk] at HKC
    clear hk
    rw [SK.out, SL.out]
    go_enter Tryz.func43, Tryz.ntmps43
    go_wp2_with (first
      | (go_at_call 53; first | ((with_reducible refine (isPidS_any _ a).mono ?_); rintro e w1 ⟨rfl, hw1⟩; obtain rfl := hw1.symm; rw [hpa]) | ((with_reducible refine (isPidS_any _ b).mono ?_); rintro e w1 ⟨rfl, hw1⟩; obtain rfl := hw1.symm; rw [hpb]))
      | (go_at_call 55; refine HR.out.mono ?_; rintro e w2 ⟨rfl, b2⟩; have HB2 := Kp.mk b2; clear b2)
      | (go_at_call 30; first | ((with_reducible refine (HKC.out _ HB2.out).mono ?_); rintro e w3 ⟨rfl, hw3⟩; obtain rfl := hw3.symm) | ((with_reducible refine (HNC.out _ HB2.out).mono ?_); rintro e w3 ⟨rfl, hw3⟩; obtain rfl := hw3.symm))
      | (go_at_call 68; refine (atomS_any _ killedS).mono ?_; rintro e w4 ⟨v4, rfl, o4, f4, b4⟩; have O4 := Kp.mk o4; have F4 := Kp.mk (f4.up HB2.out.size); have HB4 := Kp.mk (bstep HB2.out HB2.out.size b4); clear o4 f4 b4))
    go_ret3
    exact ⟨_, rfl, O4.out, F4.out, HB4.out⟩
  rw [hk, if_neg (by decide)] at SK SL
  rw [hk] at HKC
  clear hk
  cases trap
  rotate_left
  · rw [if_pos rfl] at SK SL
    rw [SK.out, SL.out]
    go_enter Tryz.func43, Tryz.ntmps43
    go_wp2_with (first
      | (go_at_call 53; first | ((with_reducible refine (isPidS_any _ a).mono ?_); rintro e w1 ⟨rfl, hw1⟩; obtain rfl := hw1.symm; rw [hpa]) | ((with_reducible refine (isPidS_any _ b).mono ?_); rintro e w1 ⟨rfl, hw1⟩; obtain rfl := hw1.symm; rw [hpb]))
      | (go_at_call 55; refine HR.out.mono ?_; rintro e w2 ⟨rfl, b2⟩; have HB2 := Kp.mk b2; clear b2)
      | (go_at_call 30; first | ((with_reducible refine (HKC.out _ HB2.out).mono ?_); rintro e w3 ⟨rfl, hw3⟩; obtain rfl := hw3.symm) | ((with_reducible refine (HNC.out _ HB2.out).mono ?_); rintro e w3 ⟨rfl, hw3⟩; obtain rfl := hw3.symm))
      | (go_at_call 29; refine (exit_any _ a A c r (HS.out.below HB2.out) hn (HT.out.below HB2.out)).mono ?_; rw [EX.out.1, EX.out.2]; rintro e w4 ⟨v4, rfl, o4, f4, b4⟩; have O4 := Kp.mk o4; have F4 := Kp.mk (f4.up HB2.out.size); have HB4 := Kp.mk (bstep HB2.out HB2.out.size b4); clear o4 f4 b4))
    go_ret3
    exact ⟨_, rfl, O4.out, F4.out, HB4.out⟩
  rw [if_neg (by decide)] at SK SL
  cases hnm : isA r normalS
  · rw [if_neg (fun h => by rw [hnm] at h; exact absurd h.1 (by decide))] at SK SL
    rw [hnm] at HNC
    clear hnm
    rw [SK.out, SL.out]
    go_enter Tryz.func43, Tryz.ntmps43
    go_wp2_with (first
      | (go_at_call 53; first | ((with_reducible refine (isPidS_any _ a).mono ?_); rintro e w1 ⟨rfl, hw1⟩; obtain rfl := hw1.symm; rw [hpa]) | ((with_reducible refine (isPidS_any _ b).mono ?_); rintro e w1 ⟨rfl, hw1⟩; obtain rfl := hw1.symm; rw [hpb]))
      | (go_at_call 55; refine HR.out.mono ?_; rintro e w2 ⟨rfl, b2⟩; have HB2 := Kp.mk b2; clear b2)
      | (go_at_call 30; first | ((with_reducible refine (HKC.out _ HB2.out).mono ?_); rintro e w3 ⟨rfl, hw3⟩; obtain rfl := hw3.symm) | ((with_reducible refine (HNC.out _ HB2.out).mono ?_); rintro e w3 ⟨rfl, hw3⟩; obtain rfl := hw3.symm))
      | (go_at_call 25; refine (clone_any _ A c r (HS.out.below HB2.out) (by omega) hlen1).mono ?_; rintro e w4 ⟨v4, rfl, o4, f4, b4⟩; have O4 := Kp.mk o4; have F4 := Kp.mk (f4.up HB2.out.size); have HB4 := Kp.mk (bstep HB2.out HB2.out.size b4); clear o4 f4 b4))
    go_ret3
    exact ⟨_, rfl, O4.out, F4.out, HB4.out⟩
  · by_cases hab : a = b
    · have hne : (a != b) = false := by simpa using hab
      have HAB := Kp.mk hab
      clear hab
      rw [if_neg (fun h => h.2 HAB.out)] at SK SL
      rw [hnm] at HNC
      clear hnm
      rw [SK.out, SL.out]
      go_enter Tryz.func43, Tryz.ntmps43
      go_wp2_with (first
        | (go_at_call 53; first | ((with_reducible refine (isPidS_any _ a).mono ?_); rintro e w1 ⟨rfl, hw1⟩; obtain rfl := hw1.symm; rw [hpa]) | ((with_reducible refine (isPidS_any _ b).mono ?_); rintro e w1 ⟨rfl, hw1⟩; obtain rfl := hw1.symm; rw [hpb]))
        | (go_at_call 55; refine HR.out.mono ?_; rintro e w2 ⟨rfl, b2⟩; have HB2 := Kp.mk b2; clear b2)
        | (go_at_call 30; first | ((with_reducible refine (HKC.out _ HB2.out).mono ?_); rintro e w3 ⟨rfl, hw3⟩; obtain rfl := hw3.symm) | ((with_reducible refine (HNC.out _ HB2.out).mono ?_); rintro e w3 ⟨rfl, hw3⟩; obtain rfl := hw3.symm))
        | (go_at_call 25; refine (clone_any _ A c r (HS.out.below HB2.out) (by omega) hlen1).mono ?_; rintro e w4 ⟨v4, rfl, o4, f4, b4⟩; have O4 := Kp.mk o4; have F4 := Kp.mk (f4.up HB2.out.size); have HB4 := Kp.mk (bstep HB2.out HB2.out.size b4); clear o4 f4 b4))
      go_ret3
      exact ⟨_, rfl, O4.out, F4.out, HB4.out⟩
    · have hne : (a != b) = true := by simpa using hab
      rw [if_pos ⟨hnm, hab⟩] at SK SL
      rw [hnm] at HNC
      clear hnm
      rw [SK.out, SL.out]
      clear hab
      go_enter Tryz.func43, Tryz.ntmps43
      go_wp2_with (first
        | (go_at_call 53; first | ((with_reducible refine (isPidS_any _ a).mono ?_); rintro e w1 ⟨rfl, hw1⟩; obtain rfl := hw1.symm; rw [hpa]) | ((with_reducible refine (isPidS_any _ b).mono ?_); rintro e w1 ⟨rfl, hw1⟩; obtain rfl := hw1.symm; rw [hpb]))
        | (go_at_call 55; refine HR.out.mono ?_; rintro e w2 ⟨rfl, b2⟩; have HB2 := Kp.mk b2; clear b2)
        | (go_at_call 30; first | ((with_reducible refine (HKC.out _ HB2.out).mono ?_); rintro e w3 ⟨rfl, hw3⟩; obtain rfl := hw3.symm) | ((with_reducible refine (HNC.out _ HB2.out).mono ?_); rintro e w3 ⟨rfl, hw3⟩; obtain rfl := hw3.symm)))
      go_ret3
      exact ⟨_, rfl, Own.nil _ _ _, Fresh.nil _ _ _, HB2.out⟩
end Go.Proofs.YtameidoaenoppaaGreatDoor
