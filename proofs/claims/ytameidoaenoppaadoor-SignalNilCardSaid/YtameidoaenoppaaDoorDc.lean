/- The document's Send of package signal walked; bounds stand in the statement. -/
import Derived.Test.YtameidoaenoppaaDoorDa
namespace Go.Proofs.YtameidoaenoppaaDoor
open Go.RowKit

/-- What a signal does, a text, and an errno. -/
def DSPost (w : World) (k : Int) (l : List Ce) (er : Int) (e : Ending) (w' : World) : Prop := ∃ A c, e = .returned (.tuple #[.int .i64 k, .slice A l.length c, .int .i64 er]) ∧ Src w' eCe A c l ∧ Below w.heap.size w w'
theorem Src.nil0 {α : Type} (w : World) (E : El α) : Src w E Option.none 0 [] := ⟨fun ad h => (by cases h), fun _ => ⟨rfl, rfl⟩⟩
set_option maxRecDepth 100000 in
set_option maxHeartbeats 8000000 in
theorem dsend_any (w : World) (a b : Int) (trap : Bool) (A : Option Addr) (c : Nat) (r : List Ce) (hs : Src w eCe A c r) (hn : r.length ≤ 9000000000000) (hG : TxG r) :
    Calls Tryd.prog 11 #[.int .i64 a, .int .i64 b, .slice A r.length c, .bool trap] w (DSPost w (sendK a b r trap) (sendL a b r trap) (sendE a b r)) := by
  have HS := Kp.mk hs
  have HG := Kp.mk hG
  clear hs hG
  have bad : sendE a b r ≠ 0 → Kp (sendK a b r trap = 0 ∧ sendL a b r trap = []) := fun h => ⟨by unfold sendK; rw [if_pos h], by unfold sendL; rw [if_pos h]⟩
  have BAD := Kp.mk bad
  clear bad
  by_cases ha : IsPid a
  rotate_left
  · have E0 : Kp (sendE a b r = 1) := ⟨by unfold sendE; rw [if_neg (fun h => ha h.1)]⟩
    obtain ⟨E1, E2⟩ := (BAD.out (by rw [E0.out]; decide)).out
    have hpa : decide (IsPid a) = false := decide_eq_false ha
    rw [E1, E2, E0.out]
    clear E1 E2
    go_enter Tryd.func11, Tryd.ntmps11
    go_wp2_with (go_at_call 35; ((with_reducible refine (dPid_any _ a).mono ?_); rintro e w1 ⟨rfl, rfl⟩; rw [hpa]))
    go_ret3
    exact ⟨_, _, rfl, Src.nil0 _ _, Below.refl _ _⟩
  have hpa : decide (IsPid a) = true := decide_eq_true ha
  by_cases hb : IsPid b
  rotate_left
  · have E0 : Kp (sendE a b r = 1) := ⟨by unfold sendE; rw [if_neg (fun h => hb h.2)]⟩
    obtain ⟨E1, E2⟩ := (BAD.out (by rw [E0.out]; decide)).out
    have hpb : decide (IsPid b) = false := decide_eq_false hb
    rw [E1, E2, E0.out]
    clear E1 E2
    go_enter Tryd.func11, Tryd.ntmps11
    go_wp2_with (go_at_call 35; first | ((with_reducible refine (dPid_any _ a).mono ?_); rintro e w1 ⟨rfl, rfl⟩; rw [hpa]) | ((with_reducible refine (dPid_any _ b).mono ?_); rintro e w1 ⟨rfl, rfl⟩; rw [hpb]))
    go_ret3
    exact ⟨_, _, rfl, Src.nil0 _ _, Below.refl _ _⟩
  have hpb : decide (IsPid b) = true := decide_eq_true hb
  have EE : Kp (sendE a b r = (rightE r).1) := ⟨by unfold sendE; rw [if_pos ⟨ha, hb⟩]⟩
  obtain ⟨E1, hE1⟩ : ∃ E1, E1 = (rightE r).1 := ⟨_, rfl⟩
  obtain ⟨E2, hE2⟩ : ∃ E2, E2 = (rightE r).2 := ⟨_, rfl⟩
  have hR := rright_any w A c r HS.out hn HG.out
  unfold rightV at hR
  rw [← hE1, ← hE2] at hR
  rw [← hE1] at EE
  have HR := Kp.mk hR
  clear hR
  by_cases h0 : E1 = 0
  rotate_left
  · obtain ⟨K1, K2⟩ := (BAD.out (by rw [EE.out]; exact h0)).out
    rw [K1, K2, EE.out]
    have hb0 : (E1 != 0) = true := by simpa using h0
    clear h0 hE1 hE2 K1 K2
    go_enter Tryd.func11, Tryd.ntmps11
    go_wp2_with (first
      | (go_at_call 35; first | ((with_reducible refine (dPid_any _ a).mono ?_); rintro e w1 ⟨rfl, rfl⟩; rw [hpa]) | ((with_reducible refine (dPid_any _ b).mono ?_); rintro e w1 ⟨rfl, rfl⟩; rw [hpb]))
      | (go_at_call 36; refine HR.out.mono ?_; rintro e w2 ⟨rfl, b2⟩; have HB2 := Kp.mk b2; clear b2))
    go_ret3
    exact ⟨_, _, rfl, Src.nil0 _ _, HB2.out⟩
  have hlen : 1 ≤ r.length ∧ r.length ≤ 1024 := rightE_len (by rw [← hE1]; exact h0)
  have EX : Kp (exitE a r = 0 ∧ exitL a r = exitM a r) := ⟨by unfold exitE; rw [if_pos ha, ← hE1]; exact h0, by unfold exitL; rw [if_pos (by unfold exitE; rw [if_pos ha, ← hE1]; exact h0)]⟩
  have hb0 : (E1 != 0) = false := by simpa using h0
  have EZ : Kp (sendE a b r = 0) := ⟨EE.out.trans h0⟩
  obtain ⟨hlen1, hlen2⟩ := hlen
  clear h0 hE1 hE2
  rw [EZ.out]
  have hnz : ¬ sendE a b r ≠ 0 := fun h => h EZ.out
  have SK : Kp (sendK a b r trap = if isA r killS then 1 else if trap then 2 else if isA r normalS ∧ a ≠ b then 0 else 1) := ⟨by unfold sendK; rw [if_neg hnz]⟩
  have SL : Kp (sendL a b r trap = if isA r killS then [atomC killedS] else if trap then exitM a r else if isA r normalS ∧ a ≠ b then [] else r) := ⟨by unfold sendL; rw [if_neg hnz]⟩
  clear hnz
  have HKC : Kp (∀ w2, Below w.heap.size w w2 → Calls Tryd.prog 22 #[.slice A r.length c, .string { data := #[107, 105, 108, 108] }] w2 fun e w' => e = .returned (.bool (isA r killS)) ∧ Below w2.heap.size w2 w') := ⟨fun w2 hb => dis_any w2 A c r killS (HS.out.below hb) hn⟩
  have HNC : Kp (∀ w2, Below w.heap.size w w2 → Calls Tryd.prog 22 #[.slice A r.length c, .string { data := #[110, 111, 114, 109, 97, 108] }] w2 fun e w' => e = .returned (.bool (isA r normalS)) ∧ Below w2.heap.size w2 w') := ⟨fun w2 hb => dis_any w2 A c r normalS (HS.out.below hb) hn⟩
  cases hk : isA r killS
  rotate_left
  · rw [hk, if_pos rfl] at SK SL
    rw [hk] at HKC
    clear hk
    rw [SK.out, SL.out]
    go_enter Tryd.func11, Tryd.ntmps11
    go_wp2_with (first
      | (go_at_call 35; first | ((with_reducible refine (dPid_any _ a).mono ?_); rintro e w1 ⟨rfl, rfl⟩; rw [hpa]) | ((with_reducible refine (dPid_any _ b).mono ?_); rintro e w1 ⟨rfl, rfl⟩; rw [hpb]))
      | (go_at_call 36; refine HR.out.mono ?_; rintro e w2 ⟨rfl, b2⟩; have HB2 := Kp.mk b2; clear b2)
      | (go_at_call 22; ((with_reducible refine (HKC.out _ HB2.out).mono ?_); rintro e w3 ⟨rfl, b3⟩; have HB3 := Kp.mk (bstep HB2.out HB2.out.size b3); clear b3))
      | (go_at_call 37; refine (datom_any _ killedS).mono ?_; rintro e w4 ⟨rfl, b4⟩; have HB4 := Kp.mk (bstep HB3.out HB3.out.size b4); clear b4))
    go_ret3
    exact ⟨_, _, rfl, (own_lit w4 eCe 64 _ [atomC killedS] rfl (by simp [maxLen]) rfl).src rfl, HB4.out.alloc HB4.out.size _⟩
  rw [hk, if_neg (by decide)] at SK SL
  rw [hk] at HKC
  clear hk
  cases trap
  rotate_left
  · rw [if_pos rfl] at SK SL
    rw [SK.out, SL.out]
    go_enter Tryd.func11, Tryd.ntmps11
    go_wp2_with (first
      | (go_at_call 35; first | ((with_reducible refine (dPid_any _ a).mono ?_); rintro e w1 ⟨rfl, rfl⟩; rw [hpa]) | ((with_reducible refine (dPid_any _ b).mono ?_); rintro e w1 ⟨rfl, rfl⟩; rw [hpb]))
      | (go_at_call 36; refine HR.out.mono ?_; rintro e w2 ⟨rfl, b2⟩; have HB2 := Kp.mk b2; clear b2)
      | (go_at_call 22; ((with_reducible refine (HKC.out _ HB2.out).mono ?_); rintro e w3 ⟨rfl, b3⟩; have HB3 := Kp.mk (bstep HB2.out HB2.out.size b3); clear b3))
      | (go_at_call 15; refine (dexit_any _ a A c r (HS.out.below HB3.out) hn HG.out).mono ?_; rw [EX.out.1, EX.out.2]; rintro e w4 ⟨v4, rfl, o4, f4, b4⟩; obtain ⟨A4, c4, hv4, _⟩ := o4.shape; subst hv4; have O4 := Kp.mk o4; have HB4 := Kp.mk (bstep HB3.out HB3.out.size b4); clear o4 f4 b4))
    go_ret3
    exact ⟨_, _, rfl, O4.out.src rfl, HB4.out⟩
  rw [if_neg (by decide)] at SK SL
  cases hnm : isA r normalS
  · rw [if_neg (fun h => by rw [hnm] at h; exact absurd h.1 (by decide))] at SK SL
    rw [hnm] at HNC
    clear hnm
    rw [SK.out, SL.out]
    go_enter Tryd.func11, Tryd.ntmps11
    go_wp2_with (first
      | (go_at_call 35; first | ((with_reducible refine (dPid_any _ a).mono ?_); rintro e w1 ⟨rfl, rfl⟩; rw [hpa]) | ((with_reducible refine (dPid_any _ b).mono ?_); rintro e w1 ⟨rfl, rfl⟩; rw [hpb]))
      | (go_at_call 36; refine HR.out.mono ?_; rintro e w2 ⟨rfl, b2⟩; have HB2 := Kp.mk b2; clear b2)
      | (go_at_call 22; first | ((with_reducible refine (HKC.out _ HB2.out).mono ?_); rintro e w3 ⟨rfl, b3⟩; have HB3 := Kp.mk (bstep HB2.out HB2.out.size b3); clear b3) | ((with_reducible refine (HNC.out _ HB3.out).mono ?_); rintro e w4 ⟨rfl, b4⟩; have HB4 := Kp.mk (bstep HB3.out HB3.out.size b4); clear b4)))
    go_ret3
    exact ⟨_, _, rfl, HS.out.below HB4.out, HB4.out⟩
  · by_cases hab : a = b
    · have hne : (a != b) = false := by simpa using hab
      have HAB := Kp.mk hab
      clear hab
      rw [if_neg (fun h => h.2 HAB.out)] at SK SL
      rw [hnm] at HNC
      clear hnm
      rw [SK.out, SL.out]
      go_enter Tryd.func11, Tryd.ntmps11
      go_wp2_with (first
        | (go_at_call 35; first | ((with_reducible refine (dPid_any _ a).mono ?_); rintro e w1 ⟨rfl, rfl⟩; rw [hpa]) | ((with_reducible refine (dPid_any _ b).mono ?_); rintro e w1 ⟨rfl, rfl⟩; rw [hpb]))
        | (go_at_call 36; refine HR.out.mono ?_; rintro e w2 ⟨rfl, b2⟩; have HB2 := Kp.mk b2; clear b2)
        | (go_at_call 22; first | ((with_reducible refine (HKC.out _ HB2.out).mono ?_); rintro e w3 ⟨rfl, b3⟩; have HB3 := Kp.mk (bstep HB2.out HB2.out.size b3); clear b3) | ((with_reducible refine (HNC.out _ HB3.out).mono ?_); rintro e w4 ⟨rfl, b4⟩; have HB4 := Kp.mk (bstep HB3.out HB3.out.size b4); clear b4)))
      go_ret3
      exact ⟨_, _, rfl, HS.out.below HB4.out, HB4.out⟩
    · have hne : (a != b) = true := by simpa using hab
      rw [if_pos ⟨hnm, hab⟩] at SK SL
      rw [hnm] at HNC
      clear hnm
      rw [SK.out, SL.out]
      clear hab
      go_enter Tryd.func11, Tryd.ntmps11
      go_wp2_with (first
        | (go_at_call 35; first | ((with_reducible refine (dPid_any _ a).mono ?_); rintro e w1 ⟨rfl, rfl⟩; rw [hpa]) | ((with_reducible refine (dPid_any _ b).mono ?_); rintro e w1 ⟨rfl, rfl⟩; rw [hpb]))
        | (go_at_call 36; refine HR.out.mono ?_; rintro e w2 ⟨rfl, b2⟩; have HB2 := Kp.mk b2; clear b2)
        | (go_at_call 22; first | ((with_reducible refine (HKC.out _ HB2.out).mono ?_); rintro e w3 ⟨rfl, b3⟩; have HB3 := Kp.mk (bstep HB2.out HB2.out.size b3); clear b3) | ((with_reducible refine (HNC.out _ HB3.out).mono ?_); rintro e w4 ⟨rfl, b4⟩; have HB4 := Kp.mk (bstep HB3.out HB3.out.size b4); clear b4)))
      go_ret3
      exact ⟨_, _, rfl, Src.nil0 _ _, HB4.out⟩
end Go.Proofs.YtameidoaenoppaaDoor
