/- Exit, Down and Send of package signal walked; bounds stand in the statements. -/
import Derived.Test.YtameidoaenoppaaGreatDoorTe
namespace Go.Proofs.YtameidoaenoppaaGreatDoor
open Go.RowKit

/-- A text in new memory, and an errno. -/
def RPost (w : World) (l : List Ce) (er : Int) (e : Ending) (w' : World) : Prop := ∃ v, e = .returned (.tuple #[v, .int .i64 er]) ∧ Own w' 63 eCe v l ∧ Fresh w v ∧ Below w.heap.size w w'
set_option maxRecDepth 100000 in
set_option maxHeartbeats 4000000 in
theorem exit_any (w : World) (p : Int) (A : Option Addr) (c : Nat) (r : List Ce) (hs : Src w eCe A c r) (hn : r.length ≤ 9000000000000) (hT : Tabs w) :
    Calls Tryz.prog 29 #[.int .i64 p, .slice A r.length c] w (RPost w (exitL p r) (exitE p r)) := by
  have HS := Kp.mk hs
  have HT := Kp.mk hT
  clear hs hT
  by_cases hpp : IsPid p
  rotate_left
  · have E0 : Kp (exitE p r = 1) := ⟨by unfold exitE; rw [if_neg hpp]⟩
    have E1 : Kp (exitL p r = []) := ⟨by unfold exitL; rw [if_neg (by rw [E0.out]; decide)]⟩
    have hp : decide (IsPid p) = false := decide_eq_false hpp
    rw [E0.out, E1.out]
    go_enter Tryz.func29, Tryz.ntmps29
    go_wp2_with (go_at_call 53; refine (isPidS_any _ p).mono ?_; rintro e w1 ⟨rfl, hw1⟩; obtain rfl := hw1.symm; rw [hp])
    go_ret2
    exact ⟨_, rfl, Own.nil _ _ _, Fresh.nil _ _ _, Below.refl _ _⟩
  have hp : decide (IsPid p) = true := decide_eq_true hpp
  obtain ⟨E1, hE1⟩ : ∃ E1, E1 = (rightE r).1 := ⟨_, rfl⟩
  obtain ⟨E2, hE2⟩ : ∃ E2, E2 = (rightE r).2 := ⟨_, rfl⟩
  have hR := wright_any w A c r HS.out hn HT.out
  unfold rightV at hR
  rw [← hE1, ← hE2] at hR
  have EE : Kp (exitE p r = E1) := ⟨by unfold exitE; rw [if_pos hpp]; exact hE1.symm⟩
  have HR := Kp.mk hR
  clear hR
  by_cases h0 : E1 = 0
  · have hlen : r.length ≤ 1024 := (rightE_len (by rw [← hE1]; exact h0)).2
    have EL : Kp (exitL p r = exitM p r) := ⟨by unfold exitL; rw [if_pos (EE.out.trans h0)]⟩
    have E0 := Kp.mk h0
    rw [EL.out, EE.out, h0]
    have hb0 : (E1 != 0) = false := by simpa using h0
    clear h0 hE1 hE2
    go_enter Tryz.func29, Tryz.ntmps29
    go_wp2_with (first
      | (go_at_call 53; refine (isPidS_any _ p).mono ?_; rintro e w1 ⟨rfl, hw1⟩; obtain rfl := hw1.symm; rw [hp])
      | (go_at_call 55; refine HR.out.mono ?_; rintro e w2 ⟨rfl, b2⟩; have HB2 := Kp.mk b2; clear b2)
      | (go_at_call 62; have hO := own_lit w2 eCe 63 #[.int .i64 2, .int .i64 0, .string exitS, .int .i64 4, .int .i64 p, .string emp] [atomC exitS, ⟨4, p, emp⟩] rfl (by simp [maxLen]) rfl; have hBA := (Below.refl w2.heap.size w2).alloc (Nat.le_refl _) (.cells #[.int .i64 2, .int .i64 0, .string exitS, .int .i64 4, .int .i64 p, .string emp] 63); ((refine (tuple_any _ A _ c _ r [atomC exitS, ⟨4, p, emp⟩] ((HS.out.below HB2.out).below hBA) hlen (hO.src rfl) (by simp)).mono ?_); rintro e w3 ⟨v3, rfl, o3, f3, b3⟩; have O3 := Kp.mk o3; have F3 := Kp.mk f3; have HB3 := Kp.mk (bstep (bstep HB2.out HB2.out.size hBA) (bstep HB2.out HB2.out.size hBA).size b3); have HB23 := Kp.mk (bstep HB2.out HB2.out.size hBA); clear o3 f3 b3 hO hBA)))
    go_ret2
    exact ⟨_, rfl, O3.out, F3.out.up HB23.out.size, HB3.out⟩
  · have EL : Kp (exitL p r = []) := ⟨by unfold exitL; rw [if_neg (fun h => h0 (EE.out.symm.trans h))]⟩
    rw [EL.out, EE.out]
    have hb0 : (E1 != 0) = true := by simpa using h0
    clear h0 hE1 hE2
    go_enter Tryz.func29, Tryz.ntmps29
    go_wp2_with (first
      | (go_at_call 53; refine (isPidS_any _ p).mono ?_; rintro e w1 ⟨rfl, hw1⟩; obtain rfl := hw1.symm; rw [hp])
      | (go_at_call 55; refine HR.out.mono ?_; rintro e w2 ⟨rfl, b2⟩; have HB2 := Kp.mk b2; clear b2))
    go_ret2
    exact ⟨_, rfl, Own.nil _ _ _, Fresh.nil _ _ _, HB2.out⟩
set_option maxRecDepth 100000 in
set_option maxHeartbeats 4000000 in
theorem down_any (w : World) (ref p : Int) (A : Option Addr) (c : Nat) (r : List Ce) (hs : Src w eCe A c r) (hn : r.length ≤ 9000000000000) (hT : Tabs w) :
    Calls Tryz.prog 28 #[.int .i64 ref, .int .i64 p, .slice A r.length c] w (RPost w (downL ref p r) (downE ref p r)) := by
  have HS := Kp.mk hs
  have HT := Kp.mk hT
  clear hs hT
  by_cases hr1 : 1 ≤ ref
  rotate_left
  · have E0 : Kp (downE ref p r = 1) := ⟨by unfold downE; rw [if_neg (by rintro ⟨⟨h1, h2⟩, h3⟩; first | exact absurd h1 ‹_› | exact absurd h2 ‹_› | exact absurd h3 ‹_›)]⟩
    have E1 : Kp (downL ref p r = []) := ⟨by unfold downL; rw [if_neg (by rw [E0.out]; decide)]⟩
    rw [E0.out, E1.out]
    go_enter Tryz.func28, Tryz.ntmps28
    go_wp2
    go_ret2
    exact ⟨_, rfl, Own.nil _ _ _, Fresh.nil _ _ _, Below.refl _ _⟩
  by_cases hr2 : ref ≤ 281474976710656
  rotate_left
  · have E0 : Kp (downE ref p r = 1) := ⟨by unfold downE; rw [if_neg (by rintro ⟨⟨h1, h2⟩, h3⟩; first | exact absurd h1 ‹_› | exact absurd h2 ‹_› | exact absurd h3 ‹_›)]⟩
    have E1 : Kp (downL ref p r = []) := ⟨by unfold downL; rw [if_neg (by rw [E0.out]; decide)]⟩
    rw [E0.out, E1.out]
    go_enter Tryz.func28, Tryz.ntmps28
    go_wp2
    go_ret2
    exact ⟨_, rfl, Own.nil _ _ _, Fresh.nil _ _ _, Below.refl _ _⟩
  by_cases hpp : IsPid p
  rotate_left
  · have E0 : Kp (downE ref p r = 1) := ⟨by unfold downE; rw [if_neg (by rintro ⟨⟨h1, h2⟩, h3⟩; first | exact absurd h1 ‹_› | exact absurd h2 ‹_› | exact absurd h3 ‹_›)]⟩
    have E1 : Kp (downL ref p r = []) := ⟨by unfold downL; rw [if_neg (by rw [E0.out]; decide)]⟩
    have hp : decide (IsPid p) = false := decide_eq_false hpp
    rw [E0.out, E1.out]
    go_enter Tryz.func28, Tryz.ntmps28
    go_wp2_with (go_at_call 53; refine (isPidS_any _ p).mono ?_; rintro e w1 ⟨rfl, hw1⟩; obtain rfl := hw1.symm; rw [hp])
    go_ret2
    exact ⟨_, rfl, Own.nil _ _ _, Fresh.nil _ _ _, Below.refl _ _⟩
  have hp : decide (IsPid p) = true := decide_eq_true hpp
  obtain ⟨E1, hE1⟩ : ∃ E1, E1 = (rightE r).1 := ⟨_, rfl⟩
  obtain ⟨E2, hE2⟩ : ∃ E2, E2 = (rightE r).2 := ⟨_, rfl⟩
  have hR := wright_any w A c r HS.out hn HT.out
  unfold rightV at hR
  rw [← hE1, ← hE2] at hR
  have EE : Kp (downE ref p r = E1) := ⟨by unfold downE; rw [if_pos ⟨⟨hr1, hr2⟩, hpp⟩]; exact hE1.symm⟩
  have HR := Kp.mk hR
  clear hR
  by_cases h0 : E1 = 0
  · have hlen : r.length ≤ 1024 := (rightE_len (by rw [← hE1]; exact h0)).2
    have EL : Kp (downL ref p r = downM ref p r) := ⟨by unfold downL; rw [if_pos (EE.out.trans h0)]⟩
    have E0 := Kp.mk h0
    rw [EL.out, EE.out, h0]
    have hb0 : (E1 != 0) = false := by simpa using h0
    clear h0 hE1 hE2
    go_enter Tryz.func28, Tryz.ntmps28
    go_wp2_with (first
      | (go_at_call 53; refine (isPidS_any _ p).mono ?_; rintro e w1 ⟨rfl, hw1⟩; obtain rfl := hw1.symm; rw [hp])
      | (go_at_call 55; refine HR.out.mono ?_; rintro e w2 ⟨rfl, b2⟩; have HB2 := Kp.mk b2; clear b2)
      | (go_at_call 62; have hO := own_lit w2 eCe 63 #[.int .i64 2, .int .i64 0, .string downS, .int .i64 3, .int .i64 ref, .string emp, .int .i64 2, .int .i64 0, .string processS, .int .i64 4, .int .i64 p, .string emp] [atomC downS, ⟨3, ref, emp⟩, atomC processS, ⟨4, p, emp⟩] rfl (by simp [maxLen]) rfl; have hBA := (Below.refl w2.heap.size w2).alloc (Nat.le_refl _) (.cells #[.int .i64 2, .int .i64 0, .string downS, .int .i64 3, .int .i64 ref, .string emp, .int .i64 2, .int .i64 0, .string processS, .int .i64 4, .int .i64 p, .string emp] 63); ((refine (tuple_any _ A _ c _ r [atomC downS, ⟨3, ref, emp⟩, atomC processS, ⟨4, p, emp⟩] ((HS.out.below HB2.out).below hBA) hlen (hO.src rfl) (by simp)).mono ?_); rintro e w3 ⟨v3, rfl, o3, f3, b3⟩; have O3 := Kp.mk o3; have F3 := Kp.mk f3; have HB3 := Kp.mk (bstep (bstep HB2.out HB2.out.size hBA) (bstep HB2.out HB2.out.size hBA).size b3); have HB23 := Kp.mk (bstep HB2.out HB2.out.size hBA); clear o3 f3 b3 hO hBA)))
    go_ret2
    exact ⟨_, rfl, O3.out, F3.out.up HB23.out.size, HB3.out⟩
  · have EL : Kp (downL ref p r = []) := ⟨by unfold downL; rw [if_neg (fun h => h0 (EE.out.symm.trans h))]⟩
    rw [EL.out, EE.out]
    have hb0 : (E1 != 0) = true := by simpa using h0
    clear h0 hE1 hE2
    go_enter Tryz.func28, Tryz.ntmps28
    go_wp2_with (first
      | (go_at_call 53; refine (isPidS_any _ p).mono ?_; rintro e w1 ⟨rfl, hw1⟩; obtain rfl := hw1.symm; rw [hp])
      | (go_at_call 55; refine HR.out.mono ?_; rintro e w2 ⟨rfl, b2⟩; have HB2 := Kp.mk b2; clear b2))
    go_ret2
    exact ⟨_, rfl, Own.nil _ _ _, Fresh.nil _ _ _, HB2.out⟩
end Go.Proofs.YtameidoaenoppaaGreatDoor
