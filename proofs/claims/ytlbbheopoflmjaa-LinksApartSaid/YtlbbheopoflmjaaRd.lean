/- The document's Linked of package links; bounds stand in the statement. -/
import Derived.Test.YtlbbheopoflmjaaCn
import Derived.Test.YtlbbheopoflmjaaR
namespace Go.Proofs.Ytlbbheopoflmjaa
open Go.RowKit

set_option maxRecDepth 100000 in
set_option maxHeartbeats 4000000 in
theorem dlinked_any (w : World) (q : Nat) (lv : Value) (L : List Bd) (a b : Int) (h : IsD w q lv L) (hn : L.length ≤ 1000000) :
    Calls Try.prog 48 #[.pointer (some ⟨q, 0, none⟩), .int .i64 a, .int .i64 b] w fun e w' => e = .returned (.bool (decide (twoE a b = 0 ∧ (⟨min a b, max a b, 0⟩ : Bd) ∈ L))) ∧ Below w.heap.size w w' := by
  have H := Kp.mk h
  clear h
  have hc : (decide (IsPid a) = false) ∨ (decide (IsPid a) = true ∧ decide (IsPid b) = false) ∨ (decide (IsPid a) = true ∧ decide (IsPid b) = true ∧ a = b) ∨ (decide (IsPid a) = true ∧ decide (IsPid b) = true ∧ a ≠ b) := by
    cases h1 : decide (IsPid a)
    · exact .inl rfl
    · cases h2 : decide (IsPid b)
      · exact .inr (.inl ⟨rfl, rfl⟩)
      · by_cases h3 : a = b
        · exact .inr (.inr (.inl ⟨rfl, rfl, h3⟩))
        · exact .inr (.inr (.inr ⟨rfl, rfl, h3⟩))
  rcases hc with h1 | ⟨h1, h2⟩ | ⟨h1, h2, h3⟩ | ⟨h1, h2, h3⟩
  · have hE : Kp (decide (twoE a b = 0 ∧ (⟨min a b, max a b, 0⟩ : Bd) ∈ L) = false) := ⟨decide_eq_false (fun h => of_decide_eq_false h1 (two_0 h.1).1)⟩
    go_enter Try.func48, Try.ntmps48
    go_wp2_with (go_at_call 20; refine (dPid_any _ a).mono ?_; rintro e w' ⟨rfl, rfl⟩; rw [h1])
    go_ret
    exact ⟨by rw [hE.out]; rfl, Below.refl _ _⟩
  · have hE : Kp (decide (twoE a b = 0 ∧ (⟨min a b, max a b, 0⟩ : Bd) ∈ L) = false) := ⟨decide_eq_false (fun h => of_decide_eq_false h2 (two_0 h.1).2.1)⟩
    go_enter Try.func48, Try.ntmps48
    go_wp2_with (first | (go_at_call 20; refine (dPid_any _ a).mono ?_; rintro e w' ⟨rfl, rfl⟩; rw [h1]) | (go_at_call 20; refine (dPid_any _ b).mono ?_; rintro e w' ⟨rfl, rfl⟩; rw [h2]))
    go_ret
    exact ⟨by rw [hE.out]; rfl, Below.refl _ _⟩
  · have hE : Kp (decide (twoE a b = 0 ∧ (⟨min a b, max a b, 0⟩ : Bd) ∈ L) = false) := ⟨decide_eq_false (fun h => (two_0 h.1).2.2 h3)⟩
    subst h3
    have hq : (a != a) = false := by simp
    go_enter Try.func48, Try.ntmps48
    go_wp2_with (go_at_call 20; refine (dPid_any _ a).mono ?_; rintro e w' ⟨rfl, rfl⟩; rw [h1])
    go_ret
    exact ⟨by rw [hE.out]; rfl, Below.refl _ _⟩
  · have ht : Kp (twoE a b = 0) := ⟨by unfold twoE; rw [if_pos ⟨of_decide_eq_true h1, of_decide_eq_true h2, h3⟩]⟩
    have hq : (a != b) = true := by simpa using h3
    go_enter Try.func48, Try.ntmps48
    go_wp2_with (first
      | (go_at_call 20; refine (dPid_any _ a).mono ?_; rintro e w' ⟨rfl, rfl⟩; rw [h1])
      | (go_at_call 20; refine (dPid_any _ b).mono ?_; rintro e w' ⟨rfl, rfl⟩; rw [h2])
      | (go_at_call 51; refine (dpair_any _ a b).mono ?_; rintro e w1 ⟨rfl, hb1⟩; have HB1 := Kp.mk hb1; clear hb1)
      | (go_at_call 50; refine (place_any _ q lv L ⟨min a b, max a b, 0⟩ (H.out.below HB1.out) hn).mono ?_; rintro e w2 ⟨k, hk, rfl, hb2⟩; have HK := Kp.mk hk; have HB2 := Kp.mk hb2; clear hk hb2))
    go_ret
    refine ⟨?_, bstep HB1.out HB1.out.size HB2.out⟩
    rcases HK.out with ⟨i, rfl, hi, _⟩ | ⟨rfl, hno⟩
    · have hm : twoE a b = 0 ∧ (⟨min a b, max a b, 0⟩ : Bd) ∈ L := ⟨ht.out, List.mem_of_getElem? hi⟩
      rw [decide_eq_true hm]; simp
    · have hm : ¬ (twoE a b = 0 ∧ (⟨min a b, max a b, 0⟩ : Bd) ∈ L) := fun h => hno h.2
      rw [decide_eq_false hm]; simp
end Go.Proofs.Ytlbbheopoflmjaa
