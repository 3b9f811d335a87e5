/- TimerAdds walked: it answers true; no condition. -/
import Derived.Test.YtobgabjoehjpcaaAw
namespace Go.Proofs.Ytobgabjoehjpcaa
open Go.RowKit

theorem add_facts {t a b : Int} (h : addE t a = 0) (hb : 0 ≤ b) : addE (addV t a) b = 0 ∧ addE t b = 0 ∧ addE (addV t b) a = 0 ∧ addV (addV t a) b = addV (addV t b) a ∧ t ≤ addV t a ∧ (b ≤ a → addV t b ≤ addV t a) := by
  have h0 : ¬ (t < 0 ∨ 1152921504606846976 < t ∨ a < 0) := fun hc => by unfold addE at h; rw [if_pos hc] at h; cases h
  have e1 : ∀ u v : Int, 0 ≤ u → u ≤ 1152921504606846976 → 0 ≤ v → addE u v = 0 ∧ addV u v = if 1152921504606846976 - u < v then 1152921504606846976 else u + v := fun u v h1 h2 h3 => by
    unfold addE addV
    rw [if_neg (by omega), if_neg (by omega)]
    exact ⟨rfl, rfl⟩
  obtain ⟨a1, a2⟩ := e1 t a (by omega) (by omega) (by omega)
  obtain ⟨b1, b2⟩ := e1 t b (by omega) (by omega) hb
  have ra : 0 ≤ addV t a ∧ addV t a ≤ 1152921504606846976 := by rw [a2]; split <;> omega
  have rb : 0 ≤ addV t b ∧ addV t b ≤ 1152921504606846976 := by rw [b2]; split <;> omega
  obtain ⟨c1, c2⟩ := e1 (addV t a) b ra.1 ra.2 hb
  obtain ⟨d1, d2⟩ := e1 (addV t b) a rb.1 rb.2 (by omega)
  refine ⟨c1, b1, d1, ?_, ?_, ?_⟩
  · rw [c2, d2, a2, b2]
    split <;> split <;> split <;> (try split) <;> omega
  · rw [a2]; split <;> omega
  · intro hba
    rw [a2, b2]
    split <;> split <;> omega
theorem addE_or (t a : Int) : addE t a = 0 ∨ addE t a = 1 := by unfold addE; split <;> simp
set_option maxRecDepth 100000 in
set_option maxHeartbeats 4000000 in
theorem adds_any (w : World) (t a b : Int) : Calls Try.prog 3 #[.int .i64 t, .int .i64 a, .int .i64 b] w fun e w' => e = .returned (.bool true) ∧ Below w.heap.size w w' := by
  have M1 := Kp.mk (add_any w t a)
  have M2 := Kp.mk (radd_any w t a)
  unfold AddPost at M1 M2
  have MW := Kp.mk (awake_any w)
  rcases addE_or t a with he | he
  · rw [he] at M1 M2
    obtain ⟨n, hn⟩ : ∃ n, n = addV t a := ⟨_, rfl⟩
    rw [← hn] at M1 M2
    have hnn : (n != n) = false := by simp
    by_cases hb : b < 0
    · have hbd : decide (b < 0) = true := by simpa using hb
      clear he hn
      go_enter Try.func3, Try.ntmps3
      go_wp2_with fail
      refine M1.out.mono ?_
      rintro e w1 ⟨rfl, rfl⟩
      go_wp2_with fail
      refine M2.out.mono ?_
      rintro e w1 ⟨rfl, rfl⟩
      go_wp2_with fail
      refine MW.out.mono ?_
      rintro e w1 ⟨rfl, hb1⟩
      have HB := Kp.mk hb1
      clear hb1
      go_wp2
      go_ret
      exact ⟨rfl, HB.out⟩
    · have hbd : decide (b < 0) = false := by simpa using hb
      obtain ⟨f1, f2, f3, f4, f5, f6⟩ := add_facts he (show 0 ≤ b by omega)
      rw [← hn] at f1 f4 f5 f6
      have M3 := Kp.mk (add_any w n b)
      have M4 := Kp.mk (add_any w t b)
      have M5 := Kp.mk (add_any w (addV t b) a)
      unfold AddPost at M3 M4 M5
      rw [f1] at M3
      rw [f2] at M4
      rw [f3, ← f4] at M5
      obtain ⟨x, hx⟩ : ∃ x, x = addV n b := ⟨_, rfl⟩
      obtain ⟨y, hy⟩ : ∃ y, y = addV t b := ⟨_, rfl⟩
      rw [← hx] at M3 M5
      rw [← hy] at M4 M5 f6
      have hxx : (x == x) = true := by simp
      have h5 : decide (t ≤ n) = true := by simpa using f5
      have F5 := f5
      by_cases hba : a < b
      · have hbad : decide (a < b) = true := by simpa using hba
        clear he hn f1 f2 f3 f4 f6 hx hy
        go_enter Try.func3, Try.ntmps3
        go_wp2_with fail
        refine M1.out.mono ?_
        rintro e w1 ⟨rfl, rfl⟩
        go_wp2_with fail
        refine M2.out.mono ?_
        rintro e w1 ⟨rfl, rfl⟩
        go_wp2_with fail
        refine M3.out.mono ?_
        rintro e w1 ⟨rfl, rfl⟩
        go_wp2_with fail
        refine M4.out.mono ?_
        rintro e w1 ⟨rfl, rfl⟩
        go_wp2_with fail
        refine M5.out.mono ?_
        rintro e w1 ⟨rfl, rfl⟩
        go_wp2_with fail
        refine MW.out.mono ?_
        rintro e w1 ⟨rfl, hb1⟩
        have HB := Kp.mk hb1
        clear hb1
        go_wp2
        go_ret
        exact ⟨rfl, HB.out⟩
      · have hbad : decide (a < b) = false := by simpa using hba
        have f7 := f6 (by omega)
        have h7 : decide (y ≤ n) = true := by simpa using f7
        clear he hn f1 f2 f3 f4 f6 hx hy
        go_enter Try.func3, Try.ntmps3
        go_wp2_with fail
        refine M1.out.mono ?_
        rintro e w1 ⟨rfl, rfl⟩
        go_wp2_with fail
        refine M2.out.mono ?_
        rintro e w1 ⟨rfl, rfl⟩
        go_wp2_with fail
        refine M3.out.mono ?_
        rintro e w1 ⟨rfl, rfl⟩
        go_wp2_with fail
        refine M4.out.mono ?_
        rintro e w1 ⟨rfl, rfl⟩
        go_wp2_with fail
        refine M5.out.mono ?_
        rintro e w1 ⟨rfl, rfl⟩
        go_wp2_with fail
        refine MW.out.mono ?_
        rintro e w1 ⟨rfl, hb1⟩
        have HB := Kp.mk hb1
        clear hb1
        go_wp2
        go_ret
        exact ⟨rfl, HB.out⟩
  · rw [he] at M1 M2
    obtain ⟨n, hn⟩ : ∃ n, n = addV t a := ⟨_, rfl⟩
    rw [← hn] at M1 M2
    have hnn : (n != n) = false := by simp
    clear he hn
    go_enter Try.func3, Try.ntmps3
    go_wp2_with fail
    refine M1.out.mono ?_
    rintro e w1 ⟨rfl, rfl⟩
    go_wp2_with fail
    refine M2.out.mono ?_
    rintro e w1 ⟨rfl, rfl⟩
    go_wp2_with fail
    refine MW.out.mono ?_
    rintro e w1 ⟨rfl, hb1⟩
    have HB := Kp.mk hb1
    clear hb1
    go_wp2
    go_ret
    exact ⟨rfl, HB.out⟩
end Go.Proofs.Ytobgabjoehjpcaa
