/- word.Cell, behind and parleyref01's Cell, kids walked; the bound on a text is the model's own greatest string. -/
import Derived.Test.YtameidoaenoppaaGreatDoorTa
import Derived.Test.YtameidoaenoppaaGreatDoorUw
namespace Go.Proofs.YtameidoaenoppaaGreatDoor
open Go.RowKit Go.Lib

theorem cellE_out {c : Ce} (h : c.k < 1 ∨ 8 < c.k) : cellE c = 3 := by unfold cellE; rw [if_pos h]
theorem emp_toList {t : ByteArray} (h : t ≠ emp) : t.toList.isEmpty = false := by
  rw [ByteArray.toList_eq]
  cases hl : t.data.toList with
  | nil => exact absurd (isEmp.2 (by have h1 := congrArg List.length hl; simpa using h1)) h
  | cons _ _ => rfl
set_option maxRecDepth 1000000 in
set_option maxHeartbeats 8000000 in
theorem wcell_any (c : Ce) (w : World) (hT : Tabs w) :
    Calls Tryz.prog 70 #[.agg #[.int .i64 c.k, .int .i64 c.n, .string c.t]] w fun e w' => e = .returned (.int .i64 (cellE c)) ∧ Below w.heap.size w w' := by
  obtain ⟨k, n, t⟩ := c
  simp only at *
  have hb0 : Below w.heap.size w (w.alloc (.cells #[.int .i64 k, .int .i64 n, .string t] 63)) := (Below.refl _ _).alloc (Nat.le_refl _) _
  have HB0 := Kp.mk hb0
  have X0 := Kp.mk (blk_new w (.cells #[.int .i64 k, .int .i64 n, .string t] 63))
  have hS := fun w2 (hb : Below w.heap.size w w2) => spelled_any t w2 (hT.below hb)
  clear hb0 hT
  have fin : ∀ (r : Int) (w2 : World), Below w.heap.size w w2 → r = cellE ⟨k, n, t⟩ → (Ending.returned (Value.int .i64 r) = Ending.returned (Value.int .i64 (cellE ⟨k, n, t⟩)) ∧ Below w.heap.size w w2) := fun r w2 h1 h2 => ⟨by rw [h2], h1⟩
  have FIN := Kp.mk fin
  clear fin
  by_cases h1 : k < 1
  · have E := Kp.mk (cellE_out (c := ⟨k, n, t⟩) (.inl h1))
    clear hS
    go_enter Tryz.func70, Tryz.ntmps70
    go_wp2
    all_goals
      go_ret
      exact FIN.out _ _ HB0.out E.out.symm
  by_cases h8 : 8 < k
  · have E := Kp.mk (cellE_out (c := ⟨k, n, t⟩) (.inr h8))
    clear hS
    go_enter Tryz.func70, Tryz.ntmps70
    go_wp2
    all_goals
      go_ret
      exact FIN.out _ _ HB0.out E.out.symm
  by_cases hk1 : k = 1
  · subst hk1
    clear hS
    by_cases ht : t = emp
    · subst ht
      unfold emp at *
      go_enter Tryz.func70, Tryz.ntmps70
      go_wp2
      all_goals
        go_ret
        exact FIN.out _ _ HB0.out (by unfold cellE; simp only; first | (simp; done) | (simp [emp]; done) | (simp [emp]; omega))
    · have htl := emp_toList ht
      have htl2 : (t.toList == ([] : List UInt8)) = false := by cases hq : t.toList with | nil => (rw [hq] at htl; cases htl) | cons _ _ => rfl
      have HTT := Kp.mk ht
      clear ht
      go_enter Tryz.func70, Tryz.ntmps70
      go_wp2
      all_goals
        go_ret
        exact FIN.out _ _ HB0.out (by unfold cellE; simp only; first | (simp; done) | (simp [HTT.out]; done) | (simp [HTT.out]; omega))
  by_cases hk2 : k = 2
  · subst hk2
    by_cases hn : n = 0
    · subst hn
      by_cases hz : 255 < t.size
      · have hzi : (255 : Int) < (t.size : Int) := by omega
        have HZ := Kp.mk hz
        clear hz hS
        go_enter Tryz.func70, Tryz.ntmps70
        go_wp2
        all_goals
          go_ret
          exact FIN.out _ _ HB0.out (by unfold cellE; simp only; first | (simp; done) | (simp [HZ.out]; done) | (simp [HZ.out]; omega))
      · have hzi : ¬ (255 : Int) < (t.size : Int) := by omega
        have HZ := Kp.mk hz
        clear hz
        generalize hV : validD t.data.toList = V at hS
        have HV := Kp.mk hV
        clear hV
        cases V
        all_goals
          go_enter Tryz.func70, Tryz.ntmps70
          go_wp2_with (go_at_call 78; refine (hS _ HB0.out).mono ?_; rintro e w5 ⟨rfl, hb5⟩; have x5 := (hb5.block w.heap.size (by simp)).trans X0.out; have c50 := blk_c x5 0; have c51 := blk_c x5 1; have c52 := blk_c x5 2; have l5 := lt_of_block x5; have HB5 := Kp.mk (bstep HB0.out HB0.out.size hb5); clear hb5 x5)
          all_goals
            go_ret
            exact FIN.out _ _ HB5.out (by unfold cellE; simp only; first | (simp; done) | (simp [HZ.out, HV.out]; done) | (simp [HZ.out, HV.out]; omega))
    · have hne : (n == 0) = false := by simpa using hn
      have hne2 : (n != 0) = true := by simpa using hn
      have HN := Kp.mk hn
      clear hn hS
      go_enter Tryz.func70, Tryz.ntmps70
      go_wp2
      all_goals
        go_ret
        exact FIN.out _ _ HB0.out (by unfold cellE; simp only; first | (simp; done) | (simp [HN.out]; done) | (simp [HN.out]; omega))
  by_cases hk3 : k = 3
  · subst hk3
    clear hS
    by_cases ht : t = emp
    · subst ht
      unfold emp at *
      by_cases ha : n < 1
      · have HA := Kp.mk ha
        go_enter Tryz.func70, Tryz.ntmps70
        go_wp2
        all_goals
          go_ret
          exact FIN.out _ _ HB0.out (by unfold cellE; simp only; first | (simp; done) | (simp [HA.out, emp]; done) | (simp [HA.out, emp]; omega))
      · by_cases hb : 281474976710656 < n
        · have HA := Kp.mk hb
          go_enter Tryz.func70, Tryz.ntmps70
          go_wp2
          all_goals
            go_ret
            exact FIN.out _ _ HB0.out (by unfold cellE; simp only; first | (simp; done) | (simp [HA.out, emp]; done) | (simp [HA.out, emp]; omega))
        · have HA := Kp.mk (And.intro ha hb)
          have ha1 : 1 ≤ n := by omega
          have hb1 : n ≤ 281474976710656 := by omega
          go_enter Tryz.func70, Tryz.ntmps70
          go_wp2
          all_goals
            go_ret
            exact FIN.out _ _ HB0.out (by unfold cellE; simp only; first | (simp; done) | (simp [HA.out.1, HA.out.2, emp]; done) | (simp [HA.out.1, HA.out.2, emp]; omega))
    · have htl := emp_toList ht
      have htl2 : (t.toList == ([] : List UInt8)) = false := by cases hq : t.toList with | nil => (rw [hq] at htl; cases htl) | cons _ _ => rfl
      have HTT := Kp.mk ht
      clear ht
      go_enter Tryz.func70, Tryz.ntmps70
      go_wp2
      all_goals
        go_ret
        exact FIN.out _ _ HB0.out (by unfold cellE; simp only; first | (simp; done) | (simp [HTT.out]; done) | (simp [HTT.out]; omega))
  by_cases hk4 : k = 4
  · subst hk4
    clear hS
    by_cases ht : t = emp
    · subst ht
      unfold emp at *
      by_cases ha : n < 1
      · have HA := Kp.mk ha
        go_enter Tryz.func70, Tryz.ntmps70
        go_wp2
        all_goals
          go_ret
          exact FIN.out _ _ HB0.out (by unfold cellE; simp only; first | (simp; done) | (simp [HA.out, emp]; done) | (simp [HA.out, emp]; omega))
      · by_cases hb : 1099511627776 < n
        · have HA := Kp.mk hb
          go_enter Tryz.func70, Tryz.ntmps70
          go_wp2
          all_goals
            go_ret
            exact FIN.out _ _ HB0.out (by unfold cellE; simp only; first | (simp; done) | (simp [HA.out, emp]; done) | (simp [HA.out, emp]; omega))
        · have HA := Kp.mk (And.intro ha hb)
          have ha1 : 1 ≤ n := by omega
          have hb1 : n ≤ 1099511627776 := by omega
          go_enter Tryz.func70, Tryz.ntmps70
          go_wp2
          all_goals
            go_ret
            exact FIN.out _ _ HB0.out (by unfold cellE; simp only; first | (simp; done) | (simp [HA.out.1, HA.out.2, emp]; done) | (simp [HA.out.1, HA.out.2, emp]; omega))
    · have htl := emp_toList ht
      have htl2 : (t.toList == ([] : List UInt8)) = false := by cases hq : t.toList with | nil => (rw [hq] at htl; cases htl) | cons _ _ => rfl
      have HTT := Kp.mk ht
      clear ht
      go_enter Tryz.func70, Tryz.ntmps70
      go_wp2
      all_goals
        go_ret
        exact FIN.out _ _ HB0.out (by unfold cellE; simp only; first | (simp; done) | (simp [HTT.out]; done) | (simp [HTT.out]; omega))
  by_cases hk5 : k = 5
  · subst hk5
    clear hS
    by_cases ht : t = emp
    · subst ht
      unfold emp at *
      by_cases ha : n < 0
      · have HA := Kp.mk ha
        go_enter Tryz.func70, Tryz.ntmps70
        go_wp2
        all_goals
          go_ret
          exact FIN.out _ _ HB0.out (by unfold cellE; simp only; first | (simp; done) | (simp [HA.out, emp]; done) | (simp [HA.out, emp]; omega))
      · by_cases hb : 255 < n
        · have HA := Kp.mk hb
          go_enter Tryz.func70, Tryz.ntmps70
          go_wp2
          all_goals
            go_ret
            exact FIN.out _ _ HB0.out (by unfold cellE; simp only; first | (simp; done) | (simp [HA.out, emp]; done) | (simp [HA.out, emp]; omega))
        · have HA := Kp.mk (And.intro ha hb)
          have ha1 : 0 ≤ n := by omega
          have hb1 : n ≤ 255 := by omega
          go_enter Tryz.func70, Tryz.ntmps70
          go_wp2
          all_goals
            go_ret
            exact FIN.out _ _ HB0.out (by unfold cellE; simp only; first | (simp; done) | (simp [HA.out.1, HA.out.2, emp]; done) | (simp [HA.out.1, HA.out.2, emp]; omega))
    · have htl := emp_toList ht
      have htl2 : (t.toList == ([] : List UInt8)) = false := by cases hq : t.toList with | nil => (rw [hq] at htl; cases htl) | cons _ _ => rfl
      have HTT := Kp.mk ht
      clear ht
      go_enter Tryz.func70, Tryz.ntmps70
      go_wp2
      all_goals
        go_ret
        exact FIN.out _ _ HB0.out (by unfold cellE; simp only; first | (simp; done) | (simp [HTT.out]; done) | (simp [HTT.out]; omega))
  by_cases hk6 : k = 6
  · subst hk6
    clear hS
    by_cases ht : t = emp
    · subst ht
      unfold emp at *
      by_cases hn : n = 0
      · subst hn
        go_enter Tryz.func70, Tryz.ntmps70
        go_wp2
        all_goals
          go_ret
          exact FIN.out _ _ HB0.out (by unfold cellE; simp only; first | (simp; done) | (simp [emp]; done) | (simp [emp]; omega))
      · have hne : (n == 0) = false := by simpa using hn
        have hne2 : (n != 0) = true := by simpa using hn
        have HN := Kp.mk hn
        clear hn
        go_enter Tryz.func70, Tryz.ntmps70
        go_wp2
        all_goals
          go_ret
          exact FIN.out _ _ HB0.out (by unfold cellE; simp only; first | (simp; done) | (simp [HN.out, emp]; done) | (simp [HN.out, emp]; omega))
    · have htl := emp_toList ht
      have htl2 : (t.toList == ([] : List UInt8)) = false := by cases hq : t.toList with | nil => (rw [hq] at htl; cases htl) | cons _ _ => rfl
      have HTT := Kp.mk ht
      clear ht
      go_enter Tryz.func70, Tryz.ntmps70
      go_wp2
      all_goals
        go_ret
        exact FIN.out _ _ HB0.out (by unfold cellE; simp only; first | (simp; done) | (simp [HTT.out]; done) | (simp [HTT.out]; omega))
  by_cases hk7 : k = 7
  · subst hk7
    clear hS
    by_cases ht : t = emp
    · subst ht
      unfold emp at *
      by_cases hn : n = 0
      · subst hn
        go_enter Tryz.func70, Tryz.ntmps70
        go_wp2
        all_goals
          go_ret
          exact FIN.out _ _ HB0.out (by unfold cellE; simp only; first | (simp; done) | (simp [emp]; done) | (simp [emp]; omega))
      · have hne : (n == 0) = false := by simpa using hn
        have hne2 : (n != 0) = true := by simpa using hn
        have HN := Kp.mk hn
        clear hn
        go_enter Tryz.func70, Tryz.ntmps70
        go_wp2
        all_goals
          go_ret
          exact FIN.out _ _ HB0.out (by unfold cellE; simp only; first | (simp; done) | (simp [HN.out, emp]; done) | (simp [HN.out, emp]; omega))
    · have htl := emp_toList ht
      have htl2 : (t.toList == ([] : List UInt8)) = false := by cases hq : t.toList with | nil => (rw [hq] at htl; cases htl) | cons _ _ => rfl
      have HTT := Kp.mk ht
      clear ht
      go_enter Tryz.func70, Tryz.ntmps70
      go_wp2
      all_goals
        go_ret
        exact FIN.out _ _ HB0.out (by unfold cellE; simp only; first | (simp; done) | (simp [HTT.out]; done) | (simp [HTT.out]; omega))
  by_cases hk8 : k = 8
  · subst hk8
    by_cases hn : n = 0
    · subst hn
      clear hS
      by_cases hz : 1024 < t.size
      · have hzi : (1024 : Int) < (t.size : Int) := by omega
        have HZ := Kp.mk hz
        clear hz
        go_enter Tryz.func70, Tryz.ntmps70
        go_wp2
        all_goals
          go_ret
          exact FIN.out _ _ HB0.out (by unfold cellE; simp only; first | (simp; done) | (simp [HZ.out]; done) | (simp [HZ.out]; omega))
      · have hzi : ¬ (1024 : Int) < (t.size : Int) := by omega
        have HZ := Kp.mk hz
        clear hz
        go_enter Tryz.func70, Tryz.ntmps70
        go_wp2
        all_goals
          go_ret
          exact FIN.out _ _ HB0.out (by unfold cellE; simp only; first | (simp; done) | (simp [HZ.out]; done) | (simp [HZ.out]; omega))
    · have hne : (n == 0) = false := by simpa using hn
      have hne2 : (n != 0) = true := by simpa using hn
      have HN := Kp.mk hn
      clear hn hS
      go_enter Tryz.func70, Tryz.ntmps70
      go_wp2
      all_goals
        go_ret
        exact FIN.out _ _ HB0.out (by unfold cellE; simp only; first | (simp; done) | (simp [HN.out]; done) | (simp [HN.out]; omega))
  omega
set_option maxRecDepth 1000000 in
set_option maxHeartbeats 8000000 in
theorem rcell_any (c : Ce) (w : World) (hs : c.t.size ≤ 140737488355328) :
    Calls Tryz.prog 75 #[.agg #[.int .i64 c.k, .int .i64 c.n, .string c.t]] w fun e w' => e = .returned (.int .i64 (cellE c)) ∧ Below w.heap.size w w' := by
  obtain ⟨k, n, t⟩ := c
  simp only at *
  have hb0 : Below w.heap.size w (w.alloc (.cells #[.int .i64 k, .int .i64 n, .string t] 63)) := (Below.refl _ _).alloc (Nat.le_refl _) _
  have HB0 := Kp.mk hb0
  have X0 := Kp.mk (blk_new w (.cells #[.int .i64 k, .int .i64 n, .string t] 63))
  have hS := fun w2 (hb : Below w.heap.size w w2) => utf8_any t w2 hs
  clear hb0 hs
  have fin : ∀ (r : Int) (w2 : World), Below w.heap.size w w2 → r = cellE ⟨k, n, t⟩ → (Ending.returned (Value.int .i64 r) = Ending.returned (Value.int .i64 (cellE ⟨k, n, t⟩)) ∧ Below w.heap.size w w2) := fun r w2 h1 h2 => ⟨by rw [h2], h1⟩
  have FIN := Kp.mk fin
  clear fin
  by_cases h1 : k < 1
  · have E := Kp.mk (cellE_out (c := ⟨k, n, t⟩) (.inl h1))
    clear hS
    go_enter Tryz.func75, Tryz.ntmps75
    go_wp2
    all_goals
      go_ret
      exact FIN.out _ _ HB0.out E.out.symm
  by_cases h8 : 8 < k
  · have E := Kp.mk (cellE_out (c := ⟨k, n, t⟩) (.inr h8))
    clear hS
    go_enter Tryz.func75, Tryz.ntmps75
    go_wp2
    all_goals
      go_ret
      exact FIN.out _ _ HB0.out E.out.symm
  by_cases hk1 : k = 1
  · subst hk1
    clear hS
    by_cases ht : t = emp
    · subst ht
      unfold emp at *
      go_enter Tryz.func75, Tryz.ntmps75
      go_wp2
      all_goals
        go_ret
        exact FIN.out _ _ HB0.out (by unfold cellE; simp only; first | (simp; done) | (simp [emp]; done) | (simp [emp]; omega))
    · have htl := emp_toList ht
      have htl2 : (t.toList == ([] : List UInt8)) = false := by cases hq : t.toList with | nil => (rw [hq] at htl; cases htl) | cons _ _ => rfl
      have HTT := Kp.mk ht
      clear ht
      go_enter Tryz.func75, Tryz.ntmps75
      go_wp2
      all_goals
        go_ret
        exact FIN.out _ _ HB0.out (by unfold cellE; simp only; first | (simp; done) | (simp [HTT.out]; done) | (simp [HTT.out]; omega))
  by_cases hk2 : k = 2
  · subst hk2
    by_cases hn : n = 0
    · subst hn
      by_cases hz : 255 < t.size
      · have hzi : (255 : Int) < (t.size : Int) := by omega
        have HZ := Kp.mk hz
        clear hz hS
        go_enter Tryz.func75, Tryz.ntmps75
        go_wp2
        all_goals
          go_ret
          exact FIN.out _ _ HB0.out (by unfold cellE; simp only; first | (simp; done) | (simp [HZ.out]; done) | (simp [HZ.out]; omega))
      · have hzi : ¬ (255 : Int) < (t.size : Int) := by omega
        have HZ := Kp.mk hz
        clear hz
        generalize hV : validD t.data.toList = V at hS
        have HV := Kp.mk hV
        clear hV
        cases V
        all_goals
          go_enter Tryz.func75, Tryz.ntmps75
          go_wp2_with (go_at_call 81; refine (hS _ HB0.out).mono ?_; rintro e w5 ⟨rfl, hb5⟩; have x5 := (hb5.block w.heap.size (by simp)).trans X0.out; have c50 := blk_c x5 0; have c51 := blk_c x5 1; have c52 := blk_c x5 2; have l5 := lt_of_block x5; have HB5 := Kp.mk (bstep HB0.out HB0.out.size hb5); clear hb5 x5)
          all_goals
            go_ret
            exact FIN.out _ _ HB5.out (by unfold cellE; simp only; first | (simp; done) | (simp [HZ.out, HV.out]; done) | (simp [HZ.out, HV.out]; omega))
    · have hne : (n == 0) = false := by simpa using hn
      have hne2 : (n != 0) = true := by simpa using hn
      have HN := Kp.mk hn
      clear hn hS
      go_enter Tryz.func75, Tryz.ntmps75
      go_wp2
      all_goals
        go_ret
        exact FIN.out _ _ HB0.out (by unfold cellE; simp only; first | (simp; done) | (simp [HN.out]; done) | (simp [HN.out]; omega))
  by_cases hk3 : k = 3
  · subst hk3
    clear hS
    by_cases ht : t = emp
    · subst ht
      unfold emp at *
      by_cases ha : n < 1
      · have HA := Kp.mk ha
        go_enter Tryz.func75, Tryz.ntmps75
        go_wp2
        all_goals
          go_ret
          exact FIN.out _ _ HB0.out (by unfold cellE; simp only; first | (simp; done) | (simp [HA.out, emp]; done) | (simp [HA.out, emp]; omega))
      · by_cases hb : 281474976710656 < n
        · have HA := Kp.mk hb
          go_enter Tryz.func75, Tryz.ntmps75
          go_wp2
          all_goals
            go_ret
            exact FIN.out _ _ HB0.out (by unfold cellE; simp only; first | (simp; done) | (simp [HA.out, emp]; done) | (simp [HA.out, emp]; omega))
        · have HA := Kp.mk (And.intro ha hb)
          have ha1 : 1 ≤ n := by omega
          have hb1 : n ≤ 281474976710656 := by omega
          go_enter Tryz.func75, Tryz.ntmps75
          go_wp2
          all_goals
            go_ret
            exact FIN.out _ _ HB0.out (by unfold cellE; simp only; first | (simp; done) | (simp [HA.out.1, HA.out.2, emp]; done) | (simp [HA.out.1, HA.out.2, emp]; omega))
    · have htl := emp_toList ht
      have htl2 : (t.toList == ([] : List UInt8)) = false := by cases hq : t.toList with | nil => (rw [hq] at htl; cases htl) | cons _ _ => rfl
      have HTT := Kp.mk ht
      clear ht
      go_enter Tryz.func75, Tryz.ntmps75
      go_wp2
      all_goals
        go_ret
        exact FIN.out _ _ HB0.out (by unfold cellE; simp only; first | (simp; done) | (simp [HTT.out]; done) | (simp [HTT.out]; omega))
  by_cases hk4 : k = 4
  · subst hk4
    clear hS
    by_cases ht : t = emp
    · subst ht
      unfold emp at *
      by_cases ha : n < 1
      · have HA := Kp.mk ha
        go_enter Tryz.func75, Tryz.ntmps75
        go_wp2
        all_goals
          go_ret
          exact FIN.out _ _ HB0.out (by unfold cellE; simp only; first | (simp; done) | (simp [HA.out, emp]; done) | (simp [HA.out, emp]; omega))
      · by_cases hb : 1099511627776 < n
        · have HA := Kp.mk hb
          go_enter Tryz.func75, Tryz.ntmps75
          go_wp2
          all_goals
            go_ret
            exact FIN.out _ _ HB0.out (by unfold cellE; simp only; first | (simp; done) | (simp [HA.out, emp]; done) | (simp [HA.out, emp]; omega))
        · have HA := Kp.mk (And.intro ha hb)
          have ha1 : 1 ≤ n := by omega
          have hb1 : n ≤ 1099511627776 := by omega
          go_enter Tryz.func75, Tryz.ntmps75
          go_wp2
          all_goals
            go_ret
            exact FIN.out _ _ HB0.out (by unfold cellE; simp only; first | (simp; done) | (simp [HA.out.1, HA.out.2, emp]; done) | (simp [HA.out.1, HA.out.2, emp]; omega))
    · have htl := emp_toList ht
      have htl2 : (t.toList == ([] : List UInt8)) = false := by cases hq : t.toList with | nil => (rw [hq] at htl; cases htl) | cons _ _ => rfl
      have HTT := Kp.mk ht
      clear ht
      go_enter Tryz.func75, Tryz.ntmps75
      go_wp2
      all_goals
        go_ret
        exact FIN.out _ _ HB0.out (by unfold cellE; simp only; first | (simp; done) | (simp [HTT.out]; done) | (simp [HTT.out]; omega))
  by_cases hk5 : k = 5
  · subst hk5
    clear hS
    by_cases ht : t = emp
    · subst ht
      unfold emp at *
      by_cases ha : n < 0
      · have HA := Kp.mk ha
        go_enter Tryz.func75, Tryz.ntmps75
        go_wp2
        all_goals
          go_ret
          exact FIN.out _ _ HB0.out (by unfold cellE; simp only; first | (simp; done) | (simp [HA.out, emp]; done) | (simp [HA.out, emp]; omega))
      · by_cases hb : 255 < n
        · have HA := Kp.mk hb
          go_enter Tryz.func75, Tryz.ntmps75
          go_wp2
          all_goals
            go_ret
            exact FIN.out _ _ HB0.out (by unfold cellE; simp only; first | (simp; done) | (simp [HA.out, emp]; done) | (simp [HA.out, emp]; omega))
        · have HA := Kp.mk (And.intro ha hb)
          have ha1 : 0 ≤ n := by omega
          have hb1 : n ≤ 255 := by omega
          go_enter Tryz.func75, Tryz.ntmps75
          go_wp2
          all_goals
            go_ret
            exact FIN.out _ _ HB0.out (by unfold cellE; simp only; first | (simp; done) | (simp [HA.out.1, HA.out.2, emp]; done) | (simp [HA.out.1, HA.out.2, emp]; omega))
    · have htl := emp_toList ht
      have htl2 : (t.toList == ([] : List UInt8)) = false := by cases hq : t.toList with | nil => (rw [hq] at htl; cases htl) | cons _ _ => rfl
      have HTT := Kp.mk ht
      clear ht
      go_enter Tryz.func75, Tryz.ntmps75
      go_wp2
      all_goals
        go_ret
        exact FIN.out _ _ HB0.out (by unfold cellE; simp only; first | (simp; done) | (simp [HTT.out]; done) | (simp [HTT.out]; omega))
  by_cases hk6 : k = 6
  · subst hk6
    clear hS
    by_cases ht : t = emp
    · subst ht
      unfold emp at *
      by_cases hn : n = 0
      · subst hn
        go_enter Tryz.func75, Tryz.ntmps75
        go_wp2
        all_goals
          go_ret
          exact FIN.out _ _ HB0.out (by unfold cellE; simp only; first | (simp; done) | (simp [emp]; done) | (simp [emp]; omega))
      · have hne : (n == 0) = false := by simpa using hn
        have hne2 : (n != 0) = true := by simpa using hn
        have HN := Kp.mk hn
        clear hn
        go_enter Tryz.func75, Tryz.ntmps75
        go_wp2
        all_goals
          go_ret
          exact FIN.out _ _ HB0.out (by unfold cellE; simp only; first | (simp; done) | (simp [HN.out, emp]; done) | (simp [HN.out, emp]; omega))
    · have htl := emp_toList ht
      have htl2 : (t.toList == ([] : List UInt8)) = false := by cases hq : t.toList with | nil => (rw [hq] at htl; cases htl) | cons _ _ => rfl
      have HTT := Kp.mk ht
      clear ht
      go_enter Tryz.func75, Tryz.ntmps75
      go_wp2
      all_goals
        go_ret
        exact FIN.out _ _ HB0.out (by unfold cellE; simp only; first | (simp; done) | (simp [HTT.out]; done) | (simp [HTT.out]; omega))
  by_cases hk7 : k = 7
  · subst hk7
    clear hS
    by_cases ht : t = emp
    · subst ht
      unfold emp at *
      by_cases hn : n = 0
      · subst hn
        go_enter Tryz.func75, Tryz.ntmps75
        go_wp2
        all_goals
          go_ret
          exact FIN.out _ _ HB0.out (by unfold cellE; simp only; first | (simp; done) | (simp [emp]; done) | (simp [emp]; omega))
      · have hne : (n == 0) = false := by simpa using hn
        have hne2 : (n != 0) = true := by simpa using hn
        have HN := Kp.mk hn
        clear hn
        go_enter Tryz.func75, Tryz.ntmps75
        go_wp2
        all_goals
          go_ret
          exact FIN.out _ _ HB0.out (by unfold cellE; simp only; first | (simp; done) | (simp [HN.out, emp]; done) | (simp [HN.out, emp]; omega))
    · have htl := emp_toList ht
      have htl2 : (t.toList == ([] : List UInt8)) = false := by cases hq : t.toList with | nil => (rw [hq] at htl; cases htl) | cons _ _ => rfl
      have HTT := Kp.mk ht
      clear ht
      go_enter Tryz.func75, Tryz.ntmps75
      go_wp2
      all_goals
        go_ret
        exact FIN.out _ _ HB0.out (by unfold cellE; simp only; first | (simp; done) | (simp [HTT.out]; done) | (simp [HTT.out]; omega))
  by_cases hk8 : k = 8
  · subst hk8
    by_cases hn : n = 0
    · subst hn
      clear hS
      by_cases hz : 1024 < t.size
      · have hzi : (1024 : Int) < (t.size : Int) := by omega
        have HZ := Kp.mk hz
        clear hz
        go_enter Tryz.func75, Tryz.ntmps75
        go_wp2
        all_goals
          go_ret
          exact FIN.out _ _ HB0.out (by unfold cellE; simp only; first | (simp; done) | (simp [HZ.out]; done) | (simp [HZ.out]; omega))
      · have hzi : ¬ (1024 : Int) < (t.size : Int) := by omega
        have HZ := Kp.mk hz
        clear hz
        go_enter Tryz.func75, Tryz.ntmps75
        go_wp2
        all_goals
          go_ret
          exact FIN.out _ _ HB0.out (by unfold cellE; simp only; first | (simp; done) | (simp [HZ.out]; done) | (simp [HZ.out]; omega))
    · have hne : (n == 0) = false := by simpa using hn
      have hne2 : (n != 0) = true := by simpa using hn
      have HN := Kp.mk hn
      clear hn hS
      go_enter Tryz.func75, Tryz.ntmps75
      go_wp2
      all_goals
        go_ret
        exact FIN.out _ _ HB0.out (by unfold cellE; simp only; first | (simp; done) | (simp [HN.out]; done) | (simp [HN.out]; omega))
  omega
set_option maxRecDepth 100000 in
set_option maxHeartbeats 4000000 in
theorem behind_any (c : Ce) (w : World) : Calls Tryz.prog 71 #[.agg #[.int .i64 c.k, .int .i64 c.n, .string c.t]] w fun e w' => e = .returned (.int .i64 (kidsN c)) ∧ Below w.heap.size w w' := by
  obtain ⟨k, n, t⟩ := c
  have HB0 := Kp.mk ((Below.refl w.heap.size w).alloc (Nat.le_refl _) (.cells #[.int .i64 k, .int .i64 n, .string t] 63))
  by_cases h7 : k = 7
  · subst h7
    go_enter Tryz.func71, Tryz.ntmps71
    go_wp2
    go_ret
    exact ⟨rfl, HB0.out⟩
  · have h7b : (k == 7) = false := by simpa using h7
    by_cases h5 : k = 5
    · subst h5
      by_cases h0 : 0 ≤ n
      · by_cases h1 : n ≤ 255
        · have E : Kp (kidsN ⟨5, n, t⟩ = n) := ⟨by simp [kidsN, h0, h1]⟩
          go_enter Tryz.func71, Tryz.ntmps71
          go_wp2
          go_ret
          exact ⟨by rw [E.out]; rfl, HB0.out⟩
        · have E : Kp (kidsN ⟨5, n, t⟩ = 0) := ⟨by simp [kidsN, h1]⟩
          have h1' : ¬ n ≤ 255 := h1
          go_enter Tryz.func71, Tryz.ntmps71
          go_wp2
          go_ret
          exact ⟨by rw [E.out]; rfl, HB0.out⟩
      · have E : Kp (kidsN ⟨5, n, t⟩ = 0) := ⟨by simp [kidsN, h0]⟩
        go_enter Tryz.func71, Tryz.ntmps71
        go_wp2
        go_ret
        exact ⟨by rw [E.out]; rfl, HB0.out⟩
    · have h5b : (k == 5) = false := by simpa using h5
      have E : Kp (kidsN ⟨k, n, t⟩ = 0) := ⟨by unfold kidsN; simp only; rw [if_neg h7, if_neg (fun h => h5 h.1)]⟩
      go_enter Tryz.func71, Tryz.ntmps71
      go_wp2
      go_ret
      exact ⟨by rw [E.out]; rfl, HB0.out⟩
set_option maxRecDepth 100000 in
set_option maxHeartbeats 4000000 in
theorem kids_any (c : Ce) (w : World) : Calls Tryz.prog 76 #[.agg #[.int .i64 c.k, .int .i64 c.n, .string c.t]] w fun e w' => e = .returned (.int .i64 (kidsN c)) ∧ Below w.heap.size w w' := by
  obtain ⟨k, n, t⟩ := c
  have HB0 := Kp.mk ((Below.refl w.heap.size w).alloc (Nat.le_refl _) (.cells #[.int .i64 k, .int .i64 n, .string t] 63))
  by_cases h7 : k = 7
  · subst h7
    go_enter Tryz.func76, Tryz.ntmps76
    go_wp2
    go_ret
    exact ⟨rfl, HB0.out⟩
  · have h7b : (k == 7) = false := by simpa using h7
    by_cases h5 : k = 5
    · subst h5
      by_cases h0 : 0 ≤ n
      · by_cases h1 : n ≤ 255
        · have E : Kp (kidsN ⟨5, n, t⟩ = n) := ⟨by simp [kidsN, h0, h1]⟩
          go_enter Tryz.func76, Tryz.ntmps76
          go_wp2
          go_ret
          exact ⟨by rw [E.out]; rfl, HB0.out⟩
        · have E : Kp (kidsN ⟨5, n, t⟩ = 0) := ⟨by simp [kidsN, h1]⟩
          have h1' : ¬ n ≤ 255 := h1
          go_enter Tryz.func76, Tryz.ntmps76
          go_wp2
          go_ret
          exact ⟨by rw [E.out]; rfl, HB0.out⟩
      · have E : Kp (kidsN ⟨5, n, t⟩ = 0) := ⟨by simp [kidsN, h0]⟩
        go_enter Tryz.func76, Tryz.ntmps76
        go_wp2
        go_ret
        exact ⟨by rw [E.out]; rfl, HB0.out⟩
    · have h5b : (k == 5) = false := by simpa using h5
      have E : Kp (kidsN ⟨k, n, t⟩ = 0) := ⟨by unfold kidsN; simp only; rw [if_neg h7, if_neg (fun h => h5 h.1)]⟩
      go_enter Tryz.func76, Tryz.ntmps76
      go_wp2
      go_ret
      exact ⟨by rw [E.out]; rfl, HB0.out⟩
end Go.Proofs.YtameidoaenoppaaGreatDoor
