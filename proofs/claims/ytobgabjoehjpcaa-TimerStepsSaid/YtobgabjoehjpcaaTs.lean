/- TimerSteps walked: it answers true; its bounds stand in the statement. -/
import Derived.Test.YtobgabjoehjpcaaLa
namespace Go.Proofs.Ytobgabjoehjpcaa
open Go.RowKit

theorem eRef_len (l : List Ent) : (eRef l).length = l.length := by simp [eRef]
set_option maxRecDepth 100000 in
set_option maxHeartbeats 40000000 in
theorem steps_any (w : World) (ops : List OpM) (a b : Int) (A : Option Addr) (c : Nat) (hs : Src w eOp A c ops) (hn : ops.length ≤ 9000000000000) :
    Calls Try.prog 4 #[.slice A ops.length c, .int .i64 a, .int .i64 b] w fun e w' => e = .returned (.bool true) ∧ Below w.heap.size w w' := by
  have HS := Kp.mk hs
  have L1 := Kp.mk (laid_any w ops A c hs hn)
  clear hs
  go_enter Try.func4, Try.ntmps4
  go_wp2_with fail
  refine L1.out.mono ?_
  rintro e w1 ⟨p, q, qv, lv, rfl, hT1⟩
  have L2 := Kp.mk (laid_any w1 ops A c (HS.out.below hT1.bel) hn)
  have T1 := Kp.mk hT1
  clear hT1 L1
  go_wp2_with fail
  refine L2.out.mono ?_
  rintro e w2 ⟨p2, q2, qv2, lv2, rfl, hT2⟩
  obtain ⟨S, hS⟩ : ∃ S, S = setAll ms0 ops := ⟨_, rfl⟩
  rw [← hS] at T1 hT2
  have OK : Kp (Ok S) := ⟨by rw [hS]; exact setAll_ok _ Ok.nil _⟩
  have HB2 : Kp (Below w.heap.size w w2) := ⟨bstep T1.out.bel T1.out.bel.size hT2.bel⟩
  have W2 := Kp.mk (T1.out.wh.below hT2.bel)
  have V2 := Kp.mk hT2.wh
  have F1 : Kp (∀ g, FW p qv g → w.heap.size ≤ g ∧ g < w1.heap.size) := ⟨fun g hg => ⟨T1.out.fw g hg, T1.out.wh.fwlt g hg⟩⟩
  have F2 : Kp (∀ g, FW p2 qv2 g → w1.heap.size ≤ g) := ⟨hT2.fw⟩
  have HZ : Kp (w.heap.size ≤ w1.heap.size) := ⟨T1.out.bel.size⟩
  have HLN : Kp (S.l.length ≤ 100000) := ⟨by have := OK.out.len; omega⟩
  clear hT2 hS L2 T1
  by_cases hab : b < a
  · have habd : decide (b < a) = true := by simpa using hab
    have hle : Kp (b ≤ a) := ⟨by omega⟩
    by_cases hlo : b < 0
    · have hlod : decide (b < 0) = true := by simpa using hlo
      have D1 := Kp.mk (m_due_w w2 p qv S.l S.tn b W2.out HLN.out)
      rw [dueE_1 (.inl hlo)] at D1
      go_wp2_with fail
      refine D1.out.mono ?_
      rintro e w3 ⟨A1, n1, c1, qv3, l3, rfl, h3, hl3, q3, ch3⟩
      have V3 : Kp (IsWh w3 p2 qv2 S.l S.tn) := ⟨V2.out.frame ch3 (fun g hg hF => by have h1 := F2.out g hg; have h2 := (F1.out g hF).2; omega)⟩
      have HB3 : Kp (Below w.heap.size w w3) := ⟨chg_below HB2.out ch3 (fun g hg => (F1.out g hg).1) HB2.out.size⟩
      have F3 : Kp (∀ g, FW p qv3 g → w.heap.size ≤ g ∧ g < w1.heap.size) := ⟨fun g hg => F1.out g (by rcases hg with h | h; exact .inl h; exact .inr (by rw [← q3]; exact h))⟩
      have D2 := Kp.mk (m_due_w w3 p qv3 l3 S.tn a h3 (by have := HLN.out; omega))
      clear h3 hl3 q3 ch3 D1 W2 V2 HB2 F1
      go_wp2_with fail
      refine D2.out.mono ?_
      rintro e w4 ⟨A2, n2, c2, qv4, l4, rfl, h4, hl4, q4, ch4⟩
      have V4 : Kp (IsWh w4 p2 qv2 S.l S.tn) := ⟨V3.out.frame ch4 (fun g hg hF => by have h1 := F2.out g hg; have h2 := (F3.out g hF).2; omega)⟩
      have HB4 : Kp (Below w.heap.size w w4) := ⟨chg_below HB3.out ch4 (fun g hg => (F3.out g hg).1) HB3.out.size⟩
      have D3 := Kp.mk (m_due_w w4 p2 qv2 S.l S.tn a V4.out HLN.out)
      clear h4 hl4 q4 ch4 D2 V3 HB3 F3
      go_wp2_with fail
      refine D3.out.mono ?_
      rintro e w5 ⟨A3, n3, c3, qv5, l5, rfl, h5, hl5, q5, ch5⟩
      have HB5 : Kp (Below w.heap.size w w5) := ⟨chg_below HB4.out ch5 (fun g hg => by have h1 := F2.out g hg; have h2 := HZ.out; omega) HB4.out.size⟩
      clear h5 hl5 q5 ch5 D3 V4 HB4
      go_wp2_with fail
      refine (awake_any w5).mono ?_
      rintro e w6 ⟨rfl, hb6⟩
      have HB6 := Kp.mk (bstep HB5.out HB5.out.size hb6)
      clear hb6
      go_wp2
      go_ret
      exact ⟨rfl, HB6.out⟩
    · have hlod : decide (b < 0) = false := by simpa using hlo
      by_cases hhi : 1152921504606846976 < a
      · have hhid : decide (1152921504606846976 < a) = true := by simpa using hhi
        by_cases hlo2 : 1152921504606846976 < b
        · have D1 := Kp.mk (m_due_w w2 p qv S.l S.tn b W2.out HLN.out)
          rw [dueE_1 (.inr hlo2)] at D1
          go_wp2_with fail
          refine D1.out.mono ?_
          rintro e w3 ⟨A1, n1, c1, qv3, l3, rfl, h3, hl3, q3, ch3⟩
          have V3 : Kp (IsWh w3 p2 qv2 S.l S.tn) := ⟨V2.out.frame ch3 (fun g hg hF => by have h1 := F2.out g hg; have h2 := (F1.out g hF).2; omega)⟩
          have HB3 : Kp (Below w.heap.size w w3) := ⟨chg_below HB2.out ch3 (fun g hg => (F1.out g hg).1) HB2.out.size⟩
          have F3 : Kp (∀ g, FW p qv3 g → w.heap.size ≤ g ∧ g < w1.heap.size) := ⟨fun g hg => F1.out g (by rcases hg with h | h; exact .inl h; exact .inr (by rw [← q3]; exact h))⟩
          have D2 := Kp.mk (m_due_w w3 p qv3 l3 S.tn a h3 (by have := HLN.out; omega))
          rw [dueE_1 (.inr hhi)] at D2
          clear h3 hl3 q3 ch3 D1 W2 V2 HB2 F1
          go_wp2_with fail
          refine D2.out.mono ?_
          rintro e w4 ⟨A2, n2, c2, qv4, l4, rfl, h4, hl4, q4, ch4⟩
          have V4 : Kp (IsWh w4 p2 qv2 S.l S.tn) := ⟨V3.out.frame ch4 (fun g hg hF => by have h1 := F2.out g hg; have h2 := (F3.out g hF).2; omega)⟩
          have HB4 : Kp (Below w.heap.size w w4) := ⟨chg_below HB3.out ch4 (fun g hg => (F3.out g hg).1) HB3.out.size⟩
          have D3 := Kp.mk (m_due_w w4 p2 qv2 S.l S.tn a V4.out HLN.out)
          rw [dueE_1 (.inr hhi)] at D3
          clear h4 hl4 q4 ch4 D2 V3 HB3 F3
          go_wp2_with fail
          refine D3.out.mono ?_
          rintro e w5 ⟨A3, n3, c3, qv5, l5, rfl, h5, hl5, q5, ch5⟩
          have HB5 : Kp (Below w.heap.size w w5) := ⟨chg_below HB4.out ch5 (fun g hg => by have h1 := F2.out g hg; have h2 := HZ.out; omega) HB4.out.size⟩
          clear h5 hl5 q5 ch5 D3 V4 HB4
          go_wp2_with fail
          refine (awake_any w5).mono ?_
          rintro e w6 ⟨rfl, hb6⟩
          have HB6 := Kp.mk (bstep HB5.out HB5.out.size hb6)
          clear hb6
          go_wp2
          go_ret
          exact ⟨rfl, HB6.out⟩
        · have D1 := Kp.mk (m_due_w w2 p qv S.l S.tn b W2.out HLN.out)
          rw [dueE_0 (by omega) (by omega)] at D1
          go_wp2_with fail
          refine D1.out.mono ?_
          rintro e w3 ⟨A1, n1, c1, qv3, l3, rfl, h3, hl3, q3, ch3⟩
          have V3 : Kp (IsWh w3 p2 qv2 S.l S.tn) := ⟨V2.out.frame ch3 (fun g hg hF => by have h1 := F2.out g hg; have h2 := (F1.out g hF).2; omega)⟩
          have HB3 : Kp (Below w.heap.size w w3) := ⟨chg_below HB2.out ch3 (fun g hg => (F1.out g hg).1) HB2.out.size⟩
          have F3 : Kp (∀ g, FW p qv3 g → w.heap.size ≤ g ∧ g < w1.heap.size) := ⟨fun g hg => F1.out g (by rcases hg with h | h; exact .inl h; exact .inr (by rw [← q3]; exact h))⟩
          have D2 := Kp.mk (m_due_w w3 p qv3 l3 S.tn a h3 (by have := HLN.out; omega))
          rw [dueE_1 (.inr hhi)] at D2
          clear h3 hl3 q3 ch3 D1 W2 V2 HB2 F1
          go_wp2_with fail
          refine D2.out.mono ?_
          rintro e w4 ⟨A2, n2, c2, qv4, l4, rfl, h4, hl4, q4, ch4⟩
          have V4 : Kp (IsWh w4 p2 qv2 S.l S.tn) := ⟨V3.out.frame ch4 (fun g hg hF => by have h1 := F2.out g hg; have h2 := (F3.out g hF).2; omega)⟩
          have HB4 : Kp (Below w.heap.size w w4) := ⟨chg_below HB3.out ch4 (fun g hg => (F3.out g hg).1) HB3.out.size⟩
          have D3 := Kp.mk (m_due_w w4 p2 qv2 S.l S.tn a V4.out HLN.out)
          rw [dueE_1 (.inr hhi)] at D3
          clear h4 hl4 q4 ch4 D2 V3 HB3 F3
          go_wp2_with fail
          refine D3.out.mono ?_
          rintro e w5 ⟨A3, n3, c3, qv5, l5, rfl, h5, hl5, q5, ch5⟩
          have HB5 : Kp (Below w.heap.size w w5) := ⟨chg_below HB4.out ch5 (fun g hg => by have h1 := F2.out g hg; have h2 := HZ.out; omega) HB4.out.size⟩
          clear h5 hl5 q5 ch5 D3 V4 HB4
          go_wp2_with fail
          refine (awake_any w5).mono ?_
          rintro e w6 ⟨rfl, hb6⟩
          have HB6 := Kp.mk (bstep HB5.out HB5.out.size hb6)
          clear hb6
          go_wp2
          go_ret
          exact ⟨rfl, HB6.out⟩
      · have D1 := Kp.mk (m_due w2 p qv S.l S.tn b W2.out HLN.out (by omega) (by omega))
        have hlo3 : Kp (0 ≤ a ∧ a ≤ 1152921504606846976) := ⟨by have := hle.out; omega⟩
        go_wp2_with fail
        refine D1.out.mono ?_
        rintro e w3 ⟨A1, c1, qv3, rfl, o1, f1, h3, q3, ch3⟩
        have V3 : Kp (IsWh w3 p2 qv2 S.l S.tn) := ⟨V2.out.frame ch3 (fun g hg hF => by have h1 := F2.out g hg; have h2 := (F1.out g hF).2; omega)⟩
        have HB3 : Kp (Below w.heap.size w w3) := ⟨chg_below HB2.out ch3 (fun g hg => (F1.out g hg).1) HB2.out.size⟩
        have F3 : Kp (∀ g, FW p qv3 g → w.heap.size ≤ g ∧ g < w1.heap.size) := ⟨fun g hg => F1.out g (by rcases hg with h | h; exact .inl h; exact .inr (by rw [← q3]; exact h))⟩
        have O1 := Kp.mk o1
        have W3 := Kp.mk h3
        have D2 := Kp.mk (m_due w3 p qv3 _ S.tn a h3 (by have := (due_le _ S.l b rfl).1; have := HLN.out; omega) hlo3.out.1 hlo3.out.2)
        clear o1 f1 h3 q3 ch3 D1 W2 V2 HB2 F1
        go_wp2_with fail
        refine D2.out.mono ?_
        rintro e w4 ⟨A2, c2, qv4, rfl, o2, f2, h4, q4, ch4⟩
        have V4 : Kp (IsWh w4 p2 qv2 S.l S.tn) := ⟨V3.out.frame ch4 (fun g hg hF => by have h1 := F2.out g hg; have h2 := (F3.out g hF).2; omega)⟩
        have HB4 : Kp (Below w.heap.size w w4) := ⟨chg_below HB3.out ch4 (fun g hg => (F3.out g hg).1) HB3.out.size⟩
        have O1b := Kp.mk (O1.out.wh W3.out ch4)
        have O2 := Kp.mk o2
        have D3 := Kp.mk (m_due w4 p2 qv2 S.l S.tn a V4.out HLN.out hlo3.out.1 hlo3.out.2)
        have hst := due_steps _ S.l b a rfl hle.out
        obtain ⟨x1, hx1⟩ : ∃ x, x = (dueL S.l b).1 := ⟨_, rfl⟩
        obtain ⟨x2, hx2⟩ : ∃ x, x = (dueL (dueL S.l b).2 a).1 := ⟨_, rfl⟩
        obtain ⟨x3, hx3⟩ : ∃ x, x = (dueL S.l a).1 := ⟨_, rfl⟩
        have hb1 : x1.length ≤ 100000 := by rw [hx1]; have := (due_le _ S.l b rfl).2; have := HLN.out; omega
        have hb2 : x2.length ≤ 100000 := by rw [hx2]; have := (due_le _ S.l b rfl).1; have := (due_le _ (dueL S.l b).2 a rfl).2; have := HLN.out; omega
        rw [← hx1, ← hx2, ← hx3] at hst
        rw [← hx3] at D3
        rw [← hx1] at O1b
        rw [← hx2] at O2
        rw [← hx1, ← hx2]
        have HST := Kp.mk hst
        clear o2 f2 h4 q4 ch4 D2 V3 HB3 F3 O1 W3 hst hx1 hx2 hx3
        go_wp2_with fail
        refine D3.out.mono ?_
        rintro e w5 ⟨A3, c3, qv5, rfl, o3, f3, h5, q5, ch5⟩
        have HB5 : Kp (Below w.heap.size w w5) := ⟨chg_below HB4.out ch5 (fun g hg => by have h1 := F2.out g hg; have h2 := HZ.out; omega) HB4.out.size⟩
        have O15 := Kp.mk (O1b.out.wh V4.out ch5)
        have O25 := Kp.mk (O2.out.wh V4.out ch5)
        have O35 := Kp.mk o3
        have own0 : Own w5 2 eI64 (.slice none 0 0) [] := Own.nil _ _ _
        have src1 := O15.out.src rfl
        have hl1 : (eRef x1).length = x1.length := eRef_len _
        have hl2 : (eRef x2).length = x2.length := eRef_len _
        clear o3 f3 h5 q5 ch5 D3 O1b O2 V4 HB4
        go_upto_region 14 with (at_builtin; refine app_ev T32 rfl _ _ rfl own0 rfl src1 hl1.symm rfl (by rw [hl1, List.length_nil]; omega) (by rw [hl1, List.length_nil]; omega) ?_; intro A6 n6 c6 w6 b0 b1 b2 b3)
        obtain rfl : n6 = x1.length := by have h1 := b0.out; rw [hl1, List.length_nil] at h1; omega
        rw [List.nil_append] at b1
        have hb6 : Below w5.heap.size w5 w6 := b2.below_all (fun k hk => by cases hk)
        have HB6 := Kp.mk (bstep HB5.out HB5.out.size hb6)
        have O26 := Kp.mk (O25.out.below hb6)
        have O36 := Kp.mk (O35.out.below hb6)
        have src2 := O26.out.src rfl
        have HF6 : Kp (Fresh w5 (.slice A6 x1.length c6)) := ⟨(Fresh.nil _ _ _).app (Nat.le_refl _) b3⟩
        have HZ5 : Kp (w.heap.size ≤ w5.heap.size ∧ w5.heap.size ≤ w6.heap.size) := ⟨HB5.out.size, hb6.size⟩
        have HF3 : Kp (∀ g, (Value.slice A3 x3.length c3).ownBlock = some g → g < w5.heap.size) := ⟨fun g hg => O35.out.lt hg⟩
        clear own0 src1 b0 b2 b3 hb6
        go_upto_region 15 with (at_builtin; refine app_ev T32 rfl _ _ rfl b1 rfl src2 hl2.symm rfl (by rw [hl1, hl2]; omega) (by rw [hl1, hl2]; omega) ?_; intro A7 n7 c7 w7 d0 d1 d2 d3)
        have HB7 : Kp (Below w.heap.size w w7) := ⟨chg_below HB6.out d2 (fun g hg => by have h1 := HF6.out g hg; have h2 := HZ5.out.1; omega) HB6.out.size⟩
        have O37 := Kp.mk (O36.out.frame d2 (fun g hg hF => by have h1 := HF6.out g hF; have h2 := HF3.out g hg; omega))
        have e9 : eRef x1 ++ eRef x2 = eRef x3 := by rw [← HST.out]; simp [eRef]
        rw [e9] at d1
        obtain rfl : n7 = x3.length := by have h1 := d0.out; rw [← List.length_append, e9, eRef_len] at h1; exact h1
        have RE := Kp.mk (refs_eq w7 (eRef x3) A7 A3 c7 c3 (d1.src rfl) (O37.out.src rfl) (by rw [eRef_len, ← HST.out, List.length_append]; omega))
        rw [eRef_len] at RE
        clear d0 d1 d2 d3 e9 b1 src2 O26 O36 hl1 hl2
        go_wp2_with fail
        refine RE.out.mono ?_
        rintro e w8 ⟨rfl, hb8⟩
        have HB8 := Kp.mk (bstep HB7.out HB7.out.size hb8)
        clear hb8 RE
        go_wp2_with fail
        refine (awake_any w8).mono ?_
        rintro e w9 ⟨rfl, hb9⟩
        have HB9 := Kp.mk (bstep HB8.out HB8.out.size hb9)
        clear hb9
        go_wp2
        go_ret
        exact ⟨rfl, HB9.out⟩
  · have habd : decide (b < a) = false := by simpa using hab
    have hle : Kp (a ≤ b) := ⟨by omega⟩
    by_cases hlo : a < 0
    · have hlod : decide (a < 0) = true := by simpa using hlo
      have D1 := Kp.mk (m_due_w w2 p qv S.l S.tn a W2.out HLN.out)
      rw [dueE_1 (.inl hlo)] at D1
      go_wp2_with fail
      refine D1.out.mono ?_
      rintro e w3 ⟨A1, n1, c1, qv3, l3, rfl, h3, hl3, q3, ch3⟩
      have V3 : Kp (IsWh w3 p2 qv2 S.l S.tn) := ⟨V2.out.frame ch3 (fun g hg hF => by have h1 := F2.out g hg; have h2 := (F1.out g hF).2; omega)⟩
      have HB3 : Kp (Below w.heap.size w w3) := ⟨chg_below HB2.out ch3 (fun g hg => (F1.out g hg).1) HB2.out.size⟩
      have F3 : Kp (∀ g, FW p qv3 g → w.heap.size ≤ g ∧ g < w1.heap.size) := ⟨fun g hg => F1.out g (by rcases hg with h | h; exact .inl h; exact .inr (by rw [← q3]; exact h))⟩
      have D2 := Kp.mk (m_due_w w3 p qv3 l3 S.tn b h3 (by have := HLN.out; omega))
      clear h3 hl3 q3 ch3 D1 W2 V2 HB2 F1
      go_wp2_with fail
      refine D2.out.mono ?_
      rintro e w4 ⟨A2, n2, c2, qv4, l4, rfl, h4, hl4, q4, ch4⟩
      have V4 : Kp (IsWh w4 p2 qv2 S.l S.tn) := ⟨V3.out.frame ch4 (fun g hg hF => by have h1 := F2.out g hg; have h2 := (F3.out g hF).2; omega)⟩
      have HB4 : Kp (Below w.heap.size w w4) := ⟨chg_below HB3.out ch4 (fun g hg => (F3.out g hg).1) HB3.out.size⟩
      have D3 := Kp.mk (m_due_w w4 p2 qv2 S.l S.tn b V4.out HLN.out)
      clear h4 hl4 q4 ch4 D2 V3 HB3 F3
      go_wp2_with fail
      refine D3.out.mono ?_
      rintro e w5 ⟨A3, n3, c3, qv5, l5, rfl, h5, hl5, q5, ch5⟩
      have HB5 : Kp (Below w.heap.size w w5) := ⟨chg_below HB4.out ch5 (fun g hg => by have h1 := F2.out g hg; have h2 := HZ.out; omega) HB4.out.size⟩
      clear h5 hl5 q5 ch5 D3 V4 HB4
      go_wp2_with fail
      refine (awake_any w5).mono ?_
      rintro e w6 ⟨rfl, hb6⟩
      have HB6 := Kp.mk (bstep HB5.out HB5.out.size hb6)
      clear hb6
      go_wp2
      go_ret
      exact ⟨rfl, HB6.out⟩
    · have hlod : decide (a < 0) = false := by simpa using hlo
      by_cases hhi : 1152921504606846976 < b
      · have hhid : decide (1152921504606846976 < b) = true := by simpa using hhi
        by_cases hlo2 : 1152921504606846976 < a
        · have D1 := Kp.mk (m_due_w w2 p qv S.l S.tn a W2.out HLN.out)
          rw [dueE_1 (.inr hlo2)] at D1
          go_wp2_with fail
          refine D1.out.mono ?_
          rintro e w3 ⟨A1, n1, c1, qv3, l3, rfl, h3, hl3, q3, ch3⟩
          have V3 : Kp (IsWh w3 p2 qv2 S.l S.tn) := ⟨V2.out.frame ch3 (fun g hg hF => by have h1 := F2.out g hg; have h2 := (F1.out g hF).2; omega)⟩
          have HB3 : Kp (Below w.heap.size w w3) := ⟨chg_below HB2.out ch3 (fun g hg => (F1.out g hg).1) HB2.out.size⟩
          have F3 : Kp (∀ g, FW p qv3 g → w.heap.size ≤ g ∧ g < w1.heap.size) := ⟨fun g hg => F1.out g (by rcases hg with h | h; exact .inl h; exact .inr (by rw [← q3]; exact h))⟩
          have D2 := Kp.mk (m_due_w w3 p qv3 l3 S.tn b h3 (by have := HLN.out; omega))
          rw [dueE_1 (.inr hhi)] at D2
          clear h3 hl3 q3 ch3 D1 W2 V2 HB2 F1
          go_wp2_with fail
          refine D2.out.mono ?_
          rintro e w4 ⟨A2, n2, c2, qv4, l4, rfl, h4, hl4, q4, ch4⟩
          have V4 : Kp (IsWh w4 p2 qv2 S.l S.tn) := ⟨V3.out.frame ch4 (fun g hg hF => by have h1 := F2.out g hg; have h2 := (F3.out g hF).2; omega)⟩
          have HB4 : Kp (Below w.heap.size w w4) := ⟨chg_below HB3.out ch4 (fun g hg => (F3.out g hg).1) HB3.out.size⟩
          have D3 := Kp.mk (m_due_w w4 p2 qv2 S.l S.tn b V4.out HLN.out)
          rw [dueE_1 (.inr hhi)] at D3
          clear h4 hl4 q4 ch4 D2 V3 HB3 F3
          go_wp2_with fail
          refine D3.out.mono ?_
          rintro e w5 ⟨A3, n3, c3, qv5, l5, rfl, h5, hl5, q5, ch5⟩
          have HB5 : Kp (Below w.heap.size w w5) := ⟨chg_below HB4.out ch5 (fun g hg => by have h1 := F2.out g hg; have h2 := HZ.out; omega) HB4.out.size⟩
          clear h5 hl5 q5 ch5 D3 V4 HB4
          go_wp2_with fail
          refine (awake_any w5).mono ?_
          rintro e w6 ⟨rfl, hb6⟩
          have HB6 := Kp.mk (bstep HB5.out HB5.out.size hb6)
          clear hb6
          go_wp2
          go_ret
          exact ⟨rfl, HB6.out⟩
        · have D1 := Kp.mk (m_due_w w2 p qv S.l S.tn a W2.out HLN.out)
          rw [dueE_0 (by omega) (by omega)] at D1
          go_wp2_with fail
          refine D1.out.mono ?_
          rintro e w3 ⟨A1, n1, c1, qv3, l3, rfl, h3, hl3, q3, ch3⟩
          have V3 : Kp (IsWh w3 p2 qv2 S.l S.tn) := ⟨V2.out.frame ch3 (fun g hg hF => by have h1 := F2.out g hg; have h2 := (F1.out g hF).2; omega)⟩
          have HB3 : Kp (Below w.heap.size w w3) := ⟨chg_below HB2.out ch3 (fun g hg => (F1.out g hg).1) HB2.out.size⟩
          have F3 : Kp (∀ g, FW p qv3 g → w.heap.size ≤ g ∧ g < w1.heap.size) := ⟨fun g hg => F1.out g (by rcases hg with h | h; exact .inl h; exact .inr (by rw [← q3]; exact h))⟩
          have D2 := Kp.mk (m_due_w w3 p qv3 l3 S.tn b h3 (by have := HLN.out; omega))
          rw [dueE_1 (.inr hhi)] at D2
          clear h3 hl3 q3 ch3 D1 W2 V2 HB2 F1
          go_wp2_with fail
          refine D2.out.mono ?_
          rintro e w4 ⟨A2, n2, c2, qv4, l4, rfl, h4, hl4, q4, ch4⟩
          have V4 : Kp (IsWh w4 p2 qv2 S.l S.tn) := ⟨V3.out.frame ch4 (fun g hg hF => by have h1 := F2.out g hg; have h2 := (F3.out g hF).2; omega)⟩
          have HB4 : Kp (Below w.heap.size w w4) := ⟨chg_below HB3.out ch4 (fun g hg => (F3.out g hg).1) HB3.out.size⟩
          have D3 := Kp.mk (m_due_w w4 p2 qv2 S.l S.tn b V4.out HLN.out)
          rw [dueE_1 (.inr hhi)] at D3
          clear h4 hl4 q4 ch4 D2 V3 HB3 F3
          go_wp2_with fail
          refine D3.out.mono ?_
          rintro e w5 ⟨A3, n3, c3, qv5, l5, rfl, h5, hl5, q5, ch5⟩
          have HB5 : Kp (Below w.heap.size w w5) := ⟨chg_below HB4.out ch5 (fun g hg => by have h1 := F2.out g hg; have h2 := HZ.out; omega) HB4.out.size⟩
          clear h5 hl5 q5 ch5 D3 V4 HB4
          go_wp2_with fail
          refine (awake_any w5).mono ?_
          rintro e w6 ⟨rfl, hb6⟩
          have HB6 := Kp.mk (bstep HB5.out HB5.out.size hb6)
          clear hb6
          go_wp2
          go_ret
          exact ⟨rfl, HB6.out⟩
      · have D1 := Kp.mk (m_due w2 p qv S.l S.tn a W2.out HLN.out (by omega) (by omega))
        have hlo3 : Kp (0 ≤ b ∧ b ≤ 1152921504606846976) := ⟨by have := hle.out; omega⟩
        go_wp2_with fail
        refine D1.out.mono ?_
        rintro e w3 ⟨A1, c1, qv3, rfl, o1, f1, h3, q3, ch3⟩
        have V3 : Kp (IsWh w3 p2 qv2 S.l S.tn) := ⟨V2.out.frame ch3 (fun g hg hF => by have h1 := F2.out g hg; have h2 := (F1.out g hF).2; omega)⟩
        have HB3 : Kp (Below w.heap.size w w3) := ⟨chg_below HB2.out ch3 (fun g hg => (F1.out g hg).1) HB2.out.size⟩
        have F3 : Kp (∀ g, FW p qv3 g → w.heap.size ≤ g ∧ g < w1.heap.size) := ⟨fun g hg => F1.out g (by rcases hg with h | h; exact .inl h; exact .inr (by rw [← q3]; exact h))⟩
        have O1 := Kp.mk o1
        have W3 := Kp.mk h3
        have D2 := Kp.mk (m_due w3 p qv3 _ S.tn b h3 (by have := (due_le _ S.l a rfl).1; have := HLN.out; omega) hlo3.out.1 hlo3.out.2)
        clear o1 f1 h3 q3 ch3 D1 W2 V2 HB2 F1
        go_wp2_with fail
        refine D2.out.mono ?_
        rintro e w4 ⟨A2, c2, qv4, rfl, o2, f2, h4, q4, ch4⟩
        have V4 : Kp (IsWh w4 p2 qv2 S.l S.tn) := ⟨V3.out.frame ch4 (fun g hg hF => by have h1 := F2.out g hg; have h2 := (F3.out g hF).2; omega)⟩
        have HB4 : Kp (Below w.heap.size w w4) := ⟨chg_below HB3.out ch4 (fun g hg => (F3.out g hg).1) HB3.out.size⟩
        have O1b := Kp.mk (O1.out.wh W3.out ch4)
        have O2 := Kp.mk o2
        have D3 := Kp.mk (m_due w4 p2 qv2 S.l S.tn b V4.out HLN.out hlo3.out.1 hlo3.out.2)
        have hst := due_steps _ S.l a b rfl hle.out
        obtain ⟨x1, hx1⟩ : ∃ x, x = (dueL S.l a).1 := ⟨_, rfl⟩
        obtain ⟨x2, hx2⟩ : ∃ x, x = (dueL (dueL S.l a).2 b).1 := ⟨_, rfl⟩
        obtain ⟨x3, hx3⟩ : ∃ x, x = (dueL S.l b).1 := ⟨_, rfl⟩
        have hb1 : x1.length ≤ 100000 := by rw [hx1]; have := (due_le _ S.l a rfl).2; have := HLN.out; omega
        have hb2 : x2.length ≤ 100000 := by rw [hx2]; have := (due_le _ S.l a rfl).1; have := (due_le _ (dueL S.l a).2 b rfl).2; have := HLN.out; omega
        rw [← hx1, ← hx2, ← hx3] at hst
        rw [← hx3] at D3
        rw [← hx1] at O1b
        rw [← hx2] at O2
        rw [← hx1, ← hx2]
        have HST := Kp.mk hst
        clear o2 f2 h4 q4 ch4 D2 V3 HB3 F3 O1 W3 hst hx1 hx2 hx3
        go_wp2_with fail
        refine D3.out.mono ?_
        rintro e w5 ⟨A3, c3, qv5, rfl, o3, f3, h5, q5, ch5⟩
        have HB5 : Kp (Below w.heap.size w w5) := ⟨chg_below HB4.out ch5 (fun g hg => by have h1 := F2.out g hg; have h2 := HZ.out; omega) HB4.out.size⟩
        have O15 := Kp.mk (O1b.out.wh V4.out ch5)
        have O25 := Kp.mk (O2.out.wh V4.out ch5)
        have O35 := Kp.mk o3
        have own0 : Own w5 2 eI64 (.slice none 0 0) [] := Own.nil _ _ _
        have src1 := O15.out.src rfl
        have hl1 : (eRef x1).length = x1.length := eRef_len _
        have hl2 : (eRef x2).length = x2.length := eRef_len _
        clear o3 f3 h5 q5 ch5 D3 O1b O2 V4 HB4
        go_upto_region 14 with (at_builtin; refine app_ev T32 rfl _ _ rfl own0 rfl src1 hl1.symm rfl (by rw [hl1, List.length_nil]; omega) (by rw [hl1, List.length_nil]; omega) ?_; intro A6 n6 c6 w6 b0 b1 b2 b3)
        obtain rfl : n6 = x1.length := by have h1 := b0.out; rw [hl1, List.length_nil] at h1; omega
        rw [List.nil_append] at b1
        have hb6 : Below w5.heap.size w5 w6 := b2.below_all (fun k hk => by cases hk)
        have HB6 := Kp.mk (bstep HB5.out HB5.out.size hb6)
        have O26 := Kp.mk (O25.out.below hb6)
        have O36 := Kp.mk (O35.out.below hb6)
        have src2 := O26.out.src rfl
        have HF6 : Kp (Fresh w5 (.slice A6 x1.length c6)) := ⟨(Fresh.nil _ _ _).app (Nat.le_refl _) b3⟩
        have HZ5 : Kp (w.heap.size ≤ w5.heap.size ∧ w5.heap.size ≤ w6.heap.size) := ⟨HB5.out.size, hb6.size⟩
        have HF3 : Kp (∀ g, (Value.slice A3 x3.length c3).ownBlock = some g → g < w5.heap.size) := ⟨fun g hg => O35.out.lt hg⟩
        clear own0 src1 b0 b2 b3 hb6
        go_upto_region 15 with (at_builtin; refine app_ev T32 rfl _ _ rfl b1 rfl src2 hl2.symm rfl (by rw [hl1, hl2]; omega) (by rw [hl1, hl2]; omega) ?_; intro A7 n7 c7 w7 d0 d1 d2 d3)
        have HB7 : Kp (Below w.heap.size w w7) := ⟨chg_below HB6.out d2 (fun g hg => by have h1 := HF6.out g hg; have h2 := HZ5.out.1; omega) HB6.out.size⟩
        have O37 := Kp.mk (O36.out.frame d2 (fun g hg hF => by have h1 := HF6.out g hF; have h2 := HF3.out g hg; omega))
        have e9 : eRef x1 ++ eRef x2 = eRef x3 := by rw [← HST.out]; simp [eRef]
        rw [e9] at d1
        obtain rfl : n7 = x3.length := by have h1 := d0.out; rw [← List.length_append, e9, eRef_len] at h1; exact h1
        have RE := Kp.mk (refs_eq w7 (eRef x3) A7 A3 c7 c3 (d1.src rfl) (O37.out.src rfl) (by rw [eRef_len, ← HST.out, List.length_append]; omega))
        rw [eRef_len] at RE
        clear d0 d1 d2 d3 e9 b1 src2 O26 O36 hl1 hl2
        go_wp2_with fail
        refine RE.out.mono ?_
        rintro e w8 ⟨rfl, hb8⟩
        have HB8 := Kp.mk (bstep HB7.out HB7.out.size hb8)
        clear hb8 RE
        go_wp2_with fail
        refine (awake_any w8).mono ?_
        rintro e w9 ⟨rfl, hb9⟩
        have HB9 := Kp.mk (bstep HB8.out HB8.out.size hb9)
        clear hb9
        go_wp2
        go_ret
        exact ⟨rfl, HB9.out⟩
end Go.Proofs.Ytobgabjoehjpcaa
