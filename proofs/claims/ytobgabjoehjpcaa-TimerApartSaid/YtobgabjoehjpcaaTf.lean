/- TimerFull walked: it answers true; no condition. -/
import Derived.Test.YtobgabjoehjpcaaTl
namespace Go.Proofs.Ytobgabjoehjpcaa
open Go.RowKit

/-- The program's wheel has been told, the document's not yet. -/
structure Half (w0 w : World) (p q : Nat) (qv lv : Value) (s s' : MS) : Prop where
  wh : IsWh w p qv s'.l s'.tn
  rf : IsRf w q lv s.ts
  fw : ∀ g, FW p qv g → w0.heap.size ≤ g
  fr : ∀ g, FW q lv g → w0.heap.size ≤ g
  bel : Below w0.heap.size w0 w
theorem two_set {w0 w : World} {p q : Nat} {qv lv : Value} {s : MS} (h : Two w0 w p q qv lv s) (ok : Ok s) (ht : s.tn ≤ 1000000000000000000) (ref dl : Int) :
    Calls Try.prog 18 #[.pointer (some ⟨p, 0, none⟩), .int .i64 ref, .int .i64 dl] w fun e w' => e = .returned (.int .i64 (setE s.l ref dl)) ∧ ∃ qv', Half w0 w' p q qv' lv s (s.set ref dl) :=
  (m_set w p qv s ref dl h.wh ok ht).mono fun e w' ⟨he, qv', h1, h2, h3⟩ => ⟨he, qv', h1, h.rf.apart h.wh h3, fw_same h.fw h2 h.bel.size, h.fr, chg_below h.bel h3 h.fw h.bel.size⟩
theorem half_rset {w0 w : World} {p q : Nat} {qv lv : Value} {s : MS} {ref dl : Int} (h : Half w0 w p q qv lv s (s.set ref dl)) (ok : Ok s) :
    Calls Try.prog 19 #[.pointer (some ⟨q, 0, none⟩), .int .i64 ref, .int .i64 dl] w fun e w' => e = .returned (.int .i64 (setE s.l ref dl)) ∧ ∃ lv', Two w0 w' p q qv lv' (s.set ref dl) :=
  (m_rset w q lv s ref dl h.rf ok).mono fun e w' ⟨he, lv', h1, h2, h3⟩ => ⟨he, lv', h.wh.apart h.rf h3, h1, h.fw, fw_same h.fr h2 h.bel.size, chg_below h.bel h3 h.fr h.bel.size⟩
theorem two_rall {w0 w : World} {p q : Nat} {qv lv : Value} {s : MS} (h : Two w0 w p q qv lv s) (ok : Ok s) : Calls Try.prog 21 #[.pointer (some ⟨q, 0, none⟩)] w (RAllPost w s.ts) :=
  rall_any w q lv s.ts h.rf (by have := ok.len; have := ok.tlen; omega) ok.sim.srt

set_option maxHeartbeats 400000 in
theorem count_any (w : World) (n : Int) : Calls Try.prog 17 #[.int .i64 n, .int .i64 260] w fun e w' => (∃ m : Nat, m < 260 ∧ e = .returned (.int .i64 m)) ∧ w = w' := by
  obtain ⟨r, hr⟩ : ∃ r, r = Int.tmod n 260 := ⟨_, rfl⟩
  have h1 : r < 260 := by rw [hr]; exact Int.tmod_lt_of_pos _ (by decide)
  have h2 : -260 < r := by
    have h3 := Int.tmod_lt_of_pos (-n) (b := 260) (by decide)
    rw [Int.neg_tmod, ← hr] at h3
    omega
  have hr' := hr.symm
  have hw : IntKind.i64.wrap r = r := by rw [IntKind.wrap_i64]; omega
  by_cases h0 : r < 0
  · have hw2 : IntKind.i64.wrap (r + 260) = r + 260 := by rw [IntKind.wrap_i64]; omega
    have HM : Kp ((r + 260).toNat < 260 ∧ (((r + 260).toNat : Nat) : Int) = r + 260) := ⟨by omega, by omega⟩
    have hd : decide (r < 0) = true := by simpa using h0
    clear hr
    go_enter Try.func17, Try.ntmps17
    go_wp2
    go_ret
    exact ⟨⟨_, HM.out.1, by rw [HM.out.2]; rfl⟩, rfl⟩
  · have HM : Kp (r.toNat < 260 ∧ ((r.toNat : Nat) : Int) = r) := ⟨by omega, by omega⟩
    have hd : decide (r < 0) = false := by simpa using h0
    clear hr
    go_enter Try.func17, Try.ntmps17
    go_wp2
    go_ret
    exact ⟨⟨_, HM.out.1, by rw [HM.out.2]; rfl⟩, rfl⟩

set_option maxRecDepth 100000 in
set_option maxHeartbeats 8000000 in
theorem full_any (w : World) (n ref tick : Int) : Calls Try.prog 5 #[.int .i64 n, .int .i64 ref, .int .i64 tick] w fun e w' => e = .returned (.bool true) ∧ Below w.heap.size w w' := by
  go_enter Try.func5, Try.ntmps5
  go_wp2_with fail
  refine (new_any w).mono ?_
  rintro e w1 ⟨p, hp, rfl, h1, hb1⟩
  have T0 : Kp (Two w (w1.alloc (.cells #[.slice none 0 0] 40)) p w1.heap.size (.slice none 0 0) (.slice none 0 0) ms0) := ⟨by
    have hb2 : Below w1.heap.size w1 (w1.alloc (.cells #[.slice none 0 0] 40)) := (Below.refl _ _).alloc (Nat.le_refl _) _
    have hz := hb1.size
    refine ⟨h1.below hb2, ⟨blk_new w1 _, Own.nil _ _ _⟩, fun g hg => ?_, fun g hg => ?_, bstep hb1 hb1.size hb2⟩
    · rcases hg with rfl | hg; exact hp; cases hg
    · rcases hg with rfl | hg; exact hz; cases hg⟩
  obtain ⟨q, hq⟩ : ∃ q, q = w1.heap.size := ⟨_, rfl⟩
  rw [← hq] at T0
  have HQ := Kp.mk hq
  clear h1 hb1 hp hq
  go_wp2_with fail
  refine (count_any _ n).mono ?_
  rintro e w2 ⟨⟨m, hm, rfl⟩, rfl⟩
  rw [← HQ.out]
  go_wp2_with fail
  go_loopw [9] (fun i wr => ∃ (k : Nat) (qv lv : Value) (s : MS), k ≤ m ∧ i = .int .i64 k ∧ Kp (Two w wr p q qv lv s) ∧ Kp (Ok s) ∧ Kp (s.tn ≤ k)) (fun i _ => m - (intOf i).toNat)
  case atStart => exact ⟨0, _, _, _, Nat.zero_le _, rfl, T0, ⟨Ok.nil⟩, ⟨Int.le_refl _⟩⟩
  case round =>
    clear T0
    obtain ⟨k, qv, lv, s, hk, rfl, hT, OK, TN⟩ := hrel
    by_cases hlt : k < m
    · have k0 : (0 : Int) ≤ (k : Int) := by omega
      have k1 : (k : Int) < (m : Int) := by omega
      have k2 : (k : Int) < 260 := by omega
      go_wp2_with fail
      refine (two_set hT.out OK.out (by have := TN.out; omega) _ _).mono ?_
      rintro e w3 ⟨rfl, qv3, hh⟩
      have HR := Kp.mk (half_rset hh OK.out)
      clear hh
      go_wp2_with fail
      refine HR.out.mono ?_
      rintro e w4 ⟨rfl, lv4, ht⟩
      have T4 := Kp.mk ht
      have OK4 := Kp.mk (OK.out.set ((k : Int) + 1) ((k : Int) % 7))
      have TN4 := Kp.mk (s.tn_le ((k : Int) + 1) ((k : Int) % 7))
      clear ht HR
      go_wp2
      go_roundw
      case rel => exact ⟨k + 1, qv3, lv4, _, by omega, by go_num, T4, OK4, ⟨by have h1 := TN.out; have h2 := TN4.out; omega⟩⟩
      case measure => simp [intOf]; omega
    · have hle : ¬ k < m := hlt
      have hleI : ¬ (k : Int) < (m : Int) := by omega
      go_wp2_with fail
      refine (two_set hT.out OK.out (by have := TN.out; omega) _ _).mono ?_
      rintro e w3 ⟨rfl, qv3, hh⟩
      have HR := Kp.mk (half_rset hh OK.out)
      clear hh
      go_wp2_with fail
      refine HR.out.mono ?_
      rintro e w4 ⟨rfl, lv4, ht⟩
      have T4 := Kp.mk ht
      have OK4 := Kp.mk (OK.out.set ref tick)
      have RA := Kp.mk (two_rall ht (OK.out.set ref tick))
      clear ht HR
      go_wp2_with fail
      refine RA.out.mono ?_
      rintro e w5 ⟨A3, c3, R, rfl, hl3, ho3, _, hb3, hp3, hs3⟩
      have HB3 := Kp.mk (bstep T4.out.bel T4.out.bel.size hb3)
      have AL := Kp.mk (two_all (T4.out.below hb3) OK4.out hp3 hs3 hl3.symm (ho3.src rfl))
      clear RA hl3 ho3 hb3 hp3 hs3
      go_wp2_with fail
      refine AL.out.mono ?_
      rintro e w6 ⟨rfl, hb4⟩
      have HB4 := Kp.mk (bstep HB3.out HB3.out.size hb4)
      clear hb4
      go_wp2_with (go_at_call 12; refine (awake_any _).mono ?_; rintro e w7 ⟨rfl, hb5⟩; have HB5 := Kp.mk hb5; clear hb5)
      go_ret
      exact ⟨rfl, bstep HB4.out HB4.out.size HB5.out⟩
end Go.Proofs.Ytobgabjoehjpcaa
