/- SuperGives walked: it answers true, and writes nothing that was there; for integers of their kinds. -/
import Derived.Test.YtiedfckgkjcheaaG
import Derived.OpenShut
import Derived.Test.YtiedfckgkjcheaaP
namespace Go.Proofs.Ytiedfckgkjcheaa
open Go.RowKit

theorem exit_b (w0 w : World) (p : Nat) (lv ev : Value) (s : SupM) (st k : Nat) (n per tick : Int) (normal : Bool) (hst : st = 1 ∨ st = 2 ∨ st = 3) (HL : Lives w0 w p lv ev s) (HG : GS st n per tick k s) (hk : (k : Int) ≤ n) (hn : n ≤ 1000000) (h0 : 0 ≤ tick) (h1 : tick ≤ 1125899906842624) (h2 : 1 ≤ per) :
    Calls Try.prog 11 #[.pointer (some ⟨p, 0, none⟩), .string ⟨#[98]⟩, .bool normal, .int .i64 tick] w fun e w' => ∃ v s' ev', e = .returned (.tuple #[v, .int .i64 0]) ∧ Lives w0 w' p lv ev' s' ∧ GS st n per tick (k + 1) s' ∧ Chg (FP p lv ev) w w' := by
  have hl := HG.l hk
  refine (exit_any w p lv ev s HL.sup ⟨#[98]⟩ normal tick (by rw [hl]; decide) (by rw [HG.ends, List.length_replicate]; omega) (by rw [HG.ends]; intro t ht; rw [(List.mem_replicate.1 ht).2]; exact h0) st HG.st hst).mono ?_
  rintro e w' ⟨r, hr, ⟨hne, _⟩ | ⟨_, j, c, v, ev', hj, hc, rfl, _, _, hs, hsm, hch⟩⟩
  · rw [hr.eq, hl, first_b] at hne
    exact absurd (err3 s 1 tick HG.sd (by rw [HG.ov]; simp; omega) (by decide) h0 (by omega) HG.la) hne
  · rw [hr.eq, hl, first_b] at hj
    obtain rfl : j = 1 := by omega
    rw [hl] at hc
    exact ⟨v, _, ev', rfl, HL.step hch hs hsm, HG.exit (by omega) hk c hc normal h0 h2, hch⟩
theorem exit_a (w0 w : World) (p : Nat) (lv ev : Value) (s : SupM) (st k : Nat) (per tick : Int) (hst : st = 1 ∨ st = 2 ∨ st = 3) (HL : Lives w0 w p lv ev s) (HG : GT st per tick k s) (hk : k ≤ 10) (h0 : 0 ≤ tick) (h1 : tick ≤ 1125899906842624) (h2 : 1 ≤ per) (h3 : per ≤ 1125899906842624) :
    Calls Try.prog 11 #[.pointer (some ⟨p, 0, none⟩), .string ⟨#[97]⟩, .bool false, .int .i64 (tick + (k : Int) * per)] w fun e w' => ∃ v s' ev', e = .returned (.tuple #[v, .int .i64 0]) ∧ Lives w0 w' p lv ev' s' ∧ GT st per tick (k + 1) s' := by
  have hl := HG.l
  have hp1 : 0 ≤ (k : Int) * per := Int.mul_nonneg (by omega) (by omega)
  have hp2 : (k : Int) * per ≤ 10 * per := Int.mul_le_mul_of_nonneg_right (by omega) (by omega)
  refine (exit_any w p lv ev s HL.sup ⟨#[97]⟩ false _ (by rw [hl]; decide) (by rw [HG.ends]; simp [apartL]; omega) (by rw [HG.ends]; exact apart_pos _ _ _ h0 h2) st HG.st hst).mono ?_
  rintro e w' ⟨r, hr, ⟨hne, _⟩ | ⟨_, j, c, v, ev', hj, hc, rfl, _, _, hs, hsm, hch⟩⟩
  · rw [hr.eq, hl, first_a] at hne
    exact absurd (err3 s 0 _ HG.sd HG.ov (by decide) (by omega) (by omega) HG.la) hne
  · rw [hr.eq, hl, first_a] at hj
    obtain rfl : j = 0 := by omega
    rw [hl] at hc
    exact ⟨v, _, ev', rfl, HL.step hch hs hsm, HG.exit (by omega) c hc h0 h2⟩

set_option maxHeartbeats 2000000 in
theorem gives_any (w : World) (a0 a1 a2 a3 : Int) (w1 : (Lit.int .i64 a1).wf = true) :
    Calls Try.prog 3 #[.int .i64 a0, .int .i64 a1, .int .i64 a2, .int .i64 a3] w fun e w' => e = .returned (.bool true) ∧ Below w.heap.size w w' := by
  have b1 := bounds_i64 w1
  clear w1
  go_enter Try.func3, Try.ntmps3
  go_upto_region 1 with fail
  go_cut [24] from 19 to 24 (fun v wc => v = .bool (decide (a0 < 1) || decide (3 < a0)) ∧ wc = w)
  case first =>
    by_cases h1 : a0 < 1
    · go_wp2
      go_meet
      case rel => exact ⟨by simp [h1], rfl⟩
    · have d1 : decide (a0 < 1) = false := by simp; omega
      go_wp2
      go_meet
      case rel => exact ⟨by simp [d1], rfl⟩
  obtain ⟨rfl, rfl⟩ := hcut
  go_upto_if 24 with fail
  go_cut [0] from 24 to 24 (fun v w' => ∃ st : Nat, v = .int .i64 st ∧ (st = 1 ∨ st = 2 ∨ st = 3) ∧ w' = wc)
  case first =>
    by_cases h1 : a0 < 1 ∨ 3 < a0
    · have d1 : (decide (a0 < 1) || decide (3 < a0)) = true := by simpa using h1
      rw [d1]
      go_wp2
      go_meet
      case rel => exact ⟨1, rfl, .inl rfl, rfl⟩
    · have d1 : (decide (a0 < 1) || decide (3 < a0)) = false := by simp; omega
      have d2 : Kp (a0 = (a0.toNat : Int)) := ⟨by omega⟩
      rw [d1]
      go_wp2
      go_meet
      case rel => exact ⟨a0.toNat, by rw [← d2.out], by omega, rfl⟩
  obtain ⟨st, rfl, hst, rfl⟩ := hcut
  go_upto_region 3 with fail
  go_cut [1] from 25 to 26 (fun v w' => ∃ n : Int, v = .int .i64 n ∧ -19 ≤ n ∧ n ≤ 19 ∧ w' = wc)
  case first =>
    have t1 : Int.tmod a1 20 ≤ 19 := by have := Int.tmod_lt_of_pos a1 (b := 20) (by decide); omega
    have t2 : -19 ≤ Int.tmod a1 20 := by have := Int.lt_tmod_of_pos a1 (b := 20) (by decide); omega
    go_wp2
    go_meet
    case rel => exact ⟨_, rfl, t2, t1, rfl⟩
  obtain ⟨m, rfl, hm1, hm2, rfl⟩ := hcut
  clear b1
  go_upto_region 4 with fail
  go_upto_if 28 with fail
  go_cut [1] from 28 to 30 (fun v w' => ∃ n : Nat, v = .int .i64 n ∧ n ≤ 19 ∧ w' = wc)
  case first =>
    by_cases h1 : m < 0
    · have d1 : decide (m < 0) = true := by simpa using h1
      have d2 : Kp (-m = ((-m).toNat : Int)) := ⟨by omega⟩
      go_wp2
      go_meet
      case rel => exact ⟨(-m).toNat, by rw [← d2.out], by omega, rfl⟩
    · have d1 : decide (m < 0) = false := by simpa using h1
      have d2 : Kp (m = (m.toNat : Int)) := ⟨by omega⟩
      go_wp2
      go_meet
      case rel => exact ⟨m.toNat, by rw [← d2.out], by omega, rfl⟩
  clear hm1 hm2
  obtain ⟨n, rfl, hn, rfl⟩ := hcut
  go_upto_region 6 with fail
  go_cut [36] from 31 to 36 (fun v w' => v = .bool (decide (a2 < 1) || decide (1125899906842624 < a2)) ∧ w' = wc)
  case first =>
    by_cases h1 : a2 < 1
    · go_wp2
      go_meet
      case rel => exact ⟨by simp [h1], rfl⟩
    · have d1 : decide (a2 < 1) = false := by simp; omega
      go_wp2
      go_meet
      case rel => exact ⟨by simp [d1], rfl⟩
  obtain ⟨rfl, rfl⟩ := hcut
  go_upto_if 36 with fail
  go_cut [2] from 36 to 36 (fun v w' => ∃ per : Int, v = .int .i64 per ∧ 1 ≤ per ∧ per ≤ 1125899906842624 ∧ w' = wc)
  case first =>
    by_cases h1 : a2 < 1 ∨ 1125899906842624 < a2
    · have d1 : (decide (a2 < 1) || decide (1125899906842624 < a2)) = true := by simpa using h1
      rw [d1]
      go_wp2
      go_meet
      case rel => exact ⟨7, rfl, by decide, by decide, rfl⟩
    · have d1 : (decide (a2 < 1) || decide (1125899906842624 < a2)) = false := by simp; omega
      rw [d1]
      go_wp2
      go_meet
      case rel => exact ⟨a2, rfl, by omega, by omega, rfl⟩
  obtain ⟨per, rfl, hper1, hper2, rfl⟩ := hcut
  go_upto_region 8 with fail
  go_cut [42] from 37 to 42 (fun v w' => v = .bool (decide (a3 < 0) || decide (1125899906842624 < a3)) ∧ w' = wc)
  case first =>
    by_cases h1 : a3 < 0
    · go_wp2
      go_meet
      case rel => exact ⟨by simp [h1], rfl⟩
    · have d1 : decide (a3 < 0) = false := by simp; omega
      go_wp2
      go_meet
      case rel => exact ⟨by simp [d1], rfl⟩
  obtain ⟨rfl, rfl⟩ := hcut
  go_upto_if 42 with fail
  go_cut [3] from 42 to 42 (fun v w' => ∃ tick : Int, v = .int .i64 tick ∧ 0 ≤ tick ∧ tick ≤ 1125899906842624 ∧ w' = wc)
  case first =>
    by_cases h1 : a3 < 0 ∨ 1125899906842624 < a3
    · have d1 : (decide (a3 < 0) || decide (1125899906842624 < a3)) = true := by simpa using h1
      rw [d1]
      go_wp2
      go_meet
      case rel => exact ⟨3, rfl, by decide, by decide, rfl⟩
    · have d1 : (decide (a3 < 0) || decide (1125899906842624 < a3)) = false := by simp; omega
      rw [d1]
      go_wp2
      go_meet
      case rel => exact ⟨a3, rfl, by omega, by omega, rfl⟩
  obtain ⟨tick, rfl, htick1, htick2, rfl⟩ := hcut

  have BS := Kp.mk (show badB st n per = false by unfold badB; simp; omega)
  have BT := Kp.mk (show badB st 1 per = false by unfold badB; simp; omega)
  have HST := Kp.mk hst
  clear hst
  go_wp2_with fail
  refine (three_any _).mono ?_
  rintro e w1 ⟨rfl, rfl⟩
  go_wp2_with fail
  refine (new_any _ st n per threeL _ 3 (src_lit wc eCS 49 _ threeL rfl rfl 3) (by decide)).mono ?_
  rintro e w2 ⟨hb2, ⟨hne, _⟩ | ⟨_, p, lv, hp, hfr, rfl, hs2⟩⟩
  · exact absurd (new3 _ _ _ BS.out) hne
  have hb : Below wc.heap.size wc w2 := bstep ((Below.refl _ _).alloc (Nat.le_refl _) _) (by simp) hb2
  have HL := Kp.mk (⟨hs2, by simp at hp; omega, hfr.up (by simp), Fresh.nil _ _ _, hb⟩ : Lives wc w2 p lv (.slice none 0 0) (newM st n per threeL))
  clear hb hp hfr hb2 hs2
  go_wp2_with fail
  refine (three_any _).mono ?_
  rintro e w1 ⟨rfl, rfl⟩
  go_wp2_with fail
  refine (new_any _ st 1 per threeL _ 3 (src_lit w2 eCS 49 _ threeL rfl rfl 3) (by decide)).mono ?_
  rintro e w3 ⟨hb2, ⟨hne, _⟩ | ⟨_, q, lw, hp, hfr, rfl, hs3⟩⟩
  · exact absurd (new3 _ _ _ BT.out) hne
  have hb : Below w2.heap.size w2 w3 := bstep ((Below.refl _ _).alloc (Nat.le_refl _) _) (by simp) hb2
  have HLs := Kp.mk (HL.out.keep hb)
  have HLt := Kp.mk (⟨hs3, by simp at hp; have := HL.out.below.size; omega, hfr.up (by have := HL.out.below.size; simp; omega), Fresh.nil _ _ _, bstep HL.out.below HL.out.below.size hb⟩ : Lives wc w3 q lw (.slice none 0 0) (newM st 1 per threeL))
  have hpq := Kp.mk (show p ≠ q by have := lt_of_block HL.out.sup.blk; simp at hp; omega)
  have hll := Kp.mk (show ∀ g, lw.ownBlock = some g → lv.ownBlock ≠ some g from fun g h1 h2 => by
    have h3 := hfr g h1
    have h4 := HL.out.sup.l.lt h2
    simp at h3
    omega)
  clear hb hp hfr hb2 hs3 HL
  go_wp2_with fail
  refine (start_yes _ p lv _ _ HLs.out.sup (by simp [newM]; decide) rfl rfl).mono ?_
  rintro e w4 ⟨v4, rfl, _, _, hs4, hc4⟩
  have HLs4 := Kp.mk (HLs.out.step (fl_fp _ hc4) hs4 (.inl rfl))
  have HLt4 : Kp (Lives wc w4 q lw (.slice none 0 0) (newM st 1 per threeL)) := ⟨apart_sup HLs.out.sup HLt.out.sup hpq.out hll.out (fl_fp _ hc4), HLt.out.hp, HLt.out.hl, HLt.out.he, HLs4.out.below⟩
  clear hs4 hc4 HLs HLt
  go_wp2_with fail
  refine (start_yes _ q lw _ _ HLt4.out.sup (by simp [newM]; decide) rfl rfl).mono ?_
  rintro e w5 ⟨v5, rfl, _, _, hs5, hc5⟩
  have HLt5 := Kp.mk (HLt4.out.step (fl_fp _ hc5) hs5 (.inl rfl))
  have HLs5 : Kp (Lives wc w5 p lv (.slice none 0 0) { newM st n per threeL with sd := true, l := (newM st n per threeL).l.map (setR true) }) := ⟨apart_sup HLt4.out.sup HLs4.out.sup (fun e => hpq.out e.symm) (fun g h1 h2 => hll.out g h2 h1) (fl_fp _ hc5), HLs4.out.hp, HLs4.out.hl, HLs4.out.he, HLt5.out.below⟩
  clear hs5 hc5 HLs4 HLt4
  have GS0 : GS st n per tick 0 { newM st n per threeL with sd := true, l := (newM st n per threeL).l.map (setR true) } := ⟨rfl, rfl, rfl, rfl, htick1, rfl, by show false = _; simp, fun _ => rfl⟩
  have GT0 : GT st per tick 0 { newM st 1 per threeL with sd := true, l := (newM st 1 per threeL).l.map (setR true) } := ⟨rfl, rfl, rfl, rfl, rfl, by show (0 : Int) ≤ _; simp; omega, rfl, rfl⟩
  obtain ⟨sM, hsM⟩ : ∃ x, x = { newM st n per threeL with sd := true, l := (newM st n per threeL).l.map (setR true) } := ⟨_, rfl⟩
  obtain ⟨tM, htM⟩ : ∃ x, x = { newM st 1 per threeL with sd := true, l := (newM st 1 per threeL).l.map (setR true) } := ⟨_, rfl⟩
  rw [← hsM] at GS0 HLs5
  rw [← htM] at GT0 HLt5
  have HG0 := Kp.mk GS0
  have HT0 := Kp.mk GT0
  clear hsM htM GS0 GT0
  go_wp2_with fail
  go_loopw [13, 14, 15] (fun i _ _ wr => ∃ (k : Nat) (s : SupM) (ev : Value), k ≤ n + 1 ∧ i = .int .i64 k ∧ Kp (Lives wc wr p lv ev s) ∧ Kp (Lives wc wr q lw (.slice none 0 0) tM) ∧ Kp (GS st n per tick k s)) (fun i _ _ _ => n + 1 - (intOf i).toNat)
  case atStart => exact ⟨0, _, _, Nat.zero_le _, rfl, HLs5, HLt5, HG0⟩
  case round =>
    clear HLs5 HLt5 HG0
    obtain ⟨k, s, ev, hk, rfl, HL, HT, HG⟩ := hrel
    by_cases hlt : k ≤ n
    · have hki : (k : Int) ≤ (n : Int) := by omega
      go_wp2_with fail
      refine (exit_b wc wr p lv ev s st k n per tick _ HST.out HL.out HG.out hki (by omega) htick1 htick2 hper1).mono ?_
      rintro e w6 ⟨v6, s6, ev6, rfl, hL6, hG6, hc6⟩
      have HL6 := Kp.mk hL6
      have HG6 := Kp.mk hG6
      have HT6 : Kp (Lives wc w6 q lw (.slice none 0 0) tM) := ⟨apart_sup HL.out.sup HT.out.sup hpq.out hll.out hc6, HT.out.hp, HT.out.hl, HT.out.he, hL6.below⟩
      clear hL6 hG6 hc6 HL HT HG
      have hcn : ((countL s6.ends tick s6.pe : Nat) : Int) = (k : Int) + 1 := by rw [HG6.out.ends, HG6.out.pe, count_rep _ _ _ htick1 hper1]; rfl
      have HCN := Kp.mk hcn
      clear hcn
      by_cases hkn : k = n
      · subst hkn
        have hov : Kp (s6.ov = true) := ⟨by rw [HG6.out.ov]; simp; omega⟩
        go_wp2_with fail
        refine (over_any _ p lv ev6 s6 HL6.out.sup).mono ?_
        rintro e w7 ⟨rfl, rfl⟩
        rw [hov.out]
        go_wp2_with fail
        refine (count_any _ p lv ev6 s6 tick HL6.out.sup (by omega) (by rw [HG6.out.ends]; intro t ht; rw [(List.mem_replicate.1 ht).2]; exact htick1) (by rw [HG6.out.ends, List.length_replicate]; omega)).mono ?_
        rintro e w7 ⟨rfl, rfl⟩
        rw [HCN.out]
        go_wp2
        go_roundw
        case rel => exact ⟨k + 1, s6, ev6, by omega, by go_num, HL6, HT6, HG6⟩
        case measure => simp [intOf] <;> omega
      · have hov : Kp (s6.ov = false) := ⟨by rw [HG6.out.ov]; simp; omega⟩
        have hkn' : ((k : Int) == (n : Int)) = false := by simp; omega
        go_wp2_with fail
        refine (over_any _ p lv ev6 s6 HL6.out.sup).mono ?_
        rintro e w7 ⟨rfl, rfl⟩
        rw [hov.out]
        go_wp2_with fail
        refine (count_any _ p lv ev6 s6 tick HL6.out.sup (by omega) (by rw [HG6.out.ends]; intro t ht; rw [(List.mem_replicate.1 ht).2]; exact htick1) (by rw [HG6.out.ends, List.length_replicate]; omega)).mono ?_
        rintro e w7 ⟨rfl, rfl⟩
        rw [HCN.out]
        go_wp2
        go_roundw
        case rel => exact ⟨k + 1, s6, ev6, by omega, by go_num, HL6, HT6, HG6⟩
        case measure => simp [intOf]; omega
    · clear HL HG hk
      go_wp2_with fail
      go_loopw [16, 17, 18] (fun i _ _ wr => ∃ (k : Nat) (s : SupM) (ev : Value), k ≤ 10 ∧ i = .int .i64 k ∧ Kp (Lives wc wr q lw ev s) ∧ Kp (GT st per tick k s)) (fun i _ _ _ => 10 - (intOf i).toNat)
      case atStart => exact ⟨0, _, _, Nat.zero_le _, rfl, HT, HT0⟩
      case round =>
        clear HT HT0
        obtain ⟨k, s, ev, hk, rfl, HL, HG⟩ := hrel
        by_cases hlt : k < 10
        · have hp1 : 0 ≤ (k : Int) * per := Int.mul_nonneg (by omega) (by omega)
          have hp2 : (k : Int) * per ≤ 10 * per := Int.mul_le_mul_of_nonneg_right (by omega) (by omega)
          go_wp2_with fail
          refine (exit_a wc wr q lw ev s st k per tick HST.out HL.out HG.out hk htick1 htick2 hper1 hper2).mono ?_
          rintro e w6 ⟨v6, s6, ev6, rfl, hL6, hG6⟩
          have HL6 := Kp.mk hL6
          have HG6 := Kp.mk hG6
          clear hL6 hG6 HL HG
          have hcn : ((countL s6.ends (tick + (k : Int) * per) s6.pe : Nat) : Int) = 1 := by rw [HG6.out.ends, HG6.out.pe, count_apart _ _ _ htick1 hper1]; rfl
          have HCN := Kp.mk hcn
          clear hcn
          go_wp2_with fail
          refine (over_any _ q lw ev6 s6 HL6.out.sup).mono ?_
          rintro e w7 ⟨rfl, rfl⟩
          rw [HG6.out.ov]
          go_wp2_with fail
          refine (count_any _ q lw ev6 s6 _ HL6.out.sup (by omega) (by rw [HG6.out.ends]; exact apart_pos _ _ _ htick1 hper1) (by rw [HG6.out.ends]; simp [apartL]; omega)).mono ?_
          rintro e w7 ⟨rfl, rfl⟩
          rw [HCN.out]
          go_wp2
          go_roundw
          case rel => exact ⟨k + 1, s6, ev6, by omega, by go_num, HL6, HG6⟩
          case measure => simp [intOf]; omega
        · clear HG hk
          go_wp2_with fail
          refine (known_any _).mono ?_
          rintro e w7 ⟨rfl, hb7⟩
          go_wp2
          go_ret
          exact ⟨rfl, bstep HL.out.below HL.out.below.size hb7⟩

end Go.Proofs.Ytiedfckgkjcheaa
