/- TimerApart walked: it answers true; its bounds stand in the statement. -/
import Derived.Test.YtobgabjoehjpcaaTf
namespace Go.Proofs.Ytobgabjoehjpcaa
open Go.RowKit

theorem Own.wh' {w w' : World} {v : Value} {l : List Ent} {p : Nat} {qv : Value} {es : List Ent} {tn : Int} (h : Own w 66 eTm v l) (hw : IsWh w p qv es tn) (hc : Chg (FW p qv) w w') : Own w' 66 eTm v l :=
  h.frame hc fun g hg hF => by
    rcases hF with rfl | hF
    · exact h.ne hw.blk (by decide) hg
    · obtain ⟨cur, hcur⟩ := hw.own.blk' hF
      exact h.ne hcur (by decide) hg
/-- What is set and cancelled is gone. -/
theorem undone {s : MS} (ok : Ok s) {ref dl : Int} (he : setE s.l ref dl = 0) {i : Nat} (hi : i < (s.set ref dl).l.length) (hr : (gt (s.set ref dl).l i).ref = ref) :
    (gt (s.set ref dl).l i).dl = dl ∧ Sim (remL (s.set ref dl).l ((s.set ref dl).l.length - 1) i) s.ts (s.set ref dl).tn := by
  have ok2 := ok.set ref dl
  have hts : (s.set ref dl).ts = s.ts ++ [⟨ref, dl, s.tn + 1⟩] := by rw [MS.set_0 he]
  have hj : s.ts.length < (s.set ref dl).ts.length := by rw [hts]; simp
  have hg : gt (s.set ref dl).ts s.ts.length = ⟨ref, dl, s.tn + 1⟩ := by
    rw [gt_get _ _ hj]
    simp only [hts]
    simp
  have h1 := ok2.sim.same hi hj (by rw [hr, hg])
  have h2 := ok2.sim.rem hi hj (by rw [hr, hg])
  rw [hts, List.take_left, List.drop_of_length_le (by simp), List.append_nil] at h2
  exact ⟨by rw [h1, hg], h2⟩
theorem Sim.hnd {l ts : List Ent} {tn : Int} (h : Sim l ts tn) : l.Pairwise (fun a b => a.tn ≠ b.tn) :=
  h.perm.symm.pairwise (h.srt.imp (fun {a b} h => by omega)) (fun h => Ne.symm h)
set_option maxRecDepth 100000 in
set_option maxHeartbeats 8000000 in
theorem apart_any (w : World) (ops : List OpM) (ref tick : Int) (A : Option Addr) (c : Nat) (hs : Src w eOp A c ops) (hn : ops.length ≤ 9000000000000) :
    Calls Try.prog 7 #[.slice A ops.length c, .int .i64 ref, .int .i64 tick] w fun e w' => e = .returned (.bool true) ∧ Below w.heap.size w w' := by
  have L1 := Kp.mk (laid_any w ops A c hs hn)
  clear hs
  go_enter Try.func7, Try.ntmps7
  go_wp2_with fail
  refine L1.out.mono ?_
  rintro e w1 ⟨p, q, qv, lv, rfl, hT1⟩
  obtain ⟨S, hS⟩ : ∃ S, S = setAll ms0 ops := ⟨_, rfl⟩
  have hTN : S.tn ≤ 9000000000000 := by
    have h1 := setAll_tn ms0 ops
    rw [← hS] at h1
    have h3 : ms0.tn = 0 := rfl
    omega
  rw [← hS] at hT1
  have OK : Kp (Ok S) := ⟨by rw [hS]; exact setAll_ok _ Ok.nil _⟩
  have TN := Kp.mk hTN
  have RA := Kp.mk (two_rall hT1 OK.out)
  have T1 := Kp.mk hT1
  clear hT1 hS L1 hTN hn
  go_wp2_with fail
  refine RA.out.mono ?_
  rintro e w2 ⟨A2, c2, R, rfl, hl2, ho2, hf2, hb2, hp2, hs2⟩
  have T2 := Kp.mk (T1.out.below hb2)
  have HF2 : Kp (∀ g, (Value.slice A2 S.ts.length c2).ownBlock = some g → w1.heap.size ≤ g) := ⟨hf2⟩
  have F1 : Kp (∀ g, FW p qv g → g < w1.heap.size) := ⟨fun g hg => T1.out.wh.fwlt g hg⟩
  have O2 := Kp.mk ho2
  have P2 := Kp.mk (And.intro hp2 (And.intro hs2 hl2.symm))
  have SE := Kp.mk (m_set w2 p qv S ref tick T2.out.wh OK.out (by have := TN.out; omega))
  clear hl2 ho2 hf2 hb2 hp2 hs2 RA T1
  go_wp2_with fail
  refine SE.out.mono ?_
  rintro e w3 ⟨rfl, qv3, h3, s3, c3⟩
  have O3 := Kp.mk (O2.out.wh' T2.out.wh c3)
  have B3 := Kp.mk (chg_below T2.out.bel c3 T2.out.fw T2.out.bel.size)
  have W3 := Kp.mk h3
  have F3 := Kp.mk (fw_same T2.out.fw s3 T2.out.bel.size)
  clear h3 s3 c3 SE O2 T2
  by_cases h0 : setE S.l ref tick = 0
  · rw [h0]
    have H0 := Kp.mk h0
    have CA := Kp.mk (cancel_any w3 p qv3 _ _ ref W3.out (by have := (OK.out.set ref tick).len; omega))
    go_wp2_with fail
    refine CA.out.mono ?_
    rintro e w4 ⟨d, rfl, hd⟩
    rcases hd with ⟨he, _⟩ | ⟨he, i, hi, hri, hdl, qv4, h4, s4, c4⟩
    · exfalso
      have hts : (S.set ref tick).ts = S.ts ++ [⟨ref, tick, S.tn + 1⟩] := by rw [MS.set_0 H0.out]
      rw [whenE_perm (OK.out.set ref tick).sim.perm] at he
      unfold whenE at he
      rw [if_pos ⟨S.ts.length, by rw [hts]; simp, by rw [gt_get _ _ (by rw [hts]; simp)]; simp only [hts]; simp⟩] at he
      exact absurd he (by decide)
    · obtain ⟨u1, u2⟩ := undone OK.out H0.out hi hri
      rw [he, hdl, u1]
      have O4 := Kp.mk (O3.out.wh' W3.out c4)
      have B4 := Kp.mk (chg_below B3.out c4 F3.out B3.out.size)
      have AL := Kp.mk (all_any w4 p qv4 _ _ A2 c2 R S.ts.length P2.out.2.2 (by rw [u2.perm.length_eq]; have := OK.out.tlen; have := OK.out.len; omega) (P2.out.1.trans u2.perm.symm) P2.out.2.1 u2.hnd h4 (O4.out.src rfl))
      clear he hi hri hdl h4 s4 c4 u1 u2 CA
      go_wp2_with fail
      refine AL.out.mono ?_
      rintro e w5 ⟨rfl, hb5⟩
      have B5 := Kp.mk (bstep B4.out B4.out.size hb5)
      clear hb5
      go_wp2_with (go_at_call 12; refine (awake_any _).mono ?_; rintro e w6 ⟨rfl, hb6⟩; have HB6 := Kp.mk hb6; clear hb6)
      go_ret
      exact ⟨rfl, bstep B5.out B5.out.size HB6.out⟩
  · have hne : (setE S.l ref tick != 0) = true := by simpa using h0
    have hne' : (setE S.l ref tick == 0) = false := by simpa using h0
    have hst : S.set ref tick = S := by unfold MS.set; rw [if_neg h0]
    have W3' := W3.out
    rw [hst] at W3'
    have AL := Kp.mk (all_any w3 p qv3 _ _ A2 c2 R S.ts.length P2.out.2.2 (by have := OK.out.len; omega) (P2.out.1.trans OK.out.sim.perm.symm) P2.out.2.1 OK.out.hnd W3' (O3.out.src rfl))
    clear W3' hst
    go_wp2_with fail
    refine AL.out.mono ?_
    rintro e w5 ⟨rfl, hb5⟩
    have B5 := Kp.mk (bstep B3.out B3.out.size hb5)
    clear hb5
    go_wp2_with (go_at_call 12; refine (awake_any _).mono ?_; rintro e w6 ⟨rfl, hb6⟩; have HB6 := Kp.mk hb6; clear hb6)
    go_ret
    exact ⟨rfl, bstep B5.out B5.out.size HB6.out⟩
end Go.Proofs.Ytobgabjoehjpcaa
