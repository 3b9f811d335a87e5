/- SuperRuns walked: it answers true, and writes nothing that was there; its bounds stand in the statement. -/
import Derived.Test.YtiedfckgkjcheaaC
namespace Go.Proofs.Ytiedfckgkjcheaa
open Go.RowKit

set_option maxRecDepth 100000 in
set_option maxHeartbeats 4000000 in
theorem runs_any (w : World) (st0 it pe : Int) (cs : List CS) (ops : List OpM) (A3 A4 : Option Addr) (c3 c4 : Nat) (h3 : Src w eCS A3 c3 cs) (h4 : Src w eOp A4 c4 ops) (hn : cs.length * 24 ≤ 140737488355328) (hm : ops.length ≤ 9000000000000) :
    Calls Try.prog 6 #[.int .i64 st0, .int .i64 it, .int .i64 pe, .slice A3 cs.length c3, .slice A4 ops.length c4] w fun e w' => e = .returned (.bool true) ∧ Below w.heap.size w w' := by
  go_enter Try.func6, Try.ntmps6
  go_wp2_with fail
  refine (new_any _ st0 it pe cs A3 c3 h3 hn).mono ?_
  rintro e w2 ⟨hb2, ⟨hne, rfl⟩ | ⟨hok, p, lv, hp, hfr, rfl, hs2⟩⟩
  · have hne' : (newErr st0 it pe cs != 0) = true := by simpa using hne
    go_wp2_with fail
    refine (known_any _).mono ?_
    rintro e w3 ⟨rfl, hb3⟩
    go_wp2
    go_ret
    exact ⟨rfl, bstep hb2 hb2.size hb3⟩
  have HL := Kp.mk (⟨hs2, hp, hfr, Fresh.nil _ _ _, hb2⟩ : Lives w w2 p lv (.slice none 0 0) (newM st0 it pe cs))
  have HOK := Kp.mk (new_ok hok)
  have HU := Kp.mk HOK.out.2.2.1
  have HC := Kp.mk HOK.out.2.1
  have hnone : ∀ x, x ∉ runningL (newM st0 it pe cs).l := fun x hx => by
    have e : (newM st0 it pe cs).l = (cs.map mkCh).map (setR false) := by simp [newM, mkCh, setR, Function.comp_def]
    rw [e] at hx
    exact none_run _ x hx
  have HI : Kp (InvR st0.toNat it pe cs 0 (newM st0 it pe cs) []) :=
    ⟨⟨by show st0 = _; have := HOK.out.1; omega, rfl, rfl, by simp [newM, mkCh, kid, Function.comp_def], Nat.le_refl _, fun t ht => by cases ht⟩, fun _ => hnone, fun _ => hnone, List.nodup_nil, fun x => ⟨fun h => by simp at h, fun h => absurd h (hnone x)⟩⟩
  clear hb2 hp hfr hs2 hok hnone
  have H4 := Kp.mk h4
  clear h3 h4
  go_wp2_with fail
  go_loopw [13, 14, 15, 16, 17, 18, 19, 20] (fun r i _ _ _ _ _ _ wr => ∃ (k : Nat) (s : SupM) (ev : Value) (runs : List ByteArray), k ≤ ops.length ∧ i = .int .i64 k ∧ Kp (Lives w wr p lv ev s) ∧ Kp (InvR st0.toNat it pe cs k s runs) ∧ Kp (Own wr 9 eStr r runs) ∧ Kp (Fresh w r)) (fun _ i _ _ _ _ _ _ _ => ops.length - (intOf i).toNat)
  case atStart => exact ⟨0, _, _, [], Nat.zero_le _, rfl, HL, HI, ⟨Own.nil _ _ _⟩, ⟨Fresh.nil _ _ _⟩⟩
  case round =>
    clear HL HI
    obtain ⟨k, s, ev, runs, hk, rfl, HL, HI, HR, HF⟩ := hrel
    by_cases hlt : k < ops.length
    · go_wp2_with fail
      refine (over_any _ p lv ev s HL.out.sup).mono ?_
      rintro e w4 ⟨rfl, rfl⟩
      cases A4 with
      | none => have := (H4.out.none rfl).1; subst this; simp at hlt
      | some ad =>
      obtain ⟨g, o, rfl⟩ := H4.out.addr (by omega)
      have hb := HL.out.below
      have R0 : wr.cell? ⟨g, o + k * 4, none⟩ = some (.int .i64 ops[k].kind) := (H4.out.below hb).elem k 0 hlt (by decide)
      have R1 : wr.cell? ⟨g, o + k * 4 + 1, none⟩ = some (.string ops[k].name) := (H4.out.below hb).elem k 1 hlt (by decide)
      have R2 : wr.cell? ⟨g, o + k * 4 + 2, none⟩ = some (.bool ops[k].normal) := (H4.out.below hb).elem k 2 hlt (by decide)
      have R3 : wr.cell? ⟨g, o + k * 4 + 3, none⟩ = some (.int .i64 ops[k].tick) := (H4.out.below hb).elem k 3 hlt (by decide)
      obtain ⟨x, hx⟩ : ∃ x, x = ops[k] := ⟨_, rfl⟩
      rw [← hx] at R0 R1 R2 R3
      have HX := Kp.mk hx
      clear hx hb
      obtain ⟨AR, cR, hrv, _⟩ := HR.out.shape
      subst hrv
      have hrl : runs.length ≤ 32 := HI.out.few HU.out HC.out
      have hsl : s.l.length ≤ 1000 := by have := HI.out.inv.len; have := HC.out; omega
      have HSL := Kp.mk hsl
      clear hsl
      go_upto_block 2 with fail
      go_cut [13, 15, 16] from 49 to 99 (fun r a f wc => ∃ (gn : Int) (s' : SupM) (ev' : Value) (runs0 : List ByteArray) (acts : List AM), f = .int .i64 gn ∧ Kp (Own wc 9 eStr r runs0) ∧ Kp (Fresh w r) ∧ Kp (Own wc 43 eAM a acts) ∧ Kp (Lives w wc p lv ev' s') ∧ Kp (StepR st0.toNat it pe cs (k + 1) s s' runs0 acts gn))
      case first =>
        cases e0 : (x.kind == 0)
        · cases e1 : (x.kind == 1)
          · have HE := Kp.mk (exit_any wr.drew p lv ev s (HL.out.keep (Below.refl _ _).drew).sup x.name x.normal x.tick HSL.out (by have := HI.out.inv.ends; omega) HI.out.inv.pos st0.toNat HI.out.inv.st (by have := HOK.out.1; omega))
            go_upto_region 12 with fail
            go_cut [15, 16] from 49 to 68 (fun a g wc => ∃ gn, g = .int .i64 gn ∧ ExitPost wr.drew p lv ev s x.name x.normal x.tick (.returned (.tuple #[a, .int .i64 gn])) wc)
            case first =>
              refine R_begin 16 (fun w9 => w9.cell? ⟨g, o + k * 4 + 1, none⟩ = some (.string x.name) ∧ w9.cell? ⟨g, o + k * 4 + 2, none⟩ = some (.bool x.normal) ∧ w9.cell? ⟨g, o + k * 4 + 3, none⟩ = some (.int .i64 x.tick)) (by kernel_rfl) ⟨R1, R2, R3⟩ (fun HP0 => ?_)
              refine R_pure 0 rfl (by kernel_rfl) HP0 ?_
              apply Exists.intro
              refine ⟨fun _ _ _ h => h, .inl ⟨by rfl, fun w9 h9 => ?_⟩, fun HP1 => ?_⟩
              · clear h9; go_simp; first | done | rfl
              clear HP0
              refine R_pure 1 rfl (by kernel_rfl) HP1 ?_
              apply Exists.intro
              refine ⟨fun _ _ _ h => h, .inl ⟨by rfl, fun w9 h9 => ?_⟩, fun HP2 => ?_⟩
              · clear h9; go_simp; first | done | rfl
              clear HP1
              refine R_pure 2 rfl (by kernel_rfl) HP2 ?_
              apply Exists.intro
              refine ⟨fun _ _ _ h => h, .inl ⟨by rfl, fun w9 h9 => ?_⟩, fun HP3 => ?_⟩
              · clear h9; go_simp; first | done | rfl
              clear HP2
              refine R_pure 3 rfl (by kernel_rfl) HP3 ?_
              apply Exists.intro
              refine ⟨fun _ _ _ h => h, .inl ⟨by rfl, fun w9 h9 => ?_⟩, fun HP4 => ?_⟩
              · clear h9; go_simp; first | done | rfl
              clear HP3
              refine R_pure 4 rfl (by kernel_rfl) HP4 ?_
              apply Exists.intro
              refine ⟨fun _ _ _ h => h, .inl ⟨by rfl, fun w9 h9 => ?_⟩, fun HP5 => ?_⟩
              · clear h9; go_simp; first | done | rfl
              clear HP4
              refine R_take 5 rfl (by kernel_rfl) HP5 ?_
              apply Exists.intro
              refine ⟨fun _ _ _ h => h, .inl ⟨by rfl, fun w9 h9 => ?_⟩, fun HP6 => ?_⟩
              · obtain ⟨s1, s2, s3⟩ := h9; go_simp; first | done | rfl
              clear HP5
              refine R_pure 6 rfl (by kernel_rfl) HP6 ?_
              apply Exists.intro
              refine ⟨fun _ _ _ h => h, .inl ⟨by rfl, fun w9 h9 => ?_⟩, fun HP7 => ?_⟩
              · clear h9; go_simp; first | done | rfl
              clear HP6
              refine R_pure 7 rfl (by kernel_rfl) HP7 ?_
              apply Exists.intro
              refine ⟨fun _ _ _ h => h, .inl ⟨by rfl, fun w9 h9 => ?_⟩, fun HP8 => ?_⟩
              · clear h9; go_simp; first | done | rfl
              clear HP7
              refine R_pure 8 rfl (by kernel_rfl) HP8 ?_
              apply Exists.intro
              refine ⟨fun _ _ _ h => h, .inl ⟨by rfl, fun w9 h9 => ?_⟩, fun HP9 => ?_⟩
              · clear h9; go_simp; first | done | rfl
              clear HP8
              refine R_pure 9 rfl (by kernel_rfl) HP9 ?_
              apply Exists.intro
              refine ⟨fun _ _ _ h => h, .inl ⟨by rfl, fun w9 h9 => ?_⟩, fun HP10 => ?_⟩
              · clear h9; go_simp; first | done | rfl
              clear HP9
              refine R_take 10 rfl (by kernel_rfl) HP10 ?_
              apply Exists.intro
              refine ⟨fun _ _ _ h => h, .inl ⟨by rfl, fun w9 h9 => ?_⟩, fun HP11 => ?_⟩
              · obtain ⟨s1, s2, s3⟩ := h9; go_simp; first | done | rfl
              clear HP10
              refine R_pure 11 rfl (by kernel_rfl) HP11 ?_
              apply Exists.intro
              refine ⟨fun _ _ _ h => h, .inl ⟨by rfl, fun w9 h9 => ?_⟩, fun HP12 => ?_⟩
              · clear h9; go_simp; first | done | rfl
              clear HP11
              refine R_pure 12 rfl (by kernel_rfl) HP12 ?_
              apply Exists.intro
              refine ⟨fun _ _ _ h => h, .inl ⟨by rfl, fun w9 h9 => ?_⟩, fun HP13 => ?_⟩
              · clear h9; go_simp; first | done | rfl
              clear HP12
              refine R_pure 13 rfl (by kernel_rfl) HP13 ?_
              apply Exists.intro
              refine ⟨fun _ _ _ h => h, .inl ⟨by rfl, fun w9 h9 => ?_⟩, fun HP14 => ?_⟩
              · clear h9; go_simp; first | done | rfl
              clear HP13
              refine R_pure 14 rfl (by kernel_rfl) HP14 ?_
              apply Exists.intro
              refine ⟨fun _ _ _ h => h, .inl ⟨by rfl, fun w9 h9 => ?_⟩, fun HP15 => ?_⟩
              · clear h9; go_simp; first | done | rfl
              clear HP14
              refine R_take 15 rfl (by kernel_rfl) HP15 ?_
              apply Exists.intro
              refine ⟨fun _ _ _ h => h, .inl ⟨by rfl, fun w9 h9 => ?_⟩, fun HP16 => ?_⟩
              · obtain ⟨s1, s2, s3⟩ := h9; go_simp; first | done | rfl
              clear HP15
              refine R_all [16] (by kernel_rfl) ?_
              refine AllR.cons (i := 16) rfl (fun K9 HK9 => ?_) ?_
              · go_simp
                refine HE.out.mono ?_
                rintro e w5 hpost
                obtain ⟨av, gn, rfl, hpost⟩ := hpost.tuple
                have HPO := Kp.mk hpost
                clear hpost
                go_simp
                refine HK9.out _ _ (.inl (by kernel_rfl)) (fun HP17 => ?_)
                clear HK9 K9
                refine R_pure 17 rfl (by kernel_rfl) HP17 ?_
                apply Exists.intro
                refine ⟨fun _ _ _ h => h, .inl ⟨by rfl, fun w9 h9 => ?_⟩, fun HP18 => ?_⟩
                · clear h9; go_simp; first | done | rfl
                clear HP17
                refine R_pure 18 rfl (by kernel_rfl) HP18 ?_
                apply Exists.intro
                refine ⟨fun _ _ _ h => h, .inl ⟨by rfl, fun w9 h9 => ?_⟩, fun HP19 => ?_⟩
                · clear h9; go_simp; first | done | rfl
                clear HP18
                refine R_pure 19 rfl (by kernel_rfl) HP19 ?_
                apply Exists.intro
                refine ⟨fun _ _ _ h => h, .inl ⟨by rfl, fun w9 h9 => ?_⟩, fun HP20 => ?_⟩
                · clear h9; go_simp; first | done | rfl
                clear HP19
                refine R_pure 20 rfl (by kernel_rfl) HP20 ?_
                apply Exists.intro
                refine ⟨fun _ _ _ h => h, .inl ⟨by rfl, fun w9 h9 => ?_⟩, fun HP21 => ?_⟩
                · clear h9; go_simp; first | done | rfl
                clear HP20
                refine R_pure 21 rfl (by kernel_rfl) HP21 ?_
                apply Exists.intro
                refine ⟨fun _ _ _ h => h, .inl ⟨by rfl, fun w9 h9 => ?_⟩, fun HP22 => ?_⟩
                · clear h9; go_simp; first | done | rfl
                clear HP21
                refine R_done (by kernel_rfl) ?_
                go_wp2_with fail
                go_meet
                case rel => exact ⟨_, rfl, HPO.out⟩
              exact AllR.nil

            obtain ⟨gn, rfl, r, hr, ⟨hne, he, hbx⟩ | ⟨hz, j, c, v5, ev5, hj, hc, he, ho5, hf5, hs5, hsm, hcx⟩⟩ := hcut
            · cases he
              have hne' : (exitErr s r x.tick == 0) = false := by simpa using hne
              have HL5 := Kp.mk ((HL.out.keep (Below.refl _ _).drew).keep hbx)
              have HR5 := Kp.mk ((HR.out.drew).below hbx)
              have HST : Kp (StepR st0.toNat it pe cs (k + 1) s s runs [] (exitErr s r x.tick)) := ⟨step_no HI.out HU.out HC.out _ (fun e => by unfold exitErr; rw [if_pos (.inr e)])⟩
              clear hr hne hbx HE
              go_wp2_with fail
              go_meet
              case rel => exact ⟨_, s, ev, runs, [], rfl, HR5, HF, ⟨Own.nil _ _ _⟩, HL5, HST⟩
            · cases he
              have hx0 := exit_ok hz
              have HST : Kp (StepR st0.toNat it pe cs (k + 1) s (exitS s j c x.normal x.tick).1 (withoutL runs c.name) (exitS s j c x.normal x.tick).2 0) := ⟨step_exit HI.out HU.out HC.out hx0.1 hx0.2.1 hc x.normal x.tick hx0.2.2.2.1⟩
              have HL5 := Kp.mk ((HL.out.keep (Below.refl _ _).drew).step hcx hs5 hsm)
              have HR5 := Kp.mk ((HR.out.drew).sup (HL.out.keep (Below.refl _ _).drew).sup hcx)
              have HIN : Kp (c.name = x.name ∧ hasL runs x.name = true) := ⟨by
                rcases hr with ⟨k', _, hk', ⟨c', hc', hy⟩, _⟩ | ⟨hk', _⟩
                · have : k' = j := by omega
                  subst this
                  rw [hc] at hc'
                  cases hc'
                  rw [Bool.and_eq_true] at hy
                  have e := (beqS_iff _ _).1 hy.1
                  exact ⟨e, (hasL_iff _ _).2 ((HI.out.rep.mem _).2 ((mem_running _ _).2 ⟨_, _, hc, hy.2, e⟩))⟩
                · omega⟩
              obtain ⟨A5, c5, hv5, _⟩ := ho5.shape
              subst hv5
              have HO5 := Kp.mk ho5
              have hbw := HL5.out.below
              have S1 : wc.cell? ⟨g, o + k * 4 + 1, none⟩ = some (.string x.name) := by rw [HX.out]; exact (H4.out.below hbw).elem k 1 hlt (by decide)
              clear hr hs5 hsm hcx ho5 hf5 HE hz hx0 hc hj hbw R0 R1 R2 R3
              go_wp2_with fail
              refine (has_any _ runs x.name AR cR (HR5.out.src rfl) (by omega)).mono ?_
              rintro e w6 ⟨rfl, rfl⟩
              rw [HIN.out.2]
              go_wp2_with fail
              refine (without_any _ runs x.name AR cR (HR5.out.src rfl) (by omega)).mono ?_
              rintro e w6 ⟨v6, rfl, ho6, hf6, hb6⟩
              have HO6 := Kp.mk ho6
              have HF6 := Kp.mk (hf6.up HL5.out.below.size)
              have HL6 := Kp.mk (HL5.out.keep hb6)
              have HA6 := Kp.mk (HO5.out.below hb6)
              clear ho6 hf6 hb6
              go_wp2_with fail
              go_meet
              case rel => exact ⟨0, _, ev5, _, _, rfl, ⟨by rw [HIN.out.1]; exact HO6.out⟩, HF6, HA6, HL6, HST⟩
          · by_cases hs : s.sd = false ∨ s.ov = true
            · have HST : Kp (StepR st0.toNat it pe cs (k + 1) s s runs [] 250) := ⟨step_no HI.out HU.out HC.out _ (fun _ => rfl)⟩
              go_wp2_with fail
              refine (stop_no _ p lv ev s HL.out.sup hs).mono ?_
              rintro e w6 ⟨rfl, rfl⟩
              go_wp2_with fail
              go_meet
              case rel => exact ⟨250, s, ev, runs, [], rfl, HR, HF, ⟨Own.nil _ _ _⟩, HL, HST⟩
            · have hd : s.sd = true := by
                cases h : s.sd
                · exact absurd (.inl h) hs
                · rfl
              have ho : s.ov = false := by
                cases h : s.ov
                · rfl
                · exact absurd (.inr h) hs
              have HST := Kp.mk (step_stop HI.out HU.out HC.out ho)
              have HD := Kp.mk hd
              have HO := Kp.mk ho
              clear hs hd ho
              go_wp2_with fail
              refine (stop_yes _ p lv ev s HL.out.sup HSL.out HD.out HO.out).mono ?_
              rintro e w6 ⟨v6, rfl, ho6, hf6, hs6, hc6⟩
              have HO6 := Kp.mk ho6
              have HL6 := Kp.mk (HL.out.step (fl_fp _ hc6) hs6 (.inl rfl))
              have HR6 := Kp.mk (HR.out.sup HL.out.sup (fl_fp _ hc6))
              clear ho6 hf6 hs6 hc6
              go_wp2_with fail
              go_meet
              case rel => exact ⟨0, _, ev, runs, _, rfl, HR6, HF, HO6, HL6, HST⟩
        · by_cases hs : s.sd = true ∨ s.ov = true
          · have HST : Kp (StepR st0.toNat it pe cs (k + 1) s s runs [] 250) := ⟨step_no HI.out HU.out HC.out _ (fun _ => rfl)⟩
            go_wp2_with fail
            refine (start_no _ p lv ev s HL.out.sup hs).mono ?_
            rintro e w6 ⟨rfl, rfl⟩
            go_wp2_with fail
            go_meet
            case rel => exact ⟨250, s, ev, runs, [], rfl, HR, HF, ⟨Own.nil _ _ _⟩, HL, HST⟩
          · have hd : s.sd = false := by
              cases h : s.sd
              · rfl
              · exact absurd (.inl h) hs
            have ho : s.ov = false := by
              cases h : s.ov
              · rfl
              · exact absurd (.inr h) hs
            have HST := Kp.mk (step_start HI.out HU.out HC.out hd ho)
            have HD := Kp.mk hd
            have HO := Kp.mk ho
            clear hs hd ho
            go_wp2_with fail
            refine (start_yes _ p lv ev s HL.out.sup HSL.out HD.out HO.out).mono ?_
            rintro e w6 ⟨v6, rfl, ho6, hf6, hs6, hc6⟩
            have HO6 := Kp.mk ho6
            have HL6 := Kp.mk (HL.out.step (fl_fp _ hc6) hs6 (.inl rfl))
            have HR6 := Kp.mk (HR.out.sup HL.out.sup (fl_fp _ hc6))
            clear ho6 hf6 hs6 hc6
            go_wp2_with fail
            go_meet
            case rel => exact ⟨0, _, ev, runs, _, rfl, HR6, HF, HO6, HL6, HST⟩
      clear HL HI HR HF R0 R1 R2 R3
      obtain ⟨gn, s', ev', runs0, acts, rfl, HR, HF, HO, HL, HS⟩ := hcut
      obtain ⟨AA, cA, hav, _⟩ := HO.out.shape
      subst hav
      obtain ⟨AR, cR, hrv, _⟩ := HR.out.shape
      subst hrv
      go_upto_region 21 with fail
      go_cut [15, 17, 43, 118] from 100 to 118 (fun av ov o2 v w7 => av = .slice AA acts.length cA ∧ ov = .bool s.ov ∧ o2 = .bool s.ov ∧ v = .bool false ∧ w7 = wc)
      case first =>
        cases hov : s.ov
        · by_cases hg : gn = 0
          · have hg0 : (gn != 0) = false := by simpa using hg
            clear hg
            go_wp2_with fail
            go_meet
            case rel => exact ⟨rfl, by first | rfl | rw [hov], by first | rfl | rw [hov], rfl, rfl⟩
          · have hg0 : (gn != 0) = true := by simpa using hg
            have hl0 : decide (0 < (acts.length : Int)) = false := by rw [HS.out.err hg]; rfl
            have hlz : Kp (acts.length = 0) := ⟨by rw [HS.out.err hg]; rfl⟩
            have hl2 : decide (0 < acts.length) = false := by rw [hlz.out]; rfl
            clear hg
            go_wp2_with fail
            all_goals go_meet
            all_goals exact ⟨by first | rfl | rw [hlz.out], by first | rfl | rw [hov], by first | rfl | rw [hov], rfl, rfl⟩
        · obtain ⟨hg, hov2⟩ := HS.out.over hov
          have hl0 : decide (0 < (acts.length : Int)) = false := by rw [HS.out.err (by rw [hg]; decide)]; rfl
          have hlz : Kp (acts.length = 0) := ⟨by rw [HS.out.err (by rw [hg]; decide)]; rfl⟩
          have hl2 : decide (0 < acts.length) = false := by rw [hlz.out]; rfl
          have hg0 : (gn != 0) = true := by rw [hg]; rfl
          have hg1 : (gn != 250) = false := by rw [hg]; rfl
          have HOV := Kp.mk hov2
          clear hg hov2
          go_wp2_with fail
          refine (over_any _ p lv ev' s' HL.out.sup).mono ?_
          rintro e w8 ⟨rfl, rfl⟩
          rw [HOV.out]
          go_wp2_with fail
          all_goals go_meet
          all_goals exact ⟨by first | rfl | rw [hlz.out], by first | rfl | rw [hov], by first | rfl | rw [hov], rfl, rfl⟩
      obtain ⟨rfl, rfl, rfl, rfl, rfl⟩ := hcut
      have hal : acts.length ≤ 64 := HS.out.few.1
      go_wp2_with fail
      go_loopw [13, 18] (fun r i w7 => ∃ m : Nat, m ≤ acts.length ∧ i = .int .i64 m ∧ Kp (Own w7 9 eStr r (foldA runs0 (acts.take m))) ∧ Kp (Fresh w r) ∧ Kp (Own w7 43 eAM (.slice AA acts.length cA) acts) ∧ Kp (Lives w w7 p lv ev' s')) (fun _ i _ => acts.length - (intOf i).toNat)
      case atStart => exact ⟨0, Nat.zero_le _, rfl, HR, HF, HO, HL⟩
      case round =>
        clear HR HF HO HL
        obtain ⟨m, hm', rfl, HR, HF, HO, HL⟩ := hrel
        obtain ⟨AR, cR, hrv, _⟩ := HR.out.shape
        subst hrv
        by_cases hlm : m < acts.length
        · have hOK := Kp.mk (okA_at acts runs0 HS.out.ok m hlm)
          have HFO := Kp.mk (foldA_succ acts runs0 m hlm)
          have hfl : (foldA runs0 (acts.take m)).length ≤ 96 := by have h1 := foldA_len (acts.take m) runs0; have h2 := HS.out.few; rw [List.length_take] at h1; omega
          cases AA with
          | none => have := ((HO.out.src rfl).none rfl).1; subst this; simp at hlm
          | some aa =>
          obtain ⟨g5, o5, rfl⟩ := (HO.out.src rfl).addr (by omega)
          obtain ⟨y, hy⟩ : ∃ y, y = acts[m] := ⟨_, rfl⟩
          have B0 : wr.cell? ⟨g5, o5 + m * 2, none⟩ = some (.bool y.start) := by rw [hy]; exact (HO.out.src rfl).elem m 0 hlm (by decide)
          have B1 : wr.cell? ⟨g5, o5 + m * 2 + 1, none⟩ = some (.string y.name) := by rw [hy]; exact (HO.out.src rfl).elem m 1 hlm (by decide)
          rw [← hy] at hOK HFO
          have HY := Kp.mk hy
          clear hy
          obtain ⟨rl, hrl⟩ : ∃ rl, rl = foldA runs0 (acts.take m) := ⟨_, rfl⟩
          rw [← hrl] at hOK HFO hfl HR HF ⊢
          have HRL := Kp.mk hrl
          clear hrl
          have HHC : Kp (∀ n, Calls Try.prog 17 #[.slice AR rl.length cR, .string y.name] (wr.drewN n) fun e w' => e = .returned (.bool (!y.start)) ∧ w' = wr.drewN n) := ⟨fun n => by
            refine (has_any (wr.drewN n) rl y.name AR cR ((HR.out.below ((Chg.refl NoF wr).drewN n |>.below_all (fun _ h => h.elim))).src rfl) (by omega)).mono ?_
            rintro e w' ⟨rfl, rfl⟩
            exact ⟨by rw [hOK.out], rfl⟩⟩
          go_upto_region 26 with fail
          go_cut [137] from 125 to 137 (fun v w8 => v = .bool false ∧ Below wr.heap.size wr w8)
          case first =>
            cases hs : y.start
            all_goals rw [hs] at B0
            all_goals
              have HHD := Kp.mk HHC.out
              rw [hs] at HHD
              clear HHC
              go_quiet ((go_at_call 17; exact Calls.quiet_of_same (HHD.out _)))
              go_wp2_with fail
              go_meet
              case rel => exact ⟨rfl, ⟨rfl, rfl, rfl, Nat.le_refl _, fun _ _ => rfl⟩⟩
          obtain ⟨rfl, hb8⟩ := hcut
          clear B0 B1 HHC
          have HR8 := Kp.mk (HR.out.below hb8)
          have HO8 := Kp.mk (HO.out.below hb8)
          have HL8 := Kp.mk (HL.out.keep hb8)
          clear HR HO HL hb8
          have B0 : wc.cell? ⟨g5, o5 + m * 2, none⟩ = some (.bool y.start) := by rw [HY.out]; exact (HO8.out.src rfl).elem m 0 hlm (by decide)
          have B1 : wc.cell? ⟨g5, o5 + m * 2 + 1, none⟩ = some (.string y.name) := by rw [HY.out]; exact (HO8.out.src rfl).elem m 1 hlm (by decide)
          cases hs : y.start
          · rw [hs] at B0
            go_wp2_with fail
            refine (without_any _ rl y.name AR cR (HR8.out.src rfl) (by omega)).mono ?_
            rintro e w9 ⟨v9, rfl, ho9, hf9, hb9⟩
            have HO9 := Kp.mk ho9
            have HF9 := Kp.mk (hf9.up HL8.out.below.size)
            have HL9 := Kp.mk (HL8.out.keep hb9)
            have HA9 := Kp.mk (HO8.out.below hb9)
            clear ho9 hf9 hb9
            go_wp2_with fail
            go_roundw
            case rel => exact ⟨m + 1, by omega, by go_num, ⟨by rw [HFO.out, stepA, hs]; exact HO9.out⟩, HF9, HA9, HL9⟩
            case measure => simp [intOf]; omega
          · rw [hs] at B0
            have hown := HR8.out
            go_wp2_with (at_builtin; refine app1_ev T36 y.name rfl _ _ rfl hown rfl rfl rfl (by simp) rfl (by omega) (by omega) ?_; intro A' n' c' w9 h0 h1 h2 h3)
            go_roundw
            case rel =>
              refine ⟨m + 1, by omega, by go_num, ⟨by rw [HFO.out, stepA, hs]; exact h1⟩, ⟨HF.out.app HL8.out.below.size h3⟩, ⟨HO8.out.frame h2 fun g' hg' hF => ?_⟩, ⟨HL8.out.sup.keepT HR8.out h2, HL8.out.hp, HL8.out.hl, HL8.out.he, chg_below HL8.out.below h2 HF.out HL8.out.below.size⟩⟩
              obtain ⟨cur, hcur⟩ := HR8.out.blk' hF
              exact HO8.out.ne hcur (by decide) hg'
            case measure => simp [intOf]; omega
        · have htk : acts.take m = acts := List.take_of_length_le (by omega)
          rw [htk] at HR HF ⊢
          have HN := Kp.mk (InvR.next HS.out)
          have HLE := Kp.mk (HN.out.rep.len (names_nodup HU.out HN.out.inv.kids))
          obtain ⟨rl, hrl⟩ : ∃ rl, rl = foldA runs0 acts := ⟨_, rfl⟩
          rw [← hrl] at HR HF HN HLE ⊢
          clear htk hm' HO hrl
          have hrl32 : rl.length ≤ 32 := HN.out.few HU.out HC.out
          go_wp2_with fail
          refine (running_any _ p lv ev' s' HL.out.sup (by have := HN.out.inv.len; have := HC.out; omega)).mono ?_
          rintro e w8 ⟨v8, rfl, ho8, hf8, hb8⟩
          obtain ⟨A8, c8, hv8, _⟩ := ho8.shape
          subst hv8
          have HO8 := Kp.mk ho8
          have HL8 := Kp.mk (HL.out.keep hb8)
          have HR8 := Kp.mk (HR.out.below hb8)
          clear ho8 hf8 hb8 HL HR
          obtain ⟨nw, hnw⟩ : ∃ nw, nw = runningL s'.l := ⟨_, rfl⟩
          rw [← hnw] at HO8 HLE ⊢
          have HNW := Kp.mk hnw
          clear hnw
          go_upto_region 32 with fail
          go_cut [173] from 160 to 173 (fun v w9 => v = .bool false ∧ w9 = w8)
          case first =>
            have hne : ((nw.length : Int) != (rl.length : Int)) = false := by rw [HLE.out]; simp
            go_wp2_with fail
            refine (over_any _ p lv ev' s' HL8.out.sup).mono ?_
            rintro e w9 ⟨rfl, rfl⟩
            cases hov : s'.ov
            · go_wp2_with fail
              go_meet
              case rel => exact ⟨rfl, rfl⟩
            · have hz : decide (0 < (nw.length : Int)) = false := by
                have : nw = [] := by
                  rw [HNW.out]
                  exact List.eq_nil_iff_forall_not_mem.2 (HN.out.done hov)
                rw [this]; rfl
              have hz2 : decide (0 < nw.length) = false := by simpa using hz
              go_wp2_with fail
              go_meet
              case rel => exact ⟨rfl, rfl⟩
          obtain ⟨rfl, rfl⟩ := hcut
          have hnl : nw.length ≤ 32 := by rw [← HLE.out]; exact hrl32
          go_wp2_with fail
          go_loopw [20] (fun i w9 => ∃ q : Nat, q ≤ nw.length ∧ i = .int .i64 q ∧ w9 = wc) (fun i _ => nw.length - (intOf i).toNat)
          case atStart => exact ⟨0, Nat.zero_le _, rfl, rfl⟩
          case round =>
            obtain ⟨q, hq, rfl, hw9⟩ := hrel
            subst hw9
            by_cases hlq : q < nw.length
            · cases A8 with
              | none => have := ((HO8.out.src rfl).none rfl).1; subst this; simp at hlq
              | some a8 =>
              obtain ⟨g8, o8, rfl⟩ := (HO8.out.src rfl).addr (by omega)
              have B0 : wr.cell? ⟨g8, o8 + q, none⟩ = some (.string nw[q]) := by have := (HO8.out.src rfl).elem q 0 hlq (by decide); simpa [eStr] using this
              have HH : Kp (hasL rl nw[q] = true) := ⟨(hasL_iff _ _).2 ((HN.out.rep.mem _).2 (by rw [← HNW.out]; exact List.getElem_mem _))⟩
              obtain ⟨y, hy⟩ : ∃ y, y = nw[q] := ⟨_, rfl⟩
              rw [← hy] at B0 HH
              clear hy
              go_wp2_with fail
              refine (has_any _ rl y AR cR (HR8.out.src rfl) (by omega)).mono ?_
              rintro e w9 ⟨rfl, rfl⟩
              rw [HH.out]
              go_wp2_with fail
              go_roundw
              case rel => exact ⟨q + 1, by omega, by go_num, trivial⟩
              case measure => simp [intOf]; omega
            · go_wp2_with fail
              go_roundw
              case rel => exact ⟨k + 1, s', ev', rl, by omega, by go_num, HL8, HN, HR8, HF⟩
              case measure => simp [intOf]; omega
    · have hd5 : decide ((k : Int) < ops.length) = false := by simp; omega
      go_wp2_with fail
      refine (known_any _).mono ?_
      rintro e w4 ⟨rfl, hb4⟩
      go_wp2
      go_ret
      exact ⟨rfl, bstep HL.out.below HL.out.below.size hb4⟩

end Go.Proofs.Ytiedfckgkjcheaa
