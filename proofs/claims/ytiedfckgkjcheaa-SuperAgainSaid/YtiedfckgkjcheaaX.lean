/- SuperAgain walked: it answers true, and writes nothing that was there; its bounds stand in the statement. -/
import Derived.Test.YtiedfckgkjcheaaV
import Derived.StillTailTactics
namespace Go.Proofs.Ytiedfckgkjcheaa
open Go.RowKit

structure OpM where
  kind : Int
  name : ByteArray
  normal : Bool
  tick : Int
def eOp : El OpM := ⟨4, fun o => [.int .i64 o.kind, .string o.name, .bool o.normal, .int .i64 o.tick], fun _ => rfl, fun _ u h => by simp at h; rcases h with rfl | rfl | rfl | rfl <;> rfl, by decide⟩

theorem Own.sup {w w' : World} {p : Nat} {lv ev v : Value} {s : SupM} {l : List ByteArray} (h : Own w 9 eStr v l) (hs : IsSup w p lv ev s) (hc : Chg (FP p lv ev) w w') : Own w' 9 eStr v l :=
  h.frame hc fun g hg hF => by
    rcases hF with rfl | h1 | h1
    · exact h.ne hs.blk (by decide) hg
    · obtain ⟨cur, hcur⟩ := hs.l.blk' h1
      exact h.ne hcur (by decide) hg
    · obtain ⟨cur, hcur⟩ := hs.e.blk' h1
      exact h.ne hcur (by decide) hg

theorem exit_acts_len (s : SupM) (k : Nat) (c : Ch) (normal : Bool) (tick : Int) : (exitS s k c normal tick).2.length ≤ s.l.length + s.l.length := by
  unfold exitS
  split
  · simp
  · split
    · simp
    · split
      · show (dA (exL s k c) (fun _ => true) 0).length ≤ _
        have h1 := dA_len (exL s k c) (fun _ => true) 0
        have h3 : (exL s k c).length = s.l.length := by simp [exL]
        omega
      · show (dA (exL s k c) (withF s.st k) 0 ++ upA (exS s k c) (exA s k c)).length ≤ _
        have h1 := dA_len (exL s k c) (withF s.st k) 0
        have h2 := upAk_len (exS s k c) (exA s k c) (exS s k c).length
        rw [upAk_all _ _ _ (Nat.le_refl _)] at h2
        have h3 : (exL s k c).length = s.l.length := by simp [exL]
        have h4 : (exS s k c).length = s.l.length := by simp [exS, exL]
        rw [List.length_append]
        omega
theorem ExitPost.tuple {w w' : World} {p : Nat} {lv ev : Value} {s : SupM} {nm : ByteArray} {normal : Bool} {tick : Int} {e : Ending} (h : ExitPost w p lv ev s nm normal tick e w') :
    ∃ a n, e = .returned (.tuple #[a, .int .i64 n]) ∧ ExitPost w p lv ev s nm normal tick (.returned (.tuple #[a, .int .i64 n])) w' := by
  obtain ⟨r, hr, ⟨h1, rfl, h3⟩ | ⟨h1, k, c, v, ev', hk, hc, rfl, h4⟩⟩ := h
  · exact ⟨_, _, rfl, r, hr, .inl ⟨h1, rfl, h3⟩⟩
  · exact ⟨_, _, rfl, r, hr, .inr ⟨h1, k, c, v, ev', hk, hc, rfl, h4⟩⟩
set_option maxRecDepth 100000 in
set_option maxHeartbeats 4000000 in
theorem again_any (w : World) (st0 pe : Int) (cs : List CS) (ops : List OpM) (A2 A3 : Option Addr) (c2 c3 : Nat) (h2 : Src w eCS A2 c2 cs) (h3 : Src w eOp A3 c3 ops) (hn : cs.length * 24 ≤ 140737488355328) (hm : ops.length ≤ 9000000000000000000) :
    Calls Try.prog 4 #[.int .i64 st0, .int .i64 pe, .slice A2 cs.length c2, .slice A3 ops.length c3] w fun e w' => e = .returned (.bool true) ∧ Below w.heap.size w w' := by
  go_enter Try.func4, Try.ntmps4
  go_wp2_with fail
  refine (new_any _ st0 1000 pe cs A2 c2 h2 hn).mono ?_
  rintro e w2 ⟨hb2, ⟨hne, rfl⟩ | ⟨hok, p, lv, hp, hfr, rfl, hs2⟩⟩
  · have hne' : (newErr st0 1000 pe cs != 0) = true := by simpa using hne
    go_wp2_with fail
    refine (known_any _).mono ?_
    rintro e w3 ⟨rfl, hb3⟩
    go_wp2
    go_ret
    exact ⟨rfl, bstep hb2 hb2.size hb3⟩
  have HL := Kp.mk (⟨hs2, hp, hfr, Fresh.nil _ _ _, hb2⟩ : Lives w w2 p lv (.slice none 0 0) (newM st0 1000 pe cs))
  have HOK := Kp.mk (new_ok hok)
  clear hb2 hp hfr hs2 hok
  go_wp2_with fail
  refine (start_yes _ p lv _ _ HL.out.sup (by have := HOK.out.2.1; simp [newM]; omega) rfl rfl).mono ?_
  rintro e w3 ⟨v3, rfl, _, _, hs3, hc3⟩
  have HL3 := Kp.mk (HL.out.step (fl_fp _ hc3) hs3 (.inl rfl))
  have HI3 : Kp (Inv st0.toNat 1000 pe cs 0 { newM st0 1000 pe cs with sd := true, l := (newM st0 1000 pe cs).l.map (setR true) }) :=
    ⟨by show st0 = _; have := HOK.out.1; omega, rfl, rfl, by simp [newM, mkCh, setR, kid, Function.comp_def], Nat.le_refl _, fun t ht => by cases ht⟩
  clear HL hs3 hc3
  obtain ⟨s3, hs3⟩ : ∃ x, x = { newM st0 1000 pe cs with sd := true, l := (newM st0 1000 pe cs).l.map (setR true) } := ⟨_, rfl⟩
  have HV3 : Kp (s3.ov = false) := ⟨by rw [hs3]; rfl⟩
  rw [← hs3] at HL3 HI3
  clear hs3
  have H2 := Kp.mk h2
  have H3 := Kp.mk h3
  clear h2 h3
  go_wp2_with fail
  go_loopw [13, 14, 15, 16, 17, 18, 19, 20, 21] (fun i _ _ _ _ _ _ _ _ wr => ∃ (k : Nat) (s : SupM) (ev : Value), k ≤ ops.length ∧ k ≤ 500 ∧ i = .int .i64 k ∧ Kp (Lives w wr p lv ev s) ∧ Kp (Inv st0.toNat 1000 pe cs k s) ∧ Kp (s.ov = false)) (fun i _ _ _ _ _ _ _ _ _ => ops.length - (intOf i).toNat)
  case atStart => exact ⟨0, _, _, Nat.zero_le _, Nat.zero_le _, rfl, HL3, HI3, HV3⟩
  case round =>
    clear HL3 HI3 HV3
    obtain ⟨k, s, ev, hk, hk5, rfl, HL, HI, HV⟩ := hrel
    by_cases hlt : k < ops.length
    · by_cases hlt5 : k < 500
      · go_wp2_with fail
        refine (running_any _ p lv ev s HL.out.sup (by have := HOK.out.2.1; have := HI.out.len; omega)).mono ?_
        rintro e w4 ⟨v4, rfl, ho4, hf4, hb4⟩
        have HL4 := Kp.mk (HL.out.keep hb4)
        clear HL
        go_upto_region 11 with fail
        cases A3 with
        | none => have := (H3.out.none rfl).1; subst this; simp at hlt
        | some ad =>
        obtain ⟨g, o, rfl⟩ := H3.out.addr (by omega)
        have hb := HL4.out.below
        have R1 : w4.cell? ⟨g, o + k * 4 + 1, none⟩ = some (.string ops[k].name) := (H3.out.below hb).elem k 1 hlt (by decide)
        have R2 : w4.cell? ⟨g, o + k * 4 + 2, none⟩ = some (.bool ops[k].normal) := (H3.out.below hb).elem k 2 hlt (by decide)
        have R3 : w4.cell? ⟨g, o + k * 4 + 3, none⟩ = some (.int .i64 ops[k].tick) := (H3.out.below hb).elem k 3 hlt (by decide)
        obtain ⟨x, hx⟩ : ∃ x, x = ops[k] := ⟨_, rfl⟩
        rw [← hx] at R1 R2 R3
        have HX := Kp.mk hx
        clear hx hb
        have HE := Kp.mk (exit_any w4.drew p lv ev s (HL4.out.keep (Below.refl _ _).drew).sup x.name x.normal x.tick (by have := HOK.out.2.1; have := HI.out.len; omega) (by have := HI.out.ends; omega) HI.out.pos st0.toNat HI.out.st (by have := HOK.out.1; omega))
        go_cut [15, 16] from 55 to 74 (fun a g wc => ∃ gn, g = .int .i64 gn ∧ ExitPost w4.drew p lv ev s x.name x.normal x.tick (.returned (.tuple #[a, .int .i64 gn])) wc)
        case first =>
          refine R_begin 16 (fun w9 => w9.cell? ⟨g, o + k * 4 + 1, none⟩ = some (.string x.name) ∧ w9.cell? ⟨g, o + k * 4 + 2, none⟩ = some (.bool x.normal) ∧ w9.cell? ⟨g, o + k * 4 + 3, none⟩ = some (.int .i64 x.tick)) (by kernel_rfl) ⟨R1, R2, R3⟩ (fun HP0 => ?_)
          refine R_pure 0 rfl (by kernel_rfl) HP0 ?_
          apply Exists.intro
          refine ⟨fun _ _ _ h => h, .inl ⟨by rfl, fun w9 h9 => ?_⟩, fun HP1 => ?_⟩
          · clear h9; go_simp; first | done | rfl
          clear HP0
          refine R_pure 1 rfl (by kernel_rfl) HP1 ?_
          apply Exists.intro
          refine ⟨fun _ _ _ h => h, .inl ⟨by rfl, fun w9 h9 => ?_⟩, fun HP2 => ?_⟩
          · clear h9; go_simp; first | done | rfl
          clear HP1
          refine R_pure 2 rfl (by kernel_rfl) HP2 ?_
          apply Exists.intro
          refine ⟨fun _ _ _ h => h, .inl ⟨by rfl, fun w9 h9 => ?_⟩, fun HP3 => ?_⟩
          · clear h9; go_simp; first | done | rfl
          clear HP2
          refine R_pure 3 rfl (by kernel_rfl) HP3 ?_
          apply Exists.intro
          refine ⟨fun _ _ _ h => h, .inl ⟨by rfl, fun w9 h9 => ?_⟩, fun HP4 => ?_⟩
          · clear h9; go_simp; first | done | rfl
          clear HP3
          refine R_pure 4 rfl (by kernel_rfl) HP4 ?_
          apply Exists.intro
          refine ⟨fun _ _ _ h => h, .inl ⟨by rfl, fun w9 h9 => ?_⟩, fun HP5 => ?_⟩
          · clear h9; go_simp; first | done | rfl
          clear HP4
          refine R_take 5 rfl (by kernel_rfl) HP5 ?_
          apply Exists.intro
          refine ⟨fun _ _ _ h => h, .inl ⟨by rfl, fun w9 h9 => ?_⟩, fun HP6 => ?_⟩
          · obtain ⟨s1, s2, s3⟩ := h9; go_simp; first | done | rfl
          clear HP5
          refine R_pure 6 rfl (by kernel_rfl) HP6 ?_
          apply Exists.intro
          refine ⟨fun _ _ _ h => h, .inl ⟨by rfl, fun w9 h9 => ?_⟩, fun HP7 => ?_⟩
          · clear h9; go_simp; first | done | rfl
          clear HP6
          refine R_pure 7 rfl (by kernel_rfl) HP7 ?_
          apply Exists.intro
          refine ⟨fun _ _ _ h => h, .inl ⟨by rfl, fun w9 h9 => ?_⟩, fun HP8 => ?_⟩
          · clear h9; go_simp; first | done | rfl
          clear HP7
          refine R_pure 8 rfl (by kernel_rfl) HP8 ?_
          apply Exists.intro
          refine ⟨fun _ _ _ h => h, .inl ⟨by rfl, fun w9 h9 => ?_⟩, fun HP9 => ?_⟩
          · clear h9; go_simp; first | done | rfl
          clear HP8
          refine R_pure 9 rfl (by kernel_rfl) HP9 ?_
          apply Exists.intro
          refine ⟨fun _ _ _ h => h, .inl ⟨by rfl, fun w9 h9 => ?_⟩, fun HP10 => ?_⟩
          · clear h9; go_simp; first | done | rfl
          clear HP9
          refine R_take 10 rfl (by kernel_rfl) HP10 ?_
          apply Exists.intro
          refine ⟨fun _ _ _ h => h, .inl ⟨by rfl, fun w9 h9 => ?_⟩, fun HP11 => ?_⟩
          · obtain ⟨s1, s2, s3⟩ := h9; go_simp; first | done | rfl
          clear HP10
          refine R_pure 11 rfl (by kernel_rfl) HP11 ?_
          apply Exists.intro
          refine ⟨fun _ _ _ h => h, .inl ⟨by rfl, fun w9 h9 => ?_⟩, fun HP12 => ?_⟩
          · clear h9; go_simp; first | done | rfl
          clear HP11
          refine R_pure 12 rfl (by kernel_rfl) HP12 ?_
          apply Exists.intro
          refine ⟨fun _ _ _ h => h, .inl ⟨by rfl, fun w9 h9 => ?_⟩, fun HP13 => ?_⟩
          · clear h9; go_simp; first | done | rfl
          clear HP12
          refine R_pure 13 rfl (by kernel_rfl) HP13 ?_
          apply Exists.intro
          refine ⟨fun _ _ _ h => h, .inl ⟨by rfl, fun w9 h9 => ?_⟩, fun HP14 => ?_⟩
          · clear h9; go_simp; first | done | rfl
          clear HP13
          refine R_pure 14 rfl (by kernel_rfl) HP14 ?_
          apply Exists.intro
          refine ⟨fun _ _ _ h => h, .inl ⟨by rfl, fun w9 h9 => ?_⟩, fun HP15 => ?_⟩
          · clear h9; go_simp; first | done | rfl
          clear HP14
          refine R_take 15 rfl (by kernel_rfl) HP15 ?_
          apply Exists.intro
          refine ⟨fun _ _ _ h => h, .inl ⟨by rfl, fun w9 h9 => ?_⟩, fun HP16 => ?_⟩
          · obtain ⟨s1, s2, s3⟩ := h9; go_simp; first | done | rfl
          clear HP15
          refine R_all [16] (by kernel_rfl) ?_
          refine AllR.cons (i := 16) rfl (fun K9 HK9 => ?_) ?_
          · go_simp
            refine HE.out.mono ?_
            rintro e w5 hpost
            obtain ⟨av, gn, rfl, hpost⟩ := hpost.tuple
            have HPO := Kp.mk hpost
            clear hpost
            go_simp
            refine HK9.out _ _ (.inl (by kernel_rfl)) (fun HP17 => ?_)
            clear HK9 K9
            refine R_pure 17 rfl (by kernel_rfl) HP17 ?_
            apply Exists.intro
            refine ⟨fun _ _ _ h => h, .inl ⟨by rfl, fun w9 h9 => ?_⟩, fun HP18 => ?_⟩
            · clear h9; go_simp; first | done | rfl
            clear HP17
            refine R_pure 18 rfl (by kernel_rfl) HP18 ?_
            apply Exists.intro
            refine ⟨fun _ _ _ h => h, .inl ⟨by rfl, fun w9 h9 => ?_⟩, fun HP19 => ?_⟩
            · clear h9; go_simp; first | done | rfl
            clear HP18
            refine R_pure 19 rfl (by kernel_rfl) HP19 ?_
            apply Exists.intro
            refine ⟨fun _ _ _ h => h, .inl ⟨by rfl, fun w9 h9 => ?_⟩, fun HP20 => ?_⟩
            · clear h9; go_simp; first | done | rfl
            clear HP19
            refine R_pure 20 rfl (by kernel_rfl) HP20 ?_
            apply Exists.intro
            refine ⟨fun _ _ _ h => h, .inl ⟨by rfl, fun w9 h9 => ?_⟩, fun HP21 => ?_⟩
            · clear h9; go_simp; first | done | rfl
            clear HP20
            refine R_pure 21 rfl (by kernel_rfl) HP21 ?_
            apply Exists.intro
            refine ⟨fun _ _ _ h => h, .inl ⟨by rfl, fun w9 h9 => ?_⟩, fun HP22 => ?_⟩
            · clear h9; go_simp; first | done | rfl
            clear HP21
            refine R_done (by kernel_rfl) ?_
            go_wp2_with fail
            go_meet
            case rel => exact ⟨_, rfl, HPO.out⟩
          exact AllR.nil

        obtain ⟨gn, rfl, r, hr, ⟨hne, he, hbx⟩ | ⟨hz, j, c, v5, ev5, hj, hc, he, ho5, hf5, hs5, hsm, hcx⟩⟩ := hcut
        · cases he
          have HL5 := Kp.mk ((HL4.out.keep (Below.refl _ _).drew).keep hbx)
          have hne' : (exitErr s r x.tick != 0) = true := by simpa using hne
          clear hr hne hbx HE
          go_wp2_with fail
          go_roundw
          case rel => exact ⟨k + 1, s, ev, by omega, by omega, by go_num, HL5, ⟨HI.out.up (by omega)⟩, HV⟩
          case measure => simp [intOf]; omega
        · cases he
          have hx0 := exit_ok hz
          have HO : Kp (overB s x.tick = false) := ⟨overB_not HI.out (by omega) _⟩
          have HI5 := Kp.mk (HI.out.exit hc x.normal x.tick hx0.2.2.2.1)
          have HV5 : Kp ((exitS s j c x.normal x.tick).1.ov = false) := ⟨by rw [(exit_rest s j c x.normal x.tick).2.2.2.2.2.2, HO.out, HV.out]; simp⟩
          have HL5 := Kp.mk ((HL4.out.keep (Below.refl _ _).drew).step hcx hs5 hsm)
          have ho4' := (ho4.drew).sup (HL4.out.keep (Below.refl _ _).drew).sup hcx
          have HNM : Kp (c.name = x.name) := ⟨by
            rcases hr with ⟨k', _, hk', ⟨c', hc', hy⟩, _⟩ | ⟨hk', _⟩
            · have : k' = j := by omega
              subst this
              rw [hc] at hc'
              cases hc'
              rw [Bool.and_eq_true] at hy
              exact (beqS_iff _ _).1 hy.1
            · omega⟩
          have HC := Kp.mk hc
          obtain ⟨A5, c5, hv5, _⟩ := ho5.shape
          subst hv5
          have HO5 := Kp.mk ho5
          have HO4 := Kp.mk ho4'
          obtain ⟨A4, c4, hv4, _⟩ := ho4.shape
          subst hv4
          clear hr hs5 hsm hcx ho4 ho4' ho5 hf5 hf4 HE hz hx0 hc hj
          go_wp2_with fail
          refine (running_any _ p lv _ _ HL5.out.sup (by have := HOK.out.2.1; have := HI5.out.len; omega)).mono ?_
          rintro e w6 ⟨v6, rfl, ho6, hf6, hb6⟩
          obtain ⟨A6, c6, hv6, _⟩ := ho6.shape
          subst hv6
          have HO6 := Kp.mk ho6
          have HL6 := Kp.mk (HL5.out.keep hb6)
          have HW := Kp.mk ((HO4.out.below hb6).src rfl)
          have HA := Kp.mk ((HO5.out.below hb6).src rfl)
          clear ho6 hf6 hb6 HL5 HO4 HO5
          go_wp2_with fail
          refine (over_any _ p lv _ _ HL6.out.sup).mono ?_
          rintro e w7 ⟨rfl, rfl⟩
          rw [HV5.out]
          have hwl : (runningL s.l).length ≤ 32 := by have := runningL_len s.l; have := HI.out.len; have := HOK.out.2.1; omega
          obtain ⟨W, hWW⟩ : ∃ W, W = runningL s.l := ⟨_, rfl⟩
          rw [← hWW] at HW hwl ⊢
          have HWW := Kp.mk hWW
          clear hWW
          go_wp2_with fail
          go_loopw [18, 19, 20] (fun i _ _ wr => ∃ m : Nat, m ≤ W.length ∧ i = .int .i64 m ∧ Below w6.heap.size w6 wr) (fun i _ _ _ => W.length - (intOf i).toNat)
          case atStart => exact ⟨0, Nat.zero_le _, rfl, Below.refl _ _⟩
          case round =>
            obtain ⟨m, hm', rfl, hb⟩ := hrel
            have HB := Kp.mk hb
            clear hb
            by_cases hlm : m < W.length
            · cases A4 with
              | none => have := (HW.out.none rfl).1; subst this; simp at hlm
              | some a4 =>
              obtain ⟨g4, o4, rfl⟩ := HW.out.addr (by omega)
              have B0 : wr.cell? ⟨g4, o4 + m, none⟩ = some (.string W[m]) := by have := (HW.out.below HB.out).elem m 0 hlm (by decide); simpa [eStr] using this
              have HMEM : Kp (W[m] ∈ runningL s.l) := ⟨by rw [← HWW.out]; exact List.getElem_mem _⟩
              obtain ⟨y, hy⟩ : ∃ y, y = W[m] := ⟨_, rfl⟩
              rw [← hy] at B0 HMEM
              clear hy
              have hbw := bstep HL6.out.below HL6.out.below.size HB.out
              have R1 : wr.cell? ⟨g, o + k * 4 + 1, none⟩ = some (.string x.name) := by rw [HX.out]; exact (H3.out.below hbw).elem k 1 hlt (by decide)
              have R2 : wr.cell? ⟨g, o + k * 4 + 2, none⟩ = some (.bool x.normal) := by rw [HX.out]; exact (H3.out.below hbw).elem k 2 hlt (by decide)
              have HBW := Kp.mk hbw
              clear hbw
              go_wp2_with fail
              refine (restart_any _ cs y A2 c2 (H2.out.below HBW.out) (by omega)).mono ?_
              rintro e w8 ⟨rfl, rfl⟩
              go_upto_region 20 with fail
              go_cut [20] from 93 to 113 (fun v wc => v = .bool (beqS y x.name && restL cs y == 2 && x.normal) ∧ wc = wr.drew)
              case first =>
                cases e1 : (y.toList == x.name.toList)
                · go_region
                  all_goals go_wp2_with fail
                  all_goals go_meet
                  all_goals exact ⟨by simp [beqS, e1], rfl⟩
                · cases e2 : (restL cs y == 2)
                  · go_region
                    all_goals go_wp2_with fail
                    all_goals go_meet
                    all_goals exact ⟨by simp [e2], rfl⟩
                  · go_region
                    all_goals go_wp2_with fail
                    all_goals go_meet
                    all_goals exact ⟨by simp [beqS, e1, e2], rfl⟩
              obtain ⟨rfl, rfl⟩ := hcut
              have B0' : wr.drew.cell? ⟨g4, o4 + m, none⟩ = some (.string y) := B0
              clear B0 R1 R2
              cases r3 : (restL cs y != 3)
              · go_wp2_with fail
                go_roundw
                case rel => exact ⟨m + 1, by omega, by go_num, HB.out.drew⟩
                case measure => simp [intOf]; omega
              · obtain ⟨aw, haw⟩ : ∃ aw, aw = (beqS y x.name && restL cs y == 2 && x.normal) := ⟨_, rfl⟩
                rw [← haw]
                cases aw
                · have HHAS : Kp (hasL (runningL (exitS s j c x.normal x.tick).1.l) y = true) := ⟨(hasL_iff _ _).2 (again_runs HI.out.kids HOK.out.2.2.1 HC.out x.normal x.tick HO.out y HMEM.out (by simpa using r3) (by
                    rintro ⟨q1, q2, q3⟩
                    rw [HNM.out] at q1
                    rw [q1, beqS_self, ← q1, q2, q3] at haw
                    exact absurd haw (by decide)))⟩
                  clear haw
                  go_wp2_with fail
                  refine (has_any _ _ y A6 c6 ((HO6.out.below HB.out.drew).src rfl) (by have := runningL_len (exitS s j c x.normal x.tick).1.l; have := HI5.out.len; have := HOK.out.2.1; omega)).mono ?_
                  rintro e w8 ⟨rfl, rfl⟩
                  rw [HHAS.out]
                  go_wp2_with fail
                  go_roundw
                  case rel => exact ⟨m + 1, by omega, by go_num, HB.out.drew⟩
                  case measure => simp [intOf]; omega
                · clear haw
                  go_wp2_with fail
                  go_roundw
                  case rel => exact ⟨m + 1, by omega, by go_num, HB.out.drew⟩
                  case measure => simp [intOf]; omega
            · clear hm' HW HO6
              obtain ⟨AS, hAS⟩ : ∃ AS, AS = (exitS s j c x.normal x.tick).2 := ⟨_, rfl⟩
              rw [← hAS] at HA ⊢
              have HAS : Kp (st0 = 1 → AS = [] ∨ AS = [⟨true, x.name⟩]) := ⟨fun e => by
                rw [hAS, ← HNM.out]
                exact again_acts HC.out x.normal x.tick HO.out (by have := HI.out.st; rw [e] at this; exact this)⟩
              have hal : AS.length ≤ 64 := by have := exit_acts_len s j c x.normal x.tick; rw [hAS]; have := HI.out.len; have := HOK.out.2.1; omega
              clear hAS
              go_wp2_with fail
              go_loopw [21] (fun i wr => ∃ m : Nat, m ≤ AS.length ∧ i = .int .i64 m ∧ Kp (Below w6.heap.size w6 wr)) (fun i _ => AS.length - (intOf i).toNat)
              case atStart => exact ⟨0, Nat.zero_le _, rfl, HB⟩
              case round =>
                clear HB
                obtain ⟨m, hm', rfl, HB⟩ := hrel
                by_cases hla : m < AS.length
                · by_cases hs1 : st0 = 1
                  · rcases HAS.out hs1 with h9 | h9
                    · rw [h9] at hla; simp at hla
                    · have hl1 : ((AS.length : Int) != 1) = false := by rw [h9]; rfl
                      have hy0 : AS[m] = ⟨true, x.name⟩ := by
                        have h8 : ∀ z ∈ AS, z = ⟨true, x.name⟩ := by rw [h9]; simp
                        exact h8 _ (List.getElem_mem hla)
                      have hs1b : (st0 == 1) = true := by simpa using hs1
                      cases A5 with
                      | none => have := (HA.out.none rfl).1; rw [this] at h9; cases h9
                      | some a5 =>
                      obtain ⟨g5, o5, rfl⟩ := HA.out.addr (by omega)
                      have B0 : wr.cell? ⟨g5, o5 + m * 2, none⟩ = some (.bool true) := by have := (HA.out.below HB.out).elem m 0 hla (by decide); rw [hy0] at this; exact this
                      have B1 : wr.cell? ⟨g5, o5 + m * 2 + 1, none⟩ = some (.string x.name) := by have := (HA.out.below HB.out).elem m 1 hla (by decide); rw [hy0] at this; exact this
                      have hbw := bstep HL6.out.below HL6.out.below.size HB.out
                      have R1 : wr.cell? ⟨g, o + k * 4 + 1, none⟩ = some (.string x.name) := by rw [HX.out]; exact (H3.out.below hbw).elem k 1 hlt (by decide)
                      clear hbw hs1 h9 hy0
                      go_wp2_with fail
                      go_region
                      go_wp2_with fail
                      go_roundw
                      case rel => exact ⟨m + 1, by omega, by go_num, ⟨HB.out.drew⟩⟩
                      case measure => simp [intOf]; omega
                  · have hs1' : (st0 == 1) = false := by simpa using hs1
                    go_wp2_with fail
                    go_roundw
                    case rel => exact ⟨k + 1, _, ev5, by omega, by omega, by go_num, ⟨HL6.out.keep HB.out⟩, HI5, HV5⟩
                    case measure => simp [intOf]; omega
                · go_wp2_with fail
                  go_roundw
                  case rel => exact ⟨k + 1, _, ev5, by omega, by omega, by go_num, ⟨HL6.out.keep HB.out⟩, HI5, HV5⟩
                  case measure => simp [intOf]; omega
      · have hd5 : decide ((k : Int) < 500) = false := by simp; omega
        go_wp2_with fail
        refine (known_any _).mono ?_
        rintro e w4 ⟨rfl, hb4⟩
        go_wp2
        go_ret
        exact ⟨rfl, bstep HL.out.below HL.out.below.size hb4⟩
    · have hd5 : decide ((k : Int) < ops.length) = false := by simp; omega
      go_wp2_with fail
      refine (known_any _).mono ?_
      rintro e w4 ⟨rfl, hb4⟩
      go_wp2
      go_ret
      exact ⟨rfl, bstep HL.out.below HL.out.below.size hb4⟩

end Go.Proofs.Ytiedfckgkjcheaa
