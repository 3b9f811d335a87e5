/- TimerPlays walked: it answers true; its bounds stand in the statement. -/
import Derived.Test.YtobgabjoehjpcaaSt
import Derived.Test.YtobgabjoehjpcaaVc
namespace Go.Proofs.Ytobgabjoehjpcaa
open Go.RowKit

theorem Ok.hnd {s : MS} (h : Ok s) : s.l.Pairwise (fun a b => a.tn ≠ b.tn) :=
  h.sim.perm.symm.pairwise (h.sim.srt.imp (fun {a b} h => by omega)) (fun h => Ne.symm h)
/-- All, the program's wheel against the document's list. -/
theorem two_all {w0 w : World} {p q : Nat} {qv lv : Value} {s : MS} (h : Two w0 w p q qv lv s) (ok : Ok s) {A : Option Addr} {n c : Nat} {R : List Ent} (hp : R.Perm s.ts) (hso : R.Pairwise ltE) (hn : n = R.length) (hs : Src w eTm A c R) :
    Calls Try.prog 20 #[.pointer (some ⟨p, 0, none⟩), .slice A n c] w fun e w' => e = .returned (.bool true) ∧ Below w.heap.size w w' :=
  all_any w p qv s.l s.tn A c R n hn (by have := ok.len; omega) (hp.trans ok.sim.perm.symm) hso ok.hnd h.wh hs
set_option maxRecDepth 100000 in
set_option maxHeartbeats 8000000 in
theorem plays_any (w : World) (ops : List OpM) (A : Option Addr) (c : Nat) (hs : Src w eOp A c ops) (hn : ops.length ≤ 9000000000000) :
    Calls Try.prog 8 #[.slice A ops.length c] w fun e w' => e = .returned (.bool true) ∧ Below w.heap.size w w' := by
  have HS := Kp.mk hs
  clear hs
  go_enter Try.func8, Try.ntmps8
  go_wp2_with fail
  refine (new_any w).mono ?_
  rintro e w1 ⟨p, hp, rfl, h1, hb1⟩
  have T0 : Kp (Two w (w1.alloc (.cells #[.slice none 0 0] 40)) p w1.heap.size (.slice none 0 0) (.slice none 0 0) ms0) := ⟨by
    have hb2 : Below w1.heap.size w1 (w1.alloc (.cells #[.slice none 0 0] 40)) := (Below.refl _ _).alloc (Nat.le_refl _) _
    have hz := hb1.size
    refine ⟨h1.below hb2, ⟨blk_new w1 _, Own.nil _ _ _⟩, fun g hg => ?_, fun g hg => ?_, bstep hb1 hb1.size hb2⟩
    · rcases hg with rfl | hg; exact hp; cases hg
    · rcases hg with rfl | hg; exact hz; cases hg⟩
  obtain ⟨q, hq⟩ : ∃ q, q = w1.heap.size := ⟨_, rfl⟩
  rw [← hq] at T0
  have HQ := Kp.mk hq
  clear h1 hb1 hp hq
  go_upto_region 5 with fail
  rw [← HQ.out]
  go_loopw [6, 14] (fun _ i wr => ∃ (k : Nat) (qv lv : Value) (s : MS), k ≤ ops.length ∧ i = .int .i64 k ∧ Kp (Two w wr p q qv lv s) ∧ Kp (Ok s) ∧ Kp (s.tn ≤ k)) (fun _ i _ => ops.length - (intOf i).toNat)
  case atStart => exact ⟨0, _, _, _, Nat.zero_le _, rfl, T0, ⟨Ok.nil⟩, ⟨Int.le_refl _⟩⟩
  case round =>
    clear T0
    obtain ⟨k, qv, lv, s, hk, rfl, hT, OK, TN⟩ := hrel
    by_cases hlt : k < ops.length
    · cases A with
      | none => have := (HS.out.none rfl).1; subst this; simp at hlt
      | some x =>
        obtain ⟨g, o, rfl⟩ := HS.out.addr (by omega)
        have hs := HS.out.below hT.out.bel
        obtain ⟨x, hx⟩ : ∃ x, x = ops[k] := ⟨_, rfl⟩
        have e0 : wr.cell? ⟨g, o + k * 3, none⟩ = some (.int .i64 x.kind) := by have := hs.elem k 0 hlt (by decide); rw [← hx] at this; simpa [eOp] using this
        have e1 : wr.cell? ⟨g, o + k * 3 + 1, none⟩ = some (.int .i64 x.ref) := by have := hs.elem k 1 hlt (by decide); rw [← hx] at this; simpa [eOp, Nat.add_assoc] using this
        have e2 : wr.cell? ⟨g, o + k * 3 + 2, none⟩ = some (.int .i64 x.tick) := by have := hs.elem k 2 hlt (by decide); rw [← hx] at this; simpa [eOp, Nat.add_assoc] using this
        have k0 : (0 : Int) ≤ (k : Int) := by omega
        have k1 : (k : Int) < (ops.length : Int) := by omega
        have hb2 : Below wr.heap.size wr (wr.alloc (.cells #[.int .i64 x.kind, .int .i64 x.ref, .int .i64 x.tick] 51)) := (Below.refl _ _).alloc (Nat.le_refl _) _
        have STP := Kp.mk (step_any w _ p q qv lv s x ((hT.out.below hb2).below (Below.refl _ _).drew) OK.out (by have := TN.out; omega))
        have X2 := Kp.mk (blk_new wr (.cells #[.int .i64 x.kind, .int .i64 x.ref, .int .i64 x.tick] 51))
        obtain ⟨z, hz⟩ : ∃ z, z = wr.heap.size := ⟨_, rfl⟩
        have HZ := Kp.mk hz
        clear hs hx hb2
        go_upto_region 7 with fail
        refine R_begin 3 (fun w9 => w9.cell? ⟨wr.heap.size, 0, none⟩ = some (.int .i64 x.kind) ∧ w9.cell? ⟨wr.heap.size, 1, none⟩ = some (.int .i64 x.ref) ∧ w9.cell? ⟨wr.heap.size, 2, none⟩ = some (.int .i64 x.tick)) (by kernel_rfl) ⟨blk_c X2.out 0, blk_c X2.out 1, blk_c X2.out 2⟩ (fun HP0 => ?_)
        refine R_pure 0 rfl (by kernel_rfl) HP0 ?_
        apply Exists.intro
        refine ⟨fun _ _ _ h => h, .inl ⟨by kernel_rfl, fun w9 h9 => ?_⟩, fun HP1 => ?_⟩
        · clear h9; go_simp; first | done | rfl
        clear HP0
        refine R_pure 1 rfl (by kernel_rfl) HP1 ?_
        apply Exists.intro
        refine ⟨fun _ _ _ h => h, .inl ⟨by kernel_rfl, fun w9 h9 => ?_⟩, fun HP2 => ?_⟩
        · clear h9; go_simp; first | done | rfl
        clear HP1
        refine R_take 2 rfl (by kernel_rfl) HP2 ?_
        apply Exists.intro
        refine ⟨fun _ _ _ h => h, .inl ⟨by kernel_rfl, fun w9 h9 => ?_⟩, fun HP3 => ?_⟩
        · obtain ⟨s1, s2, s3⟩ := h9; go_simp; first | done | rfl
        clear HP2
        refine R_all [3] (by kernel_rfl) ?_
        refine AllR.cons (i := 3) rfl (fun K9 HK9 => ?_) ?_
        · go_simp
          refine STP.out.mono ?_
          rintro e w3 ⟨rfl, qv3, lv3, s3, t3, ok3, tn3⟩
          have T3 := Kp.mk t3
          have OK3 := Kp.mk ok3
          have TN3 := Kp.mk tn3
          obtain ⟨A3, c3, hv3, _⟩ := t3.rf.own.shape
          rw [ok3.tlen] at hv3
          have hq3 := t3.rf.c0
          rw [hv3] at hq3
          have hql := lt_of_block t3.rf.blk
          clear t3 ok3 tn3
          go_simp
          refine HK9.out _ _ (.inl (by kernel_rfl)) (fun HP4 => ?_)
          clear HK9 K9
          refine R_pure 4 rfl (by kernel_rfl) HP4 ?_
          apply Exists.intro
          refine ⟨fun _ _ _ h => h, .inl ⟨by kernel_rfl, fun w9 h9 => ?_⟩, fun HP5 => ?_⟩
          · clear h9; go_simp; first | done | rfl
          clear HP4
          refine R_pure 5 rfl (by kernel_rfl) HP5 ?_
          apply Exists.intro
          refine ⟨fun _ _ _ h => h, .inl ⟨by kernel_rfl, fun w9 h9 => ?_⟩, fun HP6 => ?_⟩
          · clear h9; go_simp; first | done | rfl
          clear HP5
          refine R_pure 6 rfl (by kernel_rfl) HP6 ?_
          apply Exists.intro
          refine ⟨fun _ _ _ h => h, .inl ⟨by kernel_rfl, fun w9 h9 => ?_⟩, fun HP7 => ?_⟩
          · clear h9; go_simp; first | done | rfl
          clear HP6
          refine R_pure 8 rfl (by kernel_rfl) HP7 ?_
          apply Exists.intro
          refine ⟨fun _ _ _ h => h, .inl ⟨by kernel_rfl, fun w9 h9 => ?_⟩, fun HP8 => ?_⟩
          · clear h9; go_simp; first | done | rfl
          clear HP7
          refine R_pure 9 rfl (by kernel_rfl) HP8 ?_
          apply Exists.intro
          refine ⟨fun _ _ _ h => h, .inl ⟨by kernel_rfl, fun w9 h9 => ?_⟩, fun HP9 => ?_⟩
          · clear h9; go_simp; first | done | rfl
          clear HP8
          refine R_pure 10 rfl (by kernel_rfl) HP9 ?_
          apply Exists.intro
          refine ⟨fun _ _ _ h => h, .inl ⟨by kernel_rfl, fun w9 h9 => ?_⟩, fun HP10 => ?_⟩
          · clear h9; go_simp; first | done | rfl
          clear HP9
          refine R_all [7, 11] (by kernel_rfl) ?_
          refine AllR.cons (i := 7) rfl (fun K9 HK9 => ?_) ?_
          · go_simp
            refine (wlen_any _ p _ _ _ T3.out.wh).mono ?_
            rintro e w6 ⟨rfl, rfl⟩
            go_simp
            refine HK9.out _ _ (.inl (by kernel_rfl)) (fun HP11 => ?_)
            clear HK9 K9
            refine R_all [11] (by kernel_rfl) ?_
            refine AllR.cons (i := 11) rfl (fun K9 HK9 => ?_) ?_
            · go_simp
              refine HK9.out _ _ (.inl (by kernel_rfl)) (fun HP12 => ?_)
              clear HK9 K9
              refine R_pure 12 rfl (by kernel_rfl) HP12 ?_
              apply Exists.intro
              refine ⟨fun _ _ _ h => h, .inl ⟨by kernel_rfl, fun w9 h9 => ?_⟩, fun HP13 => ?_⟩
              · clear h9; go_simp; first | done | rfl
              clear HP12
              refine R_pure 13 rfl (by kernel_rfl) HP13 ?_
              apply Exists.intro
              refine ⟨fun _ _ _ h => h, .inl ⟨by kernel_rfl, fun w9 h9 => ?_⟩, fun HP14 => ?_⟩
              · clear h9; go_simp; first | done | rfl
              clear HP13
              refine R_pure 14 rfl (by kernel_rfl) HP14 ?_
              apply Exists.intro
              refine ⟨fun _ _ _ h => h, .inl ⟨by kernel_rfl, fun w9 h9 => ?_⟩, fun HP15 => ?_⟩
              · clear h9; go_simp; first | done | rfl
              clear HP14
              refine R_done (by kernel_rfl) ?_
              go_wp2
              go_roundw
              case rel => exact ⟨k + 1, qv3, lv3, s3, by omega, by go_num, T3, OK3, ⟨by have h1 := TN.out; have h2 := TN3.out; omega⟩⟩
              case measure => simp [intOf]; omega
            exact AllR.nil
          refine AllR.cons (i := 11) rfl (fun K9 HK9 => ?_) ?_
          · go_simp
            refine HK9.out _ _ (.inl (by kernel_rfl)) (fun HP16 => ?_)
            clear HK9 K9
            refine R_pure 12 rfl (by kernel_rfl) HP16 ?_
            apply Exists.intro
            refine ⟨fun _ _ _ h => h, .inl ⟨by kernel_rfl, fun w9 h9 => ?_⟩, fun HP17 => ?_⟩
            · clear h9; go_simp; first | done | rfl
            clear HP16
            refine R_all [7] (by kernel_rfl) ?_
            refine AllR.cons (i := 7) rfl (fun K9 HK9 => ?_) ?_
            · go_simp
              refine (wlen_any _ p _ _ _ T3.out.wh).mono ?_
              rintro e w6 ⟨rfl, rfl⟩
              go_simp
              refine HK9.out _ _ (.inl (by kernel_rfl)) (fun HP18 => ?_)
              clear HK9 K9
              refine R_pure 13 rfl (by kernel_rfl) HP18 ?_
              apply Exists.intro
              refine ⟨fun _ _ _ h => h, .inl ⟨by kernel_rfl, fun w9 h9 => ?_⟩, fun HP19 => ?_⟩
              · clear h9; go_simp; first | done | rfl
              clear HP18
              refine R_pure 14 rfl (by kernel_rfl) HP19 ?_
              apply Exists.intro
              refine ⟨fun _ _ _ h => h, .inl ⟨by kernel_rfl, fun w9 h9 => ?_⟩, fun HP20 => ?_⟩
              · clear h9; go_simp; first | done | rfl
              clear HP19
              refine R_done (by kernel_rfl) ?_
              go_wp2
              go_roundw
              case rel => exact ⟨k + 1, qv3, lv3, s3, by omega, by go_num, T3, OK3, ⟨by have h1 := TN.out; have h2 := TN3.out; omega⟩⟩
              case measure => simp [intOf]; omega
            exact AllR.nil
          exact AllR.nil
        exact AllR.nil
    · have hle : ¬ k < ops.length := hlt
      have RA := Kp.mk (rall_any wr q lv s.ts hT.out.rf (by have := OK.out.len; have := OK.out.tlen; omega) OK.out.sim.srt)
      go_wp2_with fail
      refine RA.out.mono ?_
      rintro e w3 ⟨A3, c3, R, rfl, hl3, ho3, _, hb3, hp3, hs3⟩
      have HB3 := Kp.mk (bstep hT.out.bel hT.out.bel.size hb3)
      have AL := Kp.mk (two_all (hT.out.below hb3) OK.out hp3 hs3 hl3.symm (ho3.src rfl))
      clear RA hl3 ho3 hb3 hp3 hs3
      go_wp2_with fail
      refine AL.out.mono ?_
      rintro e w4 ⟨rfl, hb4⟩
      have HB4 := Kp.mk (bstep HB3.out HB3.out.size hb4)
      clear hb4
      go_wp2_with (go_at_call 12; refine (awake_any _).mono ?_; rintro e w5 ⟨rfl, hb5⟩; have HB5 := Kp.mk hb5; clear hb5)
      go_ret
      exact ⟨rfl, bstep HB4.out HB4.out.size HB5.out⟩
end Go.Proofs.Ytobgabjoehjpcaa
