/- TimerInTime walked: it answers true; its bounds stand in the statement. -/
import Derived.Test.YtobgabjoehjpcaaTp
namespace Go.Proofs.Ytobgabjoehjpcaa
open Go.RowKit

theorem in_due {l ts : List Ent} {tn : Int} (h : Sim l ts tn) (now : Int) (x : Ent) (hx : x ∈ (dueL l now).1) : x ∈ ts ∧ x.dl ≤ now ∧ whenE (dueL l now).2 x.ref = 5 := by
  obtain ⟨h1, h2, h3⟩ := h.due now
  have a1 := List.mem_filter.1 (h1.mem_iff.1 hx)
  refine ⟨a1.1, by simpa using a1.2, ?_⟩
  unfold whenE
  rw [if_neg]
  rintro ⟨j, hj, hr⟩
  have a2 := List.mem_filter.1 (h3.perm.mem_iff.1 (gt_mem _ j hj))
  have e := ref_inj h.refs a2.1 a1.1 hr
  have b1 := a1.2
  have b2 := a2.2
  rw [e] at b2
  simp at b1 b2
  omega
theorem when_at {ts : List Ent} (h : ts.Pairwise (fun a b => a.ref ≠ b.ref)) {x : Ent} (hx : x ∈ ts) : whenE ts x.ref = 0 ∧ ∀ i, i < ts.length → (gt ts i).ref = x.ref → (gt ts i).dl = x.dl := by
  refine ⟨?_, fun i hi hr => by rw [ref_inj h (gt_mem ts i hi) hx hr]⟩
  obtain ⟨k, hk, he⟩ := mem_gt hx
  unfold whenE
  rw [if_pos ⟨k, hk, by rw [he]⟩]
theorem due_len {l ts : List Ent} {tn : Int} (h : Sim l ts tn) (now : Int) : (dueL l now).1.length + (dueL l now).2.length = ts.length := by
  have q1 := (due_spec _ l now rfl h.heap h.tn).1.length_eq
  rw [List.length_append, h.perm.length_eq] at q1
  exact q1
theorem next_after {l ts : List Ent} {tn : Int} (h : Sim l ts tn) (now : Int) : (nextE (dueL l now).2 = 5 ∧ (dueL l now).2.length = 0) ∨ (nextE (dueL l now).2 = 0 ∧ now < nextV (dueL l now).2) := by
  by_cases h0 : (dueL l now).2 = []
  · exact .inl ⟨by unfold nextE; rw [if_pos h0], by rw [h0]; rfl⟩
  · refine .inr ⟨by unfold nextE; rw [if_neg h0], ?_⟩
    unfold nextV
    rw [if_neg h0]
    exact (due_spec _ l now rfl h.heap h.tn).2.2.2.1 _ (gt_mem _ 0 (List.length_pos_iff.2 h0))
set_option maxRecDepth 100000 in
set_option maxHeartbeats 8000000 in
theorem intime_any (w : World) (ops : List OpM) (now : Int) (A : Option Addr) (c : Nat) (hs : Src w eOp A c ops) (hn : ops.length ≤ 9000000000000) :
    Calls Try.prog 6 #[.slice A ops.length c, .int .i64 now] w fun e w' => e = .returned (.bool true) ∧ Below w.heap.size w w' := by
  have L1 := Kp.mk (laid_any w ops A c hs hn)
  clear hs
  go_enter Try.func6, Try.ntmps6
  go_wp2_with fail
  refine L1.out.mono ?_
  rintro e w1 ⟨p, q, qv, lv, rfl, hT1⟩
  obtain ⟨S, hS⟩ : ∃ S, S = setAll ms0 ops := ⟨_, rfl⟩
  rw [← hS] at hT1
  have OK : Kp (Ok S) := ⟨by rw [hS]; exact setAll_ok _ Ok.nil _⟩
  have DU := Kp.mk (due_any w1 p qv S.l S.tn now hT1.wh (by have := OK.out.len; omega))
  have T1 := Kp.mk hT1
  clear hT1 hS L1 hn
  go_wp2_with fail
  refine DU.out.mono ?_
  rintro e w2 (⟨he, rfl, rfl⟩ | ⟨he, A1, c1, rfl, o1, f1, qv2, h2, s2, c2⟩)
  · have hcase : now < 0 ∨ (¬ now < 0 ∧ 1152921504606846976 < now) := by
      unfold dueE at he
      split at he
      · omega
      · cases he
    have RA := Kp.mk (two_rall T1.out OK.out)
    clear he DU
    rcases hcase with hc | ⟨hc, hc2⟩
    · have hd1 : decide (now < 0) = true := by simpa using hc
      go_wp2_with fail
      refine RA.out.mono ?_
      rintro e w3 ⟨A3, c3, R, rfl, hl3, ho3, _, hb3, hp3, hs3⟩
      have HB3 := Kp.mk (bstep T1.out.bel T1.out.bel.size hb3)
      have AL := Kp.mk (two_all (T1.out.below hb3) OK.out hp3 hs3 hl3.symm (ho3.src rfl))
      clear RA hl3 ho3 hb3 hp3 hs3
      go_wp2_with fail
      refine AL.out.mono ?_
      rintro e w4 ⟨rfl, hb4⟩
      have HB4 := Kp.mk (bstep HB3.out HB3.out.size hb4)
      clear hb4
      go_wp2_with (go_at_call 12; refine (awake_any _).mono ?_; rintro e w5 ⟨rfl, hb5⟩; have HB5 := Kp.mk hb5; clear hb5)
      go_ret
      exact ⟨rfl, bstep HB4.out HB4.out.size HB5.out⟩
    · have hd1 : decide (now < 0) = false := by simpa using hc
      have hd2 : decide (1152921504606846976 < now) = true := by simpa using hc2
      go_wp2_with fail
      refine RA.out.mono ?_
      rintro e w3 ⟨A3, c3, R, rfl, hl3, ho3, _, hb3, hp3, hs3⟩
      have HB3 := Kp.mk (bstep T1.out.bel T1.out.bel.size hb3)
      have AL := Kp.mk (two_all (T1.out.below hb3) OK.out hp3 hs3 hl3.symm (ho3.src rfl))
      clear RA hl3 ho3 hb3 hp3 hs3
      go_wp2_with fail
      refine AL.out.mono ?_
      rintro e w4 ⟨rfl, hb4⟩
      have HB4 := Kp.mk (bstep HB3.out HB3.out.size hb4)
      clear hb4
      go_wp2_with (go_at_call 12; refine (awake_any _).mono ?_; rintro e w5 ⟨rfl, hb5⟩; have HB5 := Kp.mk hb5; clear hb5)
      go_ret
      exact ⟨rfl, bstep HB4.out HB4.out.size HB5.out⟩
  · obtain ⟨D, hD⟩ : ∃ D, D = (dueL S.l now).1 := ⟨_, rfl⟩
    obtain ⟨Z, hZ⟩ : ∃ Z, Z = (dueL S.l now).2 := ⟨_, rfl⟩
    have hin := in_due OK.out.sim now
    have hln := due_len OK.out.sim now
    have hnx := next_after OK.out.sim now
    rw [← hD, ← hZ] at hin
    rw [← hD, ← hZ] at hln
    rw [← hZ] at hnx
    rw [← hD] at o1
    rw [← hZ] at h2
    rw [← hD]
    have HIN := Kp.mk hin
    have HLN := Kp.mk hln
    have HNX := Kp.mk hnx
    have O1 := Kp.mk o1
    have W2 := Kp.mk h2
    have R2 := Kp.mk (T1.out.rf.apart T1.out.wh c2)
    have B2 := Kp.mk (chg_below T1.out.bel c2 T1.out.fw T1.out.bel.size)
    have hrl : Kp (eRef D = D.map (·.ref)) := ⟨rfl⟩
    have hts : Kp (S.ts.length ≤ 256) := ⟨by have := OK.out.len; have := OK.out.tlen; omega⟩
    obtain ⟨A3, c3, hlv, _⟩ := (T1.out.rf.apart T1.out.wh c2).own.shape
    have HLV := Kp.mk hlv
    clear he o1 f1 h2 s2 c2 hin hln hnx hD hZ DU T1 hlv
    go_wp2_with fail
    go_loopw [10, 11, 12, 13, 14, 54] (fun _ _ _ _ _ i wr => ∃ k : Nat, k ≤ D.length ∧ i = .int .i64 k ∧ Kp (Below w2.heap.size w2 wr)) (fun _ _ _ _ _ i _ => D.length - (intOf i).toNat)
    case atStart => exact ⟨0, Nat.zero_le _, rfl, ⟨Below.refl _ _⟩⟩
    case round =>
      obtain ⟨k, hk, rfl, HB⟩ := hrel
      by_cases hlt : k < D.length
      · have ho := O1.out.below HB.out
        obtain ⟨x, hx⟩ : ∃ x, x = D[k] := ⟨_, rfl⟩
        have hxm : x ∈ D := by rw [hx]; exact List.getElem_mem _
        obtain ⟨A9, c9, hv9, _, _, hs0, hs1⟩ := ho.shape
        obtain ⟨g, rfl⟩ : ∃ g, A1 = some ⟨g, 0, none⟩ := by
          have ea : A1 = A9 := by injection hv9
          cases hA : A9 with
          | none => have h1 := (hs0 hA).1; have h2 : D.length = 0 := by have := congrArg List.length h1; simpa [eRef] using this
                    omega
          | some y => obtain ⟨g, rfl⟩ := hs1 y hA; exact ⟨g, by rw [ea, hA]⟩
        have q0 : wr.cell? ⟨g, k, none⟩ = some (.int .i64 x.ref) := by
          have h1 := ho.elem k 0 (by simpa [eRef] using hlt) (by decide)
          simpa [eI64, eRef, ← hx] using h1
        have k0 : (0 : Int) ≤ (k : Int) := by omega
        have k1 : (k : Int) < (D.length : Int) := by omega
        have k2 : (k : Int) < 256 := by have := HLN.out; have := hts.out; omega
        obtain ⟨i1, i2, i3⟩ := HIN.out x hxm
        obtain ⟨j1, j2⟩ := when_at OK.out.sim.refs i1
        have W1 := Kp.mk (W2.out.below HB.out)
        have HI3 := Kp.mk i3
        have HJ2 := Kp.mk j2
        have HJ1 := Kp.mk j1
        have RW := Kp.mk (rwhen_any wr q lv S.ts x.ref (R2.out.below HB.out) (by have := hts.out; omega))
        have hnow : ¬ now < x.dl := by omega
        have hnowd : decide (now < x.dl) = false := by simpa using hnow
        clear ho hx hxm hv9 hs0 hs1 i1 i3 j1 j2
        go_wp2_with fail
        refine RW.out.mono ?_
        rintro e w4 ⟨d, rfl, hd, hb4⟩
        rcases hd with ⟨he, _⟩ | ⟨he, i, hi, hri, _, hdd⟩
        · exfalso
          rw [HJ1.out] at he
          cases he
        rw [he, hdd, HJ2.out i hi hri]
        have PW := Kp.mk (when_any w4 p qv2 Z S.tn x.ref (W1.out.below hb4) (by have := HLN.out; have := hts.out; omega))
        have HB4 := Kp.mk (bstep HB.out HB.out.size hb4)
        clear he hi hri hdd hb4 RW HJ2 HJ1
        go_wp2_with fail
        refine PW.out.mono ?_
        rintro e w5 ⟨d5, rfl, hd5, hb5⟩
        rw [HI3.out]
        have HB5 := Kp.mk (bstep HB4.out HB4.out.size hb5)
        clear hd5 hb5 PW
        go_wp2
        go_roundw
        case rel => exact ⟨k + 1, by omega, by go_num, HB5⟩
        case measure => simp [intOf]; omega
      · have hle : ¬ k < D.length := hlt
        have W1 := Kp.mk (W2.out.below HB.out)
        have hq3 := (R2.out.below HB.out).c0
        have R1 := Kp.mk (R2.out.below HB.out)
        rw [HLV.out] at hq3
        have hsum : D.length + Z.length = S.ts.length := HLN.out
        have hsumI : (D.length : Int) + (Z.length : Int) = (S.ts.length : Int) := by omega
        have hn3b : S.ts.length ≤ 256 := hts.out
        have hwr : IntKind.i64.wrap (S.ts.length : Int) = (S.ts.length : Int) := by rw [IntKind.wrap_i64]; omega
        have hqlt := lt_of_block R1.out.blk
        have HQ3 := Kp.mk hq3
        have HBt := Kp.mk (bstep B2.out B2.out.size HB.out)
        clear hk hlt
        go_upto_region 15 with fail
        refine R_begin 999 (fun w9 => w9.cell? ⟨q, 0, none⟩ = some (.slice A3 S.ts.length c3)) (by kernel_rfl) HQ3.out (fun HP0 => ?_)
        refine R_pure 0 rfl (by kernel_rfl) HP0 ?_
        apply Exists.intro
        refine ⟨fun _ _ _ h => h, .inl ⟨by kernel_rfl, fun w9 h9 => ?_⟩, fun HP1 => ?_⟩
        · clear h9; go_simp; first | done | rfl
        clear HP0
        refine R_pure 1 rfl (by kernel_rfl) HP1 ?_
        apply Exists.intro
        refine ⟨fun _ _ _ h => h, .inl ⟨by kernel_rfl, fun w9 h9 => ?_⟩, fun HP2 => ?_⟩
        · clear h9; go_simp; first | done | rfl
        clear HP1
        refine R_pure 2 rfl (by kernel_rfl) HP2 ?_
        apply Exists.intro
        refine ⟨fun _ _ _ h => h, .inl ⟨by kernel_rfl, fun w9 h9 => ?_⟩, fun HP3 => ?_⟩
        · clear h9; go_simp; first | done | rfl
        clear HP2
        refine R_pure 5 rfl (by kernel_rfl) HP3 ?_
        apply Exists.intro
        refine ⟨fun _ _ _ h => h, .inl ⟨by kernel_rfl, fun w9 h9 => ?_⟩, fun HP4 => ?_⟩
        · clear h9; go_simp; first | done | rfl
        clear HP3
        refine R_pure 6 rfl (by kernel_rfl) HP4 ?_
        apply Exists.intro
        refine ⟨fun _ _ _ h => h, .inl ⟨by kernel_rfl, fun w9 h9 => ?_⟩, fun HP5 => ?_⟩
        · clear h9; go_simp; first | done | rfl
        clear HP4
        refine R_pure 7 rfl (by kernel_rfl) HP5 ?_
        apply Exists.intro
        refine ⟨fun _ _ _ h => h, .inl ⟨by kernel_rfl, fun w9 h9 => ?_⟩, fun HP6 => ?_⟩
        · clear h9; go_simp; first | done | rfl
        clear HP5
        refine R_take 8 rfl (by kernel_rfl) HP6 ?_
        apply Exists.intro
        refine ⟨fun _ _ _ h => h, .inl ⟨by kernel_rfl, fun w9 h9 => ?_⟩, fun HP7 => ?_⟩
        · obtain s1 := h9; go_simp; first | done | rfl
        clear HP6
        refine R_pure 9 rfl (by kernel_rfl) HP7 ?_
        apply Exists.intro
        refine ⟨fun _ _ _ h => h, .inl ⟨by kernel_rfl, fun w9 h9 => ?_⟩, fun HP8 => ?_⟩
        · clear h9; go_simp; first | done | rfl
        clear HP7
        refine R_all [3] (by kernel_rfl) ?_
        refine AllR.cons (i := 3) rfl (fun K9 HK9 => ?_) ?_
        · go_simp
          refine (wlen_any _ p _ _ _ W1.out.drew).mono ?_
          rintro e w6 ⟨rfl, rfl⟩
          go_simp
          refine HK9.out _ _ (.inr HQ3.out) (fun HP9 => ?_)
          clear HK9 K9
          refine R_pure 4 rfl (by kernel_rfl) HP9 ?_
          apply Exists.intro
          refine ⟨fun _ _ _ h => h, .inl ⟨by kernel_rfl, fun w9 h9 => ?_⟩, fun HP10 => ?_⟩
          · clear h9; go_simp; first | done | rfl
          clear HP9
          refine R_pure 10 rfl (by kernel_rfl) HP10 ?_
          apply Exists.intro
          refine ⟨fun _ _ _ h => h, .inl ⟨by kernel_rfl, fun w9 h9 => ?_⟩, fun HP11 => ?_⟩
          · clear h9; go_simp; first | done | rfl
          clear HP10
          refine R_done (by kernel_rfl) ?_
          go_wp2_with fail
          refine (next_any _ p _ _ _ W1.out.drew).mono ?_
          rintro e w7 ⟨rfl, rfl⟩
          rcases HNX.out with ⟨u1, u2⟩ | ⟨u1, u2⟩
          · rw [u1]
            go_wp2_with (first
              | (go_at_call 24; refine (wlen_any _ p _ _ _ W1.out.drew).mono ?_; rintro e w8 ⟨rfl, rfl⟩; rw [u2])
              | (go_at_call 12; refine (awake_any _).mono ?_; rintro e w8 ⟨rfl, hb8⟩; have HB8 := Kp.mk hb8; clear hb8))
            go_ret
            exact ⟨rfl, HBt.out.drew.trans (HB8.out.mono HBt.out.size)⟩
          · rw [u1]
            have u3 : decide (now < nextV Z) = true := by simpa using u2
            go_wp2_with (go_at_call 12; refine (awake_any _).mono ?_; rintro e w8 ⟨rfl, hb8⟩; have HB8 := Kp.mk hb8; clear hb8)
            go_ret
            exact ⟨rfl, HBt.out.drew.trans (HB8.out.mono HBt.out.size)⟩
        exact AllR.nil
end Go.Proofs.Ytobgabjoehjpcaa
