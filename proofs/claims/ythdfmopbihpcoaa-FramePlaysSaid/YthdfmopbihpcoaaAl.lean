/- What alike of the package's law answers; bounds stand in each statement. -/
import Derived.Test.YthdfmopbihpcoaaSx
namespace Go.Proofs.Ythdfmopbihpcoaa
open Go.RowKit
variable {B : Bd}

set_option maxRecDepth 100000 in
set_option maxHeartbeats 4000000 in
theorem alike_any (w : World) (p q : Nat) (s : StM) (h : Bo B w p q s) :
    Calls Try.prog 23 #[.pointer (some ⟨p, 0, none⟩), .pointer (some ⟨q, 0, none⟩)] w (StepPost B w p q s) := by
  have h1 := h.below (Below.refl _ w).drew
  have HB1 := Kp.mk h1
  obtain ⟨fv, rr, hr⟩ := h1.rf
  obtain ⟨Ar, cr, hv, _⟩ := hr.f.shape
  have hb0 : Bel B w w.drew := (Bel.refl w).drew
  have hcq : w.drew.cell? ⟨q, 32, none⟩ = some (.slice Ar s.fs.length cr) := by rw [blk_c hr.blk, ← hr.len, ← hv]; exact StR_f _ _ hr.x16
  have HR := Kp.mk hr
  have HCQ := Kp.mk hcq
  have HB0 := Kp.mk hb0
  clear h h1 hb0 hr hv hcq
  go_enter Try.func23, Try.ntmps23
  go_upto_region 1 with fail
  have ST0 := Kp.mk HB1.out.st
  have I0 := HR
  have B0 := HB0
  have CQ : Kp (∀ w', IsRf B w' q fv s rr → w'.cell? ⟨q, 32, none⟩ = some (.slice Ar s.fs.length cr)) := ⟨fun w' h => by
    obtain ⟨A2, c2, hv2, _⟩ := HR.out.f.shape
    have h0 := HCQ.out
    rw [blk_c HR.out.blk, StR_f _ _ HR.out.x16] at h0
    rw [blk_c h.blk, StR_f _ _ h.x16]
    exact h0⟩
  refine R_begin 999 (fun w9 => w9.cell? ⟨q, 32, none⟩ = some (.slice Ar s.fs.length cr)) (by kernel_rfl) HCQ.out (fun HP0 => ?_)
  refine R_pure 0 rfl (by kernel_rfl) HP0 ?_
  apply Exists.intro
  refine ⟨fun _ _ _ h => h, .inl ⟨by kernel_rfl, fun w9 h9 => ?_⟩, fun HP1 => ?_⟩
  · clear h9; go_simp; first | done | rfl
  clear HP0
  refine R_pure 2 rfl (by kernel_rfl) HP1 ?_
  apply Exists.intro
  refine ⟨fun _ _ _ h => h, .inl ⟨by kernel_rfl, fun w9 h9 => ?_⟩, fun HP2 => ?_⟩
  · clear h9; go_simp; first | done | rfl
  clear HP1
  refine R_pure 3 rfl (by kernel_rfl) HP2 ?_
  apply Exists.intro
  refine ⟨fun _ _ _ h => h, .inl ⟨by kernel_rfl, fun w9 h9 => ?_⟩, fun HP3 => ?_⟩
  · clear h9; go_simp; first | done | rfl
  clear HP2
  refine R_pure 4 rfl (by kernel_rfl) HP3 ?_
  apply Exists.intro
  refine ⟨fun _ _ _ h => h, .inl ⟨by kernel_rfl, fun w9 h9 => ?_⟩, fun HP4 => ?_⟩
  · clear h9; go_simp; first | done | rfl
  clear HP3
  refine R_take 5 rfl (by kernel_rfl) HP4 ?_
  apply Exists.intro
  refine ⟨fun _ _ _ h => h, .inl ⟨by kernel_rfl, fun w9 h9 => ?_⟩, fun HP5 => ?_⟩
  · obtain s1 := h9; go_simp; first | done | rfl
  clear HP4
  refine R_pure 6 rfl (by kernel_rfl) HP5 ?_
  apply Exists.intro
  refine ⟨fun _ _ _ h => h, .inl ⟨by kernel_rfl, fun w9 h9 => ?_⟩, fun HP6 => ?_⟩
  · clear h9; go_simp; first | done | rfl
  clear HP5
  refine R_all [1] (by kernel_rfl) ?_
  refine AllR.cons (i := 1) rfl (fun K9 HK9 => ?_) ?_
  · go_simp
    refine (s_depth _ p s ST0.out).mono ?_
    rintro e w5 ⟨rfl, rfl⟩
    go_simp
    refine HK9.out _ _ (.inr HCQ.out) (fun HP7 => ?_)
    clear HK9 K9
    refine R_pure 7 rfl (by kernel_rfl) HP7 ?_
    apply Exists.intro
    refine ⟨fun _ _ _ h => h, .inl ⟨by kernel_rfl, fun w9 h9 => ?_⟩, fun HP8 => ?_⟩
    · clear h9; go_simp; first | done | rfl
    clear HP7
    refine R_pure 8 rfl (by kernel_rfl) HP8 ?_
    apply Exists.intro
    refine ⟨fun _ _ _ h => h, .inl ⟨by kernel_rfl, fun w9 h9 => ?_⟩, fun HP9 => ?_⟩
    · clear h9; go_simp; first | done | rfl
    clear HP8
    refine R_pure 9 rfl (by kernel_rfl) HP9 ?_
    apply Exists.intro
    refine ⟨fun _ _ _ h => h, .inl ⟨by kernel_rfl, fun w9 h9 => ?_⟩, fun HP10 => ?_⟩
    · clear h9; go_simp; first | done | rfl
    clear HP9
    refine R_pure 11 rfl (by kernel_rfl) HP10 ?_
    apply Exists.intro
    refine ⟨fun _ _ _ h => h, .inl ⟨by kernel_rfl, fun w9 h9 => ?_⟩, fun HP11 => ?_⟩
    · clear h9; go_simp; first | done | rfl
    clear HP10
    refine R_all [10] (by kernel_rfl) ?_
    refine AllR.cons (i := 10) rfl (fun K9 HK9 => ?_) ?_
    · go_simp
      refine (s_size _ p s ST0.out HB1.out.inv).mono ?_
      rintro e w6 ⟨rfl, hb⟩
      have ST1 := Kp.mk (ST0.out.below hb)
      have I1 := Kp.mk (I0.out.below hb)
      have B1 := Kp.mk (B0.out.trans (bel hb ST0.out.le))
      clear hb
      go_simp
      refine HK9.out _ _ (.inr (CQ.out _ I1.out)) (fun HP12 => ?_)
      clear HK9 K9
      refine R_all [12] (by kernel_rfl) ?_
      refine AllR.cons (i := 12) rfl (fun K9 HK9 => ?_) ?_
      · go_simp
        refine (rsize_any _ q fv s rr I1.out (by have := HB1.out.inv.n; omega)).mono ?_
        rintro e w7 ⟨rfl, hb⟩
        have ST2 := Kp.mk (ST1.out.below hb)
        have I2 := Kp.mk (I1.out.below hb)
        have B2 := Kp.mk (B1.out.trans (bel hb ST1.out.le))
        clear hb
        go_simp
        refine HK9.out _ _ (.inr (CQ.out _ I2.out)) (fun HP13 => ?_)
        clear HK9 K9
        refine R_pure 13 rfl (by kernel_rfl) HP13 ?_
        apply Exists.intro
        refine ⟨fun _ _ _ h => h, .inl ⟨by kernel_rfl, fun w9 h9 => ?_⟩, fun HP14 => ?_⟩
        · clear h9; go_simp; first | done | rfl
        clear HP13
        refine R_pure 14 rfl (by kernel_rfl) HP14 ?_
        apply Exists.intro
        refine ⟨fun _ _ _ h => h, .inl ⟨by kernel_rfl, fun w9 h9 => ?_⟩, fun HP15 => ?_⟩
        · clear h9; go_simp; first | done | rfl
        clear HP14
        refine R_pure 15 rfl (by kernel_rfl) HP15 ?_
        apply Exists.intro
        refine ⟨fun _ _ _ h => h, .inl ⟨by kernel_rfl, fun w9 h9 => ?_⟩, fun HP16 => ?_⟩
        · clear h9; go_simp; first | done | rfl
        clear HP15
        refine R_pure 16 rfl (by kernel_rfl) HP16 ?_
        apply Exists.intro
        refine ⟨fun _ _ _ h => h, .inl ⟨by kernel_rfl, fun w9 h9 => ?_⟩, fun HP17 => ?_⟩
        · clear h9; go_simp; first | done | rfl
        clear HP16
        refine R_pure 18 rfl (by kernel_rfl) HP17 ?_
        apply Exists.intro
        refine ⟨fun _ _ _ h => h, .inl ⟨by kernel_rfl, fun w9 h9 => ?_⟩, fun HP18 => ?_⟩
        · clear h9; go_simp; first | done | rfl
        clear HP17
        refine R_all [17] (by kernel_rfl) ?_
        refine AllR.cons (i := 17) rfl (fun K9 HK9 => ?_) ?_
        · go_simp
          refine (s_all _ p s ST2.out HB1.out.inv).mono ?_
          rintro e w8 ⟨Aw, cw, rfl, ow, _, hb⟩
          have ST3 := Kp.mk (ST2.out.below hb)
          have I3 := Kp.mk (I2.out.below hb)
          have B3 := Kp.mk (B2.out.trans (bel hb ST2.out.le))
          have OW3 := Kp.mk ow
          clear hb ow
          go_simp
          refine HK9.out _ _ (.inr (CQ.out _ I3.out)) (fun HP19 => ?_)
          clear HK9 K9
          refine R_all [19] (by kernel_rfl) ?_
          refine AllR.cons (i := 19) rfl (fun K9 HK9 => ?_) ?_
          · go_simp
            refine (rall_any _ q fv s rr I3.out (by have := HB1.out.inv.n; omega) (by have := HB1.out.inv.all; omega)).mono ?_
            rintro e w10 ⟨Ax, cx, rfl, ox, _, hb⟩
            have ST4 := Kp.mk (ST3.out.below hb)
            have I4 := Kp.mk (I3.out.below hb)
            have B4 := Kp.mk (B3.out.trans (bel hb ST3.out.le))
            have OW4 := Kp.mk (OW3.out.frame (Chg.of_below hb NoF) (fun _ _ h => h))
            have OX4 := Kp.mk ox
            clear hb ox
            go_simp
            refine HK9.out _ _ (.inr (CQ.out _ I4.out)) (fun HP20 => ?_)
            clear HK9 K9
            refine R_all [20] (by kernel_rfl) ?_
            refine AllR.cons (i := 20) rfl (fun K9 HK9 => ?_) ?_
            · go_simp
              refine (words_eq _ (onW (cellsOf s)) Aw Ax cw cx (OW4.out.src rfl) (OX4.out.src rfl) (by have := onW_1040 HB1.out.inv; omega)).mono ?_
              rintro e w11 ⟨rfl, hb⟩
              have ST5 := Kp.mk (ST4.out.below hb)
              have I5 := Kp.mk (I4.out.below hb)
              have B5 := Kp.mk (B4.out.trans (bel hb ST4.out.le))
              clear hb
              go_simp
              refine HK9.out _ _ (.inr (CQ.out _ I5.out)) (fun HP21 => ?_)
              clear HK9 K9
              refine R_pure 21 rfl (by kernel_rfl) HP21 ?_
              apply Exists.intro
              refine ⟨fun _ _ _ h => h, .inl ⟨by kernel_rfl, fun w9 h9 => ?_⟩, fun HP22 => ?_⟩
              · clear h9; go_simp; first | done | rfl
              clear HP21
              refine R_pure 22 rfl (by kernel_rfl) HP22 ?_
              apply Exists.intro
              refine ⟨fun _ _ _ h => h, .inl ⟨by kernel_rfl, fun w9 h9 => ?_⟩, fun HP23 => ?_⟩
              · clear h9; go_simp; first | done | rfl
              clear HP22
              refine R_done (by kernel_rfl) ?_
              go_wp2
              go_ret
              exact ⟨rfl, ⟨ST5.out, ⟨_, _, I5.out⟩, HB1.out.inv⟩, B5.out⟩
            exact AllR.nil
          exact AllR.nil
        exact AllR.nil
      exact AllR.nil
    exact AllR.nil
  exact AllR.nil
end Go.Proofs.Ythdfmopbihpcoaa
