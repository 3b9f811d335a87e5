/- LinksFull walked: it answers true; the number of its call is an int64. -/
import Derived.Test.YtlbbheopoflmjaaLl
namespace Go.Proofs.Ytlbbheopoflmjaa
open Go.RowKit

set_option maxRecDepth 100000 in
set_option maxHeartbeats 16000000 in
theorem linksFull_any (w : World) (n : Int) (x : OpM) (hr : In64 x.ref) :
    Calls Try.prog 3 #[.int .i64 n, .agg #[.int .i64 x.kind, .int .i64 x.a, .int .i64 x.b, .int .i64 x.ref]] w fun e w' => e = .returned (.bool true) ∧ Below w.heap.size w w' := by
  have HR := Kp.mk hr
  have hbx : Below w.heap.size w (w.alloc (.cells #[.int .i64 x.kind, .int .i64 x.a, .int .i64 x.b, .int .i64 x.ref] 23)) := (Below.refl _ _).alloc (Nat.le_refl _) _
  have HBX := Kp.mk hbx
  have HX := Kp.mk (blk_new w (.cells #[.int .i64 x.kind, .int .i64 x.a, .int .i64 x.b, .int .i64 x.ref] 23))
  obtain ⟨wx, hwx⟩ : ∃ wx, wx = w.alloc (.cells #[.int .i64 x.kind, .int .i64 x.a, .int .i64 x.b, .int .i64 x.ref] 23) := ⟨_, rfl⟩
  have HWX := Kp.mk hwx
  clear hr hbx hwx
  go_enter Try.func3, Try.ntmps3
  go_wp2_with fail
  rw [← HWX.out]
  refine (new_any wx).mono ?_
  rintro e w1 ⟨p, bm, lm, rm, rfl, h1, hf, hb1⟩
  have T0 := Kp.mk (two_new h1 hf hb1)
  obtain ⟨q, hq⟩ : ∃ q, q = w1.heap.size := ⟨_, rfl⟩
  rw [← hq] at T0
  have HQ := Kp.mk hq
  clear h1 hf hb1 hq
  go_wp2_with (go_at_call 10; refine (count_any _ n).mono ?_; rintro e w' ⟨⟨m, hm, rfl⟩, rfl⟩)
  rw [← HQ.out]
  obtain ⟨M, hM⟩ : ∃ M : Nat, M = 1022 + m := ⟨_, rfl⟩
  have hMc : (1022 : Int) + (m : Int) = (M : Int) := by omega
  have hMb : M ≤ 1025 := by omega
  rw [hMc]
  clear hM hMc hm
  go_loopw [7] (fun i wr => ∃ (k : Nat) (lv : Value) (ns : List NB) (last : Int), k ≤ M ∧ i = .int .i64 k ∧ Kp (Two wx wr p bm lm rm q lv ns last) ∧ Kp (last ≤ k)) (fun i _ => M - (intOf i).toNat)
  case atStart => exact ⟨0, _, _, _, Nat.zero_le _, rfl, T0, ⟨Int.le_refl _⟩⟩
  case round =>
    clear T0
    obtain ⟨k, lv, ns, last, hk, rfl, hT, TN⟩ := hrel
    by_cases hlt : k < M
    · have k0 : (0 : Int) ≤ (k : Int) := by omega
      have k1 : (k : Int) < (M : Int) := by omega
      have HLE := Kp.mk (lastOf_le ns last ⟨2, 1, (k : Int) + 2, (k : Int) + 1⟩)
      have HW := Kp.mk (watch_any wr p bm lm rm ns last ((k : Int) + 1) 1 ((k : Int) + 2) hT.out.g (by have := TN.out; omega))
      have hdd : (watchE ns ((k : Int) + 1) 1 ((k : Int) + 2) != watchE ns ((k : Int) + 1) 1 ((k : Int) + 2)) = false := by simp
      obtain ⟨E, hE⟩ : ∃ E, E = watchE ns ((k : Int) + 1) 1 ((k : Int) + 2) := ⟨_, rfl⟩
      rw [← hE] at hdd
      have HE := Kp.mk hE
      clear hE
      go_wp2_with (first
        | (go_at_call 11; refine HW.out.mono ?_; rintro e w5 ⟨rfl, c5, h5⟩; rw [← HE.out]; have C5 := Kp.mk c5; have H5 := Kp.mk h5; have D5 := Kp.mk (hT.out.dturn c5); clear c5 h5)
        | (go_at_call 12; refine (dwatchG_any _ q lv (sn ns) ((k : Int) + 1) 1 ((k : Int) + 2) D5.out (by have := hT.out.g.ok.n1024; omega)).mono ?_; rintro e w6 ⟨rfl, h6⟩; rw [watchE_eq hT.out.g.ok, ← HE.out]; have H6 := Kp.mk h6; clear h6))
      have T6 : Kp (∃ lv', Two wx w6 p bm lm rm q lv' (nsOf ns last ⟨2, 1, (k : Int) + 2, (k : Int) + 1⟩) (lastOf ns last ⟨2, 1, (k : Int) + 2, (k : Int) + 1⟩)) := ⟨by
        rcases H5.out with ⟨e0, h5⟩ | ⟨e0, h5⟩
        · have e1 : nsOf ns last ⟨2, 1, (k : Int) + 2, (k : Int) + 1⟩ = ns ∧ lastOf ns last ⟨2, 1, (k : Int) + 2, (k : Int) + 1⟩ = last := by simp [nsOf, lastOf, e0]
          rw [e1.1, e1.2]
          exact hT.out.step C5.out h5 H6.out (by rw [watchL_eq hT.out.g.ok, if_neg e0])
        · have e1 : nsOf ns last ⟨2, 1, (k : Int) + 2, (k : Int) + 1⟩ = watchN ns last ((k : Int) + 1) 1 ((k : Int) + 2) ∧ lastOf ns last ⟨2, 1, (k : Int) + 2, (k : Int) + 1⟩ = last + 1 := by simp [nsOf, lastOf, e0]
          rw [e1.1, e1.2]
          exact hT.out.step C5.out h5 H6.out (by rw [watchL_eq hT.out.g.ok, if_pos e0])⟩
      obtain ⟨lv', hT6⟩ := T6.out
      have T7 := Kp.mk hT6
      clear T6 hT6
      go_roundw
      case rel => exact ⟨k + 1, lv', _, _, by omega, by go_num, T7, ⟨by have := HLE.out.1; have := TN.out; omega⟩⟩
      case measure => simp [intOf]; omega
    · obtain rfl : k = M := by omega
      have hxw : wr.heap[w.heap.size]? = some (.cells #[.int .i64 x.kind, .int .i64 x.a, .int .i64 x.b, .int .i64 x.ref] 23 (0, 0)) := by
        have h1 := HX.out
        rw [← HWX.out] at h1
        exact (hT.out.bel.block _ (lt_of_block h1)).trans h1
      have HXW := Kp.mk hxw
      have STP := Kp.mk (step_any wx _ p bm lm rm q lv ns last x (hT.out.below (Below.refl _ wr).drew) (by have := TN.out; omega) HR.out)
      have HLL : Kp (lastOf ns last x ≤ 900000000000000000) := ⟨by have := (lastOf_le ns last x).1; have := TN.out; omega⟩
      have xl := lt_of_block hxw
      clear hxw
      go_upto_region 10 with fail
      refine R_begin 3 (fun w9 => w9.cell? ⟨w.heap.size, 0, none⟩ = some (.int .i64 x.kind) ∧ w9.cell? ⟨w.heap.size, 1, none⟩ = some (.int .i64 x.a) ∧ w9.cell? ⟨w.heap.size, 2, none⟩ = some (.int .i64 x.b) ∧ w9.cell? ⟨w.heap.size, 3, none⟩ = some (.int .i64 x.ref)) (by kernel_rfl) ⟨blk_c HXW.out 0, blk_c HXW.out 1, blk_c HXW.out 2, blk_c HXW.out 3⟩ (fun HP0 => ?_)
      refine R_pure 0 rfl (by kernel_rfl) HP0 ?_
      apply Exists.intro
      refine ⟨fun _ _ _ h => h, .inl ⟨by kernel_rfl, fun w9 h9 => ?_⟩, fun HP1 => ?_⟩
      · clear h9; go_simp; first | done | rfl
      clear HP0
      refine R_pure 1 rfl (by kernel_rfl) HP1 ?_
      apply Exists.intro
      refine ⟨fun _ _ _ h => h, .inl ⟨by kernel_rfl, fun w9 h9 => ?_⟩, fun HP2 => ?_⟩
      · clear h9; go_simp; first | done | rfl
      clear HP1
      refine R_take 2 rfl (by kernel_rfl) HP2 ?_
      apply Exists.intro
      refine ⟨fun _ _ _ h => h, .inl ⟨by kernel_rfl, fun w9 h9 => ?_⟩, fun HP3 => ?_⟩
      · obtain ⟨s1, s2, s3, s4⟩ := h9; go_simp; first | done | rfl
      clear HP2
      refine R_all [3] (by kernel_rfl) ?_
      refine AllR.cons (i := 3) rfl (fun K9 HK9 => ?_) ?_
      · go_simp
        refine STP.out.mono ?_
        rintro e w5 ⟨rfl, lv', h5⟩
        have H5 := Kp.mk h5
        obtain ⟨Ad, cd, hvd, q5⟩ := h5.d.sh
        have HVD := Kp.mk hvd
        obtain ⟨N, hN⟩ : ∃ N, N = (sn (nsOf ns last x)).length := ⟨_, rfl⟩
        rw [← hN] at q5
        have HNN := Kp.mk hN
        have EA := Kp.mk (every_all h5.g HLL.out)
        have ql5 := h5.d.lt
        clear h5 hvd hN
        go_simp
        refine HK9.out _ _ (.inl (by kernel_rfl)) (fun HP4 => ?_)
        clear HK9 K9
        refine R_pure 4 rfl (by kernel_rfl) HP4 ?_
        apply Exists.intro
        refine ⟨fun _ _ _ h => h, .inl ⟨by kernel_rfl, fun w9 h9 => ?_⟩, fun HP5 => ?_⟩
        · clear h9; go_simp; first | done | rfl
        clear HP4
        refine R_pure 5 rfl (by kernel_rfl) HP5 ?_
        apply Exists.intro
        refine ⟨fun _ _ _ h => h, .inl ⟨by kernel_rfl, fun w9 h9 => ?_⟩, fun HP6 => ?_⟩
        · clear h9; go_simp; first | done | rfl
        clear HP5
        refine R_pure 7 rfl (by kernel_rfl) HP6 ?_
        apply Exists.intro
        refine ⟨fun _ _ _ h => h, .inl ⟨by kernel_rfl, fun w9 h9 => ?_⟩, fun HP7 => ?_⟩
        · clear h9; go_simp; first | done | rfl
        clear HP6
        refine R_pure 8 rfl (by kernel_rfl) HP7 ?_
        apply Exists.intro
        refine ⟨fun _ _ _ h => h, .inl ⟨by kernel_rfl, fun w9 h9 => ?_⟩, fun HP8 => ?_⟩
        · clear h9; go_simp; first | done | rfl
        clear HP7
        refine R_pure 9 rfl (by kernel_rfl) HP8 ?_
        apply Exists.intro
        refine ⟨fun _ _ _ h => h, .inl ⟨by kernel_rfl, fun w9 h9 => ?_⟩, fun HP9 => ?_⟩
        · clear h9; go_simp; first | done | rfl
        clear HP8
        refine R_all [6, 10] (by kernel_rfl) ?_
        refine AllR.cons (i := 6) rfl (fun K9 HK9 => ?_) ?_
        · go_simp
          refine EA.out.mono ?_
          rintro e w6 ⟨v6, rfl, o6, f6, b6⟩
          obtain ⟨A6, c6, hv6, _⟩ := o6.shape
          subst hv6
          have O6 := Kp.mk o6
          have B6 := Kp.mk b6
          have q6 := (b6.cell (p := ⟨q, 0, none⟩) ql5).trans q5
          rw [← HNN.out]
          clear o6 f6 b6
          go_simp
          refine HK9.out _ _ (.inl (by kernel_rfl)) (fun HP10 => ?_)
          clear HK9 K9
          refine R_all [10] (by kernel_rfl) ?_
          refine AllR.cons (i := 10) rfl (fun K9 HK9 => ?_) ?_
          · go_simp
            refine HK9.out _ _ (.inl (by kernel_rfl)) (fun HP11 => ?_)
            clear HK9 K9
            refine R_all [11] (by kernel_rfl) ?_
            refine AllR.cons (i := 11) rfl (fun K9 HK9 => ?_) ?_
            · go_simp
              have hbq := bonds_eq w6 (sn (nsOf ns last x)) A6 Ad c6 cd (O6.out.src rfl) ((H5.out.below B6.out).d.own.src (by rw [HVD.out])) (by have := H5.out.g.ok.n1024; omega)
              rw [← HNN.out] at hbq
              refine hbq.mono ?_
              rintro e w7 ⟨rfl, b7⟩
              have B7 := Kp.mk (bstep B6.out B6.out.size b7)
              clear b7 hbq
              go_simp
              refine HK9.out _ _ (.inl (by kernel_rfl)) (fun HP12 => ?_)
              clear HK9 K9
              refine R_pure 12 rfl (by kernel_rfl) HP12 ?_
              apply Exists.intro
              refine ⟨fun _ _ _ h => h, .inl ⟨by kernel_rfl, fun w9 h9 => ?_⟩, fun HP13 => ?_⟩
              · clear h9; go_simp; first | done | rfl
              clear HP12
              refine R_pure 13 rfl (by kernel_rfl) HP13 ?_
              apply Exists.intro
              refine ⟨fun _ _ _ h => h, .inl ⟨by kernel_rfl, fun w9 h9 => ?_⟩, fun HP14 => ?_⟩
              · clear h9; go_simp; first | done | rfl
              clear HP13
              refine R_all [14] (by kernel_rfl) ?_
              refine AllR.cons (i := 14) rfl (fun K9 HK9 => ?_) ?_
              · go_simp
                refine (awake_any w7).mono ?_
                rintro e w8 ⟨rfl, b8⟩
                have B8 := Kp.mk (bstep B7.out B7.out.size b8)
                clear b8
                go_simp
                refine HK9.out _ _ (.inl (by kernel_rfl)) (fun HP15 => ?_)
                clear HK9 K9
                refine R_pure 15 rfl (by kernel_rfl) HP15 ?_
                apply Exists.intro
                refine ⟨fun _ _ _ h => h, .inl ⟨by kernel_rfl, fun w9 h9 => ?_⟩, fun HP16 => ?_⟩
                · clear h9; go_simp; first | done | rfl
                clear HP15
                refine R_pure 16 rfl (by kernel_rfl) HP16 ?_
                apply Exists.intro
                refine ⟨fun _ _ _ h => h, .inl ⟨by kernel_rfl, fun w9 h9 => ?_⟩, fun HP17 => ?_⟩
                · clear h9; go_simp; first | done | rfl
                clear HP16
                refine R_done (by kernel_rfl) ?_
                go_wp2
                go_ret
                have hb := bstep H5.out.bel H5.out.bel.size B8.out
                rw [HWX.out] at hb
                exact ⟨rfl, bstep HBX.out HBX.out.size hb⟩
              exact AllR.nil
            exact AllR.nil
          exact AllR.nil
        refine AllR.cons (i := 10) rfl (fun K9 HK9 => ?_) ?_
        · go_simp
          refine HK9.out _ _ (.inl (by kernel_rfl)) (fun HP18 => ?_)
          clear HK9 K9
          refine R_all [6] (by kernel_rfl) ?_
          refine AllR.cons (i := 6) rfl (fun K9 HK9 => ?_) ?_
          · go_simp
            refine EA.out.mono ?_
            rintro e w6 ⟨v6, rfl, o6, f6, b6⟩
            obtain ⟨A6, c6, hv6, _⟩ := o6.shape
            subst hv6
            have O6 := Kp.mk o6
            have B6 := Kp.mk b6
            have q6 := (b6.cell (p := ⟨q, 0, none⟩) ql5).trans q5
            rw [← HNN.out]
            clear o6 f6 b6
            go_simp
            refine HK9.out _ _ (.inl (by kernel_rfl)) (fun HP19 => ?_)
            clear HK9 K9
            refine R_all [11] (by kernel_rfl) ?_
            refine AllR.cons (i := 11) rfl (fun K9 HK9 => ?_) ?_
            · go_simp
              have hbq := bonds_eq w6 (sn (nsOf ns last x)) A6 Ad c6 cd (O6.out.src rfl) ((H5.out.below B6.out).d.own.src (by rw [HVD.out])) (by have := H5.out.g.ok.n1024; omega)
              rw [← HNN.out] at hbq
              refine hbq.mono ?_
              rintro e w7 ⟨rfl, b7⟩
              have B7 := Kp.mk (bstep B6.out B6.out.size b7)
              clear b7 hbq
              go_simp
              refine HK9.out _ _ (.inl (by kernel_rfl)) (fun HP20 => ?_)
              clear HK9 K9
              refine R_pure 12 rfl (by kernel_rfl) HP20 ?_
              apply Exists.intro
              refine ⟨fun _ _ _ h => h, .inl ⟨by kernel_rfl, fun w9 h9 => ?_⟩, fun HP21 => ?_⟩
              · clear h9; go_simp; first | done | rfl
              clear HP20
              refine R_pure 13 rfl (by kernel_rfl) HP21 ?_
              apply Exists.intro
              refine ⟨fun _ _ _ h => h, .inl ⟨by kernel_rfl, fun w9 h9 => ?_⟩, fun HP22 => ?_⟩
              · clear h9; go_simp; first | done | rfl
              clear HP21
              refine R_all [14] (by kernel_rfl) ?_
              refine AllR.cons (i := 14) rfl (fun K9 HK9 => ?_) ?_
              · go_simp
                refine (awake_any w7).mono ?_
                rintro e w8 ⟨rfl, b8⟩
                have B8 := Kp.mk (bstep B7.out B7.out.size b8)
                clear b8
                go_simp
                refine HK9.out _ _ (.inl (by kernel_rfl)) (fun HP23 => ?_)
                clear HK9 K9
                refine R_pure 15 rfl (by kernel_rfl) HP23 ?_
                apply Exists.intro
                refine ⟨fun _ _ _ h => h, .inl ⟨by kernel_rfl, fun w9 h9 => ?_⟩, fun HP24 => ?_⟩
                · clear h9; go_simp; first | done | rfl
                clear HP23
                refine R_pure 16 rfl (by kernel_rfl) HP24 ?_
                apply Exists.intro
                refine ⟨fun _ _ _ h => h, .inl ⟨by kernel_rfl, fun w9 h9 => ?_⟩, fun HP25 => ?_⟩
                · clear h9; go_simp; first | done | rfl
                clear HP24
                refine R_done (by kernel_rfl) ?_
                go_wp2
                go_ret
                have hb := bstep H5.out.bel H5.out.bel.size B8.out
                rw [HWX.out] at hb
                exact ⟨rfl, bstep HBX.out HBX.out.size hb⟩
              exact AllR.nil
            exact AllR.nil
          exact AllR.nil
        exact AllR.nil
      exact AllR.nil
end Go.Proofs.Ytlbbheopoflmjaa
