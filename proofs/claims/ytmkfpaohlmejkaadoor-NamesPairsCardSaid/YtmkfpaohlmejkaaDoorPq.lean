/- NamesPairs walked: it answers true; its bounds stand in the statement. -/
import Derived.Test.YtmkfpaohlmejkaaDoorPu
namespace Go.Proofs.YtmkfpaohlmejkaaDoor
open Go.RowKit

set_option maxRecDepth 100000 in
set_option maxHeartbeats 16000000 in
theorem namesPairs_any (w : World) (ops : List OpM) (A : Option Addr) (c : Nat) (hs : Src w eOp A c ops) (hr : ∀ o ∈ ops, OpG o) (hT : Tabs w) (hn : ops.length ≤ 9000000000000) :
    Calls Tryd.prog 4 #[.slice A ops.length c] w fun e w' => e = .returned (.bool true) ∧ Below w.heap.size w w' := by
  have HS := Kp.mk hs
  have HR := Kp.mk hr
  have HTT := Kp.mk hT
  clear hs hr hT
  go_enter Tryd.func4, Tryd.ntmps4
  go_wp2_with fail
  refine (new_any w).mono ?_
  rintro e w1 ⟨p, a, b, rfl, h1, hf, hb1⟩
  have H1 := Kp.mk h1
  have HF := Kp.mk hf
  have HB1 := Kp.mk hb1
  clear h1 hf hb1
  go_wp2_with fail
  go_loopw [4] (fun i wr => ∃ (k : Nat) (ns : List En), k ≤ ops.length ∧ i = .int .i64 k ∧ Kp (IsN wr p a b ns) ∧ Kp (Below w.heap.size w wr)) (fun i _ => ops.length - (intOf i).toNat)
  case atStart => exact ⟨0, [], Nat.zero_le _, rfl, H1, HB1⟩
  case round =>
    clear H1 HB1
    obtain ⟨k, ns, hk, rfl, hN, hB⟩ := hrel
    by_cases hlt : k < ops.length
    · cases A with
      | none => have := (HS.out.none rfl).1; subst this; simp at hlt
      | some x =>
        obtain ⟨g, o, rfl⟩ := HS.out.addr (by omega)
        have hs := HS.out.below hB.out
        obtain ⟨e0, e1, e2⟩ := op_cells hs k hlt
        have hrx := HR.out ops[k] (List.getElem_mem hlt)
        obtain ⟨x, hx⟩ : ∃ x, x = ops[k] := ⟨_, rfl⟩
        rw [← hx] at e0 e1 e2 hrx
        have k0 : (0 : Int) ≤ (k : Int) := by omega
        have k1 : (k : Int) < (ops.length : Int) := by omega
        have E0 := Kp.mk (And.intro e1 e2)
        have HX := Kp.mk hrx
        have hxs : x.n.size ≤ maxLen := by have := hrx.1; unfold maxLen; omega
        clear hs hx hrx
        cases hd : (x.kind == 0)
        · cases hd1 : (x.kind == 1)
          · cases hd2 : (x.kind == 2)
            · clear e1 e2
              go_wp2
              go_roundw
              case rel => exact ⟨k + 1, ns, by omega, by go_num, hN, hB⟩
              case measure => simp [intOf]; omega
            · clear e1
              go_wp2_with (go_at_call 15; refine (gone_any _ p a b ns hN.out x.p HX.out.2).mono ?_; rintro e w5 ⟨rfl, h5, c5⟩; have H5 := Kp.mk h5; have B5 := Kp.mk (chg_below hB.out c5 HF.out hB.out.size); clear h5 c5)
              go_roundw
              case rel => exact ⟨k + 1, _, by omega, by go_num, H5, B5⟩
              case measure => simp [intOf]; omega
          · clear e2
            go_wp2_with (go_at_call 14; refine (drop_any _ p a b ns hN.out x.n hxs).mono ?_; rintro e w5 ⟨rfl, h5, c5⟩; have H5 := Kp.mk h5; have B5 := Kp.mk (chg_below hB.out c5 HF.out hB.out.size); clear h5 c5)
            go_roundw
            case rel => exact ⟨k + 1, _, by omega, by go_num, H5, B5⟩
            case measure => simp [intOf]; omega
        · have ADD := Kp.mk (add_any _ p a b ns (hN.out.below (Below.refl _ _).drew) (HTT.out.below (hB.out.trans ((Below.refl _ _).drew.mono hB.out.size))) x.n HX.out.1 x.p HX.out.2)
          clear e1 e2
          go_upto_region 9 with fail
          refine R_begin 11 (fun w9 => w9.cell? ⟨g, o + k * 3 + 1, none⟩ = some (.string x.n) ∧ w9.cell? ⟨g, o + k * 3 + 2, none⟩ = some (.int .i64 x.p)) (by kernel_rfl) E0.out (fun HP0 => ?_)
          refine R_pure 0 rfl (by kernel_rfl) HP0 ?_
          apply Exists.intro
          refine ⟨fun _ _ _ h => h, .inl ⟨by kernel_rfl, fun w9 h9 => ?_⟩, fun HP1 => ?_⟩
          · clear h9; go_simp; first | done | rfl
          clear HP0
          refine R_pure 1 rfl (by kernel_rfl) HP1 ?_
          apply Exists.intro
          refine ⟨fun _ _ _ h => h, .inl ⟨by kernel_rfl, fun w9 h9 => ?_⟩, fun HP2 => ?_⟩
          · clear h9; go_simp; first | done | rfl
          clear HP1
          refine R_pure 2 rfl (by kernel_rfl) HP2 ?_
          apply Exists.intro
          refine ⟨fun _ _ _ h => h, .inl ⟨by kernel_rfl, fun w9 h9 => ?_⟩, fun HP3 => ?_⟩
          · clear h9; go_simp; first | done | rfl
          clear HP2
          refine R_pure 3 rfl (by kernel_rfl) HP3 ?_
          apply Exists.intro
          refine ⟨fun _ _ _ h => h, .inl ⟨by kernel_rfl, fun w9 h9 => ?_⟩, fun HP4 => ?_⟩
          · clear h9; go_simp; first | done | rfl
          clear HP3
          refine R_pure 4 rfl (by kernel_rfl) HP4 ?_
          apply Exists.intro
          refine ⟨fun _ _ _ h => h, .inl ⟨by kernel_rfl, fun w9 h9 => ?_⟩, fun HP5 => ?_⟩
          · clear h9; go_simp; first | done | rfl
          clear HP4
          refine R_take 5 rfl (by kernel_rfl) HP5 ?_
          apply Exists.intro
          refine ⟨fun _ _ _ h => h, .inl ⟨by kernel_rfl, fun w9 h9 => ?_⟩, fun HP6 => ?_⟩
          · obtain ⟨s1, s2⟩ := h9; go_simp; first | done | rfl
          clear HP5
          refine R_pure 6 rfl (by kernel_rfl) HP6 ?_
          apply Exists.intro
          refine ⟨fun _ _ _ h => h, .inl ⟨by kernel_rfl, fun w9 h9 => ?_⟩, fun HP7 => ?_⟩
          · clear h9; go_simp; first | done | rfl
          clear HP6
          refine R_pure 7 rfl (by kernel_rfl) HP7 ?_
          apply Exists.intro
          refine ⟨fun _ _ _ h => h, .inl ⟨by kernel_rfl, fun w9 h9 => ?_⟩, fun HP8 => ?_⟩
          · clear h9; go_simp; first | done | rfl
          clear HP7
          refine R_pure 8 rfl (by kernel_rfl) HP8 ?_
          apply Exists.intro
          refine ⟨fun _ _ _ h => h, .inl ⟨by kernel_rfl, fun w9 h9 => ?_⟩, fun HP9 => ?_⟩
          · clear h9; go_simp; first | done | rfl
          clear HP8
          refine R_pure 9 rfl (by kernel_rfl) HP9 ?_
          apply Exists.intro
          refine ⟨fun _ _ _ h => h, .inl ⟨by kernel_rfl, fun w9 h9 => ?_⟩, fun HP10 => ?_⟩
          · clear h9; go_simp; first | done | rfl
          clear HP9
          refine R_take 10 rfl (by kernel_rfl) HP10 ?_
          apply Exists.intro
          refine ⟨fun _ _ _ h => h, .inl ⟨by kernel_rfl, fun w9 h9 => ?_⟩, fun HP11 => ?_⟩
          · obtain ⟨s1, s2⟩ := h9; go_simp; first | done | rfl
          clear HP10
          refine R_all [11] (by kernel_rfl) ?_
          refine AllR.cons (i := 11) rfl (fun K9 HK9 => ?_) ?_
          · go_simp
            refine ADD.out.mono ?_
            rintro e w5 ⟨rfl, h5, c5⟩
            have H5 := Kp.mk h5
            have B5 := Kp.mk (chg_below (hB.out.trans ((Below.refl _ _).drew.mono hB.out.size)) c5 HF.out hB.out.size)
            clear h5 c5
            go_simp
            refine HK9.out _ _ (.inl (by kernel_rfl)) (fun HP12 => ?_)
            clear HK9 K9
            refine R_done (by kernel_rfl) ?_
            go_wp2
            go_roundw
            case rel => exact ⟨k + 1, _, by omega, by go_num, H5, B5⟩
            case measure => simp [intOf]; omega
          exact AllR.nil
    · obtain rfl : k = ops.length := by omega
      have HN := Kp.mk hN.out
      have HB := Kp.mk hB.out
      clear hN hB
      have AL := Kp.mk (all_any HN.out 0 (by omega))
      rw [cutE_0] at AL
      have OKK := Kp.mk HN.out.ok
      obtain ⟨m, hm⟩ : ∃ m, m = ns.length := ⟨_, rfl⟩
      have HM := Kp.mk hm
      have hm64 : m ≤ 64 := by rw [hm]; exact HN.out.ok.len
      have hm64i : ¬ (64 : Int) < (m : Int) := by omega
      have hmm : ((m : Int) != (m : Int)) = false := by simp
      clear hm
      go_wp2_with fail
      refine AL.out.mono ?_
      rintro e w2 ⟨v2, rfl, o2, f2, b2⟩
      obtain ⟨A2, c2, hv2, _, _, hs0, hs1⟩ := o2.shape
      subst hv2
      rw [← HM.out] at o2 f2 ⊢
      have O2 := Kp.mk o2
      have HS0 := Kp.mk hs0
      have HS1 := Kp.mk hs1
      have HN2 := Kp.mk (HN.out.below b2)
      have HB2 := Kp.mk (bstep HB.out HB.out.size b2)
      have LN := Kp.mk (len_any w2 p a b _ HN2.out)
      rw [← HM.out] at LN
      clear o2 f2 b2 AL hs0 hs1
      go_wp2_with (go_at_call 9; refine LN.out.mono ?_; rintro e w5 ⟨rfl, hw5⟩; obtain rfl := hw5.symm)
      go_loopw [6, 7, 8, 9, 10, 11] (fun i _ _ _ _ _ wr => ∃ (k : Nat), k ≤ m ∧ i = .int .i64 k ∧ Kp (Below w2.heap.size w2 wr)) (fun i _ _ _ _ _ _ => m - (intOf i).toNat)
      case atStart => exact ⟨0, Nat.zero_le _, rfl, ⟨Below.refl _ _⟩⟩
      case round =>
        obtain ⟨k, hk, rfl, hBk⟩ := hrel
        by_cases hkm : k < m
        · obtain ⟨g2, rfl⟩ : ∃ g, A2 = some ⟨g, 0, none⟩ := by
            cases A2 with
            | none => have := (HS0.out rfl).1; have h9 := HM.out; rw [this] at h9; simp at h9; omega
            | some y => obtain ⟨g, rfl⟩ := HS1.out y rfl; exact ⟨g, rfl⟩
          obtain ⟨x, hx⟩ : ∃ x, ns[k]? = some x := ⟨_, List.getElem?_eq_getElem (by have := HM.out; omega)⟩
          obtain ⟨a0, a1⟩ := (O2.out.below hBk.out).en k x hx
          have hxm : x ∈ ns := List.mem_of_getElem? hx
          have hgd := (OKK.out.good x hxm)
          have hxs : x.n.size ≤ maxLen := by
            have h1 := hgd.1
            unfold okA at h1
            rw [Bool.and_eq_true, decide_eq_true_eq] at h1
            unfold maxLen; omega
          have FD := Kp.mk (find_any wr p a b ns (HN2.out.below hBk.out) x.n hxs)
          have NM := Kp.mk (name_any wr p a b ns (HN2.out.below hBk.out) x.p (okI _ (by have := hgd.2.2.1; omega) (by have := hgd.2.2.2; omega)))
          unfold findR at FD
          rw [atN_mem OKK.out hxm] at FD
          unfold nameR at NM
          rw [atP_mem OKK.out hxm] at NM
          simp only [Option.map_some, Option.getD_some, Option.isSome_some] at FD NM
          have k0 : (0 : Int) ≤ (k : Int) := by omega
          have k1 : (k : Int) < (m : Int) := by omega
          have hpp : (x.p != x.p) = false := by simp
          have hnn : (x.n.toList != x.n.toList) = false := by simp
          have HX := Kp.mk hx
          clear hx hxm hgd
          go_wp2_with (first
            | (go_at_call 16; refine FD.out.mono ?_; rintro e w5 ⟨rfl, hw5⟩; obtain rfl := hw5.symm)
            | (go_at_call 17; refine NM.out.mono ?_; rintro e w5 ⟨rfl, hw5⟩; obtain rfl := hw5.symm))
          obtain ⟨wo, rfl⟩ : ∃ wo : World, wo = wr := ⟨_, rfl⟩
          clear a0 a1
          go_loopw [11] (fun i wq => ∃ (j : Nat), j ≤ k ∧ i = .int .i64 j ∧ Kp (Below w2.heap.size w2 wq)) (fun i _ => k - (intOf i).toNat)
          case atStart => exact ⟨0, Nat.zero_le _, rfl, hBk⟩
          case round =>
            obtain ⟨j, hj, rfl, hBj⟩ := hrel
            by_cases hjk : j < k
            · obtain ⟨y, hy⟩ : ∃ y, ns[j]? = some y := ⟨_, List.getElem?_eq_getElem (by have := HM.out; omega)⟩
              obtain ⟨c0, c1⟩ := (O2.out.below hBj.out).en j y hy
              obtain ⟨a0, a1⟩ := (O2.out.below hBj.out).en k x HX.out
              obtain ⟨hjl, hye⟩ := List.getElem?_eq_some_iff.1 hy
              obtain ⟨hkl, hxe⟩ := List.getElem?_eq_some_iff.1 HX.out
              have hlts : Op.bytesLess y.n.toList x.n.toList = true := less_true.2 (by have := List.pairwise_iff_getElem.1 OKK.out.rise j k hjl hkl hjk; rw [hye, hxe] at this; exact this)
              have hpne : (y.p == x.p) = false := by have := List.pairwise_iff_getElem.1 OKK.out.pids j k hjl hkl hjk; rw [hye, hxe] at this; simpa using this
              have j0 : (0 : Int) ≤ (j : Int) := by omega
              have j1 : (j : Int) < (m : Int) := by omega
              have j2 : (j : Int) < (k : Int) := by omega
              clear hy hye hxe hjl hkl
              go_wp2_with fail
              go_quiet (fail)
              go_wp2
              go_roundw
              case rel => exact ⟨j + 1, by omega, by go_num, ⟨hBj.out.trans ((below_drewN (Below.refl _ _) _).mono hBj.out.size)⟩⟩
              case measure => simp [intOf]; omega
            · obtain rfl : j = k := by omega
              go_wp2
              go_roundw
              case rel => exact ⟨j + 1, by omega, by go_num, hBj⟩
              case measure => simp [intOf]; omega
        · have HBF := Kp.mk (bstep HB2.out HB2.out.size hBk.out)
          obtain rfl : k = m := by omega
          go_wp2_with (go_at_call 12; refine (known_any _ (HTT.out.below HBF.out)).mono ?_; rintro e w9 ⟨rfl, b9⟩; have B9 := Kp.mk (bstep HBF.out HBF.out.size b9); clear b9)
          go_ret
          exact ⟨rfl, B9.out⟩
end Go.Proofs.YtmkfpaohlmejkaaDoor
