/- FrameSwaps walked: it answers true, and writes nothing that was there; its bounds stand in the statement. -/
import Derived.Test.YthdfmopbihpcoaaSt
namespace Go.Proofs.Ythdfmopbihpcoaa
open Go.RowKit

theorem swapV_0 (s : StM) (ws : List Int) (h : ws.length = (onW (cellsOf s)).length) : swapV s ws = 0 := by unfold swapV; rw [if_pos h]
theorem swapV_1 (s : StM) (ws : List Int) (h : ws.length ≠ (onW (cellsOf s)).length) : swapV s ws = 1 := by unfold swapV; rw [if_neg h]
theorem swap_onW (s : StM) (hx : s.x.length = 16) (ws : List Int) (h : ws.length = (onW (cellsOf s)).length) : onW (cellsOf (swapM' s ws)) = ws := by
  unfold swapM'
  rw [if_pos (swapV_0 s ws h), swapM_cells s hx, onW_putW _ _ h]
theorem topSize_le {s : StM} (h : Inv s) : topSize s ≤ 16 := by
  unfold topSize
  cases hl : s.fs.getLast? with
  | none => simp
  | some f =>
    have := h.y f (List.mem_of_getLast? hl)
    simp only [Fr.size, Fr.cl] at this ⊢
    cases hy : f.y with
    | none => simp
    | some l => simp only [hy, Option.getD_some] at this ⊢; omega
def xr (u x : Int) : Int := bits .xor .u64 x u
set_option maxRecDepth 100000 in
set_option maxHeartbeats 40000000 in
theorem swaps_any (w : World) (ops : List OpM) (u : Int) (A1 : Option Addr) (c1 : Nat) (h1 : Src w eOp A1 c1 ops) (hw : ∀ o ∈ ops, BringsW w o) (hm : ops.length ≤ 9000000000000) :
    Calls Try.prog 4 #[.slice A1 ops.length c1, .int .u64 u] w fun e w' => e = .returned (.bool true) ∧ Below w.heap.size w w' := by
  have H1 := Kp.mk h1
  have HW := Kp.mk hw
  obtain ⟨B, hB, hBh⟩ : ∃ B : Bd, B.b = w.heap.size ∧ B.hi = 0 := ⟨⟨_, 0, 0⟩, rfl, rfl⟩
  have hok : B.Ok w := ⟨by omega, by omega⟩
  have HOK := Kp.mk hok
  have HBE := Kp.mk hB
  clear h1 hw hB hBh hok
  go_enter Try.func4, Try.ntmps4
  go_wp2_with fail
  refine (s_new (B := B) w HOK.out).mono ?_
  rintro e w1 ⟨p, rfl, st1, hb1⟩
  have ST1 := Kp.mk st1
  have HB1 := Kp.mk hb1
  clear st1 hb1
  go_wp2_with fail
  refine (r_new (B := B) w1 (HOK.out.up HB1.out.size)).mono ?_
  rintro e w2 ⟨q, rfl, rf2, hb2⟩
  have BO2 : Kp (Bo B w2 p q newSt) := ⟨⟨ST1.out.below hb2, rf2, Inv.new⟩⟩
  have HB2 : Kp (Bel B w w2) := ⟨(bel HB1.out HOK.out).trans (bel hb2 (HOK.out.up HB1.out.size))⟩
  clear rf2 hb2 ST1 HB1
  go_wp2_with fail
  go_loopw [7] (fun i wr => ∃ (k : Nat) (s : StM), k ≤ ops.length ∧ i = .int .i64 k ∧ Kp (Bo B wr p q s) ∧ Kp (Bel B w wr)) (fun i _ => ops.length - (intOf i).toNat)
  case atStart => exact ⟨0, newSt, Nat.zero_le _, rfl, BO2, HB2⟩
  case round =>
    clear BO2 HB2
    obtain ⟨k, s, hk, rfl, hbo, hbw⟩ := hrel
    by_cases hlt : k < ops.length
    · cases A1 with
      | none => have := (H1.out.none rfl).1; subst this; simp at hlt
      | some x =>
        obtain ⟨g, o, rfl⟩ := H1.out.addr (by omega)
        have hs := H1.out.below (by rw [← HBE.out]; exact hbw.out.below HOK.out)
        obtain ⟨x, hx⟩ : ∃ x, x = ops[k] := ⟨_, rfl⟩
        have e0 : wr.cell? ⟨g, o + k * 4, none⟩ = some (.int .i64 x.kind) := by have := hs.elem k 0 hlt (by decide); rw [← hx] at this; simpa [eOp] using this
        have e1 : wr.cell? ⟨g, o + k * 4 + 1, none⟩ = some (.int .i64 x.n) := by have := hs.elem k 1 hlt (by decide); rw [← hx] at this; simpa [eOp, Nat.add_assoc] using this
        have e2 : wr.cell? ⟨g, o + k * 4 + 2, none⟩ = some (.int .u64 x.w) := by have := hs.elem k 2 hlt (by decide); rw [← hx] at this; simpa [eOp, Nat.add_assoc] using this
        have e3 : wr.cell? ⟨g, o + k * 4 + 3, none⟩ = some (.slice x.A x.m x.c) := by have := hs.elem k 3 hlt (by decide); rw [← hx] at this; simpa [eOp, Nat.add_assoc] using this
        have k0 : (0 : Int) ≤ (k : Int) := by omega
        have k1 : (k : Int) < (ops.length : Int) := by omega
        obtain ⟨ys, hyl, hys, hmx⟩ := HW.out x (by rw [hx]; exact List.getElem_mem _)
        have HX := Kp.mk (step_some wr p q s x ys hbo.out hmx hyl (fun w' hw' => hys.below (by rw [← HBE.out]; exact (hbw.out.trans hw').below HOK.out)))
        clear hx hs hyl hys hmx
        go_wp2_with fail
        refine HX.out.mono ?_
        rintro e w5 ⟨s', rfl, hbo5, hb5⟩
        have BO5 := Kp.mk hbo5
        have HB5 := Kp.mk (hbw.out.trans hb5)
        have hn64 := hbo5.inv.n
        have ht16 := topSize_le hbo5.inv
        have d1 : decide ((s'.fs.length : Int) < 0) = false := by simp
        have d2 : decide ((64 : Int) < (s'.fs.length : Int)) = false := by simp; omega
        have d3 : decide ((16 : Int) < topSize s') = false := by simp; omega
        have d1' : ¬ ((s'.fs.length : Int) < 0) := by omega
        have d2' : ¬ ((64 : Int) < (s'.fs.length : Int)) := by omega
        have d3' : ¬ ((16 : Int) < topSize s') := by omega
        clear hbo5 hb5 HX e0 e1 e2 e3 ht16
        go_wp2_with fail
        refine (s_depth w5 p s' BO5.out.st).mono ?_
        rintro e w6 ⟨rfl, rfl⟩
        go_wp2_with fail
        refine (s_depth w5 p s' BO5.out.st).mono ?_
        rintro e w6 ⟨rfl, rfl⟩
        go_wp2_with fail
        refine (s_size w5 p s' BO5.out.st BO5.out.inv).mono ?_
        rintro e w6 ⟨rfl, hb6⟩
        have BO6 := Kp.mk (BO5.out.below hb6)
        have HB6 := Kp.mk (HB5.out.trans (bel hb6 BO5.out.st.le))
        clear hb6
        go_wp2
        go_roundw
        case rel => exact ⟨k + 1, _, by omega, by go_num, BO6, HB6⟩
        case measure => simp [intOf]; omega
    · have hd5 : decide ((k : Int) < ops.length) = false := by simp; omega
      have hdf : ¬ ((k : Int) < ops.length) := by omega
      have ST := Kp.mk hbo.out.st
      have INV := Kp.mk hbo.out.inv
      clear hbo
      obtain ⟨l, hl⟩ : ∃ l, l = onW (cellsOf s) := ⟨_, rfl⟩
      obtain ⟨nn, hnn⟩ : ∃ n, n = l.length := ⟨_, rfl⟩
      have hn1040 : nn ≤ 1040 := by rw [hnn, hl]; exact onW_1040 INV.out
      have HNN := Kp.mk hnn
      have HL := Kp.mk hl
      have HA := Kp.mk (s_all wr p s ST.out INV.out)
      rw [← hl, ← hnn] at HA
      clear hl hnn
      go_wp2_with fail
      refine HA.out.mono ?_
      rintro e w2 ⟨Aw, cw, rfl, ow, _, hb2⟩
      have ST2 := Kp.mk (ST.out.below hb2)
      have OW2 := Kp.mk ow
      have HB2 := Kp.mk (hbw.out.trans (bel hb2 ST.out.le))
      have HSW := Kp.mk (s_swap w2 p s l Aw cw ST2.out INV.out (by rw [← HNN.out]; exact ow))
      rw [swapV_0 s l (by rw [← HL.out]), ← HNN.out] at HSW
      obtain ⟨s1, hs1⟩ : ∃ s1, s1 = swapM' s l := ⟨_, rfl⟩
      rw [← hs1] at HSW
      have EL : Kp (onW (cellsOf s1) = l) := ⟨by rw [hs1]; exact swap_onW s INV.out.x l (by rw [← HL.out])⟩
      have INV1 : Kp (Inv s1) := ⟨by rw [hs1]; exact INV.out.swap l⟩
      have hd0 : decide ((1040 : Int) < (nn : Int)) = false := by simp; omega
      have hd0' : ¬ ((1040 : Int) < (nn : Int)) := by omega
      clear ow hb2 hs1 HA
      go_wp2_with fail
      refine HSW.out.mono ?_
      rintro e w3 ⟨rfl, st3, c3⟩
      have ST3 := Kp.mk st3
      have OW3 := Kp.mk (OW2.out.ty (L := TS) (by decide) c3)
      have HB3 := Kp.mk (HB2.out.trans (Ty.below c3 ST2.out.le))
      have HA := Kp.mk (s_all w3 p s1 st3 INV1.out)
      rw [EL.out, ← HNN.out] at HA
      clear st3 c3 HSW ST2 OW2 HB2
      go_wp2_with fail
      refine HA.out.mono ?_
      rintro e w4 ⟨Ax, cx, rfl, ox, _, hb4⟩
      have ST4 := Kp.mk (ST3.out.below hb4)
      have OW4 := Kp.mk (OW3.out.frame (Chg.of_below hb4 NoF) (fun _ _ h => h))
      have HB4 := Kp.mk (HB3.out.trans (bel hb4 ST3.out.le))
      have HEQ := Kp.mk (words_eq w4 l Ax Aw cx cw (ox.src rfl) (OW4.out.src rfl) (by have := HNN.out; omega))
      rw [← HNN.out] at HEQ
      clear ox hb4 HA ST3 OW3 HB3
      go_wp2_with fail
      refine HEQ.out.mono ?_
      rintro e w5 ⟨rfl, hb5⟩
      have ST5 := Kp.mk (ST4.out.below hb5)
      have OW5 := Kp.mk (OW4.out.frame (Chg.of_below hb5 NoF) (fun _ _ h => h))
      have HB5 := Kp.mk (HB4.out.trans (bel hb5 ST4.out.le))
      clear hb5 HEQ ST4 OW4 HB4
      go_upto_region 16 with fail
      go_loopw [9, 10] (fun v i wr => ∃ (k N : Nat) (A : Option Addr) (c : Nat), k ≤ nn ∧ i = .int .i64 k ∧ v = .slice A N c ∧ Kp (N = k) ∧ Kp (Own wr 29 eU64 v ((l.take k).map (xr u))) ∧ Kp (Fresh w5 v) ∧ Kp (Below w5.heap.size w5 wr)) (fun _ i _ => nn - (intOf i).toNat)
      case atStart => exact ⟨0, 0, none, 0, Nat.zero_le _, rfl, rfl, ⟨rfl⟩, ⟨Own.nil _ _ _⟩, ⟨Fresh.nil _ _ _⟩, ⟨Below.refl _ _⟩⟩
      case round =>
        obtain ⟨k, N, A, c, hk, rfl, rfl, hN, ho, hf, hb⟩ := hrel
        by_cases hlt2 : k < nn
        · have hlt3 : k < l.length := by have := HNN.out; omega
          obtain ⟨gw, rfl⟩ : ∃ g, Aw = some ⟨g, 0, none⟩ := by
            obtain ⟨A2, c2, hv2, _, _, hs0, hs1⟩ := OW5.out.shape
            have ea : Aw = A2 := by injection hv2
            cases hA : A2 with
            | none => have h1 := (hs0 hA).1; rw [h1] at hlt3; simp at hlt3
            | some x => obtain ⟨g, rfl⟩ := hs1 x hA; exact ⟨g, by rw [ea, hA]⟩
          have how := OW5.out.frame (Chg.of_below hb.out NoF) (fun _ _ h => h)
          obtain ⟨x, hx⟩ : ∃ x, x = l[k] := ⟨_, rfl⟩
          have q0 : wr.cell? ⟨gw, k, none⟩ = some (.int .u64 x) := by have := how.elem k 0 hlt3 (by decide); rw [← hx] at this; simpa [eU64] using this
          have k0 : (0 : Int) ≤ (k : Int) := by omega
          have k1 : (k : Int) < (nn : Int) := by omega
          have htk : Kp ((l.take (k + 1)).map (xr u) = (l.take k).map (xr u) ++ [xr u x]) := ⟨by rw [List.take_succ_eq_append_getElem hlt3, List.map_append, ← hx]; rfl⟩
          have htl : ((l.take k).map (xr u)).length = k := by simp; omega
          have ho' : Own wr 29 eU64 (.slice A N c) ((l.take k).map (xr u)) := ho.out
          clear hx how
          go_wp2_with (at_builtin; refine app1_ev T23 (xr u x) rfl _ _ rfl ho' rfl rfl rfl (by simp) rfl (by omega) (by omega) ?_; intro A' n' c' w6 a0 a1 a2 a3)
          go_roundw
          case rel => exact ⟨k + 1, n', A', c', by omega, by go_num, rfl, ⟨by rw [a0.out, htl]⟩, ⟨by rw [htk.out]; exact a1⟩, ⟨hf.out.app hb.out.size a3⟩, ⟨chg_below hb.out a2 (fun g hg => hf.out g hg) hb.out.size⟩⟩
          case measure => simp [intOf]; omega
        · have hd6 : decide ((k : Int) < (nn : Int)) = false := by simp; omega
          have hdg : ¬ ((k : Int) < (nn : Int)) := by omega
          obtain rfl : N = nn := by have := hN.out; omega
          have hzl : ((l.take k).map (xr u)).length = N := by have := HNN.out; simp; omega
          have ht : l.take k = l := List.take_of_length_le (by have := HNN.out; omega)
          rw [ht] at ho hzl
          obtain ⟨zs, hzs⟩ : ∃ zs, zs = l.map (xr u) := ⟨_, rfl⟩
          rw [← hzs] at ho hzl
          have ST6 := Kp.mk (ST5.out.below hb.out)
          have OW6 := Kp.mk (OW5.out.frame (Chg.of_below hb.out NoF) (fun _ _ h => h))
          have HB6 := Kp.mk (HB5.out.trans (bel hb.out ST5.out.le))
          have HO6 : Kp (Own wr 29 eU64 (.slice A N c) zs) := ho
          have HIN : Kp (∀ g, (Value.slice A N c).ownBlock = some g → B.In g) := ⟨fun g hg => by have h1 := hf.out g hg; have h2 := ST5.out.le; omega⟩
          have HZL := Kp.mk hzl
          have HSW := Kp.mk (s_swap wr p s1 zs A c ST6.out INV1.out (by rw [hzl]; exact ho.out))
          rw [swapV_0 s1 zs (by rw [hzl, EL.out, ← HNN.out]), hzl] at HSW
          obtain ⟨s2, hs2⟩ : ∃ s2, s2 = swapM' s1 zs := ⟨_, rfl⟩
          rw [← hs2] at HSW
          have EZ : Kp (onW (cellsOf s2) = zs) := ⟨by rw [hs2]; exact swap_onW s1 INV1.out.x zs (by rw [hzl, EL.out, ← HNN.out])⟩
          have INV2 : Kp (Inv s2) := ⟨by rw [hs2]; exact INV1.out.swap zs⟩
          clear hzl ht hzs ho hs2 hN hf hb ST5 OW5 HB5
          go_wp2_with fail
          refine HSW.out.mono ?_
          rintro e w7 ⟨rfl, st7, c7⟩
          have ST7 := Kp.mk st7
          have HO7 := Kp.mk (HO6.out.ty (L := TS) (by decide) c7)
          have HB7 := Kp.mk (HB6.out.trans (Ty.below c7 ST6.out.le))
          have HA := Kp.mk (s_all w7 p s2 st7 INV2.out)
          rw [EZ.out, HZL.out] at HA
          clear st7 c7 HSW ST6 HO6 HB6 OW6
          go_wp2_with fail
          refine HA.out.mono ?_
          rintro e w8 ⟨Ay, cy, rfl, oy, _, hb8⟩
          have ST8 := Kp.mk (ST7.out.below hb8)
          have HO8 := Kp.mk (HO7.out.frame (Chg.of_below hb8 NoF) (fun _ _ h => h))
          have HB8 := Kp.mk (HB7.out.trans (bel hb8 ST7.out.le))
          have HEQ := Kp.mk (words_eq w8 zs Ay A cy c (oy.src rfl) (HO8.out.src rfl) (by have := HZL.out; omega))
          rw [HZL.out] at HEQ
          clear oy hb8 HA ST7 HO7 HB7
          go_wp2_with fail
          refine HEQ.out.mono ?_
          rintro e w9 ⟨rfl, hb9⟩
          have ST9 := Kp.mk (ST8.out.below hb9)
          have ho9 := HO8.out.frame (Chg.of_below hb9 NoF) (fun _ _ h => h)
          have HB9 := Kp.mk (HB8.out.trans (bel hb9 ST8.out.le))
          have hz0 := HZL.out
          clear hb9 HEQ ST8 HO8 HB8
          go_upto_region 22 with (at_builtin; refine app1_ev T23 u rfl _ _ rfl ho9 rfl rfl rfl (by simp) rfl (by omega) (by omega) ?_; intro A' n' c' w10 a0 a1 a2 a3)
          obtain rfl : n' = N + 1 := by have h1 := a0.out; omega
          have ty10 : Chg (Ty B [29] w9) w9 w10 := a2.mono fun g _ hg => ho9.isTy (by decide) HIN.out g hg
          have ST10 := Kp.mk (ST9.out.ty (L := [29]) (by decide) ty10)
          have HB10 := Kp.mk (HB9.out.trans (Ty.below ty10 ST9.out.le))
          have HSW := Kp.mk (s_swap w10 p s2 (zs ++ [u]) A' c' ST10.out INV2.out (by rw [List.length_append, hz0]; exact a1))
          have h1v : swapV s2 (zs ++ [u]) = 1 := swapV_1 s2 _ (by rw [EZ.out]; simp)
          have h2v : swapM' s2 (zs ++ [u]) = s2 := by unfold swapM'; rw [h1v]; rfl
          rw [h1v, h2v, List.length_append, hz0] at HSW
          clear ho9 hz0 a0 a1 a2 a3 ty10 h1v h2v ST9 HB9
          go_wp2_with fail
          refine HSW.out.mono ?_
          rintro e w11 ⟨rfl, st11, c11⟩
          have ST11 := Kp.mk st11
          have HB11 := Kp.mk (HB10.out.trans (Ty.below c11 ST10.out.le))
          have HA := Kp.mk (s_all w11 p s2 st11 INV2.out)
          rw [EZ.out, HZL.out] at HA
          clear st11 c11 HSW ST10 HB10
          go_wp2_with fail
          refine HA.out.mono ?_
          rintro e w12 ⟨Az, cz, rfl, _, _, hb12⟩
          have ST12 := Kp.mk (ST11.out.below hb12)
          have HB12 := Kp.mk (HB11.out.trans (bel hb12 ST11.out.le))
          clear hb12 HA ST11 HB11
          go_wp2_with fail
          refine (known_any w12).mono ?_
          rintro e w13 ⟨rfl, hb13⟩
          have HB13 := Kp.mk (HB12.out.trans (bel hb13 ST12.out.le))
          clear hb13
          go_wp2
          go_ret
          exact ⟨rfl, by rw [← HBE.out]; exact HB13.out.below HOK.out⟩
end Go.Proofs.Ythdfmopbihpcoaa
