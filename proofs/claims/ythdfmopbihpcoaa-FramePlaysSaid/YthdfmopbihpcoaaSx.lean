/- What swapped of the package's law answers where the words are the stack's own, added to. -/
import Derived.Test.YthdfmopbihpcoaaSw
namespace Go.Proofs.Ythdfmopbihpcoaa
open Go.RowKit
variable {B : Bd}
/-- Some words were put into both. -/
def SwAll (B : Bd) (w : World) (p q : Nat) (s : StM) (e : Ending) (w' : World) : Prop := ∃ l', StepPost B w p q (swapM' s l') e w'
set_option maxRecDepth 100000 in
set_option maxHeartbeats 4000000 in
theorem swapped_all (w : World) (p q : Nat) (s : StM) (kd n u : Int) (A : Option Addr) (m c : Nat) (h : Bo B w p q s) (hn : 0 ≤ n) :
    Calls Try.prog 35 #[.pointer (some ⟨p, 0, none⟩), .pointer (some ⟨q, 0, none⟩), .agg #[.int .i64 kd, .int .i64 n, .int .u64 u, .slice A m c]] w (SwAll B w p q s) := by
  have h1 := h.below ((Below.refl _ w).alloc (Nat.le_refl _) (.cells #[.int .i64 kd, .int .i64 n, .int .u64 u, .slice A m c] 31))
  have HB1 := Kp.mk h1
  have HBW := Kp.mk h.st.le
  clear h h1
  obtain ⟨fv, rr, hr⟩ := HB1.out.rf
  have HR := Kp.mk hr
  clear hr
  go_enter Try.func35, Try.ntmps35
  go_wp2_with fail
  refine (rall_any _ q fv s rr HR.out (by have := HB1.out.inv.n; omega) (by have := HB1.out.inv.all; omega)).mono ?_
  rintro e w1 ⟨Ax, cx, rfl, ox, hf, hb1⟩
  obtain ⟨ws, hws⟩ : ∃ ws, ws = onW (cellsOf s) := ⟨_, rfl⟩
  rw [← hws] at ox hf ⊢
  have hwl : ws.length ≤ 1040 := by rw [hws]; exact onW_1040 HB1.out.inv
  have HWS := Kp.mk hws
  obtain ⟨nn, hnn⟩ : ∃ n, n = ws.length := ⟨_, rfl⟩
  rw [← hnn] at ox hf hwl ⊢
  have HNN := Kp.mk hnn
  have HHI := Kp.mk hb1.size
  have HLE := Kp.mk HB1.out.st.le
  have OX := Kp.mk ox
  have HF := Kp.mk hf
  have HBX := Kp.mk hb1
  have hbx := Chg.at (Chg.of_below hb1 NoF) (blk_new w (.cells #[.int .i64 kd, .int .i64 n, .int .u64 u, .slice A m c] 31)) (fun h => h)
  have HX := Kp.mk hbx
  clear hws hnn ox hf hb1 hbx
  go_upto_region 5 with fail
  go_loopw [8] (fun i wr => ∃ (k : Nat) (l' : List Int), k ≤ nn ∧ i = .int .i64 k ∧ Kp (l'.length = nn) ∧ Kp (Own wr 29 eU64 (.slice Ax nn cx) l') ∧ Kp (Chg (fun g => (Value.slice Ax nn cx).ownBlock = some g) w1 wr)) (fun i _ => nn - (intOf i).toNat)
  case atStart => exact ⟨0, ws, Nat.zero_le _, rfl, ⟨HNN.out.symm⟩, OX, ⟨Chg.refl _ _⟩⟩
  case round =>
    obtain ⟨k, l', hk, rfl, hl', hO, hC⟩ := hrel
    by_cases hlt : k < nn
    · obtain ⟨gx, rfl⟩ : ∃ g, Ax = some ⟨g, 0, none⟩ := by
        obtain ⟨A2, c2, hv2, _, _, hs0, hs1⟩ := hO.out.shape
        have ea : Ax = A2 := by injection hv2
        cases hA : A2 with
        | none => have h1 := (hs0 hA).1; have h2 := hl'.out; rw [h1] at h2; simp at h2; omega
        | some x => obtain ⟨g, rfl⟩ := hs1 x hA; exact ⟨g, by rw [ea, hA]⟩
      have h0 := hO.out.elem k 0 (by rw [hl'.out]; exact hlt) (by decide)
      obtain ⟨x, hx⟩ : ∃ x, x = l'[k]'(by rw [hl'.out]; exact hlt) := ⟨_, rfl⟩
      rw [← hx] at h0
      have q0 : wr.cell? ⟨gx, k, none⟩ = some (.int .u64 x) := by simpa [eU64] using h0
      have z0 : wr.frozen? ⟨gx, k, none⟩ = false := hO.out.frozen _
      have hgl := hO.out.lt (g := gx) rfl
      have bx := hC.out.at HX.out (OX.out.ne HX.out (by decide))
      have b2 : wr.cell? ⟨w.heap.size, 2, none⟩ = some (.int .u64 u) := blk_c bx 2
      have k0 : (0 : Int) ≤ (k : Int) := by omega
      have k1 : (k : Int) < (nn : Int) := by omega
      clear h0 hx bx
      go_wp2_with fail
      go_region
      all_goals go_wp2
      go_roundw
      case rel =>
        have h9 := hO.out.set hl'.out.symm k 0 (IntKind.u64.wrap (x + u)) (.int .u64 (IntKind.u64.wrap (x + u))) (by rw [hl'.out]; exact hlt) (by decide) rfl
        rw [show k * eU64.k + 0 = k from Nat.mul_one k] at h9
        exact ⟨k + 1, l'.set k (IntKind.u64.wrap (x + u)), by omega, by go_num, ⟨by rw [List.length_set]; exact hl'.out⟩, ⟨h9.drew⟩, ⟨(hC.out.set (p := ⟨gx, k, none⟩) (.inl rfl) _).drew⟩⟩
      case measure => simp [intOf]; omega
    · have hd5 : decide ((k : Int) < (nn : Int)) = false := by simp; omega
      have hdf : ¬ ((k : Int) < (nn : Int)) := by omega
      have hty0 : Chg (Ty B [29] w1) w1 wr := hC.out.mono fun g _ hg => OX.out.isTy (by decide) (fun g hg => by have h1 := HF.out g hg; have h2 := HLE.out; omega) g hg
      have hb1w := HB1.out.below HBX.out
      have BO : Kp (Bo B wr p q s) := ⟨⟨hb1w.st.ty (L := [29]) (by decide) hty0, hb1w.rf.ty (L := [29]) (by decide) hty0, hb1w.inv⟩⟩
      have hBw : B.Ok w := HBW.out
      have LB : Kp (Bel B w wr) := ⟨((Bel.refl w).alloc hBw _).trans ((bel HBX.out HLE.out).trans (Ty.below hty0 (HLE.out.up HHI.out)))⟩
      obtain ⟨z, hz⟩ : ∃ z, z = wr.heap.size := ⟨_, rfl⟩
      have HGX : Kp (∀ g, (Value.slice Ax nn cx).ownBlock = some g → g < z) := ⟨fun g hg => by rw [hz]; exact hO.out.lt hg⟩
      have HZB : Kp (B.b ≤ z ∧ B.hi ≤ z) := ⟨by rw [hz]; exact BO.out.st.le⟩
      have HZ := Kp.mk hz
      have hown0 : Own wr 29 eU64 (.slice none 0 0) [] := Own.nil _ _ _
      have hsrc := hO.out.src rfl
      have HL' := hl'
      have HO := hO
      clear hl' hO hC hty0 hb1w hBw hz HX OX HF HBX HB1
      go_upto_region 10 with (at_builtin; refine app_ev T23 rfl _ _ rfl hown0 rfl hsrc HL'.out.symm rfl (by have := HL'.out; simp only [List.length_nil]; omega) (by have := HL'.out; simp only [List.length_nil]; omega) ?_; intro A' n' c' w5 a0 a1 a2 a3)
      obtain rfl : n' = nn := by have h1 := a0.out; have h2 := HL'.out; simp only [List.length_nil] at h1; omega
      rw [List.nil_append] at a1
      have hc5 : Below wr.heap.size wr w5 := a2.below_all (fun k hk => by cases hk)
      have BO5 := Kp.mk (BO.out.below hc5)
      have LB5 := Kp.mk (LB.out.trans (bel hc5 BO.out.st.le))
      have HO5 := Kp.mk (HO.out.frame (Chg.of_below hc5 NoF) (fun _ _ h => h))
      have O5 := Kp.mk a1
      have HFR : Kp (∀ g, (Value.slice A' n' c').ownBlock = some g → z ≤ g) := ⟨fun g hg => by
        rcases a3 with h | ⟨g', h, h2⟩
        · rw [h] at hg; cases hg
        · rw [h] at hg; cases hg; rw [HZ.out]; exact h2⟩
      have HZ5 : Kp (z ≤ w5.heap.size) := ⟨by rw [HZ.out]; exact hc5.size⟩
      have al : l'.length + 1 ≤ 2000 := by have := HL'.out; omega
      have HAL := Kp.mk al
      clear hsrc hown0 a0 a2 a3 hc5 HO BO LB al
      go_upto_region 11 with (at_builtin; refine app1_ev T23 4321 rfl _ _ rfl a1 rfl rfl rfl (by simp) rfl (by have := HAL.out; omega) (by have := HAL.out; omega) ?_; intro A2 n2 c2 w2 b0 b1 b2 b3)
      obtain rfl : n2 = n' + 1 := by have h1 := b0.out; rw [HL'.out] at h1; exact h1
      obtain ⟨A3, c3, hv3, hc3, _, hs0, hs1⟩ := b1.shape
      obtain ⟨rfl, rfl⟩ : A2 = A3 ∧ c2 = c3 := by injection hv3 with h1 _ h3; exact ⟨h1, h3⟩
      obtain ⟨g, rfl⟩ : ∃ g, A2 = some ⟨g, 0, none⟩ := by
        cases A2 with
        | none => have h1 := (hs0 rfl).1; simp at h1
        | some x => obtain ⟨g, rfl⟩ := hs1 x rfl; exact ⟨g, rfl⟩
      have hown := b1.take l'.length (by simp)
      rw [List.take_left] at hown
      have hc4 : n' + 1 ≤ c2 := by have h1 := HL'.out; simp at hc3; omega
      have HO2 := Kp.mk b1
      have HOT := Kp.mk hown
      have HGZ : Kp (z ≤ g) := ⟨by
        rcases b3 with h | ⟨g', h, h2⟩
        · exact HFR.out g (by rw [← h]; rfl)
        · have h4 : g = g' := by simpa [Value.ownBlock] using h
          have := HZ5.out
          omega⟩
      have hty2 : Chg (Ty B [29] w5) w5 w2 := b2.mono fun g _ hg => O5.out.isTy (by decide) (fun g hg => by have h1 := HFR.out g hg; have h2 := HZB.out; omega) g hg
      have ST2 := Kp.mk (BO5.out.st.ty (L := [29]) (by decide) hty2)
      have RF2 := Kp.mk (BO5.out.rf.ty (L := [29]) (by decide) hty2)
      have LB2 := Kp.mk (LB5.out.trans (Ty.below hty2 BO5.out.st.le))
      have HO52 := Kp.mk (HO5.out.frame b2 (fun g hg hF => by have h1 := HFR.out g hF; have h2 := HGX.out g hg; omega))
      have INV := Kp.mk BO5.out.inv
      clear hv3 hc3 hs0 hs1 b0 b1 b2 b3 hown a1 hty2 BO5 LB5 HO5 O5
      have hl0 : (0 : Int) ≤ (n' : Int) := by omega
      have hl1 : (n' : Int) ≤ (c2 : Int) := by omega
      have hl2 : n' ≤ c2 := by omega
      have HSW := Kp.mk (s_swap w2 p s l' _ c2 ST2.out INV.out HOT.out)
      rw [HL'.out] at HSW
      go_wp2_with fail
      refine HSW.out.mono ?_
      rintro e w3 ⟨rfl, st3, ch3⟩
      have ST3 := Kp.mk st3
      have RF3 := Kp.mk (RF2.out.ty (L := TS) (by decide) ch3)
      have O3 := Kp.mk (HO2.out.ty (L := TS) (by decide) ch3)
      have OT3 := Kp.mk (HOT.out.ty (L := TS) (by decide) ch3)
      have HO3 := Kp.mk (HO52.out.ty (L := TS) (by decide) ch3)
      have LB3 := Kp.mk (LB2.out.trans (Ty.below ch3 ST2.out.le))
      have HEQ := Kp.mk (words_eqL w3 l' _ Ax c2 cx (OT3.out.src (by rw [HL'.out])) (HO3.out.src rfl) (by have := HAL.out; omega))
      rw [HL'.out] at HEQ
      clear st3 ch3 HO2 HOT ST2 RF2 LB2 HO52 HSW
      go_wp2_with fail
      refine HEQ.out.mono ?_
      rintro e w4 ⟨rfl, hb4⟩
      have ST4 := Kp.mk (ST3.out.below hb4)
      have RF4 := Kp.mk (RF3.out.below hb4)
      have O4 := Kp.mk (O3.out.frame (Chg.of_below hb4 NoF) (fun _ _ h => h))
      have HO4 := Kp.mk (HO3.out.frame (Chg.of_below hb4 NoF) (fun _ _ h => h))
      have LB4 := Kp.mk (LB3.out.trans (bel hb4 ST3.out.le))
      have q4 : w4.cell? ⟨g, n', none⟩ = some (.int .u64 4321) := by
        have h3 := O4.out.elem l'.length 0 (by simp) (by decide)
        simp at h3
        rw [HL'.out] at h3
        simpa [eU64] using h3
      have hl3 : (n' : Int) < (n' : Int) + 1 := by omega
      clear hb4 O3 OT3 ST3 RF3 HO3 LB3 HEQ
      go_upto_region 14 with fail
      go_loopw [12] (fun i wr => ∃ k : Nat, k ≤ n' ∧ i = .int .i64 k ∧ Kp (∃ l2 : List Int, l2.length = n' + 1 ∧ Own wr 29 eU64 (.slice (some ⟨g, 0, none⟩) (n' + 1) c2) l2) ∧ Kp (Own wr 29 eU64 (.slice Ax n' cx) l') ∧ Kp (Chg (Ty B [29] w4) w4 wr)) (fun i _ => n' - (intOf i).toNat)
      case atStart => exact ⟨0, Nat.zero_le _, rfl, ⟨_, by simp [HL'.out], O4.out⟩, HO4, ⟨Chg.refl _ _⟩⟩
      case round =>
        obtain ⟨k, hk, rfl, hO, hS, hC⟩ := hrel
        by_cases hlt2 : k < n'
        · obtain ⟨l2, hl2', ol⟩ := hO.out
          have h0 := ol.elem k 0 (by omega) (by decide)
          obtain ⟨x, hx⟩ : ∃ x, x = l2[k] := ⟨_, rfl⟩
          rw [← hx] at h0
          have q0 : wr.cell? ⟨g, k, none⟩ = some (.int .u64 x) := by simpa [eU64] using h0
          have z0 : wr.frozen? ⟨g, k, none⟩ = false := ol.frozen _
          have hgl := ol.lt (g := g) rfl
          have k0 : (0 : Int) ≤ (k : Int) := by omega
          have k1 : (k : Int) < (n' : Int) := by omega
          have k2 : (k : Int) < (n' : Int) + 1 := by omega
          have k3 : k < n' + 1 := by omega
          have HSET := Kp.mk (ol.set hl2'.symm k 0 99 (.int .u64 99) (by omega) (by decide) rfl)
          have HL2 := Kp.mk hl2'
          have hgx : ∀ x, (Value.slice (some ⟨g, 0, none⟩) (n' + 1) c2).ownBlock = some x → B.In x := fun x hx => by
            have h4 : g = x := by simpa [Value.ownBlock] using hx
            have := HGZ.out
            have := HZB.out
            omega
          have HTY := Kp.mk (ol.isTy (L := [29]) (by decide) hgx g rfl)
          have HNE : Kp ((Value.slice Ax n' cx).ownBlock ≠ some g) := ⟨fun hg => by have h1 := HGX.out g hg; have h2 := HGZ.out; omega⟩
          clear hgx
          clear h0 hx ol hl2'
          go_wp2
          go_roundw
          case rel => exact ⟨k + 1, by omega, by go_num, ⟨l2.set k 99, by rw [List.length_set]; exact HL2.out, by have h9 := HSET.out; rw [show k * eU64.k + 0 = k from Nat.mul_one k] at h9; exact h9⟩, ⟨hS.out.set_ne HNE.out _⟩, ⟨Chg.ty hC.out ((Chg.refl (Ty B [29] wr) wr).set (p := ⟨g, k, none⟩) (.inl HTY.out) _)⟩⟩
          case measure => simp [intOf]; omega
        · have hd6 : decide ((k : Int) < (n' : Int)) = false := by simp; omega
          have hdg : ¬ ((k : Int) < (n' : Int)) := by omega
          have ST5 := Kp.mk (ST4.out.ty (L := [29]) (by decide) hC.out)
          have LB5 := Kp.mk (LB4.out.trans (Ty.below hC.out ST4.out.le))
          obtain ⟨fv, rr, hr⟩ := RF4.out.ty (L := [29]) (by decide) hC.out
          have HRS := Kp.mk (rswap_any wr q fv s rr l' Ax cx hr (fun w' hc => (hS.out.ty (L := TR) (by decide) hc).src rfl) (by have := INV.out.n; omega) (by have := INV.out.all; omega))
          rw [HL'.out] at HRS
          clear hr hO hS
          go_wp2_with fail
          refine HRS.out.mono ?_
          rintro e w6 ⟨rfl, rf6, c6⟩
          have RF6 : Kp (Rf B w6 q _) := ⟨rf6⟩
          have ST6 := Kp.mk (ST5.out.ty (L := TR) (by decide) c6)
          have LB6 := Kp.mk (LB5.out.trans (Ty.below c6 ST5.out.le))
          clear rf6 c6 HRS
          go_wp2
          go_ret
          exact ⟨l', rfl, ⟨ST6.out, RF6.out, INV.out.swap l'⟩, LB6.out⟩
end Go.Proofs.Ythdfmopbihpcoaa
