/- What swapped of the package's law answers where the operation brings the words; its conditions stand in the statement. -/
import Derived.Test.YthdfmopbihpcoaaRs
import Derived.Test.YthdfmopbihpcoaaOpW
namespace Go.Proofs.Ythdfmopbihpcoaa
open Go.RowKit
variable {B : Bd}

set_option maxHeartbeats 1000000 in
theorem words_eqL (w : World) (l : List Int) (A1 A2 : Option Addr) (c1 c2 : Nat) (ha : Src w eU64 A1 c1 l) (hb : Src w eU64 A2 c2 l) (hn : l.length ≤ 9000000000000000) :
    Calls Try.prog 14 #[.slice A1 l.length c1, .slice A2 l.length c2] w fun e w' => e = .returned (.bool true) ∧ Below w.heap.size w w' := by
  have hne : ((l.length : Int) != (l.length : Int)) = false := by simp
  go_enter Try.func14, Try.ntmps14
  go_wp2
  go_loopw [5] (fun i wr => ∃ k : Nat, k ≤ l.length ∧ i = .int .i64 k ∧ Below w.heap.size w wr) (fun i _ => l.length - (intOf i).toNat)
  case atStart => exact ⟨0, Nat.zero_le _, rfl, Below.refl _ _⟩
  case round =>
    obtain ⟨k, hk, rfl, hbw⟩ := hrel
    by_cases hlt : k < l.length
    · cases A1 with
      | none => have := (ha.none rfl).1; subst this; simp at hlt
      | some x =>
      cases A2 with
      | none => have := (hb.none rfl).1; subst this; simp at hlt
      | some y =>
        obtain ⟨g, o, rfl⟩ := ha.addr (by omega)
        obtain ⟨g2, o2, rfl⟩ := hb.addr (by omega)
        have H0 : wr.cell? ⟨g, o + k, none⟩ = some (.int .u64 l[k]) := by have := (ha.below hbw).elem k 0 hlt (by decide); simpa [eU64] using this
        have G0 : wr.cell? ⟨g2, o2 + k, none⟩ = some (.int .u64 l[k]) := by have := (hb.below hbw).elem k 0 hlt (by decide); simpa [eU64] using this
        obtain ⟨x, hx⟩ : ∃ x, x = l[k] := ⟨_, rfl⟩
        rw [← hx] at H0 G0
        clear hx
        have k0 : (0 : Int) ≤ (k : Int) := by omega
        have k1 : (k : Int) < (l.length : Int) := by omega
        have hq : (x != x) = false := by simp
        go_wp2_with fail
        go_quiet (fail)
        go_wp2
        go_roundw
        case rel => exact ⟨k + 1, by omega, by go_num, below_drewN hbw _⟩
        case measure => simp [intOf]; omega
    · have hle : l.length ≤ k := by omega
      clear hlt
      go_wp2
      go_ret
      exact ⟨rfl, hbw⟩

set_option maxRecDepth 100000 in
set_option maxHeartbeats 4000000 in
theorem swapped_own (w : World) (p q : Nat) (s : StM) (kd n u : Int) (A : Option Addr) (c : Nat) (ws : List Int) (h : Bo B w p q s) (hn : n < 0) (hm : ws.length * 8 ≤ 140737488351232) (hsrc : ∀ w', Bel B w w' → Src w' eU64 A c ws) :
    Calls Try.prog 35 #[.pointer (some ⟨p, 0, none⟩), .pointer (some ⟨q, 0, none⟩), .agg #[.int .i64 kd, .int .i64 n, .int .u64 u, .slice A ws.length c]] w (StepPost B w p q (swapM' s ws)) := by
  have hle := h.st.le
  have h1 := h.below ((Below.refl _ w).alloc (Nat.le_refl _) (.cells #[.int .i64 kd, .int .i64 n, .int .u64 u, .slice A ws.length c] 31))
  have hb0 : Bel B w (w.alloc (.cells #[.int .i64 kd, .int .i64 n, .int .u64 u, .slice A ws.length c] 31)) := (Bel.refl w).alloc hle _
  have HB1 := Kp.mk h1
  have HB0 := Kp.mk hb0
  have HLE := Kp.mk hle
  have HSRC := Kp.mk hsrc
  have hs1 := hsrc _ hb0
  clear h h1 hb0 hle hsrc
  have hnd : decide (0 ≤ n) = false := by simp; omega
  have hown0 : Own (w.alloc (.cells #[.int .i64 kd, .int .i64 n, .int .u64 u, .slice A ws.length c] 31)) 29 eU64 (.slice none 0 0) [] := Own.nil _ _ _
  go_enter Try.func35, Try.ntmps35
  go_upto_region 10 with (at_builtin; refine app_ev T23 rfl _ _ rfl hown0 rfl hs1 rfl rfl (by simp only [List.length_nil]; omega) (by simp only [List.length_nil]; omega) ?_; intro A' n' c' w1 a0 a1 a2 a3)
  obtain rfl : n' = ws.length := by simpa using a0.out
  rw [List.nil_append] at a1
  have hb1 := HB0.out.trans (bel (a2.below_all (fun k hk => by cases hk)) (HLE.out.up HB0.out.size))
  have BO1 := Kp.mk (HB1.out.below (a2.below_all (fun k hk => by cases hk)))
  have HBB1 := Kp.mk hb1
  have O1 := Kp.mk a1
  have hfr : Fresh (w.alloc (.cells #[.int .i64 kd, .int .i64 n, .int .u64 u, .slice A ws.length c] 31)) (.slice A' ws.length c') := fun g hg => by
    rcases a3 with h | ⟨g', h, h2⟩
    · rw [h] at hg; cases hg
    · rw [h] at hg; cases hg; exact h2
  have HFR := Kp.mk hfr
  clear hs1 hown0 a0 a2 a3 hb1 hfr
  go_upto_region 11 with (at_builtin; refine app1_ev T23 4321 rfl _ _ rfl a1 rfl rfl rfl (by simp) rfl (by omega) (by omega) ?_; intro A2 n2 c2 w2 b0 b1 b2 b3)
  obtain rfl : n2 = ws.length + 1 := b0.out
  obtain ⟨A3, c3, hv3, hc3, _, hs0, hs1⟩ := b1.shape
  obtain ⟨rfl, rfl⟩ : A2 = A3 ∧ c2 = c3 := by injection hv3 with h1 _ h3; exact ⟨h1, h3⟩
  obtain ⟨g, rfl⟩ : ∃ g, A2 = some ⟨g, 0, none⟩ := by
    cases A2 with
    | none => have h1 := (hs0 rfl).1; simp at h1
    | some x => obtain ⟨g, rfl⟩ := hs1 x rfl; exact ⟨g, rfl⟩
  have hown := b1.take ws.length (by simp)
  rw [List.take_left] at hown
  have hc4 : ws.length + 1 ≤ c2 := by simpa using hc3
  have HO := Kp.mk b1
  have HOT := Kp.mk hown
  have B2 := Kp.mk b2
  have B3 := Kp.mk b3
  clear hv3 hc3 hs0 hs1 b0 b1 b2 b3 hown a1
  have hl0 : (0 : Int) ≤ (ws.length : Int) := by omega
  have hl1 : (ws.length : Int) ≤ (c2 : Int) := by omega
  have hl2 : ws.length ≤ c2 := by omega
  have HGB : Kp (B.In g) := ⟨by
    rcases B3.out with h | ⟨g', h, h2⟩
    · have h1 := HFR.out g (by rw [← h]; rfl)
      have h2 := HB0.out.size
      have h3 := HLE.out
      omega
    · have h4 : g = g' := by simpa [Value.ownBlock] using h
      have h5 := BO1.out.st.le
      omega⟩
  have hty2 : Chg (Ty B [29] w1) w1 w2 := B2.out.mono fun g _ hg => O1.out.isTy (by decide) (fun g hg => by have h1 := HFR.out g hg; have h2 := HB0.out.size; have h3 := HLE.out; omega) g hg
  have ST2 := Kp.mk (BO1.out.st.ty (L := [29]) (by decide) hty2)
  have RF2 := Kp.mk (BO1.out.rf.ty (L := [29]) (by decide) hty2)
  have HBB2 := Kp.mk (HBB1.out.trans (Ty.below hty2 BO1.out.st.le))
  clear hty2
  go_wp2_with fail
  refine (s_swap w2 p s ws _ c2 ST2.out BO1.out.inv HOT.out).mono ?_
  rintro e w3 ⟨rfl, st3, ch3⟩
  have ST3 := Kp.mk st3
  have RF3 := Kp.mk (RF2.out.ty (L := TS) (by decide) ch3)
  have O3 := Kp.mk (HO.out.ty (L := TS) (by decide) ch3)
  have OT3 := Kp.mk (HOT.out.ty (L := TS) (by decide) ch3)
  have HBB3 := Kp.mk (HBB2.out.trans (Ty.below ch3 ST2.out.le))
  clear st3 ch3 HO HOT ST2 RF2 B2 B3
  go_wp2_with fail
  refine (words_eqL w3 ws _ A c2 c (OT3.out.src rfl) (HSRC.out w3 HBB3.out) (by omega)).mono ?_
  rintro e w4 ⟨rfl, hb4⟩
  have ST4 := Kp.mk (ST3.out.below hb4)
  have RF4 := Kp.mk (RF3.out.below hb4)
  have O4 := Kp.mk (O3.out.frame (Chg.of_below hb4 NoF) (fun _ _ h => h))
  have HBB4 := Kp.mk (HBB3.out.trans (bel hb4 ST3.out.le))
  have q4 : w4.cell? ⟨g, ws.length, none⟩ = some (.int .u64 4321) := by
    have h1 := O4.out.elem ws.length 0 (by simp) (by decide)
    simpa [eU64] using h1
  have hl3 : (ws.length : Int) < (ws.length : Int) + 1 := by omega
  clear hb4 O3 OT3 ST3 RF3
  go_upto_region 14 with fail
  go_loopw [12] (fun i wr => ∃ k : Nat, k ≤ ws.length ∧ i = .int .i64 k ∧ Kp (∃ l', l'.length = ws.length + 1 ∧ Own wr 29 eU64 (.slice (some ⟨g, 0, none⟩) (ws.length + 1) c2) l') ∧ Kp (Chg (Ty B [29] w4) w4 wr)) (fun i _ => ws.length - (intOf i).toNat)
  case atStart => exact ⟨0, Nat.zero_le _, rfl, ⟨_, by simp, O4.out⟩, ⟨Chg.refl _ _⟩⟩
  case round =>
    obtain ⟨k, hk, rfl, hO, hC⟩ := hrel
    by_cases hlt : k < ws.length
    · obtain ⟨l', hl', ol⟩ := hO.out
      have h0 := ol.elem k 0 (by omega) (by decide)
      obtain ⟨x, hx⟩ : ∃ x, x = l'[k] := ⟨_, rfl⟩
      rw [← hx] at h0
      have q0 : wr.cell? ⟨g, k, none⟩ = some (.int .u64 x) := by simpa [eU64] using h0
      have z0 : wr.frozen? ⟨g, k, none⟩ = false := ol.frozen _
      have hgl := ol.lt (g := g) rfl
      have k0 : (0 : Int) ≤ (k : Int) := by omega
      have k1 : (k : Int) < (ws.length : Int) := by omega
      have k2 : (k : Int) < (ws.length : Int) + 1 := by omega
      have k3 : k < ws.length + 1 := by omega
      have HSET := Kp.mk (ol.set hl'.symm k 0 99 (.int .u64 99) (by omega) (by decide) rfl)
      have HL' := Kp.mk hl'
      have hgx : ∀ x, (Value.slice (some ⟨g, 0, none⟩) (ws.length + 1) c2).ownBlock = some x → B.In x := fun x hx => by
        have h4 : g = x := by simpa [Value.ownBlock] using hx
        have := HGB.out
        omega
      have HTY := Kp.mk (ol.isTy (L := [29]) (by decide) hgx g rfl)
      clear hgx
      clear h0 hx ol hl'
      go_wp2
      go_roundw
      case rel => exact ⟨k + 1, by omega, by go_num, ⟨l'.set k 99, by rw [List.length_set]; exact HL'.out, by have h9 := HSET.out; rw [show k * eU64.k + 0 = k from Nat.mul_one k] at h9; exact h9⟩, ⟨Chg.ty hC.out ((Chg.refl (Ty B [29] wr) wr).set (p := ⟨g, k, none⟩) (.inl HTY.out) _)⟩⟩
      case measure => simp [intOf]; omega
    · have hd5 : decide ((k : Int) < (ws.length : Int)) = false := by simp; omega
      have hdf : ¬ ((k : Int) < (ws.length : Int)) := by omega
      have ST5 := Kp.mk (ST4.out.ty (L := [29]) (by decide) hC.out)
      have HBB5 := Kp.mk (HBB4.out.trans (Ty.below hC.out ST4.out.le))
      obtain ⟨fv, rr, hr⟩ := RF4.out.ty (L := [29]) (by decide) hC.out
      have HR := Kp.mk hr
      clear hr hO
      go_wp2_with fail
      refine (rswap_any wr q fv s rr ws A c HR.out (fun w' hc => HSRC.out w' (HBB5.out.trans (Ty.below hc ST5.out.le))) (by have := BO1.out.inv.n; omega) (by have := BO1.out.inv.all; omega)).mono ?_
      rintro e w6 ⟨rfl, rf6, c6⟩
      have RF6 : Kp (Rf B w6 q _) := ⟨rf6⟩
      have ST6 := Kp.mk (ST5.out.ty (L := TR) (by decide) c6)
      have HBB6 := Kp.mk (HBB5.out.trans (Ty.below c6 ST5.out.le))
      clear rf6 c6
      go_wp2
      go_ret
      exact ⟨rfl, ⟨ST6.out, RF6.out, BO1.out.inv.swap ws⟩, HBB6.out⟩
end Go.Proofs.Ythdfmopbihpcoaa
