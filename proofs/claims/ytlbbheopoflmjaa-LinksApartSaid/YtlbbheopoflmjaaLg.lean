/- LinksGroup walked: it answers true; its bounds stand in the statement. -/
import Derived.Test.YtlbbheopoflmjaaLo
namespace Go.Proofs.Ytlbbheopoflmjaa
open Go.RowKit

theorem IsGrp.at_ {L : List Bd} (hG : GoodL L) {pid x : Int} {S : List Int} (h : IsGrp L pid S) (hx : x ∈ S) : IsGrp L x S := by
  obtain ⟨h0, h1⟩ := h.mem hx
  have hxp := reach_pid hG h0 h1
  unfold IsGrp at h ⊢
  rw [if_pos h0] at h
  rw [if_pos hxp]
  exact h.imp fun y => ⟨fun hy => h1.symm.trans hy, fun hy => h1.trans hy⟩
set_option maxRecDepth 100000 in
set_option maxHeartbeats 8000000 in
theorem linksGroup_any (w : World) (ops : List OpM) (a b : Int) (A : Option Addr) (c : Nat) (hs : Src w eOp A c ops) (hr : ∀ o ∈ ops, In64 o.ref) (hn : ops.length ≤ 9000000000000) :
    Calls Try.prog 5 #[.slice A ops.length c, .int .i64 a, .int .i64 b] w fun e w' => e = .returned (.bool true) ∧ Below w.heap.size w w' := by
  have LA := Kp.mk (laid_any w ops A c hs hr hn)
  clear hs hr
  go_enter Try.func5, Try.ntmps5
  go_wp2_with fail
  refine LA.out.mono ?_
  rintro e w1 ⟨p, bm, lm, rm, q, lv, ns, last, rfl, hT, hl⟩
  have T1 := Kp.mk hT
  have HL : Kp (last ≤ 900000000000000000) := ⟨by omega⟩
  have HG := Kp.mk hT.g.ok.goodL
  have HN := Kp.mk hT.g.ok.n1024
  clear hT hl LA
  go_wp2_with fail
  refine (group_any T1.out.g HL.out a).mono ?_
  rintro e w2 ⟨v2, Sa, rfl, ho2, hf2, hb2, hg2⟩
  obtain ⟨A2, c2, hv2, _⟩ := ho2.shape
  subst hv2
  have GA : Kp (IsGrp (sn ns) a Sa) := ⟨hg2⟩
  have T2 := Kp.mk (T1.out.below hb2)
  have hna := uni_mem Sa a hg2
  have O2 := Kp.mk ho2
  clear ho2 hf2 hb2 hg2
  go_wp2_with fail
  refine (group_any T2.out.g HL.out b).mono ?_
  rintro e w3 ⟨v3, Sb, rfl, ho3, hf3, hb3, hg3⟩
  obtain ⟨A3, c3, hv3, _⟩ := ho3.shape
  subst hv3
  have GB : Kp (IsGrp (sn ns) b Sb) := ⟨hg3⟩
  have T3 := Kp.mk (T2.out.below hb3)
  have hnb := uni_mem Sb b hg3
  have O23 := Kp.mk (O2.out.below hb3)
  have O3 := Kp.mk ho3
  obtain ⟨na, hna2⟩ : ∃ na, na = Sa.length := ⟨_, rfl⟩
  obtain ⟨nb, hnb2⟩ : ∃ nb, nb = Sb.length := ⟨_, rfl⟩
  have hab : na ≤ 2049 := by have := HN.out; omega
  have hbb : nb ≤ 2049 := by have := HN.out; omega
  rw [← hna2] at O23 ⊢
  rw [← hnb2] at O3 ⊢
  have HNA := Kp.mk hna2
  have HNB := Kp.mk hnb2
  clear ho3 hf3 hb3 hg3 hna hnb hna2 hnb2
  go_wp2_with fail
  go_loopw [11, 13, 15, 31] (fun bv _ _ i wr => ∃ (k bn : Nat), k ≤ na ∧ i = .int .i64 k ∧ bv = .int .i64 bn ∧ bn ≤ 2049 * k ∧ Kp (0 < bn → ∃ x, x ∈ Sa ∧ x ∈ Sb) ∧ Kp (Below w3.heap.size w3 wr)) (fun _ _ _ i _ => na - (intOf i).toNat)
  case atStart => exact ⟨0, 0, Nat.zero_le _, rfl, rfl, by omega, ⟨fun h => absurd h (by omega)⟩, ⟨Below.refl _ _⟩⟩
  case round =>
    obtain ⟨k, bn, hk, rfl, rfl, hbn, HX, HB⟩ := hrel
    by_cases hlt : k < na
    · obtain ⟨A9, c9, hv9, _, _, h0, h1⟩ := O23.out.shape
      obtain ⟨g, rfl⟩ : ∃ g, A2 = some ⟨g, 0, none⟩ := by
        injection hv9 with e1 _ _
        subst e1
        cases A2 with
        | none => have := (h0 rfl).1; have h2 := HNA.out; rw [this] at h2; simp at h2; omega
        | some y => obtain ⟨g, rfl⟩ := h1 y rfl; exact ⟨g, rfl⟩
      clear hv9 h0 h1
      have hkt : k < Sa.length := by have := HNA.out; omega
      have hcx : wr.cell? ⟨g, k, none⟩ = some (.int .i64 Sa[k]) := by
        have h1 := (O23.out.below HB.out).elem k 0 hkt (by decide); simpa [eI64] using h1
      have hmx : Sa[k] ∈ Sa := List.getElem_mem hkt
      obtain ⟨x, hxe⟩ : ∃ x, x = Sa[k] := ⟨_, rfl⟩
      rw [← hxe] at hcx hmx
      have HMX := Kp.mk hmx
      have k0 : (0 : Int) ≤ (k : Int) := by omega
      have k1 : (k : Int) < (na : Int) := by omega
      have hkb : bn ≤ 2049 * 2049 := by have : 2049 * k ≤ 2049 * 2049 := Nat.mul_le_mul_left _ (by omega); omega
      obtain ⟨wo, rfl⟩ : ∃ wo : World, wo = wr := ⟨_, rfl⟩
      clear hxe hkt hmx
      go_wp2_with (first
        | (go_at_call 23; refine (group_any (T3.out.below HB.out).g HL.out x).mono ?_; rintro e w5 ⟨v5, Sx, rfl, ho5, hf5, hb5, hg5⟩; obtain rfl : Sx = Sa := (GA.out.same HG.out HMX.out hg5); obtain ⟨A5, c5, hv5, _⟩ := ho5.shape; subst hv5; have O5 := Kp.mk ho5; have B5 := Kp.mk (bstep HB.out HB.out.size hb5); clear ho5 hf5 hb5 hg5; rw [← HNA.out])
        | (go_at_call 24; rw [HNA.out]; refine (pids_eq _ Sx A5 _ c5 c2 (O5.out.src rfl) (by have := O23.out.below B5.out; rw [HNA.out] at this; exact this.src rfl) (by rw [← HNA.out]; omega)).mono ?_; rintro e w6 ⟨rfl, hb6⟩; have B6 := Kp.mk (bstep B5.out B5.out.size hb6); clear hb6; rw [← HNA.out]))
      go_loop [11, 15, 43] (fun bv _ j => ∃ (m bq : Nat), m ≤ nb ∧ j = .int .i64 m ∧ bv = .int .i64 bq ∧ bq ≤ bn + m ∧ Kp (0 < bq → ∃ x, x ∈ Sx ∧ x ∈ Sb)) (fun _ _ j => nb - (intOf j).toNat)
      case atStart => exact ⟨0, bn, Nat.zero_le _, rfl, rfl, by omega, HX⟩
      case round =>
        obtain ⟨m, bq, hm, rfl, rfl, hbq, HQ⟩ := hrel
        by_cases hlt2 : m < nb
        · obtain ⟨A9, c9, hv9, _, _, h0, h1⟩ := O3.out.shape
          obtain ⟨g3, rfl⟩ : ∃ g, A3 = some ⟨g, 0, none⟩ := by
            injection hv9 with e1 _ _
            subst e1
            cases A3 with
            | none => have := (h0 rfl).1; have h2 := HNB.out; rw [this] at h2; simp at h2; omega
            | some y => obtain ⟨g, rfl⟩ := h1 y rfl; exact ⟨g, rfl⟩
          clear hv9 h0 h1
          have hmt : m < Sb.length := by have := HNB.out; omega
          have hcy : w6.cell? ⟨g3, m, none⟩ = some (.int .i64 Sb[m]) := by
            have h1 := (O3.out.below B6.out).elem m 0 hmt (by decide); simpa [eI64] using h1
          have hmy : Sb[m] ∈ Sb := List.getElem_mem hmt
          obtain ⟨y, hye⟩ : ∃ y, y = Sb[m] := ⟨_, rfl⟩
          rw [← hye] at hcy hmy
          have HMY := Kp.mk hmy
          have m0 : (0 : Int) ≤ (m : Int) := by omega
          have m1 : (m : Int) < (nb : Int) := by omega
          clear hye hmt hmy
          by_cases hxy : x = y
          · have hd : (x == y) = true := by simpa using hxy
            have HXY := Kp.mk hxy
            clear hxy
            go_wp2
            go_round
            case rel => exact ⟨m + 1, bq + 1, by omega, by go_num, by go_num, by omega, ⟨fun _ => ⟨x, HMX.out, by rw [HXY.out]; exact HMY.out⟩⟩⟩
            case measure => simp [intOf]; omega
          · have hd : (x == y) = false := by simpa using hxy
            clear hxy
            go_wp2
            go_round
            case rel => exact ⟨m + 1, bq, by omega, by go_num, rfl, by omega, HQ⟩
            case measure => simp [intOf]; omega
        · obtain rfl : m = nb := by omega
          go_wp2_with fail
          go_roundw
          case rel => exact ⟨k + 1, bq, by omega, by go_num, rfl, by omega, HQ, B6⟩
          case measure => simp [intOf]; omega
    · obtain rfl : k = na := by omega
      have B3 : Kp (Below w.heap.size w wr) := ⟨bstep T3.out.bel T3.out.bel.size HB.out⟩
      by_cases h0 : bn = 0
      · subst h0
        go_wp2_with (go_at_call 16; refine (awake_any _).mono ?_; rintro e w9 ⟨rfl, hb9⟩; have B9 := Kp.mk hb9; clear hb9)
        go_ret
        exact ⟨rfl, bstep B3.out B3.out.size B9.out⟩
      · have hd : ((bn : Int) == 0) = false := by simp; omega
        obtain ⟨x, x1, x2⟩ := HX.out (by omega)
        obtain rfl : Sa = Sb := (GA.out.at_ HG.out x1).uniq (GB.out.at_ HG.out x2)
        have hkn : nb = k := by rw [HNB.out, HNA.out]
        subst hkn
        clear h0
        go_wp2_with (first
          | (go_at_call 24; rw [HNA.out]; refine (pids_eq _ Sa A2 A3 c2 c3 (by have := O23.out.below HB.out; rw [HNA.out] at this; exact this.src rfl) (by have := O3.out.below HB.out; rw [HNA.out] at this; exact this.src rfl) (by rw [← HNA.out]; omega)).mono ?_; rintro e w6 ⟨rfl, hb6⟩; have B6 := Kp.mk (bstep B3.out B3.out.size hb6); clear hb6; rw [← HNA.out])
          | (go_at_call 16; refine (awake_any _).mono ?_; rintro e w9 ⟨rfl, hb9⟩; have B9 := Kp.mk hb9; clear hb9))
        go_ret
        exact ⟨rfl, bstep B6.out B6.out.size B9.out⟩
end Go.Proofs.Ytlbbheopoflmjaa
