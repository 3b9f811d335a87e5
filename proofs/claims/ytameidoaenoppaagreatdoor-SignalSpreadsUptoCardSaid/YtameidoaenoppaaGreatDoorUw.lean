/- parleyref01.utf8 (26) walked: it tells whether a text is right UTF-8, as the model's own decoder has it; the bound is the model's own greatest string. -/
import Derived.Test.YtameidoaenoppaaGreatDoorUt
namespace Go.Proofs.YtameidoaenoppaaGreatDoor
open Go.RowKit Go.Lib

set_option maxHeartbeats 16000000 in
set_option maxRecDepth 1000000 in
theorem utf8_any (s : ByteArray) (w : World) (hs : s.size ≤ 140737488355328) :
    Calls Tryz.prog 81 #[.string s] w fun e w' => e = .returned (.bool (validD s.data.toList)) ∧ Below w.heap.size w w' := by
  obtain ⟨ANS, hANS⟩ : ∃ ANS, validD s.data.toList = ANS := ⟨_, rfl⟩
  rw [hANS]
  have HANS : Kp (validD (s.data.toList.drop 0) = ANS) := ⟨by rw [List.drop_zero]; exact hANS⟩
  clear hANS
  go_enter Tryz.func81, Tryz.ntmps81
  go_wp2
  go_loopw [3] (fun i wr => ∃ k : Nat, k ≤ s.size ∧ i = .int .i64 k ∧ Kp (validD (s.data.toList.drop k) = ANS) ∧ Below w.heap.size w wr) (fun i _ => s.size - (intOf i).toNat)
  case atStart => exact ⟨0, by omega, rfl, HANS, Below.refl _ _⟩
  case round =>
    clear HANS
    obtain ⟨k, hk, rfl, HV, hb⟩ := hrel
    by_cases hlt : k < s.size
    · have hltz : (k : Int) < (s.size : Int) := by omega
      have hk0 : (0 : Int) ≤ (k : Int) := by omega
      have HB0 := Kp.mk (byte_drop s k 0 hlt)
      have hg : s[k]'hlt = s.get! k := get_at s k hlt
      obtain ⟨x, hx⟩ : ∃ x, (s.get! k).toNat = x := ⟨_, rfl⟩
      have hx256 : x < 256 := by rw [← hx]; exact UInt8.toNat_lt _
      have hx0 : Kp (byteAt (s.data.toList.drop k) 0 = x) := ⟨by rw [HB0.out, Nat.add_zero, hx]⟩
      have hne : Kp (s.data.toList.drop k ≠ []) := ⟨fun e => by have := congrArg List.length e; rw [drop_len] at this; simp at this; omega⟩
      clear HB0
      have hc : x < 128 ∨ (128 ≤ x ∧ (x < 194 ∨ 245 ≤ x)) ∨ (194 ≤ x ∧ x < 245) := by omega
      rcases hc with hc | ⟨hc1, hc2⟩ | ⟨hc1, hc2⟩
      · have hcz : (x : Int) < 128 := by omega
        go_wp2
        go_roundw
        case rel => exact ⟨k + 1, by omega, by simp, ⟨by rw [← HV.out, v_1 hne.out (by rw [hx0.out]; exact hc), List.drop_drop]⟩, hb⟩
        case measure => simp [intOf]; omega
      · have c1 : ¬ (x : Int) < 128 := by omega
        have c2 : ((194 : Int) ≤ (x : Int) → ¬ (x : Int) < 224) := by omega
        have c3 : ((224 : Int) ≤ (x : Int) → ¬ (x : Int) < 240) := by omega
        have c4 : ((240 : Int) ≤ (x : Int) → ¬ (x : Int) < 245) := by omega
        have hn : ANS = false := by rw [← HV.out]; exact v_x hne.out (by rw [hx0.out]; exact hc1) (by rw [hx0.out]; exact hc2)
        subst hn
        rcases hc2 with hc2 | hc2
        · have d2 : ¬ (194 : Int) ≤ (x : Int) := by omega
          have d3 : ¬ (224 : Int) ≤ (x : Int) := by omega
          have d4 : ¬ (240 : Int) ≤ (x : Int) := by omega
          go_wp2
          go_ret
          exact ⟨rfl, hb⟩
        · have d2 : (194 : Int) ≤ (x : Int) := by omega
          have d3 : (224 : Int) ≤ (x : Int) := by omega
          have d4 : (240 : Int) ≤ (x : Int) := by omega
          have e2 : ¬ (x : Int) < 224 := by omega
          have e3 : ¬ (x : Int) < 240 := by omega
          have e4 : ¬ (x : Int) < 245 := by omega
          go_wp2
          go_ret
          exact ⟨rfl, hb⟩
      · go_upto_block 2 with fail
        go_cut [3, 5, 6, 7] from 17 to 48 (fun i n l r wc => ∃ N L R : Nat, i = .int .i64 k ∧ n = .int .i64 N ∧ l = .int .i64 L ∧ r = .int .i64 R ∧ Kp (Lead x N L R) ∧ wc = wr)
        case first =>
          have c1 : ¬ (x : Int) < 128 := by omega
          have d2 : (194 : Int) ≤ (x : Int) := by omega
          have m31 := i64_and31 x hx256
          have m15 := i64_and15 x hx256
          have m7 := i64_and7 x hx256
          by_cases h2 : x < 224
          · have e2 : (x : Int) < 224 := by omega
            go_wp2
            go_meet
            case rel => exact ⟨1, 128, x % 32, rfl, rfl, rfl, rfl, ⟨.inl ⟨hc1, h2, rfl, rfl, rfl⟩⟩, rfl⟩
          · have e2 : ¬ (x : Int) < 224 := by omega
            have d3 : (224 : Int) ≤ (x : Int) := by omega
            by_cases h3 : x < 240
            · have e3 : (x : Int) < 240 := by omega
              go_wp2
              go_meet
              case rel => exact ⟨2, 2048, x % 16, rfl, rfl, rfl, rfl, ⟨.inr (.inl ⟨by omega, h3, rfl, rfl, rfl⟩)⟩, rfl⟩
            · have e3 : ¬ (x : Int) < 240 := by omega
              have d4 : (240 : Int) ≤ (x : Int) := by omega
              have e4 : (x : Int) < 245 := by omega
              go_wp2
              go_meet
              case rel => exact ⟨3, 65536, x % 8, rfl, rfl, rfl, rfl, ⟨.inr (.inr ⟨by omega, hc2, rfl, rfl, rfl⟩)⟩, rfl⟩
        obtain ⟨N, L, R, rfl, rfl, rfl, rfl, HL, rfl⟩ := hcut
        have hN := HL.out.n3
        clear hc1 hc2
        go_wp2
        obtain ⟨l, hl⟩ : ∃ l, s.data.toList.drop k = l := ⟨_, rfl⟩
        rw [hl] at HV hx0 hne
        go_loopw [7, 8] (fun r j wr => ∃ J A : Nat, 1 ≤ J ∧ J ≤ N + 1 ∧ j = .int .i64 J ∧ r = .int .i64 A ∧ Kp (A = acc l R (J - 1)) ∧ Kp (∀ q, 1 ≤ q → q < J → Cont l.length q (byteAt l q)) ∧ wr = wc) (fun _ j _ => N + 1 - (intOf j).toNat)
        case atStart => exact ⟨1, R, by omega, by omega, rfl, rfl, ⟨rfl⟩, ⟨fun q h1 h2 => by omega⟩, rfl⟩
        case round =>
          obtain ⟨J, A, h1, h2, rfl, rfl, HA, HC, rfl⟩ := hrel
          have hA : A < 8388608 := by rw [HA.out]; exact acc_lt l hN.2.2.1 (by omega)
          by_cases hj : J ≤ N
          · have hjz : (J : Int) ≤ (N : Int) := by omega
            by_cases hin : k + J < s.size
            · have hinz : (k : Int) + (J : Int) < (s.size : Int) := by omega
              have hnz : ¬ (s.size : Int) ≤ (k : Int) + (J : Int) := by omega
              have hg2 : ∀ h, s[((k : Int) + (J : Int)).toNat]'h = s.get! (k + J) := fun h => by
                have e : ((k : Int) + (J : Int)).toNat = k + J := by omega
                simp only [e]; exact get_at s _ hin
              obtain ⟨y, hy⟩ : ∃ y, (s.get! (k + J)).toNat = y := ⟨_, rfl⟩
              have hy256 : y < 256 := by rw [← hy]; exact UInt8.toNat_lt _
              have HY := Kp.mk (byte_drop s k J hin)
              rw [hl, hy] at HY
              have m192 := u8_and192 y hy256
              have m63 := u8_and63 y hy256
              by_cases hcn : y / 64 = 2
              · have hz : ((y / 64 * 64 : Nat) : Int) = 128 := by omega
                go_wp2
                go_roundw
                case rel =>
                  refine ⟨J + 1, A * 64 + y % 64, by omega, by omega, by simp, by go_num, ⟨?_⟩, ⟨fun q q1 q2 => ?_⟩, trivial⟩
                  · obtain ⟨j, rfl⟩ : ∃ j, J = j + 1 := ⟨J - 1, by omega⟩
                    rw [HA.out, ← HY.out]; rfl
                  · by_cases e : q = J
                    · subst e
                      exact ⟨by rw [← hl, drop_len]; omega, by rw [HY.out]; exact hcn⟩
                    · exact HC.out q q1 (by omega)
                case measure => simp [intOf]; omega
              · have hz : ¬ ((y / 64 * 64 : Nat) : Int) = 128 := by omega
                have hn : ANS = false := by
                  rw [← HV.out]
                  exact turn_no hne.out (by rw [hx0.out]; exact HL.out) h1 hj (fun h => hcn (by rw [← HY.out]; exact h.2))
                subst hn
                go_wp2
                go_ret
                exact ⟨rfl, hb⟩
            · have hinz : ¬ (k : Int) + (J : Int) < (s.size : Int) := by omega
              have hnz : (s.size : Int) ≤ (k : Int) + (J : Int) := by omega
              have hn : ANS = false := by
                rw [← HV.out]
                exact turn_no hne.out (by rw [hx0.out]; exact HL.out) h1 hj (fun h => hin (by have := h.1; rw [← hl, drop_len] at this; omega))
              subst hn
              go_wp2
              go_ret
              exact ⟨rfl, hb⟩
          · have hjz : ¬ (J : Int) ≤ (N : Int) := by omega
            obtain rfl : J = N + 1 := by omega
            have HT := Kp.mk (turn hne.out (by rw [hx0.out]; exact HL.out) (fun q q1 q2 => HC.out q q1 (by omega)))
            rw [HV.out, ← (show A = acc l R N from HA.out)] at HT
            by_cases b1 : A < L
            · have hn : ANS = false := by rw [HT.out, if_pos (.inl b1)]
              subst hn
              have b1z : (A : Int) < (L : Int) := by omega
              go_wp2
              go_ret
              exact ⟨rfl, hb⟩
            · have b1z : ¬ (A : Int) < (L : Int) := by omega
              by_cases b2 : 1114111 < A
              · have hn : ANS = false := by rw [HT.out, if_pos (.inr (.inl b2))]
                subst hn
                have b2z : (1114111 : Int) < (A : Int) := by omega
                go_wp2
                go_ret
                exact ⟨rfl, hb⟩
              · have b2z : ¬ (1114111 : Int) < (A : Int) := by omega
                by_cases b3 : 55296 ≤ A
                · have b3z : decide ((55296 : Int) ≤ (A : Int)) = true := by simp; omega
                  have B3 := Kp.mk b3
                  clear b3
                  by_cases b4 : A < 57344
                  · have hn : ANS = false := by rw [HT.out, if_pos (.inr (.inr ⟨B3.out, b4⟩))]
                    subst hn
                    have b4z : decide ((A : Int) < 57344) = true := by simp; omega
                    have B4 := Kp.mk b4
                    clear b4
                    go_wp2
                    go_ret
                    exact ⟨rfl, hb⟩
                  · have b4z : decide ((A : Int) < 57344) = false := by simp; omega
                    have B4 := Kp.mk b4
                    clear b4
                    have hlN := (HC.out N hN.1 (by omega)).1
                    rw [← hl, drop_len] at hlN
                    go_wp2
                    go_roundw
                    case rel =>
                      refine ⟨k + N + 1, by omega, by go_num, ⟨?_⟩, hb⟩
                      rw [HT.out, if_neg (by first | omega | (have := B3.out; have := B4.out; omega)), ← hl, List.drop_drop, Nat.add_assoc]
                    case measure => simp [intOf]; omega
                · have b3z : ¬ (55296 : Int) ≤ (A : Int) := by omega
                  have hlN := (HC.out N hN.1 (by omega)).1
                  rw [← hl, drop_len] at hlN
                  go_wp2
                  go_roundw
                  case rel =>
                    refine ⟨k + N + 1, by omega, by go_num, ⟨?_⟩, hb⟩
                    rw [HT.out, if_neg (by first | omega | (have := B3.out; have := B4.out; omega)), ← hl, List.drop_drop, Nat.add_assoc]
                  case measure => simp [intOf]; omega
    · have hnz : ¬ (k : Int) < (s.size : Int) := by omega
      go_wp2
      go_ret
      have : k = s.size := by omega
      subst this
      refine ⟨?_, hb⟩
      rw [← HV.out, List.drop_eq_nil_of_le (by simp)]
      rfl
end Go.Proofs.YtameidoaenoppaaGreatDoor
