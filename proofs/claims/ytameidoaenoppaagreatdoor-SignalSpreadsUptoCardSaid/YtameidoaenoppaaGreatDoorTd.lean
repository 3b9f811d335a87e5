/- parleyref01's Right walked; the bound on a text is the model's own greatest string. -/
import Derived.Test.YtameidoaenoppaaGreatDoorTc
namespace Go.Proofs.YtameidoaenoppaaGreatDoor
open Go.RowKit

set_option maxRecDepth 100000 in
set_option maxHeartbeats 8000000 in
theorem rright_any (w : World) (A : Option Addr) (c : Nat) (t : List Ce) (hs : Src w eCe A c t) (hn : t.length ≤ 9000000000000) (hG : TxG t) :
    Calls Tryz.prog 63 #[.slice A t.length c] w fun e w' => e = .returned (rightV (rightE t)) ∧ Below w.heap.size w w' := by
  have HS := Kp.mk hs
  have HG := Kp.mk hG
  clear hs hG
  by_cases h0 : t.length = 0
  · have E : Kp (rightE t = (5, 0)) := ⟨by unfold rightE; rw [if_pos h0]⟩
    rw [h0]
    go_enter Tryz.func63, Tryz.ntmps63
    go_wp2
    go_ret2
    exact ⟨by rw [E.out]; rfl, Below.refl _ _⟩
  · have h0b : ((t.length : Int) == 0) = false := by rw [beq_eq_false_iff_ne]; omega
    have h0n : 0 < t.length := by omega
    by_cases h1 : 1024 < t.length
    · have E : Kp (rightE t = (7, 0)) := ⟨by unfold rightE; rw [if_neg h0, if_pos h1]⟩
      have h1i : (1024 : Int) < (t.length : Int) := by omega
      clear h0
      go_enter Tryz.func63, Tryz.ntmps63
      go_wp2
      go_ret2
      exact ⟨by rw [E.out]; rfl, Below.refl _ _⟩
    · have E : Kp (rightE t = rightFrom t 0 1) := ⟨by unfold rightE; rw [if_neg h0, if_neg h1]⟩
      have h1i : (t.length : Int) ≤ 1024 := by omega
      have h1n : t.length ≤ 1024 := by omega
      clear h0 h1
      obtain ⟨ad, rfl⟩ : ∃ ad, A = some ad := by
        cases A with
        | none => have h9 := (HS.out.none rfl).1; rw [h9] at h0n; simp at h0n
        | some ad => exact ⟨ad, rfl⟩
      obtain ⟨g, o, rfl⟩ := HS.out.addr h0n
      go_enter Tryz.func63, Tryz.ntmps63
      go_wp2
      go_loopw [4, 5, 6] (fun wv i _ wr => ∃ (k : Nat) (op : Int), k ≤ t.length ∧ i = .int .i64 k ∧ wv = .int .i64 op ∧ 0 ≤ op ∧ op ≤ 1 + 255 * (k : Int) ∧ Kp (rightE t = rightFrom (t.drop k) k op) ∧ Kp (Below w.heap.size w wr)) (fun _ i _ _ => t.length - (intOf i).toNat)
      case atStart => exact ⟨0, 1, Nat.zero_le _, rfl, rfl, by omega, by omega, ⟨by rw [List.drop_zero]; exact E.out⟩, ⟨Below.refl _ _⟩⟩
      case round =>
        obtain ⟨k, op, hk, rfl, rfl, hop0, hop1, HE, HB⟩ := hrel
        by_cases hlt : k < t.length
        · obtain ⟨x, hx⟩ : ∃ x, t[k]? = some x := ⟨_, List.getElem?_eq_getElem hlt⟩
          obtain ⟨a0, a1, a2⟩ := (HS.out.below HB.out).ce k x hx
          have hst := right_step hx op
          have hkl := kidsN_le x
          have k0 : (0 : Int) ≤ (k : Int) := by omega
          have k1 : (k : Int) < (t.length : Int) := by omega
          have HC := Kp.mk (fun w2 => rcell_any x w2 (HG.out x (List.mem_of_getElem? hx)))
          have HA := Kp.mk (fun w2 (hb : Below w.heap.size w w2) => (HS.out.below hb).ce k x hx)
          have HK := Kp.mk (fun w2 => kids_any x w2)
          have HST := Kp.mk hst
          obtain ⟨E1, hE1⟩ : ∃ E1, E1 = cellE x := ⟨_, rfl⟩
          obtain ⟨K1, hK1⟩ : ∃ K1, K1 = kidsN x := ⟨_, rfl⟩
          rw [← hE1, ← hK1] at HST
          rw [← hE1] at HC
          rw [← hK1] at HK hkl
          obtain ⟨hkl0, hkl1⟩ := hkl
          clear hx hst hE1 hK1
          by_cases he : E1 = 0
          · have heb : (E1 != 0) = false := by simpa using he
            have HE1 := Kp.mk he
            clear he
            by_cases ho : op = 0
            · subst ho
              have RES : Kp (rightE t = (63, (k : Int))) := ⟨by rw [HE.out, HST.out, if_neg (by simpa using HE1.out), if_pos rfl]⟩
              go_wp2_with (go_at_call 75; refine (HC.out _).mono ?_; rintro e w5 ⟨rfl, hb5⟩; have HB5 := Kp.mk (bstep HB.out HB.out.size hb5); clear hb5)
              go_ret2
              exact ⟨by rw [RES.out]; rfl, HB5.out⟩
            · have hob : (op == 0) = false := by simpa using ho
              have REC : Kp (rightE t = rightFrom (t.drop (k + 1)) (k + 1) (op - 1 + K1)) := ⟨by rw [HE.out, HST.out, if_neg (by simpa using HE1.out), if_neg ho]⟩
              have s1 : op + (K1 - 1) = op - 1 + K1 := by omega
              have s2 : 1 ≤ op := by omega
              clear ho
              go_wp2_with (first
                | (go_at_call 75; refine (HC.out _).mono ?_; rintro e w5 ⟨rfl, hb5⟩; have HB5 := Kp.mk (bstep HB.out HB.out.size hb5); obtain ⟨c50, c51, c52⟩ := HA.out _ HB5.out; clear hb5)
                | (go_at_call 76; refine (HK.out _).mono ?_; rintro e w6 ⟨rfl, hb6⟩; have HB6 := Kp.mk (bstep HB5.out HB5.out.size hb6); clear hb6))
              go_roundw
              case rel => exact ⟨k + 1, op - 1 + K1, by omega, by go_num, ret_v (by omega), by omega, by omega, REC, HB6⟩
              case measure => simp [intOf]; omega
          · have heb : (E1 != 0) = true := by simpa using he
            have RES : Kp (rightE t = (E1, (k : Int))) := ⟨by rw [HE.out, HST.out, if_pos he]⟩
            clear he
            go_wp2_with (go_at_call 75; refine (HC.out _).mono ?_; rintro e w5 ⟨rfl, hb5⟩; have HB5 := Kp.mk (bstep HB.out HB.out.size hb5); clear hb5)
            go_ret2
            exact ⟨by rw [RES.out]; rfl, HB5.out⟩
        · obtain rfl : k = t.length := by omega
          have HL : Kp (rightE t = if 0 < op then (62, (t.length : Int)) else (0, 0)) := ⟨by rw [HE.out, List.drop_length, right_end]⟩
          by_cases ho : 0 < op
          · rw [if_pos ho] at HL
            go_wp2
            go_ret2
            exact ⟨by rw [HL.out]; rfl, HB.out⟩
          · rw [if_neg ho] at HL
            go_wp2
            go_ret2
            exact ⟨by rw [HL.out]; rfl, HB.out⟩
end Go.Proofs.YtameidoaenoppaaGreatDoor
