/- word.Right and parleyref01's Right walked; the bound on a text is the model's own greatest string. -/
import Derived.Test.YtameidoaenoppaaGreatDoorTb
namespace Go.Proofs.YtameidoaenoppaaGreatDoor
open Go.RowKit

def TxG (t : List Ce) : Prop := ∀ x ∈ t, x.t.size ≤ 140737488355328
theorem TCe : SlT Tryz.prog 46 63 eCe 32 := SlT.mk' (k := 3) (z := .agg #[.int .i64 0, .int .i64 0, .string { data := #[] }]) Tryz.underlying46 (by kernel_rfl) rfl rfl
theorem Src.ce {w : World} {g o c : Nat} {t : List Ce} (h : Src w eCe (some ⟨g, o, Option.none⟩) c t) (k : Nat) (x : Ce) (hx : t[k]? = some x) :
    w.cell? ⟨g, o + k * 3, Option.none⟩ = some (.int .i64 x.k) ∧ w.cell? ⟨g, o + k * 3 + 1, Option.none⟩ = some (.int .i64 x.n) ∧ w.cell? ⟨g, o + k * 3 + 2, Option.none⟩ = some (.string x.t) := by
  obtain ⟨hk, rfl⟩ := List.getElem?_eq_some_iff.1 hx
  refine ⟨?_, ?_, ?_⟩
  · have h1 := h.elem k 0 hk (by decide); simpa [eCe] using h1
  · have h1 := h.elem k 1 hk (by decide); simpa [eCe] using h1
  · have h1 := h.elem k 2 hk (by decide); simpa [eCe] using h1
theorem right_step {t : List Ce} {k : Nat} {x : Ce} (hx : t[k]? = some x) (o : Int) : rightFrom (t.drop k) k o = if cellE x ≠ 0 then (cellE x, (k : Int)) else if o = 0 then (63, (k : Int)) else rightFrom (t.drop (k + 1)) (k + 1) (o - 1 + kidsN x) := by
  obtain ⟨hk, rfl⟩ := List.getElem?_eq_some_iff.1 hx
  rw [List.drop_eq_getElem_cons hk]
  rfl
theorem right_end (k : Nat) (o : Int) : rightFrom [] k o = if 0 < o then (62, (k : Int)) else (0, 0) := rfl
theorem ret_v {a b : Int} (h : a = b) : Value.int .i64 a = Value.int .i64 b := by rw [h]
def rightV (r : Int × Int) : Value := .tuple #[.int .i64 r.1, .int .i64 r.2]
set_option maxRecDepth 100000 in
set_option maxHeartbeats 8000000 in
theorem wright_any (w : World) (A : Option Addr) (c : Nat) (t : List Ce) (hs : Src w eCe A c t) (hn : t.length ≤ 9000000000000) (hT : Tabs w) :
    Calls Tryz.prog 55 #[.slice A t.length c] w fun e w' => e = .returned (rightV (rightE t)) ∧ Below w.heap.size w w' := by
  have HS := Kp.mk hs
  have HT := Kp.mk hT
  clear hs hT
  by_cases h0 : t.length = 0
  · have E : Kp (rightE t = (5, 0)) := ⟨by unfold rightE; rw [if_pos h0]⟩
    rw [h0]
    go_enter Tryz.func55, Tryz.ntmps55
    go_wp2
    go_ret2
    exact ⟨by rw [E.out]; rfl, Below.refl _ _⟩
  · have h0b : ((t.length : Int) == 0) = false := by rw [beq_eq_false_iff_ne]; omega
    have h0n : 0 < t.length := by omega
    by_cases h1 : 1024 < t.length
    · have E : Kp (rightE t = (7, 0)) := ⟨by unfold rightE; rw [if_neg h0, if_pos h1]⟩
      have h1i : (1024 : Int) < (t.length : Int) := by omega
      clear h0
      go_enter Tryz.func55, Tryz.ntmps55
      go_wp2
      go_ret2
      exact ⟨by rw [E.out]; rfl, Below.refl _ _⟩
    · have E : Kp (rightE t = rightFrom t 0 1) := ⟨by unfold rightE; rw [if_neg h0, if_neg h1]⟩
      have h1i : (t.length : Int) ≤ 1024 := by omega
      have h1n : t.length ≤ 1024 := by omega
      clear h0 h1
      obtain ⟨ad, rfl⟩ : ∃ ad, A = some ad := by
        cases A with
        | none => have h9 := (HS.out.none rfl).1; rw [h9] at h0n; simp at h0n
        | some ad => exact ⟨ad, rfl⟩
      obtain ⟨g, o, rfl⟩ := HS.out.addr h0n
      go_enter Tryz.func55, Tryz.ntmps55
      go_wp2
      go_loopw [4, 5, 6, 7, 18] (fun wv _ _ _ i wr => ∃ (k : Nat) (op : Int), k ≤ t.length ∧ i = .int .i64 k ∧ wv = .int .i64 op ∧ 0 ≤ op ∧ op ≤ 1 + 255 * (k : Int) ∧ Kp (rightE t = rightFrom (t.drop k) k op) ∧ Kp (Below w.heap.size w wr)) (fun _ _ _ _ i _ => t.length - (intOf i).toNat)
      case atStart => exact ⟨0, 1, Nat.zero_le _, rfl, rfl, by omega, by omega, ⟨by rw [List.drop_zero]; exact E.out⟩, ⟨Below.refl _ _⟩⟩
      case round =>
        obtain ⟨k, op, hk, rfl, rfl, hop0, hop1, HE, HB⟩ := hrel
        by_cases hlt : k < t.length
        · obtain ⟨x, hx⟩ : ∃ x, t[k]? = some x := ⟨_, List.getElem?_eq_getElem hlt⟩
          obtain ⟨a0, a1, a2⟩ := (HS.out.below HB.out).ce k x hx
          have hst := right_step hx op
          have hkl := kidsN_le x
          have k0 : (0 : Int) ≤ (k : Int) := by omega
          have k1 : (k : Int) < (t.length : Int) := by omega
          have B1 := Kp.mk ((Below.refl wr.heap.size wr).alloc (Nat.le_refl _) (.cells #[.int .i64 x.k, .int .i64 x.n, .string x.t] 63))
          have X1 := Kp.mk (blk_new wr (.cells #[.int .i64 x.k, .int .i64 x.n, .string x.t] 63))
          have HC := Kp.mk (fun w2 (hb : Below w.heap.size w w2) => wcell_any x w2 (HT.out.below hb))
          have HK := Kp.mk (fun w2 => behind_any x w2)
          have HST := Kp.mk hst
          have c10 := blk_c X1.out 0
          have c11 := blk_c X1.out 1
          have c12 := blk_c X1.out 2
          obtain ⟨E1, hE1⟩ : ∃ E1, E1 = cellE x := ⟨_, rfl⟩
          obtain ⟨K1, hK1⟩ : ∃ K1, K1 = kidsN x := ⟨_, rfl⟩
          rw [← hE1, ← hK1] at HST
          rw [← hE1] at HC
          rw [← hK1] at HK hkl
          obtain ⟨hkl0, hkl1⟩ := hkl
          have HB1 : Kp (Below w.heap.size w (wr.alloc (.cells #[.int .i64 x.k, .int .i64 x.n, .string x.t] 63))) := ⟨bstep HB.out HB.out.size B1.out⟩
          clear hx hst hE1 hK1
          by_cases he : E1 = 0
          · have heb : (E1 != 0) = false := by simpa using he
            have HE1 := Kp.mk he
            clear he
            by_cases ho : op = 0
            · subst ho
              have RES : Kp (rightE t = (63, (k : Int))) := ⟨by rw [HE.out, HST.out, if_neg (by simpa using HE1.out), if_pos rfl]⟩
              go_wp2_with (go_at_call 70; refine (HC.out _ HB1.out).mono ?_; rintro e w5 ⟨rfl, hb5⟩; have HB5 := Kp.mk (bstep HB1.out HB1.out.size hb5); clear hb5)
              go_ret2
              exact ⟨by rw [RES.out]; rfl, HB5.out⟩
            · have hob : (op == 0) = false := by simpa using ho
              have REC : Kp (rightE t = rightFrom (t.drop (k + 1)) (k + 1) (op - 1 + K1)) := ⟨by rw [HE.out, HST.out, if_neg (by simpa using HE1.out), if_neg ho]⟩
              have s1 : op + (K1 - 1) = op - 1 + K1 := by omega
              have s2 : 1 ≤ op := by omega
              clear ho
              go_wp2_with (first
                | (go_at_call 70; refine (HC.out _ HB1.out).mono ?_; rintro e w5 ⟨rfl, hb5⟩; have x5 := (hb5.block wr.heap.size (by simp)).trans X1.out; have c50 := blk_c x5 0; have c51 := blk_c x5 1; have c52 := blk_c x5 2; have l5 := lt_of_block x5; have HB5 := Kp.mk (bstep HB1.out HB1.out.size hb5); clear hb5 x5)
                | (go_at_call 71; refine (HK.out _).mono ?_; rintro e w6 ⟨rfl, hb6⟩; have HB6 := Kp.mk (bstep HB5.out HB5.out.size hb6); clear hb6))
              go_roundw
              case rel => exact ⟨k + 1, op - 1 + K1, by omega, by go_num, ret_v (by omega), by omega, by omega, REC, HB6⟩
              case measure => simp [intOf]; omega
          · have heb : (E1 != 0) = true := by simpa using he
            have RES : Kp (rightE t = (E1, (k : Int))) := ⟨by rw [HE.out, HST.out, if_pos he]⟩
            clear he
            go_wp2_with (go_at_call 70; refine (HC.out _ HB1.out).mono ?_; rintro e w5 ⟨rfl, hb5⟩; have HB5 := Kp.mk (bstep HB1.out HB1.out.size hb5); clear hb5)
            go_ret2
            exact ⟨by rw [RES.out]; rfl, HB5.out⟩
        · obtain rfl : k = t.length := by omega
          have HL : Kp (rightE t = if 0 < op then (62, (t.length : Int)) else (0, 0)) := ⟨by rw [HE.out, List.drop_length, right_end]⟩
          by_cases ho : 0 < op
          · rw [if_pos ho] at HL
            go_wp2
            go_ret2
            exact ⟨by rw [HL.out]; rfl, HB.out⟩
          · rw [if_neg ho] at HL
            go_wp2
            go_ret2
            exact ⟨by rw [HL.out]; rfl, HB.out⟩
end Go.Proofs.YtameidoaenoppaaGreatDoor
