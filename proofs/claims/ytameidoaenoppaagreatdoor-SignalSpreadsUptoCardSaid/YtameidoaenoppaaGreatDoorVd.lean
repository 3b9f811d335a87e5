/- Plain: right UTF-8, one lead byte at a time; no condition. -/
import Derived.Lib.ValidLaws
import Derived.Lib.TrimUEq
namespace Go.Proofs.YtameidoaenoppaaGreatDoor
open Go.Lib

abbrev byteAt (l : List UInt8) (k : Nat) : Nat := (l.getD k 0).toNat
abbrev Cont (n k b : Nat) : Prop := k < n ∧ b / 64 = 2
abbrev Bad3 (r : Nat) : Prop := r < 2048 ∨ (55296 ≤ r ∧ r < 57344)
abbrev Bad4 (r : Nat) : Prop := r < 65536 ∨ 1114111 < r
theorem dec_1 {n a b c d : Nat} (h : a < 128) : decodeN n a b c d = (a, 1) := by
  unfold decodeN; rw [if_pos h]
theorem dec_2 {n a b c d : Nat} (h1 : 194 ≤ a) (h2 : a < 224) : decodeN n a b c d = if Cont n 1 b then (a % 32 * 64 + b % 64, 2) else (65533, 1) := by
  unfold decodeN
  rw [if_neg (by omega)]
  by_cases hc : Cont n 1 b
  · rw [if_pos ⟨by omega, hc⟩, if_pos (by omega), if_pos hc]
  · rw [if_neg (fun h => hc h.2), if_neg (by omega), if_neg (by omega), if_neg hc]
theorem dec_3 {n a b c d : Nat} (h1 : 224 ≤ a) (h2 : a < 240) : decodeN n a b c d = if (Cont n 1 b ∧ Cont n 2 c) ∧ ¬ Bad3 (a % 16 * 4096 + b % 64 * 64 + c % 64) then (a % 16 * 4096 + b % 64 * 64 + c % 64, 3) else (65533, 1) := by
  unfold decodeN
  rw [if_neg (by omega), if_neg (by omega)]
  by_cases hc : Cont n 1 b ∧ Cont n 2 c
  · rw [if_pos ⟨by omega, hc⟩]
    by_cases hr : Bad3 (a % 16 * 4096 + b % 64 * 64 + c % 64)
    · rw [if_neg (by unfold Bad3 at hr; omega), if_neg (fun h => h.2 hr)]
    · rw [if_pos (by unfold Bad3 at hr; omega), if_pos ⟨hc, hr⟩]
  · rw [if_neg (fun h => hc h.2), if_neg (by omega), if_neg (fun h => hc h.1)]
theorem dec_4 {n a b c d : Nat} (h1 : 240 ≤ a) (h2 : a < 245) : decodeN n a b c d = if (Cont n 1 b ∧ Cont n 2 c ∧ Cont n 3 d) ∧ ¬ Bad4 (a % 8 * 262144 + b % 64 * 4096 + c % 64 * 64 + d % 64) then (a % 8 * 262144 + b % 64 * 4096 + c % 64 * 64 + d % 64, 4) else (65533, 1) := by
  unfold decodeN
  rw [if_neg (by omega), if_neg (by omega), if_neg (by omega)]
  by_cases hc : Cont n 1 b ∧ Cont n 2 c ∧ Cont n 3 d
  · rw [if_pos ⟨by omega, hc⟩]
    by_cases hr : Bad4 (a % 8 * 262144 + b % 64 * 4096 + c % 64 * 64 + d % 64)
    · rw [if_neg (by unfold Bad4 at hr; omega), if_neg (fun h => h.2 hr)]
    · rw [if_pos (by unfold Bad4 at hr; omega), if_pos ⟨hc, hr⟩]
  · rw [if_neg (fun h => hc h.2), if_neg (fun h => hc h.1)]
theorem dec_x {n a b c d : Nat} (h1 : 128 ≤ a) (h2 : a < 194 ∨ 245 ≤ a) (hb : a < 256) : decodeN n a b c d = (65533, 1) := by
  unfold decodeN
  rw [if_neg (by omega)]
  split
  · rw [if_neg (by omega)]
  · rw [if_neg (by omega)]
    split
    · rw [if_neg (by omega)]
    · rfl
section
variable {l : List UInt8} (hne : l ≠ [])
include hne
theorem v_step {c : Prop} [Decidable c] {r s : Nat} (e : decodeN l.length (byteAt l 0) (byteAt l 1) (byteAt l 2) (byteAt l 3) = if c then (r, s) else (65533, 1)) (hs : s ≠ 1) : validD l = if c then validD (l.drop s) else false := by
  rw [validD_step l hne, decodeL_N]
  change (if (decodeN l.length (byteAt l 0) (byteAt l 1) (byteAt l 2) (byteAt l 3)).1 = 65533 ∧ (decodeN l.length (byteAt l 0) (byteAt l 1) (byteAt l 2) (byteAt l 3)).2 = 1 then false else validD (l.drop (decodeN l.length (byteAt l 0) (byteAt l 1) (byteAt l 2) (byteAt l 3)).2)) = _
  rw [e]
  by_cases hc : c
  · simp [hc, hs]
  · simp [hc]
theorem v_1 (h : byteAt l 0 < 128) : validD l = validD (l.drop 1) := by
  have e := dec_1 (n := l.length) (b := byteAt l 1) (c := byteAt l 2) (d := byteAt l 3) h
  rw [validD_step l hne, decodeL_N]
  change (if (decodeN l.length (byteAt l 0) (byteAt l 1) (byteAt l 2) (byteAt l 3)).1 = 65533 ∧ (decodeN l.length (byteAt l 0) (byteAt l 1) (byteAt l 2) (byteAt l 3)).2 = 1 then false else validD (l.drop (decodeN l.length (byteAt l 0) (byteAt l 1) (byteAt l 2) (byteAt l 3)).2)) = _
  rw [e, if_neg (by simp only; omega)]
theorem v_2 (h1 : 194 ≤ byteAt l 0) (h2 : byteAt l 0 < 224) : validD l = if Cont l.length 1 (byteAt l 1) then validD (l.drop 2) else false := v_step hne (dec_2 h1 h2) (by decide)
theorem v_3 (h1 : 224 ≤ byteAt l 0) (h2 : byteAt l 0 < 240) : validD l = if (Cont l.length 1 (byteAt l 1) ∧ Cont l.length 2 (byteAt l 2)) ∧ ¬ Bad3 (byteAt l 0 % 16 * 4096 + byteAt l 1 % 64 * 64 + byteAt l 2 % 64) then validD (l.drop 3) else false := v_step hne (dec_3 h1 h2) (by decide)
theorem v_4 (h1 : 240 ≤ byteAt l 0) (h2 : byteAt l 0 < 245) : validD l = if (Cont l.length 1 (byteAt l 1) ∧ Cont l.length 2 (byteAt l 2) ∧ Cont l.length 3 (byteAt l 3)) ∧ ¬ Bad4 (byteAt l 0 % 8 * 262144 + byteAt l 1 % 64 * 4096 + byteAt l 2 % 64 * 64 + byteAt l 3 % 64) then validD (l.drop 4) else false := v_step hne (dec_4 h1 h2) (by decide)
theorem v_x (h1 : 128 ≤ byteAt l 0) (h2 : byteAt l 0 < 194 ∨ 245 ≤ byteAt l 0) : validD l = false := by
  have e := dec_x (n := l.length) (b := byteAt l 1) (c := byteAt l 2) (d := byteAt l 3) h1 h2 (UInt8.toNat_lt _)
  rw [validD_step l hne, decodeL_N]
  change (if (decodeN l.length (byteAt l 0) (byteAt l 1) (byteAt l 2) (byteAt l 3)).1 = 65533 ∧ (decodeN l.length (byteAt l 0) (byteAt l 1) (byteAt l 2) (byteAt l 3)).2 = 1 then false else validD (l.drop (decodeN l.length (byteAt l 0) (byteAt l 1) (byteAt l 2) (byteAt l 3)).2)) = _
  rw [e]
  simp
end
end Go.Proofs.YtameidoaenoppaaGreatDoor
