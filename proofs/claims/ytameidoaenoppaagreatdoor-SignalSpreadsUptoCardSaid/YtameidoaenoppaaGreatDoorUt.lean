/- parleyref01.utf8 (26) walked: it tells whether a text is right UTF-8, as the model's own decoder has it; the bound is the model's own greatest string. -/
import Derived.Test.YtameidoaenoppaaGreatDoorLib
import Derived.Test.YtameidoaenoppaaGreatDoorVd
import Derived.Test.YtameidoaenoppaaGreatDoorProg
import Derived.Laws.BitsAllLaws
namespace Go.Proofs.YtameidoaenoppaaGreatDoor
open Go.RowKit Go.Lib

theorem i64_mask (q : Nat) (hq : q < 60) (n : Int) (h0 : 0 ≤ n) (h1 : n < 256) (hm : ((2 ^ q - 1 : Nat) : Int) < 2 ^ 63) : bits .and .i64 n ((2 ^ q - 1 : Nat) : Int) = n % ((2 ^ q : Nat) : Int) := by
  have hp : 2 ^ q < 2 ^ 60 := Nat.pow_lt_pow_right (by decide) hq
  have e1 : (BitVec.ofInt 64 ((2 ^ q - 1 : Nat) : Int)).toNat = 2 ^ q - 1 := by
    rw [BitVec.toNat_ofInt]; omega
  have key : (BitVec.ofInt 64 n &&& BitVec.ofInt 64 ((2 ^ q - 1 : Nat) : Int)).toNat = (n % ((2 ^ 64 : Nat) : Int)).toNat % 2 ^ q := by
    rw [BitVec.toNat_and, BitVec.toNat_ofInt, e1, Nat.and_two_pow_sub_one_eq_mod]
  show IntKind.i64.wrap ((BitVec.ofInt 64 n &&& BitVec.ofInt 64 ((2 ^ q - 1 : Nat) : Int)).toNat : Nat) = _
  rw [key, IntKind.wrap_i64]
  obtain ⟨m, rfl⟩ : ∃ m : Nat, n = (m : Int) := ⟨n.toNat, by omega⟩
  have e2 : ((m : Int) % ((2 ^ 64 : Nat) : Int)).toNat = m := by omega
  rw [e2]
  have h3 : m % 2 ^ q ≤ m := Nat.mod_le _ _
  have h4 : ((m % 2 ^ q : Nat) : Int) = (m : Int) % ((2 ^ q : Nat) : Int) := by push_cast; rfl
  rw [← h4]
  omega
theorem i64_and31 (n : Nat) (h : n < 256) : bits .and .i64 (n : Int) 31 = ((n % 32 : Nat) : Int) := by
  have := i64_mask 5 (by decide) n (by omega) (by omega) (by decide)
  simpa using this
theorem i64_and15 (n : Nat) (h : n < 256) : bits .and .i64 (n : Int) 15 = ((n % 16 : Nat) : Int) := by
  have := i64_mask 4 (by decide) n (by omega) (by omega) (by decide)
  simpa using this
theorem i64_and7 (n : Nat) (h : n < 256) : bits .and .i64 (n : Int) 7 = ((n % 8 : Nat) : Int) := by
  have := i64_mask 3 (by decide) n (by omega) (by omega) (by decide)
  simpa using this
theorem u8_and63 (n : Nat) (h : n < 256) : bits .and .u8 (n : Int) 63 = ((n % 64 : Nat) : Int) := by
  have := u8_and_nat n 63 h (by decide)
  rw [nat_mask6] at this
  exact this
theorem u8_and192 (n : Nat) (h : n < 256) : bits .and .u8 (n : Int) 192 = ((n / 64 * 64 : Nat) : Int) := by
  have := u8_and_nat n 192 h (by decide)
  rw [Nat.and_comm, nat_hi8_6', Nat.mod_eq_of_lt h] at this
  exact this

/-- What is read of a rune so far. -/
def acc (l : List UInt8) (r0 : Nat) : Nat → Nat
  | 0 => r0
  | k + 1 => acc l r0 k * 64 + byteAt l (k + 1) % 64
def Lead (b n least r0 : Nat) : Prop :=
  (194 ≤ b ∧ b < 224 ∧ n = 1 ∧ least = 128 ∧ r0 = b % 32) ∨ (224 ≤ b ∧ b < 240 ∧ n = 2 ∧ least = 2048 ∧ r0 = b % 16) ∨ (240 ≤ b ∧ b < 245 ∧ n = 3 ∧ least = 65536 ∧ r0 = b % 8)
theorem Lead.n3 {b n least r0 : Nat} (h : Lead b n least r0) : 1 ≤ n ∧ n ≤ 3 ∧ r0 < 32 ∧ least ≤ 65536 := by unfold Lead at h; omega
theorem acc_lt (l : List UInt8) {r0 : Nat} (h : r0 < 32) {k : Nat} (hk : k ≤ 3) : acc l r0 k < 8388608 := by
  have e1 : acc l r0 1 = r0 * 64 + byteAt l 1 % 64 := rfl
  have e2 : acc l r0 2 = acc l r0 1 * 64 + byteAt l 2 % 64 := rfl
  have e3 : acc l r0 3 = acc l r0 2 * 64 + byteAt l 3 % 64 := rfl
  have e0 : acc l r0 0 = r0 := rfl
  have : k = 0 ∨ k = 1 ∨ k = 2 ∨ k = 3 := by omega
  rcases this with rfl | rfl | rfl | rfl <;> omega
theorem turn_no {l : List UInt8} (hne : l ≠ []) {n least r0 k : Nat} (h : Lead (byteAt l 0) n least r0) (h1 : 1 ≤ k) (h2 : k ≤ n) (hk : ¬ Cont l.length k (byteAt l k)) : validD l = false := by
  rcases h with ⟨a, b, rfl, -, -⟩ | ⟨a, b, rfl, -, -⟩ | ⟨a, b, rfl, -, -⟩
  · obtain rfl : k = 1 := by omega
    rw [v_2 hne a b, if_neg hk]
  · rw [v_3 hne a b, if_neg]
    rintro ⟨⟨c1, c2⟩, -⟩
    have : k = 1 ∨ k = 2 := by omega
    rcases this with rfl | rfl
    · exact hk c1
    · exact hk c2
  · rw [v_4 hne a b, if_neg]
    rintro ⟨⟨c1, c2, c3⟩, -⟩
    have : k = 1 ∨ k = 2 ∨ k = 3 := by omega
    rcases this with rfl | rfl | rfl
    · exact hk c1
    · exact hk c2
    · exact hk c3
theorem turn {l : List UInt8} (hne : l ≠ []) {n least r0 : Nat} (h : Lead (byteAt l 0) n least r0) (hc : ∀ k, 1 ≤ k → k ≤ n → Cont l.length k (byteAt l k)) :
    validD l = if acc l r0 n < least ∨ 1114111 < acc l r0 n ∨ (55296 ≤ acc l r0 n ∧ acc l r0 n < 57344) then false else validD (l.drop (n + 1)) := by
  have e1 : acc l r0 1 = r0 * 64 + byteAt l 1 % 64 := rfl
  have e2 : acc l r0 2 = acc l r0 1 * 64 + byteAt l 2 % 64 := rfl
  have e3 : acc l r0 3 = acc l r0 2 * 64 + byteAt l 3 % 64 := rfl
  rcases h with ⟨a, b, rfl, rfl, hr⟩ | ⟨a, b, rfl, rfl, hr⟩ | ⟨a, b, rfl, rfl, hr⟩
  · rw [v_2 hne a b, if_pos (hc 1 (by omega) (by omega)), if_neg (by omega)]
  · have ea : byteAt l 0 % 16 * 4096 + byteAt l 1 % 64 * 64 + byteAt l 2 % 64 = acc l r0 2 := by omega
    rw [v_3 hne a b, ea]
    have c1 := hc 1 (by omega) (by omega)
    have c2 := hc 2 (by omega) (by omega)
    by_cases hb : Bad3 (acc l r0 2)
    · rw [if_neg (fun h => h.2 hb), if_pos]
      unfold Bad3 at hb; omega
    · rw [if_pos ⟨⟨c1, c2⟩, hb⟩, if_neg]
      unfold Bad3 at hb; omega
  · have ea : byteAt l 0 % 8 * 262144 + byteAt l 1 % 64 * 4096 + byteAt l 2 % 64 * 64 + byteAt l 3 % 64 = acc l r0 3 := by omega
    rw [v_4 hne a b, ea]
    have c1 := hc 1 (by omega) (by omega)
    have c2 := hc 2 (by omega) (by omega)
    have c3 := hc 3 (by omega) (by omega)
    by_cases hb : Bad4 (acc l r0 3)
    · rw [if_neg (fun h => h.2 hb), if_pos]
      unfold Bad4 at hb; omega
    · rw [if_pos ⟨⟨c1, c2, c3⟩, hb⟩, if_neg]
      unfold Bad4 at hb; omega
theorem byte_drop (s : ByteArray) (i k : Nat) (h : i + k < s.size) : byteAt (s.data.toList.drop i) k = (s.get! (i + k)).toNat := by
  unfold byteAt
  have h1 : i + k < s.data.toList.length := by simpa using h
  rw [List.getD_eq_getElem?_getD, List.getElem?_drop, List.getElem?_eq_getElem h1]
  have h2 : s.get! (i + k) = s.data.toList[i + k] := by
    simp [ByteArray.get!, getElem!_pos, h]
  rw [h2]; rfl
theorem get_at (s : ByteArray) (k : Nat) (h : k < s.size) : s[k]'h = s.get! k := by
  show s.data[k] = s.get! k
  simp [ByteArray.get!, h]
theorem drop_len (s : ByteArray) (i : Nat) : (s.data.toList.drop i).length = s.size - i := by simp
end Go.Proofs.YtameidoaenoppaaGreatDoor
