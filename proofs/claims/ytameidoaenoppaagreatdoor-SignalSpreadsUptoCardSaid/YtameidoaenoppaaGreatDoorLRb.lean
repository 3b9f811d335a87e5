/- The document's watch of package links; bounds stand in the statement. -/
import Derived.Test.YtameidoaenoppaaGreatDoorLRa
namespace Go.Proofs.YtameidoaenoppaaGreatDoor
open Go.RowKit

def AtR (L : List Bd) (r k : Int) : Prop := (∃ i : Nat, k = i ∧ 0 < r ∧ (∃ x, L[i]? = some x ∧ x.r = r) ∧ ∀ (j : Nat) y, j < i → L[j]? = some y → y.r ≠ r) ∨ (k = -1 ∧ (0 < r → ∀ y ∈ L, y.r ≠ r))
set_option maxRecDepth 100000 in
set_option maxHeartbeats 4000000 in
theorem dwatch_any (w : World) (q : Nat) (lv : Value) (L : List Bd) (r : Int) (h : IsD w q lv L) (hn : L.length ≤ 1000000) :
    Calls Tryz.prog 47 #[.pointer (some ⟨q, 0, none⟩), .int .i64 r] w fun e w' => ∃ k, AtR L r k ∧ e = .returned (.int .i64 k) ∧ Below w.heap.size w w' := by
  obtain ⟨A, c, hv, _, _, hs0, hs1⟩ := h.own.shape
  have q0 := h.c0
  rw [hv] at q0
  have qlt := lt_of_block h.blk
  have HO := Kp.mk (hv ▸ h.own)
  have HS0 := Kp.mk hs0
  have HS1 := Kp.mk hs1
  clear h hv hs0 hs1
  go_enter Tryz.func47, Tryz.ntmps47
  go_wp2_with fail
  go_loopw [5, 6, 12] (fun _ _ iv wr => ∃ k : Nat, k ≤ L.length ∧ iv = .int .i64 k ∧ Kp (0 < r → ∀ (j : Nat) y, j < k → L[j]? = some y → y.r ≠ r) ∧ Kp (Below w.heap.size w wr)) (fun _ _ iv _ => L.length - (intOf iv).toNat)
  case atStart => exact ⟨0, Nat.zero_le _, rfl, ⟨fun _ j y hj => absurd hj (Nat.not_lt_zero _)⟩, ⟨Below.refl _ _⟩⟩
  case round =>
    obtain ⟨k, hk, rfl, HJ, HB⟩ := hrel
    by_cases hlt : k < L.length
    · obtain ⟨x, hx⟩ : ∃ x, x = L[k] := ⟨_, rfl⟩
      have hxk : L[k]? = some x := by rw [hx]; exact List.getElem?_eq_getElem hlt
      have ho := HO.out.below HB.out
      obtain ⟨g, rfl⟩ : ∃ g, A = some ⟨g, 0, none⟩ := by
        cases A with
        | none => have h1 := (HS0.out rfl).1; rw [h1] at hlt; simp at hlt
        | some y => obtain ⟨g, rfl⟩ := HS1.out y rfl; exact ⟨g, rfl⟩
      have a0 : wr.cell? ⟨g, k * 3, none⟩ = some (.int .i64 x.a) := by have h1 := ho.elem k 0 hlt (by decide); rw [← hx] at h1; simpa [eBd] using h1
      have a1 : wr.cell? ⟨g, k * 3 + 1, none⟩ = some (.int .i64 x.b) := by have h1 := ho.elem k 1 hlt (by decide); rw [← hx] at h1; simpa [eBd] using h1
      have a2 : wr.cell? ⟨g, k * 3 + 2, none⟩ = some (.int .i64 x.r) := by have h1 := ho.elem k 2 hlt (by decide); rw [← hx] at h1; simpa [eBd] using h1
      have k0 : (0 : Int) ≤ (k : Int) := by omega
      have k1 : (k : Int) < (L.length : Int) := by omega
      have HXK := Kp.mk hxk
      have HB2 := Kp.mk (fun o : Obj => HB.out.alloc HB.out.size o)
      have hnext : (0 < r → x.r ≠ r) → 0 < r → ∀ (j : Nat) y, j < k + 1 → L[j]? = some y → y.r ≠ r := fun hne h0 j y hj hb => by
        rcases Nat.lt_succ_iff_lt_or_eq.1 hj with h | h
        · exact HJ.out h0 j y h hb
        · subst h; rw [HXK.out] at hb; cases hb; exact hne h0
      have HNX := Kp.mk hnext
      clear hx hxk ho hnext
      by_cases hxr : x.r = r
      · have hxd : (x.r == r) = true := by simpa using hxr
        have HXR := Kp.mk hxr
        by_cases h0 : 0 < r
        · have h0d : decide (0 < r) = true := by simpa using h0
          have H0 := Kp.mk h0
          clear hxr
          go_wp2
          go_ret
          exact ⟨k, .inl ⟨k, rfl, H0.out, ⟨x, HXK.out, HXR.out⟩, HJ.out H0.out⟩, rfl, HB2.out _⟩
        · have h0d : decide (0 < r) = false := by simpa using h0
          have H0 := Kp.mk h0
          clear hxr
          go_wp2
          go_roundw
          case rel => exact ⟨k + 1, by omega, by go_num, ⟨HNX.out (fun h => absurd h H0.out)⟩, ⟨HB2.out _⟩⟩
          case measure => simp [intOf]; omega
      · have hxd : (x.r == r) = false := by simpa using hxr
        have HXR := Kp.mk hxr
        clear hxr
        go_wp2
        go_roundw
        case rel => exact ⟨k + 1, by omega, by go_num, ⟨HNX.out (fun _ => HXR.out)⟩, ⟨HB2.out _⟩⟩
        case measure => simp [intOf]; omega
    · have hno : Kp (0 < r → ∀ y ∈ L, y.r ≠ r) := ⟨fun h0 y hm => by
        obtain ⟨j, hj, he⟩ := List.mem_iff_getElem.1 hm
        exact HJ.out h0 j y (by omega) (by rw [List.getElem?_eq_getElem hj, he])⟩
      go_wp2
      go_ret
      exact ⟨-1, .inr ⟨rfl, hno.out⟩, rfl, HB.out⟩
end Go.Proofs.YtameidoaenoppaaGreatDoor
