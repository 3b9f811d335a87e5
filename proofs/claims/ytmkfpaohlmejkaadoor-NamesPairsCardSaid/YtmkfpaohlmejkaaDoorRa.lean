/- The document's names in memory; its find and who walked; bounds stand in the statements. -/
import Derived.Test.YtmkfpaohlmejkaaDoorPl
namespace Go.Proofs.YtmkfpaohlmejkaaDoor
open Go.RowKit

theorem T26 : SlT Tryd.prog 26 45 eEn 24 := SlT.mk' (k := 2) (z := .agg #[.string { data := #[] }, .int .i64 0]) Tryd.underlying26 (by kernel_rfl) rfl rfl
/-- The document's names. -/
structure IsD (w : World) (q : Nat) (lv : Value) (L : List En) : Prop where
  blk : w.heap[q]? = some (.cells #[lv] 28 (0, 0))
  own : Own w 45 eEn lv L
section
variable {w w' : World} {q : Nat} {lv : Value} {L : List En}
theorem IsD.c0 (h : IsD w q lv L) : w.cell? ⟨q, 0, none⟩ = some lv := blk_c h.blk 0
theorem IsD.lt (h : IsD w q lv L) : q < w.heap.size := lt_of_block h.blk
theorem IsD.ne (h : IsD w q lv L) : lv.ownBlock ≠ some q := h.own.ne h.blk (by decide)
theorem IsD.below (h : IsD w q lv L) (hb : Below w.heap.size w w') : IsD w' q lv L := ⟨(Chg.of_below hb NoF).at h.blk (fun h => h), h.own.below hb⟩
theorem IsD.set {lv' : Value} {L' : List En} (hb : w.heap[q]? = some (.cells #[lv] 28 (0, 0))) (ho : Own w 45 eEn lv' L') : IsD (w.setCell ⟨q, 0, none⟩ lv') q lv' L' :=
  ⟨by rw [blk_set hb]; rfl, ho.set_ne (ho.ne hb (by decide)) _⟩
theorem IsD.sh (h : IsD w q lv L) : ∃ A c, lv = .slice A L.length c ∧ w.cell? ⟨q, 0, none⟩ = some (.slice A L.length c) := by
  obtain ⟨A, c, hv, _⟩ := h.own.shape
  exact ⟨A, c, hv, by rw [← hv]; exact h.c0⟩
def FD (q : Nat) (lv : Value) : Nat → Prop := fun g => g = q ∨ lv.ownBlock = some g
theorem IsD.frame (h : IsD w q lv L) {F : Nat → Prop} (hc : Chg F w w') (hF : ∀ g, FD q lv g → ¬ F g) : IsD w' q lv L := ⟨hc.at h.blk (hF _ (.inl rfl)), h.own.frame hc (fun _ hg => hF _ (.inr hg))⟩
end
theorem Own.en {w : World} {g n c : Nat} {L : List En} (h : Own w 45 eEn (.slice (some ⟨g, 0, none⟩) n c) L) (k : Nat) (x : En) (hx : L[k]? = some x) :
    w.cell? ⟨g, k * 2, none⟩ = some (.string x.n) ∧ w.cell? ⟨g, k * 2 + 1, none⟩ = some (.int .i64 x.p) := by
  obtain ⟨hk, rfl⟩ := List.getElem?_eq_some_iff.1 hx
  refine ⟨?_, ?_⟩
  · have h1 := h.elem k 0 hk (by decide); simpa [eEn] using h1
  · have h1 := h.elem k 1 hk (by decide); simpa [eEn] using h1
/-- The place of what f holds of. -/
def AtF (L : List En) (f : En → Prop) (k : Int) : Prop := (∃ (i : Nat) (x : En), k = i ∧ L[i]? = some x ∧ f x ∧ ∀ (j : Nat) y, j < i → L[j]? = some y → ¬ f y) ∨ (k = -1 ∧ ∀ y ∈ L, ¬ f y)
theorem atF_step {L : List En} {f : En → Prop} {k : Nat} {x : En} (hx : L[k]? = some x) (hn : ¬ f x) (h : ∀ (j : Nat) y, j < k → L[j]? = some y → ¬ f y) (j : Nat) (y : En) (hj : j < k + 1) (hy : L[j]? = some y) : ¬ f y := by
  rcases Nat.lt_succ_iff_lt_or_eq.1 hj with h1 | h1
  · exact h j y h1 hy
  · subst h1; rw [hx] at hy; cases hy; exact hn
theorem atF_end {L : List En} {f : En → Prop} {k : Nat} (hk : ¬ k < L.length) (h : ∀ (j : Nat) y, j < k → L[j]? = some y → ¬ f y) : AtF L f (-1) :=
  .inr ⟨rfl, fun y hy => by
    obtain ⟨j, hj, he⟩ := List.mem_iff_getElem.1 hy
    exact h j y (by omega) (by rw [List.getElem?_eq_getElem hj, he])⟩
set_option maxRecDepth 100000 in
set_option maxHeartbeats 2000000 in
theorem dfind_any (w : World) (q : Nat) (lv : Value) (L : List En) (s : ByteArray) (h : IsD w q lv L) (hn : L.length ≤ 1000000) :
    Calls Tryd.prog 27 #[.pointer (some ⟨q, 0, none⟩), .string s] w fun e w' => ∃ k, AtF L (fun x => x.n = s) k ∧ e = .returned (.int .i64 k) ∧ w = w' := by
  obtain ⟨A, c, hv, _, _, hs0, hs1⟩ := h.own.shape
  have q0 := h.c0
  rw [hv] at q0
  have HO := Kp.mk (hv ▸ h.own)
  have HS0 := Kp.mk hs0
  have HS1 := Kp.mk hs1
  clear h hv hs0 hs1
  go_enter Tryd.func27, Tryd.ntmps27
  go_wp2_with fail
  go_loop [5] (fun iv => ∃ k : Nat, k ≤ L.length ∧ iv = .int .i64 k ∧ Kp (∀ (j : Nat) y, j < k → L[j]? = some y → ¬ y.n = s)) (fun iv => L.length - (intOf iv).toNat)
  case atStart => exact ⟨0, Nat.zero_le _, rfl, ⟨fun j y hj => absurd hj (Nat.not_lt_zero _)⟩⟩
  case round =>
    obtain ⟨k, hk, rfl, HJ⟩ := hrel
    by_cases hlt : k < L.length
    · obtain ⟨x, hx⟩ : ∃ x, L[k]? = some x := ⟨_, List.getElem?_eq_getElem hlt⟩
      obtain ⟨g, rfl⟩ : ∃ g, A = some ⟨g, 0, none⟩ := by
        cases A with
        | none => have h1 := (HS0.out rfl).1; rw [h1] at hlt; simp at hlt
        | some y => obtain ⟨g, rfl⟩ := HS1.out y rfl; exact ⟨g, rfl⟩
      obtain ⟨a0, a1⟩ := HO.out.en k x hx
      have k0 : (0 : Int) ≤ (k : Int) := by omega
      have k1 : (k : Int) < (L.length : Int) := by omega
      have HXK := Kp.mk hx
      clear hx
      by_cases hxs : x.n = s
      · have hd : (x.n.toList == s.toList) = true := by rw [hxs]; exact beq_self_eq_true _
        have HXS := Kp.mk hxs
        clear hxs
        go_wp2
        go_ret
        exact ⟨k, .inl ⟨k, x, rfl, HXK.out, HXS.out, HJ.out⟩, rfl, rfl⟩
      · have hd : (x.n.toList == s.toList) = false := by
          rw [beq_eq_false_iff_ne]
          exact fun e => hxs (WideShapes.bytes_inj (by rw [← ByteArray.toList_eq, ← ByteArray.toList_eq]; exact e))
        have HXS := Kp.mk hxs
        clear hxs
        go_wp2
        go_round
        case rel => exact ⟨k + 1, by omega, by go_num, ⟨atF_step HXK.out HXS.out HJ.out⟩⟩
        case measure => simp [intOf]; omega
    · have HE := Kp.mk (atF_end hlt HJ.out)
      go_wp2
      go_ret
      exact ⟨-1, HE.out, rfl, rfl⟩
set_option maxRecDepth 100000 in
set_option maxHeartbeats 2000000 in
theorem dwho_any (w : World) (q : Nat) (lv : Value) (L : List En) (p : Int) (h : IsD w q lv L) (hn : L.length ≤ 1000000) :
    Calls Tryd.prog 28 #[.pointer (some ⟨q, 0, none⟩), .int .i64 p] w fun e w' => ∃ k, AtF L (fun x => x.p = p) k ∧ e = .returned (.int .i64 k) ∧ w = w' := by
  obtain ⟨A, c, hv, _, _, hs0, hs1⟩ := h.own.shape
  have q0 := h.c0
  rw [hv] at q0
  have HO := Kp.mk (hv ▸ h.own)
  have HS0 := Kp.mk hs0
  have HS1 := Kp.mk hs1
  clear h hv hs0 hs1
  go_enter Tryd.func28, Tryd.ntmps28
  go_wp2_with fail
  go_loop [5] (fun iv => ∃ k : Nat, k ≤ L.length ∧ iv = .int .i64 k ∧ Kp (∀ (j : Nat) y, j < k → L[j]? = some y → ¬ y.p = p)) (fun iv => L.length - (intOf iv).toNat)
  case atStart => exact ⟨0, Nat.zero_le _, rfl, ⟨fun j y hj => absurd hj (Nat.not_lt_zero _)⟩⟩
  case round =>
    obtain ⟨k, hk, rfl, HJ⟩ := hrel
    by_cases hlt : k < L.length
    · obtain ⟨x, hx⟩ : ∃ x, L[k]? = some x := ⟨_, List.getElem?_eq_getElem hlt⟩
      obtain ⟨g, rfl⟩ : ∃ g, A = some ⟨g, 0, none⟩ := by
        cases A with
        | none => have h1 := (HS0.out rfl).1; rw [h1] at hlt; simp at hlt
        | some y => obtain ⟨g, rfl⟩ := HS1.out y rfl; exact ⟨g, rfl⟩
      obtain ⟨a0, a1⟩ := HO.out.en k x hx
      have k0 : (0 : Int) ≤ (k : Int) := by omega
      have k1 : (k : Int) < (L.length : Int) := by omega
      have HXK := Kp.mk hx
      clear hx
      by_cases hxs : x.p = p
      · have hd : (x.p == p) = true := by simpa using hxs
        have HXS := Kp.mk hxs
        clear hxs
        go_wp2
        go_ret
        exact ⟨k, .inl ⟨k, x, rfl, HXK.out, HXS.out, HJ.out⟩, rfl, rfl⟩
      · have hd : (x.p == p) = false := by simpa using hxs
        have HXS := Kp.mk hxs
        clear hxs
        go_wp2
        go_round
        case rel => exact ⟨k + 1, by omega, by go_num, ⟨atF_step HXK.out HXS.out HJ.out⟩⟩
        case measure => simp [intOf]; omega
    · have HE := Kp.mk (atF_end hlt HJ.out)
      go_wp2
      go_ret
      exact ⟨-1, HE.out, rfl, rfl⟩
end Go.Proofs.YtmkfpaohlmejkaaDoor
