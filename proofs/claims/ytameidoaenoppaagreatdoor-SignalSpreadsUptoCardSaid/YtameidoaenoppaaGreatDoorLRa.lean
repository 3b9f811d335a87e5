/- The document's graph of package links in memory; its Pid, pair, place; bounds stand in each statement. -/
import Derived.Test.YtameidoaenoppaaGreatDoorLP
namespace Go.Proofs.YtameidoaenoppaaGreatDoor
open Go.RowKit

theorem T27 : SlT Tryz.prog 41 71 eBd 24 := SlT.mk' (k := 3) (z := .agg #[.int .i64 0, .int .i64 0, .int .i64 0]) Tryz.underlying41 (by kernel_rfl) rfl rfl
/-- The document's graph. -/
structure IsD (w : World) (q : Nat) (lv : Value) (L : List Bd) : Prop where
  blk : w.heap[q]? = some (.cells #[lv] 44 (0, 0))
  own : Own w 71 eBd lv L
section
variable {w w' : World} {q : Nat} {lv : Value} {L : List Bd}
theorem IsD.c0 (h : IsD w q lv L) : w.cell? ⟨q, 0, none⟩ = some lv := blk_c h.blk 0
theorem IsD.below (h : IsD w q lv L) (hb : Below w.heap.size w w') : IsD w' q lv L := ⟨(Chg.of_below hb NoF).at h.blk (fun h => h), h.own.below hb⟩
theorem IsD.set {lv' : Value} {L' : List Bd} (hb : w.heap[q]? = some (.cells #[lv] 44 (0, 0))) (ho : Own w 71 eBd lv' L') : IsD (w.setCell ⟨q, 0, none⟩ lv') q lv' L' :=
  ⟨by rw [blk_set hb]; rfl, ho.set_ne (ho.ne hb (by decide)) _⟩
end
set_option maxHeartbeats 400000 in
theorem dPid_any (w : World) (a : Int) : Calls Tryz.prog 46 #[.int .i64 a] w fun e w' => e = .returned (.bool (decide (IsPid a))) ∧ w = w' := by
  by_cases h1 : 1 ≤ a
  · have d1 : decide (a ≥ 1) = true := by simpa using h1
    by_cases h2 : a ≤ 1099511627776
    · have e : Kp (decide (IsPid a) = true) := ⟨decide_eq_true (show IsPid a from ⟨h1, h2⟩)⟩
      go_enter Tryz.func46, Tryz.ntmps46
      go_wp2
      go_ret
      exact ⟨by rw [e.out]; rfl, rfl⟩
    · have e : Kp (decide (IsPid a) = false) := ⟨decide_eq_false (fun h => h2 h.2)⟩
      go_enter Tryz.func46, Tryz.ntmps46
      go_wp2
      go_ret
      exact ⟨by rw [e.out]; rfl, rfl⟩
  · have e : Kp (decide (IsPid a) = false) := ⟨decide_eq_false (fun h => h1 h.1)⟩
    go_enter Tryz.func46, Tryz.ntmps46
    go_wp2
    go_ret
    exact ⟨by rw [e.out]; rfl, rfl⟩
set_option maxHeartbeats 1000000 in
theorem dpair_any (w : World) (a b : Int) : Calls Tryz.prog 51 #[.int .i64 a, .int .i64 b] w fun e w' => e = .returned (.agg #[.int .i64 (min a b), .int .i64 (max a b), .int .i64 0]) ∧ Below w.heap.size w w' := by
  have fin : ∀ (x y : Int) (tm : Array Value), tm.getD 4 undef = .pointer (some ⟨w.heap.size, 0, none⟩) → x = min a b → y = max a b →
      bodyPost Tryz.prog Tryz.f51 (fun e w' => e = Ending.returned (Value.agg #[Value.int .i64 (min a b), Value.int .i64 (max a b), Value.int .i64 0]) ∧ Below w.heap.size w w') Exit.ret { tmps := tm, defers := [] } (w.alloc (.cells #[.int .i64 x, .int .i64 y, .int .i64 0] 71)) := fun x y tm ht hx hy => by
    subst hx; subst hy
    exact bodyPost_ret (results_cell_row rfl _ _ w.heap.size 71 _ (0, 0) _ ht (blk_new w _) Tryz.underlying71 rfl (by kernel_rfl)) rfl ⟨rfl, (Below.refl _ w).alloc (Nat.le_refl _) _⟩
  have FIN := Kp.mk fin
  clear fin
  rcases Int.lt_or_le b a with h | h
  · have hd : decide (b < a) = true := by simpa using h
    go_enter Tryz.func51, Tryz.ntmps51
    go_wp2
    all_goals exact FIN.out _ _ _ rfl (by omega) (by omega)
  · have hd : ¬ b < a := by omega
    go_enter Tryz.func51, Tryz.ntmps51
    go_wp2
    all_goals exact FIN.out _ _ _ rfl (by omega) (by omega)
def AtB (L : List Bd) (b : Bd) (k : Int) : Prop := (∃ i : Nat, k = i ∧ L[i]? = some b ∧ ∀ j : Nat, j < i → L[j]? ≠ some b) ∨ (k = -1 ∧ b ∉ L)
set_option maxRecDepth 100000 in
set_option maxHeartbeats 4000000 in
theorem place_any (w : World) (q : Nat) (lv : Value) (L : List Bd) (b : Bd) (h : IsD w q lv L) (hn : L.length ≤ 1000000) :
    Calls Tryz.prog 50 #[.pointer (some ⟨q, 0, none⟩), .agg #[.int .i64 b.a, .int .i64 b.b, .int .i64 b.r]] w fun e w' => ∃ k, AtB L b k ∧ e = .returned (.int .i64 k) ∧ Below w.heap.size w w' := by
  obtain ⟨A, c, hv, _, _, hs0, hs1⟩ := h.own.shape
  have q0 := h.c0
  rw [hv] at q0
  have qlt := lt_of_block h.blk
  have hb1 : Below w.heap.size w (w.alloc (.cells #[.int .i64 b.a, .int .i64 b.b, .int .i64 b.r] 71)) := (Below.refl _ w).alloc (Nat.le_refl _) _
  have HO := Kp.mk (hv ▸ h.own)
  have HB1 := Kp.mk hb1
  have X1 := Kp.mk (blk_new w (.cells #[.int .i64 b.a, .int .i64 b.b, .int .i64 b.r] 71))
  have HS0 := Kp.mk hs0
  have HS1 := Kp.mk hs1
  clear h hv hb1 hs0 hs1
  go_enter Tryz.func50, Tryz.ntmps50
  go_wp2_with fail
  go_loopw [5, 6, 12] (fun _ _ iv wr => ∃ k : Nat, k ≤ L.length ∧ iv = .int .i64 k ∧ Kp (∀ j : Nat, j < k → L[j]? ≠ some b) ∧ Kp (Below (w.heap.size + 1) (w.alloc (.cells #[.int .i64 b.a, .int .i64 b.b, .int .i64 b.r] 71)) wr)) (fun _ _ iv _ => L.length - (intOf iv).toNat)
  case atStart => exact ⟨0, Nat.zero_le _, rfl, ⟨fun j hj => absurd hj (Nat.not_lt_zero _)⟩, ⟨Below.refl _ _⟩⟩
  case round =>
    obtain ⟨k, hk, rfl, HJ, HB⟩ := hrel
    have hbw : Below w.heap.size w wr := HB1.out.trans (HB.out.mono (by simp))
    by_cases hlt : k < L.length
    · obtain ⟨x, hx⟩ : ∃ x, x = L[k] := ⟨_, rfl⟩
      have hxk : L[k]? = some x := by rw [hx]; exact List.getElem?_eq_getElem hlt
      have ho := HO.out.below hbw
      obtain ⟨g, rfl⟩ : ∃ g, A = some ⟨g, 0, none⟩ := by
        cases A with
        | none => have h1 := (HS0.out rfl).1; rw [h1] at hlt; simp at hlt
        | some y => obtain ⟨g, rfl⟩ := HS1.out y rfl; exact ⟨g, rfl⟩
      have a0 : wr.cell? ⟨g, k * 3, none⟩ = some (.int .i64 x.a) := by have h1 := ho.elem k 0 hlt (by decide); rw [← hx] at h1; simpa [eBd] using h1
      have a1 : wr.cell? ⟨g, k * 3 + 1, none⟩ = some (.int .i64 x.b) := by have h1 := ho.elem k 1 hlt (by decide); rw [← hx] at h1; simpa [eBd] using h1
      have a2 : wr.cell? ⟨g, k * 3 + 2, none⟩ = some (.int .i64 x.r) := by have h1 := ho.elem k 2 hlt (by decide); rw [← hx] at h1; simpa [eBd] using h1
      have xb := (HB.out.block w.heap.size (by omega)).trans X1.out
      have xl := lt_of_block xb
      have b0 : (wr.alloc (.cells #[.int .i64 x.a, .int .i64 x.b, .int .i64 x.r] 71)).cell? ⟨w.heap.size, 0, none⟩ = some (.int .i64 b.a) := blk_c (blk_alloc xb _) 0
      have b1 : (wr.alloc (.cells #[.int .i64 x.a, .int .i64 x.b, .int .i64 x.r] 71)).cell? ⟨w.heap.size, 1, none⟩ = some (.int .i64 b.b) := blk_c (blk_alloc xb _) 1
      have b2 : (wr.alloc (.cells #[.int .i64 x.a, .int .i64 x.b, .int .i64 x.r] 71)).cell? ⟨w.heap.size, 2, none⟩ = some (.int .i64 b.r) := blk_c (blk_alloc xb _) 2
      have k0 : (0 : Int) ≤ (k : Int) := by omega
      have k1 : (k : Int) < (L.length : Int) := by omega
      have HXK := Kp.mk hxk
      have HBW := Kp.mk hbw
      have HB2 := Kp.mk (fun o : Obj => HB.out.alloc (by have := HB.out.size; simp at this; omega) o)
      clear hx hxk ho xb hbw
      have hnext : x ≠ b → ∀ j : Nat, j < k + 1 → L[j]? ≠ some b := fun hne j hj hb => by
        rcases Nat.lt_succ_iff_lt_or_eq.1 hj with h | h
        · exact HJ.out j h hb
        · subst h; rw [HXK.out] at hb; exact hne (Option.some.inj hb)
      have HNX := Kp.mk hnext
      clear hnext
      go_wp2
      · rename_i e1 e2 e3
        have e : x = b := by cases x; cases b; simp only at e1 e2 e3; rw [e1, e2, e3]
        go_ret
        exact ⟨k, .inl ⟨k, rfl, by rw [HXK.out, e], HJ.out⟩, rfl, HBW.out.alloc HBW.out.size _⟩
      · rename_i e3
        go_roundw
        case rel => exact ⟨k + 1, by omega, by go_num, ⟨HNX.out (fun e => e3 (by rw [e]))⟩, ⟨HB2.out _⟩⟩
        case measure => simp [intOf]; omega
      · rename_i e3
        go_roundw
        case rel => exact ⟨k + 1, by omega, by go_num, ⟨HNX.out (fun e => e3 (by rw [e]))⟩, ⟨HB2.out _⟩⟩
        case measure => simp [intOf]; omega
      · rename_i e3
        go_roundw
        case rel => exact ⟨k + 1, by omega, by go_num, ⟨HNX.out (fun e => e3 (by rw [e]))⟩, ⟨HB2.out _⟩⟩
        case measure => simp [intOf]; omega
    · have HBW := Kp.mk hbw
      have hno : Kp (b ∉ L) := ⟨fun hm => by
        obtain ⟨j, hj, he⟩ := List.mem_iff_getElem.1 hm
        exact HJ.out j (by omega) (by rw [List.getElem?_eq_getElem hj, he])⟩
      clear hbw
      go_wp2
      go_ret
      exact ⟨-1, .inr ⟨rfl, hno.out⟩, rfl, HBW.out⟩
end Go.Proofs.YtameidoaenoppaaGreatDoor
