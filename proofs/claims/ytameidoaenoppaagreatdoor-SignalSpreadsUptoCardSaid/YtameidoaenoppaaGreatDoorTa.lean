/- word.spelled walked: it tells whether a text is right UTF-8; over the tables of unicode/utf8. -/
import Derived.Test.YtameidoaenoppaaGreatDoorCa
import Derived.Test.YtameidoaenoppaaGreatDoorSh
import Derived.Test.YtameidoaenoppaaGreatDoorUt
import Derived.Lib.OthersKept
import Derived.Shelf.Unicode.DecodeAny
namespace Go.Proofs.YtameidoaenoppaaGreatDoor
open Go.RowKit Go.Lib

/-- The tables of unicode/utf8 as they were laid. -/
def Tabs (w : World) : Prop := Lib.Utf8Tabs (Tryz.decS_ren.g 3) (Tryz.decS_ren.g 4) w
theorem Tabs.below {w w' : World} (h : Tabs w) (hb : Below w.heap.size w w') : Tabs w' := Utf8Tabs_below h hb
theorem dec_any (s : ByteArray) (w : World) (hT : Tabs w) : Calls Tryz.prog 82 #[.string s] w fun e w' => e = .returned (.tuple #[.int .i32 (Lib.decodeGo s).1, .int .i64 (Lib.decodeGo s).2]) ∧ Below w.heap.size w w' :=
  Any.utf8_DecodeRuneInString Tryz.decS s w hT
theorem dec_drop (s : ByteArray) (pos : Nat) : Utf8.decode s pos = decodeL (s.data.toList.drop pos) := by
  rw [decode_N, decodeL_N]
  simp only [List.length_drop, List.getD_eq_getElem?_getD, List.getElem?_drop, Nat.add_zero]
theorem dec_go (s : ByteArray) (pos : Nat) (h : pos < s.size) : Lib.decodeGo (s.extract pos s.size) = Utf8.decode s pos := by
  have hz : ¬ (s.extract pos s.size).size = 0 := by rw [ByteArray.size_extract]; omega
  unfold Lib.decodeGo
  rw [if_neg hz, dec_drop, dec_drop, List.drop_zero, Lib.extract_to_end]
theorem valid_at (s : ByteArray) (pos : Nat) (h : pos < s.size) : validD (s.data.toList.drop pos) = if (Utf8.decode s pos).1 = 65533 ∧ (Utf8.decode s pos).2 = 1 then false else validD (s.data.toList.drop (pos + (Utf8.decode s pos).2)) := by
  have hl : s.data.toList.length = s.size := by simp
  rw [validD_step _ (by intro e; have h1 := congrArg List.length e; rw [List.length_drop, hl] at h1; simp at h1; omega), ← dec_drop, List.drop_drop]
theorem wid_1 (s : ByteArray) (pos : Nat) : 1 ≤ (Utf8.decode s pos).2 := by rw [decode_at]; exact decodeN_ge1 _ _ _ _ _
theorem rune_le (s : ByteArray) (pos : Nat) : (Utf8.decode s pos).1 ≤ 1114111 := by rw [decode_at]; exact decodeN_rune_le _ _ _ _ _ (UInt8.toNat_lt _)
theorem chg_iter (w : World) (k : Nat) (s : ByteArray) (pos : Nat) : Chg (fun g => g = k) w (w.iterAt k s pos) :=
  ⟨rfl, rfl, rfl, by simp [World.iterAt], fun i _ hi => by simp only [World.iterAt]; rw [Array.getElem?_setIfInBounds_ne (fun e => hi e.symm)]⟩
set_option maxRecDepth 1000000 in
set_option maxHeartbeats 2000000 in
theorem spelled_any (s : ByteArray) (w : World) (hT : Tabs w) :
    Calls Tryz.prog 78 #[.string s] w fun e w' => e = .returned (.bool (validD s.data.toList)) ∧ Below w.heap.size w w' := by
  have HT := Kp.mk hT
  clear hT
  go_enter Tryz.func78, Tryz.ntmps78
  go_wp2
  go_loopw [3, 4, 5, 6] (fun _ _ _ _ wr => ∃ pos : Nat, Kp (wr.heap[w.heap.size]? = some (.stringIter s pos)) ∧ Kp (validD (s.data.toList.drop pos) = validD s.data.toList) ∧ Kp (Below w.heap.size w wr)) (fun _ _ _ _ wr => s.size - wr.iterPos w.heap.size)
  case atStart => exact ⟨0, ⟨World.iter_heap w s 0⟩, ⟨by rw [List.drop_zero]⟩, ⟨(Below.refl _ _).alloc (Nat.le_refl _) _⟩⟩
  case round =>
    obtain ⟨pos, HI, HV, HB⟩ := hrel
    have hip : wr.iterPos w.heap.size = pos := by unfold World.iterPos; rw [HI.out]
    have HIP := Kp.mk hip
    clear hip
    by_cases hlt : pos < s.size
    · have hnx : ∀ ty, (Instr.next (.pointer (some ⟨w.heap.size, 0, none⟩)) true ty).run Tryz.prog wr = _ := fun ty => run_next_any_at wr w.heap.size s pos ty HI.out hlt
      obtain ⟨W1, hW1⟩ : ∃ W1, W1 = wr.iterAt w.heap.size s (pos + (Utf8.decode s pos).2) := ⟨_, rfl⟩
      rw [← hW1] at hnx
      have hi1 : W1.heap[w.heap.size]? = some (.stringIter s (pos + (Utf8.decode s pos).2)) := by rw [hW1]; exact iterAt_heap wr w.heap.size s pos _ HI.out
      have hb1 : Below w.heap.size w W1 := chg_below HB.out (by rw [hW1]; exact chg_iter _ _ _ _) (fun g hg => by omega) HB.out.size
      have hva := valid_at s pos hlt
      have hw1 := wid_1 s pos
      have hrl := rune_le s pos
      have hdg := dec_go s pos hlt
      have HDC := Kp.mk (fun w2 hb => dec_any (s.extract pos s.size) w2 (HT.out.below hb))
      rw [hdg] at HDC
      obtain ⟨r, hr⟩ : ∃ r, r = (Utf8.decode s pos).1 := ⟨_, rfl⟩
      obtain ⟨d, hd⟩ : ∃ d, d = (Utf8.decode s pos).2 := ⟨_, rfl⟩
      rw [← hr] at hva hnx HDC
      rw [← hd] at hva HDC hi1 hw1
      rw [← hr] at hrl
      have HVA := Kp.mk hva
      have HI1 := Kp.mk hi1
      have HB1 := Kp.mk hb1
      have p0 : (0 : Int) ≤ (pos : Int) := by omega
      have p1 : (pos : Int) ≤ (s.size : Int) := by omega
      have p2 : pos ≤ s.size := by omega
      clear hva hi1 hb1 hW1 hr hd hdg
      have fin : ∀ w2, Below W1.heap.size W1 w2 → (∃ pos' : Nat, Kp (w2.heap[w.heap.size]? = some (.stringIter s pos')) ∧ Kp (validD (s.data.toList.drop pos') = validD s.data.toList) ∧ Kp (Below w.heap.size w w2)) ∧ s.size - w2.iterPos w.heap.size < s.size - wr.iterPos w.heap.size ∨ r = 65533 ∧ d = 1 := fun w2 hb => by
        by_cases hc : r = 65533 ∧ d = 1
        · exact .inr hc
        · have h2 := (hb.block _ (lt_of_block HI1.out)).trans HI1.out
          refine .inl ⟨⟨pos + d, ⟨h2⟩, ⟨by have := HVA.out; rw [if_neg hc] at this; rw [← HV.out]; exact this.symm⟩, ⟨bstep HB1.out HB1.out.size hb⟩⟩, ?_⟩
          have h3 : w2.iterPos w.heap.size = pos + d := by unfold World.iterPos; rw [h2]
          rw [h3, HIP.out]
          omega
      have FIN := Kp.mk fin
      clear fin
      by_cases hrr : r = 65533
      · have hre : ((r : Int) == 65533) = true := by simp; omega
        by_cases hdd : d = 1
        · have hde : ((d : Int) == 1) = true := by simp; omega
          have HNO : Kp (validD s.data.toList = false) := ⟨by rw [← HV.out, HVA.out, if_pos ⟨hrr, hdd⟩]⟩
          clear hrr hdd
          go_wp2_with (go_at_call 82; refine (HDC.out _ HB1.out).mono ?_; rintro e w5 ⟨rfl, hb5⟩; have HB5 := Kp.mk (bstep HB1.out HB1.out.size hb5); clear hb5)
          go_ret
          exact ⟨by rw [HNO.out]; rfl, HB5.out⟩
        · have hde : ((d : Int) == 1) = false := by simp; omega
          have HDD := Kp.mk hdd
          clear hrr hdd
          go_wp2_with (go_at_call 82; refine (HDC.out _ HB1.out).mono ?_; rintro e w5 ⟨rfl, hb5⟩; have HB5 := Kp.mk hb5; clear hb5)
          go_roundw
          case rel => exact ((FIN.out _ HB5.out).resolve_right (fun h => HDD.out h.2)).1
          case measure => exact ((FIN.out _ HB5.out).resolve_right (fun h => HDD.out h.2)).2
      · have hre : ((r : Int) == 65533) = false := by simp; omega
        have HRR := Kp.mk hrr
        clear hrr
        go_wp2
        go_roundw
        case rel => exact ((FIN.out _ (Below.refl _ _)).resolve_right (fun h => HRR.out h.1)).1
        case measure => exact ((FIN.out _ (Below.refl _ _)).resolve_right (fun h => HRR.out h.1)).2
    · have hnx : ∀ ty, (Instr.next (.pointer (some ⟨w.heap.size, 0, none⟩)) true ty).run Tryz.prog wr = _ := fun ty => run_next_end_at wr w.heap.size s pos ty HI.out hlt
      have HYES : Kp (validD s.data.toList = true) := ⟨by
        rw [← HV.out, List.drop_eq_nil_of_le (by simp; omega)]
        rfl⟩
      go_wp2
      go_ret
      exact ⟨by rw [HYES.out]; rfl, HB.out⟩
end Go.Proofs.YtameidoaenoppaaGreatDoor
