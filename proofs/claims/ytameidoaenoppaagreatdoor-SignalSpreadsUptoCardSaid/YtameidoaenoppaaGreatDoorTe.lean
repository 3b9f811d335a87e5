/- isPid, is, atom, slices.Clone and tuple of package signal walked; bounds stand in the statements. -/
import Derived.Test.YtameidoaenoppaaGreatDoorTd
namespace Go.Proofs.YtameidoaenoppaaGreatDoor
open Go.RowKit

theorem own_lit {α : Type} (w : World) (E : El α) (T : TypeId) (cs : Array Value) (l : List α) (hcs : cs.toList = E.flat l) (hm : l.length ≤ maxLen) {n : Nat} (hn : n = l.length) : Own (w.alloc (.cells cs T)) T E (.slice (some ⟨w.heap.size, 0, none⟩) n n) l := by
  subst hn
  have hl : cs.size = l.length * E.k := by rw [← Array.length_toList, hcs, E.flat_length]
  refine ⟨⟨by rw [E.flat_length], .inr ⟨w.heap.size, l.length, cs, rfl, Nat.zero_le _, blk_new w _, Nat.le_refl _, hm, hl, ?_⟩⟩⟩
  rw [hcs, ← E.flat_length, List.take_length]
theorem Fresh.new {w : World} {o : Nat} {n c : Nat} : Fresh w (.slice (some ⟨w.heap.size, o, none⟩) n c) := fun g hg => by
  have : w.heap.size = g := by simpa [Value.ownBlock] using hg
  omega
set_option maxHeartbeats 1000000 in
theorem isPidS_any (w : World) (a : Int) : Calls Tryz.prog 53 #[.int .i64 a] w fun e w' => e = .returned (.bool (decide (IsPid a))) ∧ w' = w := by
  by_cases h1 : 1 ≤ a
  · have d1 : decide (a ≥ 1) = true := by simpa using h1
    by_cases h2 : a ≤ 1099511627776
    · have e : Kp (decide (IsPid a) = true) := ⟨decide_eq_true (show IsPid a from ⟨h1, h2⟩)⟩
      go_enter Tryz.func53, Tryz.ntmps53
      go_wp2
      go_ret
      exact ⟨by rw [e.out]; rfl, rfl⟩
    · have e : Kp (decide (IsPid a) = false) := ⟨decide_eq_false (fun h => h2 h.2)⟩
      go_enter Tryz.func53, Tryz.ntmps53
      go_wp2
      go_ret
      exact ⟨by rw [e.out]; rfl, rfl⟩
  · have e : Kp (decide (IsPid a) = false) := ⟨decide_eq_false (fun h => h1 h.1)⟩
    go_enter Tryz.func53, Tryz.ntmps53
    go_wp2
    go_ret
    exact ⟨by rw [e.out]; rfl, rfl⟩
theorem toList_beq {a b : ByteArray} (h : ¬ a = b) : (a.toList == b.toList) = false := by
  rw [beq_eq_false_iff_ne]
  exact fun e => h (WideShapes.bytes_inj (by rw [← ByteArray.toList_eq, ← ByteArray.toList_eq]; exact e))
theorem isA_one (x : Ce) (s : ByteArray) : isA [x] s = (decide (x.k = 2) && decide (x.n = 0) && decide (x.t = s)) := by
  unfold isA atomC
  rw [Bool.eq_iff_iff]
  obtain ⟨k, n, t⟩ := x
  simp [and_assoc]
theorem isA_len {t : List Ce} {s : ByteArray} (h : t.length ≠ 1) : isA t s = false := by
  unfold isA
  rw [decide_eq_false_iff_not]
  rintro rfl
  exact h rfl
set_option maxRecDepth 100000 in
set_option maxHeartbeats 4000000 in
theorem is_any (w : World) (A : Option Addr) (c : Nat) (t : List Ce) (s : ByteArray) (hs : Src w eCe A c t) (hn : t.length ≤ 9000000000000) :
    Calls Tryz.prog 30 #[.slice A t.length c, .string s] w fun e w' => e = .returned (.bool (isA t s)) ∧ w' = w := by
  have HS := Kp.mk hs
  clear hs
  by_cases h1 : t.length = 1
  · obtain ⟨x, rfl⟩ := List.length_eq_one_iff.1 h1
    obtain ⟨ad, rfl⟩ : ∃ ad, A = some ad := by
      cases A with
      | none => have h9 := (HS.out.none rfl).1; cases h9
      | some ad => exact ⟨ad, rfl⟩
    obtain ⟨g, o, rfl⟩ := HS.out.addr (by simp)
    obtain ⟨a0, a1, a2⟩ := HS.out.ce 0 x rfl
    rw [Nat.zero_mul, Nat.add_zero] at a0 a1 a2
    have E := Kp.mk (isA_one x s)
    have hl1 : [x].length = 1 := rfl
    rw [hl1]
    clear h1 hl1
    obtain ⟨k, n, t⟩ := x
    simp only at a0 a1 a2
    by_cases hk : k = 2
    · subst hk
      by_cases hnn : n = 0
      · subst hnn
        by_cases ht : t = s
        · subst ht
          have hb : (t.toList == t.toList) = true := beq_self_eq_true _
          have E2 : Kp (isA [⟨2, 0, t⟩] t = true) := ⟨by rw [E.out]; simp⟩
          rw [E2.out]
          go_enter Tryz.func30, Tryz.ntmps30
          go_wp2
          go_ret
          exact ⟨rfl, rfl⟩
        · have hb := toList_beq ht
          have E2 : Kp (isA [⟨2, 0, t⟩] s = false) := ⟨by rw [E.out]; simp [ht]⟩
          rw [E2.out]
          clear ht
          go_enter Tryz.func30, Tryz.ntmps30
          go_wp2
          go_ret
          exact ⟨rfl, rfl⟩
      · have hb : (n == 0) = false := by simpa using hnn
        have E2 : Kp (isA [⟨2, n, t⟩] s = false) := ⟨by rw [E.out]; simp [hnn]⟩
        rw [E2.out]
        clear hnn
        go_enter Tryz.func30, Tryz.ntmps30
        go_wp2
        go_ret
        exact ⟨rfl, rfl⟩
    · have hb : (k == 2) = false := by simpa using hk
      have E2 : Kp (isA [⟨k, n, t⟩] s = false) := ⟨by rw [E.out]; simp [hk]⟩
      rw [E2.out]
      clear hk
      go_enter Tryz.func30, Tryz.ntmps30
      go_wp2
      go_ret
      exact ⟨rfl, rfl⟩
  · have hb : ((t.length : Int) == 1) = false := by rw [beq_eq_false_iff_ne]; omega
    have E2 := Kp.mk (isA_len (s := s) h1)
    rw [E2.out]
    clear h1
    go_enter Tryz.func30, Tryz.ntmps30
    go_wp2
    go_ret
    exact ⟨rfl, rfl⟩
/-- A text in new memory. -/
def TxPost (w : World) (l : List Ce) (e : Ending) (w' : World) : Prop := ∃ v, e = .returned v ∧ Own w' 63 eCe v l ∧ Fresh w v ∧ Below w.heap.size w w'
set_option maxHeartbeats 1000000 in
theorem atomS_any (w : World) (s : ByteArray) : Calls Tryz.prog 68 #[.string s] w (TxPost w [atomC s]) := by
  go_enter Tryz.func68, Tryz.ntmps68
  go_wp2
  go_ret
  exact ⟨_, rfl, own_lit w eCe 63 _ [atomC s] rfl (by simp [maxLen]) rfl, Fresh.new, (Below.refl _ _).alloc (Nat.le_refl _) _⟩
set_option maxRecDepth 100000 in
set_option maxHeartbeats 2000000 in
theorem clone_any (w : World) (A : Option Addr) (c : Nat) (t : List Ce) (hs : Src w eCe A c t) (hn : t.length ≤ 1000000) (h1 : 1 ≤ t.length) :
    Calls Tryz.prog 25 #[.slice A t.length c] w (TxPost w t) := by
  have HS := Kp.mk hs
  obtain ⟨ad, rfl⟩ : ∃ ad, A = some ad := by
    cases A with
    | none => have h9 := (HS.out.none rfl).1; rw [h9] at h1; simp at h1
    | some ad => exact ⟨ad, rfl⟩
  clear hs
  have hown : Own (w.alloc (.cells #[] 63)) 63 eCe (.slice (some ⟨w.heap.size, 0, none⟩) 0 0) [] := own_lit w eCe 63 #[] [] rfl (by decide) rfl
  have B1 := Kp.mk ((Below.refl w.heap.size w).alloc (Nat.le_refl _) (.cells #[] 63))
  have hsrc := HS.out.below B1.out
  have hnil : (binOp BinOp.eql 46 (.slice (some ad) t.length c) (.slice none 0 0)).run Tryz.prog w = .ok (.bool false) w := by kernel_rfl
  go_enter Tryz.func25, Tryz.ntmps25
  go_wp2_with (at_builtin; refine app_ev TCe rfl _ _ rfl hown rfl hsrc rfl rfl (by simp only [List.length_nil]; omega) (by simp only [List.length_nil]; omega) ?_; intro A1 n1 c1 w2 a0 a1 a2 a3; have A1' := Kp.mk a1; have A2' := Kp.mk a2; have A3' := Kp.mk a3; clear a1 a2 a3)
  go_ret
  refine ⟨_, rfl, by simpa using A1'.out, ?_, chg_below B1.out A2'.out (fun g hg => ?_) B1.out.size⟩
  · exact (Fresh.new (w := w)).app (by simp) A3'.out
  · exact (Fresh.new (w := w)) g hg
set_option maxRecDepth 100000 in
set_option maxHeartbeats 4000000 in
theorem tuple_any (w : World) (A B : Option Addr) (c d : Nat) (r head : List Ce) (hs : Src w eCe A c r) (hn : r.length ≤ 1024) (hh : Src w eCe B d head) (hl : head.length ≤ 4) :
    Calls Tryz.prog 62 #[.slice A r.length c, .slice B head.length d] w (TxPost w (msg (⟨5, (head.length : Int) + 1, emp⟩ :: head) r)) := by
  have HS := Kp.mk hs
  have HH := Kp.mk hh
  clear hs hh
  obtain ⟨m, hm⟩ : ∃ m, m = head.length := ⟨_, rfl⟩
  have HM := Kp.mk hm
  obtain ⟨rl, hrl⟩ : ∃ rl, rl = r.length := ⟨_, rfl⟩
  have HRL := Kp.mk hrl
  rw [← hm, ← hrl]
  rw [← hm] at hl
  rw [← hrl] at hn
  have hown : Own (w.alloc (.cells #[.int .i64 5, .int .i64 ((m : Int) + 1), .string emp] 63)) 63 eCe (.slice (some ⟨w.heap.size, 0, none⟩) 1 1) [⟨5, (m : Int) + 1, emp⟩] := own_lit w eCe 63 _ [⟨5, (m : Int) + 1, emp⟩] rfl (by simp [maxLen]) rfl
  have B1 := Kp.mk ((Below.refl w.heap.size w).alloc (Nat.le_refl _) (.cells #[.int .i64 5, .int .i64 ((m : Int) + 1), .string emp] 63))
  have hsrc := HH.out.below B1.out
  have hm1 : IntKind.i64.wrap ((m : Int) + 1) = (m : Int) + 1 := IntWalk.i64_in _ (by omega)
  clear hm hrl
  unfold emp at hown B1 hsrc
  go_enter Tryz.func62, Tryz.ntmps62
  go_upto_region 2 with (at_builtin; refine app_ev TCe rfl _ _ rfl hown rfl hsrc HM.out rfl (by simp only [List.length_cons, List.length_nil]; have := HM.out; omega) (by simp only [List.length_cons, List.length_nil]; have := HM.out; omega) ?_; intro A1 n1 c1 w2 a0 a1 a2 a3; have A1' := Kp.mk a1; have A2' := Kp.mk a2; have A3' := Kp.mk a3; have A0' := a0; clear a1 a2 a3)
  obtain rfl : n1 = m + 1 := by have h1 := A0'.out; simp only [List.length_cons, List.length_nil] at h1; have := HM.out; omega
  have hb2 : Below w.heap.size w w2 := chg_below B1.out A2'.out (fun g hg => (Fresh.new (w := w)) g hg) B1.out.size
  have HB2 := Kp.mk hb2
  have HF2 : Kp (Fresh w (.slice A1 (m + 1) c1)) := ⟨(Fresh.new (w := w)).app (by simp) A3'.out⟩
  have HE : Kp (msg (⟨5, (m : Int) + 1, emp⟩ :: head) r = [⟨5, (m : Int) + 1, emp⟩] ++ head ++ (if 1024 < m + 1 + rl then [atomC limitS] else r)) := ⟨by unfold msg; rw [List.length_cons, ← HM.out, ← HRL.out]; rfl⟩
  have hl2 : Kp (([⟨5, (m : Int) + 1, emp⟩] ++ head : List Ce).length = m + 1) := ⟨by rw [List.length_append]; simp; have := HM.out; omega⟩
  clear hown hsrc hm1 hb2 A0'
  by_cases hbig : 1024 < m + 1 + rl
  · have hbi : (1024 : Int) < (m : Int) + 1 + (rl : Int) := by omega
    rw [if_pos hbig] at HE
    clear hbig
    go_wp2_with (first
      | (go_at_call 68; refine (atomS_any w2 limitS).mono ?_; rintro e w3 ⟨v3, rfl, o3, f3, b3⟩; obtain ⟨A3, c3, hv3, _⟩ := o3.shape; subst hv3; have O3 := Kp.mk o3; have HB3 := Kp.mk (bstep HB2.out HB2.out.size b3); have O2 := Kp.mk (A1'.out.below b3); clear o3 f3 b3)
      | (at_builtin; refine app_ev TCe rfl _ _ rfl O2.out rfl (O3.out.src rfl) rfl rfl (by have := hl2.out; unfold emp at this; rw [this]; simp; omega) (by have := hl2.out; unfold emp at this; rw [this]; simp; omega) ?_; intro A4 n4 c4 w4 d0 d1 d2 d3; have D1 := Kp.mk d1; have D2 := Kp.mk d2; have D3 := Kp.mk d3; clear d0 d1 d2 d3))
    go_ret
    refine ⟨_, rfl, by rw [HE.out]; exact D1.out, HF2.out.app HB3.out.size D3.out, chg_below HB3.out D2.out (fun g hg => HF2.out g hg) HB3.out.size⟩
  · have hbi : ¬ (1024 : Int) < (m : Int) + 1 + (rl : Int) := by omega
    rw [if_neg hbig] at HE
    have hs3 := HS.out.below HB2.out
    clear hbig
    go_wp2_with (at_builtin; refine app_ev TCe rfl _ _ rfl A1'.out rfl hs3 HRL.out rfl (by have := hl2.out; unfold emp at this; rw [this]; have := HRL.out; omega) (by have := hl2.out; unfold emp at this; rw [this]; have := HRL.out; omega) ?_; intro A4 n4 c4 w4 d0 d1 d2 d3; have D1 := Kp.mk d1; have D2 := Kp.mk d2; have D3 := Kp.mk d3; clear d0 d1 d2 d3)
    go_ret
    refine ⟨_, rfl, by rw [HE.out]; exact D1.out, HF2.out.app HB2.out.size D3.out, chg_below HB2.out D2.out (fun g hg => HF2.out g hg) HB2.out.size⟩
end Go.Proofs.YtameidoaenoppaaGreatDoor
