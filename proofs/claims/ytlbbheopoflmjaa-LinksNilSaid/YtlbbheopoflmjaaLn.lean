/- LinksNil walked: it answers true; no condition. -/
import Derived.Test.YtlbbheopoflmjaaLo
namespace Go.Proofs.Ytlbbheopoflmjaa
open Go.RowKit

set_option maxHeartbeats 1000000 in
theorem find_nil (w : World) (r : Int) : Calls Try.prog 29 #[.pointer none, .int .i64 r] w fun e w' => e = .returned (.tuple #[.agg #[.int .i64 0, .int .i64 0, .int .i64 0], .int .i64 2]) ∧ Below w.heap.size w w' := by
  go_enter Try.func29, Try.ntmps29
  go_wp2
  refine bodyPost_ret (results_row_tmp rfl _ _ w.heap.size 48 _ (0, 0) _ rfl (blk_new w _) Try.underlying48 rfl (by kernel_rfl)) rfl ?_
  exact ⟨rfl, (Below.refl _ _).alloc (Nat.le_refl _) _⟩
set_option maxHeartbeats 2000000 in
theorem leave_nil (w : World) (r : Int) : Calls Try.prog 28 #[.pointer none, .int .i64 r] w fun e w' => e = .returned (.tuple #[.agg #[.int .i64 0, .int .i64 0, .int .i64 0], .int .i64 2]) ∧ Below w.heap.size w w' := by
  have Z0 := Kp.mk (blk_new w (.cells #[.int .i64 0, .int .i64 0, .int .i64 0] 48))
  have hb1 : Below w.heap.size w (w.alloc (.cells #[.int .i64 0, .int .i64 0, .int .i64 0] 48)) := (Below.refl _ _).alloc (Nat.le_refl _) _
  have HB1 := Kp.mk hb1
  clear hb1
  go_enter Try.func28, Try.ntmps28
  go_wp2_with fail
  refine (find_nil _ r).mono ?_
  rintro e w2 ⟨rfl, hb2⟩
  have HX2 := Kp.mk ((hb2.block _ (lt_of_block Z0.out)).trans Z0.out)
  have HB2 := Kp.mk (bstep HB1.out HB1.out.size hb2)
  have hzl : w.heap.size < w2.heap.size := lt_of_block HX2.out
  have hzn : w.heap.size ≠ w2.heap.size := by omega
  have z0 : (w2.alloc (.cells #[.int .i64 0, .int .i64 0, .int .i64 0] 48)).cell? ⟨w.heap.size, 0, none⟩ = some (.int .i64 0) := blk_c (blk_alloc HX2.out _) 0
  have f0 : (w2.alloc (.cells #[.int .i64 0, .int .i64 0, .int .i64 0] 48)).frozen? ⟨w.heap.size, 0, none⟩ = false := blk_f (blk_alloc HX2.out _) 0
  have b1 := blk_alloc (blk_set HX2.out 0 (.int .i64 0)) (.cells #[.int .i64 0, .int .i64 0, .int .i64 0] 48)
  have b2 := blk_alloc (blk_set (blk_set HX2.out 0 (.int .i64 0)) 1 (.int .i64 0)) (.cells #[.int .i64 0, .int .i64 0, .int .i64 0] 48)
  have z1 : ((w2.setCell ⟨w.heap.size, 0, none⟩ (.int .i64 0)).alloc (.cells #[.int .i64 0, .int .i64 0, .int .i64 0] 48)).cell? ⟨w.heap.size, 1, none⟩ = some (.int .i64 0) := blk_c b1 1
  have z2 : (((w2.setCell ⟨w.heap.size, 0, none⟩ (.int .i64 0)).setCell ⟨w.heap.size, 1, none⟩ (.int .i64 0)).alloc (.cells #[.int .i64 0, .int .i64 0, .int .i64 0] 48)).cell? ⟨w.heap.size, 2, none⟩ = some (.int .i64 0) := blk_c b2 2
  have f1 : ((w2.setCell ⟨w.heap.size, 0, none⟩ (.int .i64 0)).alloc (.cells #[.int .i64 0, .int .i64 0, .int .i64 0] 48)).frozen? ⟨w.heap.size, 1, none⟩ = false := blk_f b1 1
  have f2 : (((w2.setCell ⟨w.heap.size, 0, none⟩ (.int .i64 0)).setCell ⟨w.heap.size, 1, none⟩ (.int .i64 0)).alloc (.cells #[.int .i64 0, .int .i64 0, .int .i64 0] 48)).frozen? ⟨w.heap.size, 2, none⟩ = false := blk_f b2 2
  clear b1 b2 hb2
  go_wp2
  have c3 := chg3 w2 w.heap.size (.int .i64 0) (.int .i64 0) (.int .i64 0)
  refine bodyPost_ret (results_row_tmp rfl _ _ w.heap.size 48 _ (0, 0) _ rfl (blk_alloc (set3 HX2.out _ _ _) _) Try.underlying48 rfl (by kernel_rfl)) rfl ?_
  exact ⟨rfl, (chg_below HB2.out c3 (fun g hg => by omega) HB2.out.size).alloc (by simp; omega) _⟩
set_option maxHeartbeats 1000000 in
theorem two_nil (w : World) (a b : Int) : Calls Try.prog 49 #[.pointer none, .int .i64 a, .int .i64 b] w fun e w' => e = .returned (.int .i64 2) ∧ w = w' := by
  go_enter Try.func49, Try.ntmps49
  go_wp2
  go_ret
  exact ⟨rfl, rfl⟩
set_option maxHeartbeats 1000000 in
theorem link_nil (w : World) (a b : Int) : Calls Try.prog 30 #[.pointer none, .int .i64 a, .int .i64 b] w fun e w' => e = .returned (.int .i64 2) ∧ w = w' := by
  go_enter Try.func30, Try.ntmps30
  go_wp2_with (go_at_call 49; refine (two_nil _ a b).mono ?_; rintro e w' ⟨rfl, rfl⟩)
  go_ret
  exact ⟨rfl, rfl⟩
set_option maxHeartbeats 1000000 in
theorem unlink_nil (w : World) (a b : Int) : Calls Try.prog 31 #[.pointer none, .int .i64 a, .int .i64 b] w fun e w' => e = .returned (.int .i64 2) ∧ w = w' := by
  go_enter Try.func31, Try.ntmps31
  go_wp2_with (go_at_call 49; refine (two_nil _ a b).mono ?_; rintro e w' ⟨rfl, rfl⟩)
  go_ret
  exact ⟨rfl, rfl⟩
set_option maxHeartbeats 1000000 in
theorem watch_nil (w : World) (r a b : Int) : Calls Try.prog 11 #[.pointer none, .int .i64 r, .int .i64 a, .int .i64 b] w fun e w' => e = .returned (.int .i64 2) ∧ w = w' := by
  go_enter Try.func11, Try.ntmps11
  go_wp2
  go_ret
  exact ⟨rfl, rfl⟩
set_option maxHeartbeats 1000000 in
theorem linked_nil (w : World) (a b : Int) : Calls Try.prog 26 #[.pointer none, .int .i64 a, .int .i64 b] w fun e w' => e = .returned (.bool false) ∧ Below w.heap.size w w' := by
  go_enter Try.func26, Try.ntmps26
  go_wp2
  go_quiet (fail)
  go_wp2
  go_ret
  exact ⟨rfl, ⟨rfl, rfl, rfl, Nat.le_refl _, fun _ _ => rfl⟩⟩
set_option maxHeartbeats 1000000 in
theorem len_nil (w : World) : Calls Try.prog 22 #[.pointer none] w fun e w' => e = .returned (.int .i64 0) ∧ w = w' := by
  go_enter Try.func22, Try.ntmps22
  go_wp2
  go_ret
  exact ⟨rfl, rfl⟩
set_option maxRecDepth 100000 in
set_option maxHeartbeats 8000000 in
theorem linksNil_any (w : World) (a b r : Int) : Calls Try.prog 8 #[.int .i64 a, .int .i64 b, .int .i64 r] w fun e w' => e = .returned (.bool true) ∧ Below w.heap.size w w' := by
  go_enter Try.func8, Try.ntmps8
  go_wp2_with fail
  refine (leave_nil _ r).mono ?_
  rintro e w1 ⟨rfl, b1⟩
  have B1 := Kp.mk (b1.alloc b1.size (.cells #[.int .i64 0, .int .i64 0, .int .i64 0] 48))
  have X1 := Kp.mk (blk_new w1 (.cells #[.int .i64 0, .int .i64 0, .int .i64 0] 48))
  clear b1
  go_wp2_with fail
  refine (find_nil _ r).mono ?_
  rintro e w2 ⟨rfl, b2⟩
  have x2 := (b2.block _ (lt_of_block X1.out)).trans X1.out
  have B2 := Kp.mk (bstep B1.out B1.out.size b2)
  have q0 := blk_c (blk_alloc x2 (.cells #[.int .i64 0, .int .i64 0, .int .i64 0] 48)) 0
  have q1 := blk_c (blk_alloc x2 (.cells #[.int .i64 0, .int .i64 0, .int .i64 0] 48)) 1
  have q2 := blk_c (blk_alloc x2 (.cells #[.int .i64 0, .int .i64 0, .int .i64 0] 48)) 2
  have ql := lt_of_block x2
  have qn : w1.heap.size ≠ w2.heap.size := by omega
  have B3 := Kp.mk (B2.out.alloc B2.out.size (.cells #[.int .i64 0, .int .i64 0, .int .i64 0] 48))
  clear b2 x2
  go_wp2_with (first
    | (go_at_call 19; refine (end_nil _ a).mono ?_; rintro e w3 ⟨rfl, rfl⟩)
    | (go_at_call 30; refine (link_nil _ a b).mono ?_; rintro e w3 ⟨rfl, rfl⟩)
    | (go_at_call 31; refine (unlink_nil _ a b).mono ?_; rintro e w3 ⟨rfl, rfl⟩)
    | (go_at_call 11; refine (watch_nil _ r a b).mono ?_; rintro e w3 ⟨rfl, rfl⟩)
    | (go_at_call 26; refine (linked_nil _ a b).mono ?_; rintro e w4 ⟨rfl, b4⟩; have B4 := Kp.mk (bstep B3.out B3.out.size b4); clear b4)
    | (go_at_call 22; refine (len_nil _).mono ?_; rintro e w3 ⟨rfl, rfl⟩)
    | (go_at_call 21; refine (of_nil _ a 1 (by omega) (by omega)).mono ?_; rintro e w5 ⟨v5, rfl, o5, f5, b5⟩; obtain ⟨A5, c5, hv5, _⟩ := o5.shape; subst hv5; have B5 := Kp.mk (bstep B4.out B4.out.size b5); clear o5 f5 b5; rw [List.length_nil])
    | (go_at_call 15; refine (every_nil _ 1 (by omega) (by omega)).mono ?_; rintro e w6 ⟨v6, rfl, o6, f6, b6⟩; obtain ⟨A6, c6, hv6, _⟩ := o6.shape; subst hv6; have B6 := Kp.mk (bstep B5.out B5.out.size b6); clear o6 f6 b6; rw [List.length_nil])
    | (go_at_call 25; refine (peers_nil _ a).mono ?_; rintro e w7 ⟨v7, rfl, o7, f7, b7⟩; obtain ⟨A7, c7, hv7, _⟩ := o7.shape; subst hv7; have B7 := Kp.mk (bstep B6.out B6.out.size b7); clear o7 f7 b7; rw [List.length_nil])
    | (go_at_call 23; refine (group_nil _ a).mono ?_; rintro e w8 ⟨rfl, rfl⟩)
    | (go_at_call 16; refine (awake_any _).mono ?_; rintro e w9 ⟨rfl, b9⟩; have B9 := Kp.mk (bstep B7.out B7.out.size b9); clear b9))
  go_ret
  exact ⟨rfl, B9.out⟩
end Go.Proofs.Ytlbbheopoflmjaa
