/- Link and Unlink of both graphs by step of package links's law, and what they change; bounds stand in each statement. -/
import Derived.Test.YtlbbheopoflmjaaLo
namespace Go.Proofs.Ytlbbheopoflmjaa
open Go.RowKit

set_option maxRecDepth 100000 in
set_option maxHeartbeats 8000000 in
theorem stepc_0 (hs : SortC) (w0 w : World) (p bm lm rm q : Nat) (lv : Value) (ns : List NB) (last a b r : Int) (h : Two w0 w p bm lm rm q lv ns last) (ht : last ≤ 900000000000000000) (_hr : -9223372036854775808 ≤ r ∧ r ≤ 9223372036854775807) :
    Calls Try.prog 13 #[.pointer (some ⟨p, 0, none⟩), .pointer (some ⟨q, 0, none⟩), .agg #[.int .i64 0, .int .i64 a, .int .i64 b, .int .i64 r]] w fun e w' => StepPost w0 p bm lm rm q (nsOf ns last ⟨0, a, b, r⟩) (lastOf ns last ⟨0, a, b, r⟩) e w' ∧ Chg (fun k => FG p bm lm rm k ∨ FD q lv k) w w' := by
  have hbx : Below w.heap.size w (w.alloc (.cells #[.int .i64 0, .int .i64 a, .int .i64 b, .int .i64 r] 23)) := (Below.refl _ _).alloc (Nat.le_refl _) _
  have H := Kp.mk (h.below hbx)
  have HX := Kp.mk (blk_new w (.cells #[.int .i64 0, .int .i64 a, .int .i64 b, .int .i64 r] 23))
  have HZ : Kp (∀ g, FG p bm lm rm g → g < w.heap.size) := ⟨h.g.g.lt⟩
  have HZD : Kp (∀ g, FD q lv g → g < w.heap.size) := ⟨fun g hg => hg.elim (fun e => e ▸ h.d.lt) (fun e => h.d.own.lt e)⟩
  have HS := Kp.mk hs
  clear h hbx hs
  go_enter Try.func13, Try.ntmps13
  go_upto_region 3 with fail
  have T0 : Kp (Two w0 (w.alloc (.cells #[.int .i64 0, .int .i64 a, .int .i64 b, .int .i64 r] 23)).drew p bm lm rm q lv ns last) := ⟨H.out.below (Below.refl _ _).drew⟩
  have X0 : Kp ((w.alloc (.cells #[.int .i64 0, .int .i64 a, .int .i64 b, .int .i64 r] 23)).drew.heap[w.heap.size]? = some (.cells #[.int .i64 0, .int .i64 a, .int .i64 b, .int .i64 r] 23 (0, 0))) := ⟨HX.out⟩
  refine R_begin 999 (fun w9 => w9.cell? ⟨w.heap.size, 1, none⟩ = some (.int .i64 a) ∧ w9.cell? ⟨w.heap.size, 2, none⟩ = some (.int .i64 b) ∧ w9.cell? ⟨w.heap.size, 3, none⟩ = some (.int .i64 r)) (by kernel_rfl) ⟨blk_c X0.out 1, blk_c X0.out 2, blk_c X0.out 3⟩ (fun HP0 => ?_)
  refine R_pure 0 rfl (by kernel_rfl) HP0 ?_
  apply Exists.intro
  refine ⟨fun _ _ _ h => h, .inl ⟨by kernel_rfl, fun w9 h9 => ?_⟩, fun HP1 => ?_⟩
  · clear h9; go_simp; first | done | rfl
  clear HP0
  refine R_pure 1 rfl (by kernel_rfl) HP1 ?_
  apply Exists.intro
  refine ⟨fun _ _ _ h => h, .inl ⟨by kernel_rfl, fun w9 h9 => ?_⟩, fun HP2 => ?_⟩
  · clear h9; go_simp; first | done | rfl
  clear HP1
  refine R_take 2 rfl (by kernel_rfl) HP2 ?_
  apply Exists.intro
  refine ⟨fun _ _ _ h => h, .inl ⟨by kernel_rfl, fun w9 h9 => ?_⟩, fun HP3 => ?_⟩
  · obtain ⟨s1, s2, s3⟩ := h9; go_simp; first | done | rfl
  clear HP2
  refine R_pure 3 rfl (by kernel_rfl) HP3 ?_
  apply Exists.intro
  refine ⟨fun _ _ _ h => h, .inl ⟨by kernel_rfl, fun w9 h9 => ?_⟩, fun HP4 => ?_⟩
  · clear h9; go_simp; first | done | rfl
  clear HP3
  refine R_take 4 rfl (by kernel_rfl) HP4 ?_
  apply Exists.intro
  refine ⟨fun _ _ _ h => h, .inl ⟨by kernel_rfl, fun w9 h9 => ?_⟩, fun HP5 => ?_⟩
  · obtain ⟨s1, s2, s3⟩ := h9; go_simp; first | done | rfl
  clear HP4
  refine R_pure 6 rfl (by kernel_rfl) HP5 ?_
  apply Exists.intro
  refine ⟨fun _ _ _ h => h, .inl ⟨by kernel_rfl, fun w9 h9 => ?_⟩, fun HP6 => ?_⟩
  · clear h9; go_simp; first | done | rfl
  clear HP5
  refine R_pure 7 rfl (by kernel_rfl) HP6 ?_
  apply Exists.intro
  refine ⟨fun _ _ _ h => h, .inl ⟨by kernel_rfl, fun w9 h9 => ?_⟩, fun HP7 => ?_⟩
  · clear h9; go_simp; first | done | rfl
  clear HP6
  refine R_take 8 rfl (by kernel_rfl) HP7 ?_
  apply Exists.intro
  refine ⟨fun _ _ _ h => h, .inl ⟨by kernel_rfl, fun w9 h9 => ?_⟩, fun HP8 => ?_⟩
  · obtain ⟨s1, s2, s3⟩ := h9; go_simp; first | done | rfl
  clear HP7
  refine R_pure 9 rfl (by kernel_rfl) HP8 ?_
  apply Exists.intro
  refine ⟨fun _ _ _ h => h, .inl ⟨by kernel_rfl, fun w9 h9 => ?_⟩, fun HP9 => ?_⟩
  · clear h9; go_simp; first | done | rfl
  clear HP8
  refine R_take 10 rfl (by kernel_rfl) HP9 ?_
  apply Exists.intro
  refine ⟨fun _ _ _ h => h, .inl ⟨by kernel_rfl, fun w9 h9 => ?_⟩, fun HP10 => ?_⟩
  · obtain ⟨s1, s2, s3⟩ := h9; go_simp; first | done | rfl
  clear HP9
  refine R_all [5] (by kernel_rfl) ?_
  refine AllR.cons (i := 5) rfl (fun K9 HK9 => ?_) ?_
  · go_simp
    refine (link_any _ p bm lm rm ns last a b T0.out.g ht).mono ?_
    rintro e w5 ⟨rfl, c5, h5⟩
    have C5 := Kp.mk c5
    have H5 := Kp.mk h5
    have D5 := Kp.mk (T0.out.dturn c5)
    have X5 := Kp.mk (c5.at X0.out (fun hF => by have h1 := HZ.out _ hF; omega))
    clear h5 c5
    go_simp
    refine HK9.out _ _ (.inr ⟨blk_c X5.out 1, blk_c X5.out 2, blk_c X5.out 3⟩) (fun HP11 => ?_)
    clear HK9 K9
    refine R_all [11] (by kernel_rfl) ?_
    refine AllR.cons (i := 11) rfl (fun K9 HK9 => ?_) ?_
    · go_simp
      refine (dlink_any _ q lv (sn ns) a b D5.out (by have := T0.out.g.ok.n1024; omega)).mono ?_
      rintro e w6 ⟨rfl, h6⟩
      rw [linkE_eq T0.out.g.ok]
      have H6 := Kp.mk h6
      have X6 := Kp.mk (h6.choose_spec.2.1.at X5.out (fun hF => by have h1 := HZD.out _ hF; omega))
      clear h6
      go_simp
      refine HK9.out _ _ (.inr ⟨blk_c X6.out 1, blk_c X6.out 2, blk_c X6.out 3⟩) (fun HP12 => ?_)
      clear HK9 K9
      refine R_pure 12 rfl (by kernel_rfl) HP12 ?_
      apply Exists.intro
      refine ⟨fun _ _ _ h => h, .inl ⟨by kernel_rfl, fun w9 h9 => ?_⟩, fun HP13 => ?_⟩
      · clear h9; go_simp; first | done | rfl
      clear HP12
      refine R_pure 13 rfl (by kernel_rfl) HP13 ?_
      apply Exists.intro
      refine ⟨fun _ _ _ h => h, .inl ⟨by kernel_rfl, fun w9 h9 => ?_⟩, fun HP14 => ?_⟩
      · clear h9; go_simp; first | done | rfl
      clear HP13
      refine R_done (by kernel_rfl) ?_
      go_wp2
      go_ret
      have CC : Chg (fun k => FG p bm lm rm k ∨ FD q lv k) w w6 := ((((Chg.refl _ w).alloc _).drew).then (C5.out.mono fun _ _ h => .inl h)).then (H6.out.choose_spec.2.1.mono fun _ _ h => .inr h)
      refine ⟨⟨rfl, ?_⟩, CC⟩
      rcases H5.out with ⟨e0, h5⟩ | ⟨e0, h5⟩
      · have e1 : nsOf ns last ⟨0, a, b, r⟩ = ns ∧ lastOf ns last ⟨0, a, b, r⟩ = last := by simp [nsOf, lastOf, e0]
        rw [e1.1, e1.2]
        exact T0.out.step C5.out h5 H6.out (by rw [linkL_eq T0.out.g.ok, if_neg e0])
      · have e1 : nsOf ns last ⟨0, a, b, r⟩ = linkN ns last a b ∧ lastOf ns last ⟨0, a, b, r⟩ = last + 1 := by simp [nsOf, lastOf, e0]
        rw [e1.1, e1.2]
        exact T0.out.step C5.out h5 H6.out (by rw [linkL_eq T0.out.g.ok, if_pos e0])
    exact AllR.nil
  exact AllR.nil
set_option maxRecDepth 100000 in
set_option maxHeartbeats 8000000 in
theorem stepc_1 (hs : SortC) (w0 w : World) (p bm lm rm q : Nat) (lv : Value) (ns : List NB) (last a b r : Int) (h : Two w0 w p bm lm rm q lv ns last) (ht : last ≤ 900000000000000000) (_hr : -9223372036854775808 ≤ r ∧ r ≤ 9223372036854775807) :
    Calls Try.prog 13 #[.pointer (some ⟨p, 0, none⟩), .pointer (some ⟨q, 0, none⟩), .agg #[.int .i64 1, .int .i64 a, .int .i64 b, .int .i64 r]] w fun e w' => StepPost w0 p bm lm rm q (nsOf ns last ⟨1, a, b, r⟩) (lastOf ns last ⟨1, a, b, r⟩) e w' ∧ Chg (fun k => FG p bm lm rm k ∨ FD q lv k) w w' := by
  have hbx : Below w.heap.size w (w.alloc (.cells #[.int .i64 1, .int .i64 a, .int .i64 b, .int .i64 r] 23)) := (Below.refl _ _).alloc (Nat.le_refl _) _
  have H := Kp.mk (h.below hbx)
  have HX := Kp.mk (blk_new w (.cells #[.int .i64 1, .int .i64 a, .int .i64 b, .int .i64 r] 23))
  have HZ : Kp (∀ g, FG p bm lm rm g → g < w.heap.size) := ⟨h.g.g.lt⟩
  have HZD : Kp (∀ g, FD q lv g → g < w.heap.size) := ⟨fun g hg => hg.elim (fun e => e ▸ h.d.lt) (fun e => h.d.own.lt e)⟩
  have HS := Kp.mk hs
  clear h hbx hs
  go_enter Try.func13, Try.ntmps13
  go_upto_region 5 with fail
  have T0 : Kp (Two w0 (w.alloc (.cells #[.int .i64 1, .int .i64 a, .int .i64 b, .int .i64 r] 23)).drew p bm lm rm q lv ns last) := ⟨H.out.below (Below.refl _ _).drew⟩
  have X0 : Kp ((w.alloc (.cells #[.int .i64 1, .int .i64 a, .int .i64 b, .int .i64 r] 23)).drew.heap[w.heap.size]? = some (.cells #[.int .i64 1, .int .i64 a, .int .i64 b, .int .i64 r] 23 (0, 0))) := ⟨HX.out⟩
  refine R_begin 999 (fun w9 => w9.cell? ⟨w.heap.size, 1, none⟩ = some (.int .i64 a) ∧ w9.cell? ⟨w.heap.size, 2, none⟩ = some (.int .i64 b) ∧ w9.cell? ⟨w.heap.size, 3, none⟩ = some (.int .i64 r)) (by kernel_rfl) ⟨blk_c X0.out 1, blk_c X0.out 2, blk_c X0.out 3⟩ (fun HP0 => ?_)
  refine R_pure 0 rfl (by kernel_rfl) HP0 ?_
  apply Exists.intro
  refine ⟨fun _ _ _ h => h, .inl ⟨by kernel_rfl, fun w9 h9 => ?_⟩, fun HP1 => ?_⟩
  · clear h9; go_simp; first | done | rfl
  clear HP0
  refine R_pure 1 rfl (by kernel_rfl) HP1 ?_
  apply Exists.intro
  refine ⟨fun _ _ _ h => h, .inl ⟨by kernel_rfl, fun w9 h9 => ?_⟩, fun HP2 => ?_⟩
  · clear h9; go_simp; first | done | rfl
  clear HP1
  refine R_take 2 rfl (by kernel_rfl) HP2 ?_
  apply Exists.intro
  refine ⟨fun _ _ _ h => h, .inl ⟨by kernel_rfl, fun w9 h9 => ?_⟩, fun HP3 => ?_⟩
  · obtain ⟨s1, s2, s3⟩ := h9; go_simp; first | done | rfl
  clear HP2
  refine R_pure 3 rfl (by kernel_rfl) HP3 ?_
  apply Exists.intro
  refine ⟨fun _ _ _ h => h, .inl ⟨by kernel_rfl, fun w9 h9 => ?_⟩, fun HP4 => ?_⟩
  · clear h9; go_simp; first | done | rfl
  clear HP3
  refine R_take 4 rfl (by kernel_rfl) HP4 ?_
  apply Exists.intro
  refine ⟨fun _ _ _ h => h, .inl ⟨by kernel_rfl, fun w9 h9 => ?_⟩, fun HP5 => ?_⟩
  · obtain ⟨s1, s2, s3⟩ := h9; go_simp; first | done | rfl
  clear HP4
  refine R_pure 6 rfl (by kernel_rfl) HP5 ?_
  apply Exists.intro
  refine ⟨fun _ _ _ h => h, .inl ⟨by kernel_rfl, fun w9 h9 => ?_⟩, fun HP6 => ?_⟩
  · clear h9; go_simp; first | done | rfl
  clear HP5
  refine R_pure 7 rfl (by kernel_rfl) HP6 ?_
  apply Exists.intro
  refine ⟨fun _ _ _ h => h, .inl ⟨by kernel_rfl, fun w9 h9 => ?_⟩, fun HP7 => ?_⟩
  · clear h9; go_simp; first | done | rfl
  clear HP6
  refine R_take 8 rfl (by kernel_rfl) HP7 ?_
  apply Exists.intro
  refine ⟨fun _ _ _ h => h, .inl ⟨by kernel_rfl, fun w9 h9 => ?_⟩, fun HP8 => ?_⟩
  · obtain ⟨s1, s2, s3⟩ := h9; go_simp; first | done | rfl
  clear HP7
  refine R_pure 9 rfl (by kernel_rfl) HP8 ?_
  apply Exists.intro
  refine ⟨fun _ _ _ h => h, .inl ⟨by kernel_rfl, fun w9 h9 => ?_⟩, fun HP9 => ?_⟩
  · clear h9; go_simp; first | done | rfl
  clear HP8
  refine R_take 10 rfl (by kernel_rfl) HP9 ?_
  apply Exists.intro
  refine ⟨fun _ _ _ h => h, .inl ⟨by kernel_rfl, fun w9 h9 => ?_⟩, fun HP10 => ?_⟩
  · obtain ⟨s1, s2, s3⟩ := h9; go_simp; first | done | rfl
  clear HP9
  refine R_all [5] (by kernel_rfl) ?_
  refine AllR.cons (i := 5) rfl (fun K9 HK9 => ?_) ?_
  · go_simp
    refine (unlink_any _ p bm lm rm ns last a b T0.out.g ht).mono ?_
    rintro e w5 ⟨rfl, c5, h5⟩
    have C5 := Kp.mk c5
    have H5 := Kp.mk h5
    have D5 := Kp.mk (T0.out.dturn c5)
    have X5 := Kp.mk (c5.at X0.out (fun hF => by have h1 := HZ.out _ hF; omega))
    clear h5 c5
    go_simp
    refine HK9.out _ _ (.inr ⟨blk_c X5.out 1, blk_c X5.out 2, blk_c X5.out 3⟩) (fun HP11 => ?_)
    clear HK9 K9
    refine R_all [11] (by kernel_rfl) ?_
    refine AllR.cons (i := 11) rfl (fun K9 HK9 => ?_) ?_
    · go_simp
      refine (dunlink_any _ q lv (sn ns) a b D5.out (by have := T0.out.g.ok.n1024; omega)).mono ?_
      rintro e w6 ⟨rfl, h6⟩
      rw [unlE_eq T0.out.g.ok]
      have H6 := Kp.mk h6
      have X6 := Kp.mk (h6.choose_spec.2.1.at X5.out (fun hF => by have h1 := HZD.out _ hF; omega))
      clear h6
      go_simp
      refine HK9.out _ _ (.inr ⟨blk_c X6.out 1, blk_c X6.out 2, blk_c X6.out 3⟩) (fun HP12 => ?_)
      clear HK9 K9
      refine R_pure 12 rfl (by kernel_rfl) HP12 ?_
      apply Exists.intro
      refine ⟨fun _ _ _ h => h, .inl ⟨by kernel_rfl, fun w9 h9 => ?_⟩, fun HP13 => ?_⟩
      · clear h9; go_simp; first | done | rfl
      clear HP12
      refine R_pure 13 rfl (by kernel_rfl) HP13 ?_
      apply Exists.intro
      refine ⟨fun _ _ _ h => h, .inl ⟨by kernel_rfl, fun w9 h9 => ?_⟩, fun HP14 => ?_⟩
      · clear h9; go_simp; first | done | rfl
      clear HP13
      refine R_done (by kernel_rfl) ?_
      go_wp2
      go_ret
      have CC : Chg (fun k => FG p bm lm rm k ∨ FD q lv k) w w6 := ((((Chg.refl _ w).alloc _).drew).then (C5.out.mono fun _ _ h => .inl h)).then (H6.out.choose_spec.2.1.mono fun _ _ h => .inr h)
      refine ⟨⟨rfl, ?_⟩, CC⟩
      rcases H5.out with ⟨e0, h5⟩ | ⟨e0, h5⟩
      · have e1 : nsOf ns last ⟨1, a, b, r⟩ = ns ∧ lastOf ns last ⟨1, a, b, r⟩ = last := by simp [nsOf, lastOf, e0]
        rw [e1.1, e1.2]
        exact T0.out.step C5.out h5 H6.out (by rw [unlL_eq T0.out.g.ok, if_neg e0])
      · have e1 : nsOf ns last ⟨1, a, b, r⟩ = unlN ns a b ∧ lastOf ns last ⟨1, a, b, r⟩ = last := by simp [nsOf, lastOf, e0]
        rw [e1.1, e1.2]
        exact T0.out.step C5.out h5 H6.out (by rw [unlL_eq T0.out.g.ok, if_pos e0])
    exact AllR.nil
  exact AllR.nil
end Go.Proofs.Ytlbbheopoflmjaa
