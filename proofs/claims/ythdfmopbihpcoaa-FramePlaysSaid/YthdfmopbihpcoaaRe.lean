/- What step of the package's law answers, kind by kind, but for Swap; bounds stand in each statement. -/
import Derived.Test.YthdfmopbihpcoaaRd
import Derived.Test.YthdfmopbihpcoaaDraw
namespace Go.Proofs.Ythdfmopbihpcoaa
open Go.RowKit
variable {B : Bd}

structure Bo (B : Bd) (w : World) (p q : Nat) (s : StM) : Prop where
  st : St B w p s
  rf : Rf B w q s
  inv : Inv s
def StepPost (B : Bd) (w : World) (p q : Nat) (s' : StM) (e : Ending) (w' : World) : Prop := e = .returned (.bool true) ∧ Bo B w' p q s' ∧ Bel B w w'
theorem Bo.below {w w' : World} {p q : Nat} {s : StM} (h : Bo B w p q s) (hb : Below w.heap.size w w') : Bo B w' p q s := ⟨h.st.below hb, h.rf.below hb, h.inv⟩
theorem bstep0 {a b c : World} (h : Bel B a b) (k : Bel B b c) : Bel B a c := h.trans k
set_option maxRecDepth 100000 in
set_option maxHeartbeats 4000000 in
theorem step_0 (w : World) (p q : Nat) (s : StM) (n u : Int) (A : Option Addr) (m c : Nat) (h : Bo B w p q s) :
    Calls Try.prog 9 #[.pointer (some ⟨p, 0, none⟩), .pointer (some ⟨q, 0, none⟩), .agg #[.int .i64 0, .int .i64 n, .int .u64 u, .slice A m c]] w (StepPost B w p q (setXM s n u)) := by
  have hle := h.st.le
  have h1 := h.below (((Below.refl _ w).alloc (Nat.le_refl _) (.cells #[.int .i64 0, .int .i64 n, .int .u64 u, .slice A m c] 31)).drew)
  have hbx : (w.alloc (.cells #[.int .i64 0, .int .i64 n, .int .u64 u, .slice A m c] 31)).drew.heap[w.heap.size]? = some (.cells #[.int .i64 0, .int .i64 n, .int .u64 u, .slice A m c] 31 (0, 0)) := blk_new w _
  have hb0 : Bel B w (w.alloc (.cells #[.int .i64 0, .int .i64 n, .int .u64 u, .slice A m c] 31)).drew := ((Bel.refl w).alloc hle _).drew
  have HB1 := Kp.mk h1
  have HBX := Kp.mk hbx
  have HB0 := Kp.mk hb0
  have HLE := Kp.mk hle
  clear h h1 hbx hb0 hle
  go_enter Try.func9, Try.ntmps9
  go_upto_region 3 with fail
  refine R_begin 999 (fun w9 => w9.cell? ⟨w.heap.size, 1, none⟩ = some (.int .i64 n) ∧ w9.cell? ⟨w.heap.size, 2, none⟩ = some (.int .u64 u)) (by kernel_rfl) ⟨blk_c HBX.out 1, blk_c HBX.out 2⟩ (fun HP0 => ?_)
  refine R_pure 0 rfl (by kernel_rfl) HP0 ?_
  apply Exists.intro
  refine ⟨fun _ _ _ h => h, .inl ⟨by kernel_rfl, fun w9 h9 => ?_⟩, fun HP1 => ?_⟩
  · clear h9; go_simp; first | done | rfl
  clear HP0
  refine R_pure 1 rfl (by kernel_rfl) HP1 ?_
  apply Exists.intro
  refine ⟨fun _ _ _ h => h, .inl ⟨by kernel_rfl, fun w9 h9 => ?_⟩, fun HP2 => ?_⟩
  · clear h9; go_simp; first | done | rfl
  clear HP1
  refine R_take 2 rfl (by kernel_rfl) HP2 ?_
  apply Exists.intro
  refine ⟨fun _ _ _ h => h, .inl ⟨by kernel_rfl, fun w9 h9 => ?_⟩, fun HP3 => ?_⟩
  · obtain ⟨s1, s2⟩ := h9; go_simp; first | done | rfl
  clear HP2
  refine R_pure 3 rfl (by kernel_rfl) HP3 ?_
  apply Exists.intro
  refine ⟨fun _ _ _ h => h, .inl ⟨by kernel_rfl, fun w9 h9 => ?_⟩, fun HP4 => ?_⟩
  · clear h9; go_simp; first | done | rfl
  clear HP3
  refine R_take 4 rfl (by kernel_rfl) HP4 ?_
  apply Exists.intro
  refine ⟨fun _ _ _ h => h, .inl ⟨by kernel_rfl, fun w9 h9 => ?_⟩, fun HP5 => ?_⟩
  · obtain ⟨s1, s2⟩ := h9; go_simp; first | done | rfl
  clear HP4
  refine R_pure 6 rfl (by kernel_rfl) HP5 ?_
  apply Exists.intro
  refine ⟨fun _ _ _ h => h, .inl ⟨by kernel_rfl, fun w9 h9 => ?_⟩, fun HP6 => ?_⟩
  · clear h9; go_simp; first | done | rfl
  clear HP5
  refine R_pure 7 rfl (by kernel_rfl) HP6 ?_
  apply Exists.intro
  refine ⟨fun _ _ _ h => h, .inl ⟨by kernel_rfl, fun w9 h9 => ?_⟩, fun HP7 => ?_⟩
  · clear h9; go_simp; first | done | rfl
  clear HP6
  refine R_take 8 rfl (by kernel_rfl) HP7 ?_
  apply Exists.intro
  refine ⟨fun _ _ _ h => h, .inl ⟨by kernel_rfl, fun w9 h9 => ?_⟩, fun HP8 => ?_⟩
  · obtain ⟨s1, s2⟩ := h9; go_simp; first | done | rfl
  clear HP7
  refine R_pure 9 rfl (by kernel_rfl) HP8 ?_
  apply Exists.intro
  refine ⟨fun _ _ _ h => h, .inl ⟨by kernel_rfl, fun w9 h9 => ?_⟩, fun HP9 => ?_⟩
  · clear h9; go_simp; first | done | rfl
  clear HP8
  refine R_take 10 rfl (by kernel_rfl) HP9 ?_
  apply Exists.intro
  refine ⟨fun _ _ _ h => h, .inl ⟨by kernel_rfl, fun w9 h9 => ?_⟩, fun HP10 => ?_⟩
  · obtain ⟨s1, s2⟩ := h9; go_simp; first | done | rfl
  clear HP9
  refine R_all [5] (by kernel_rfl) ?_
  refine AllR.cons (i := 5) rfl (fun K9 HK9 => ?_) ?_
  · go_simp
    refine (s_set _ p s n u (HB1.out.st)).mono ?_
    rintro e w5 ⟨rfl, st5, c5⟩
    obtain ⟨fv5, rr5, hi5⟩ := HB1.out.rf.ty (L := TS) (by decide) c5
    have I5 := Kp.mk hi5
    have ST5 := Kp.mk st5
    have BX5 := Kp.mk (Ty.keep c5 HBX.out (by decide))
    have hb5 := bstep0 HB0.out (Ty.below c5 HB1.out.st.le)
    have B5 := Kp.mk hb5
    clear st5 c5 hi5 hb5
    go_simp
    refine HK9.out _ _ (.inr ⟨blk_c BX5.out 1, blk_c BX5.out 2⟩) (fun HP11 => ?_)
    clear HK9 K9
    refine R_all [11] (by kernel_rfl) ?_
    refine AllR.cons (i := 11) rfl (fun K9 HK9 => ?_) ?_
    · go_simp
      refine (rset_any _ q fv5 s rr5 n u I5.out).mono ?_
      rintro e w6 ⟨rfl, rf6, c6⟩
      have RF6 : Kp (Rf B w6 q _) := ⟨rf6⟩
      have ST6 := Kp.mk (ST5.out.ty (L := TR) (by decide) c6)
      have BX6 := Kp.mk (Ty.keep c6 BX5.out (by decide))
      have B6 := Kp.mk (bstep0 B5.out (Ty.below c6 ST5.out.le))
      clear rf6 c6
      go_simp
      refine HK9.out _ _ (.inr ⟨blk_c BX6.out 1, blk_c BX6.out 2⟩) (fun HP12 => ?_)
      clear HK9 K9
      refine R_pure 12 rfl (by kernel_rfl) HP12 ?_
      apply Exists.intro
      refine ⟨fun _ _ _ h => h, .inl ⟨by kernel_rfl, fun w9 h9 => ?_⟩, fun HP13 => ?_⟩
      · clear h9; go_simp; first | done | rfl
      clear HP12
      refine R_pure 13 rfl (by kernel_rfl) HP13 ?_
      apply Exists.intro
      refine ⟨fun _ _ _ h => h, .inl ⟨by kernel_rfl, fun w9 h9 => ?_⟩, fun HP14 => ?_⟩
      · clear h9; go_simp; first | done | rfl
      clear HP13
      refine R_done (by kernel_rfl) ?_
      go_wp2
      go_ret
      exact ⟨rfl, ⟨ST6.out, RF6.out, HB1.out.inv.setX n u⟩, B6.out⟩
    exact AllR.nil
  exact AllR.nil
set_option maxRecDepth 100000 in
set_option maxHeartbeats 4000000 in
theorem step_1 (w : World) (p q : Nat) (s : StM) (n u : Int) (A : Option Addr) (m c : Nat) (h : Bo B w p q s) :
    Calls Try.prog 9 #[.pointer (some ⟨p, 0, none⟩), .pointer (some ⟨q, 0, none⟩), .agg #[.int .i64 1, .int .i64 n, .int .u64 u, .slice A m c]] w (StepPost B w p q (keepM' s n)) := by
  have hle := h.st.le
  have h1 := h.below (((Below.refl _ w).alloc (Nat.le_refl _) (.cells #[.int .i64 1, .int .i64 n, .int .u64 u, .slice A m c] 31)).drew)
  have hbx : (w.alloc (.cells #[.int .i64 1, .int .i64 n, .int .u64 u, .slice A m c] 31)).drew.heap[w.heap.size]? = some (.cells #[.int .i64 1, .int .i64 n, .int .u64 u, .slice A m c] 31 (0, 0)) := blk_new w _
  have hb0 : Bel B w (w.alloc (.cells #[.int .i64 1, .int .i64 n, .int .u64 u, .slice A m c] 31)).drew := ((Bel.refl w).alloc hle _).drew
  have HB1 := Kp.mk h1
  have HBX := Kp.mk hbx
  have HB0 := Kp.mk hb0
  have HLE := Kp.mk hle
  clear h h1 hbx hb0 hle
  go_enter Try.func9, Try.ntmps9
  go_upto_region 5 with fail
  refine R_begin 999 (fun w9 => w9.cell? ⟨w.heap.size, 1, none⟩ = some (.int .i64 n) ∧ w9.cell? ⟨w.heap.size, 2, none⟩ = some (.int .u64 u)) (by kernel_rfl) ⟨blk_c HBX.out 1, blk_c HBX.out 2⟩ (fun HP0 => ?_)
  refine R_pure 0 rfl (by kernel_rfl) HP0 ?_
  apply Exists.intro
  refine ⟨fun _ _ _ h => h, .inl ⟨by kernel_rfl, fun w9 h9 => ?_⟩, fun HP1 => ?_⟩
  · clear h9; go_simp; first | done | rfl
  clear HP0
  refine R_pure 1 rfl (by kernel_rfl) HP1 ?_
  apply Exists.intro
  refine ⟨fun _ _ _ h => h, .inl ⟨by kernel_rfl, fun w9 h9 => ?_⟩, fun HP2 => ?_⟩
  · clear h9; go_simp; first | done | rfl
  clear HP1
  refine R_take 2 rfl (by kernel_rfl) HP2 ?_
  apply Exists.intro
  refine ⟨fun _ _ _ h => h, .inl ⟨by kernel_rfl, fun w9 h9 => ?_⟩, fun HP3 => ?_⟩
  · obtain ⟨s1, s2⟩ := h9; go_simp; first | done | rfl
  clear HP2
  refine R_pure 4 rfl (by kernel_rfl) HP3 ?_
  apply Exists.intro
  refine ⟨fun _ _ _ h => h, .inl ⟨by kernel_rfl, fun w9 h9 => ?_⟩, fun HP4 => ?_⟩
  · clear h9; go_simp; first | done | rfl
  clear HP3
  refine R_pure 5 rfl (by kernel_rfl) HP4 ?_
  apply Exists.intro
  refine ⟨fun _ _ _ h => h, .inl ⟨by kernel_rfl, fun w9 h9 => ?_⟩, fun HP5 => ?_⟩
  · clear h9; go_simp; first | done | rfl
  clear HP4
  refine R_take 6 rfl (by kernel_rfl) HP5 ?_
  apply Exists.intro
  refine ⟨fun _ _ _ h => h, .inl ⟨by kernel_rfl, fun w9 h9 => ?_⟩, fun HP6 => ?_⟩
  · obtain ⟨s1, s2⟩ := h9; go_simp; first | done | rfl
  clear HP5
  refine R_all [3] (by kernel_rfl) ?_
  refine AllR.cons (i := 3) rfl (fun K9 HK9 => ?_) ?_
  · go_simp
    refine (s_keep _ p s n (HB1.out.st)).mono ?_
    rintro e w5 ⟨rfl, st5, c5⟩
    obtain ⟨fv5, rr5, hi5⟩ := HB1.out.rf.ty (L := TS) (by decide) c5
    have I5 := Kp.mk hi5
    have ST5 := Kp.mk st5
    have BX5 := Kp.mk (Ty.keep c5 HBX.out (by decide))
    have hb5 := bstep0 HB0.out (Ty.below c5 HB1.out.st.le)
    have B5 := Kp.mk hb5
    clear st5 c5 hi5 hb5
    go_simp
    refine HK9.out _ _ (.inr ⟨blk_c BX5.out 1, blk_c BX5.out 2⟩) (fun HP7 => ?_)
    clear HK9 K9
    refine R_all [7] (by kernel_rfl) ?_
    refine AllR.cons (i := 7) rfl (fun K9 HK9 => ?_) ?_
    · go_simp
      refine (rkeep_any _ q fv5 s rr5 n I5.out).mono ?_
      rintro e w6 ⟨rfl, rf6, c6⟩
      have RF6 : Kp (Rf B w6 q _) := ⟨rf6⟩
      have ST6 := Kp.mk (ST5.out.ty (L := TR) (by decide) c6)
      have BX6 := Kp.mk (Ty.keep c6 BX5.out (by decide))
      have B6 := Kp.mk (bstep0 B5.out (Ty.below c6 ST5.out.le))
      clear rf6 c6
      go_simp
      refine HK9.out _ _ (.inr ⟨blk_c BX6.out 1, blk_c BX6.out 2⟩) (fun HP8 => ?_)
      clear HK9 K9
      refine R_pure 8 rfl (by kernel_rfl) HP8 ?_
      apply Exists.intro
      refine ⟨fun _ _ _ h => h, .inl ⟨by kernel_rfl, fun w9 h9 => ?_⟩, fun HP9 => ?_⟩
      · clear h9; go_simp; first | done | rfl
      clear HP8
      refine R_pure 9 rfl (by kernel_rfl) HP9 ?_
      apply Exists.intro
      refine ⟨fun _ _ _ h => h, .inl ⟨by kernel_rfl, fun w9 h9 => ?_⟩, fun HP10 => ?_⟩
      · clear h9; go_simp; first | done | rfl
      clear HP9
      refine R_done (by kernel_rfl) ?_
      go_wp2
      go_ret
      exact ⟨rfl, ⟨ST6.out, RF6.out, HB1.out.inv.keep n⟩, B6.out⟩
    exact AllR.nil
  exact AllR.nil
set_option maxRecDepth 100000 in
set_option maxHeartbeats 4000000 in
theorem step_2 (w : World) (p q : Nat) (s : StM) (n u : Int) (A : Option Addr) (m c : Nat) (h : Bo B w p q s) :
    Calls Try.prog 9 #[.pointer (some ⟨p, 0, none⟩), .pointer (some ⟨q, 0, none⟩), .agg #[.int .i64 2, .int .i64 n, .int .u64 u, .slice A m c]] w (StepPost B w p q (callM s n)) := by
  have hle := h.st.le
  have h1 := h.below (((Below.refl _ w).alloc (Nat.le_refl _) (.cells #[.int .i64 2, .int .i64 n, .int .u64 u, .slice A m c] 31)).drew)
  have hbx : (w.alloc (.cells #[.int .i64 2, .int .i64 n, .int .u64 u, .slice A m c] 31)).drew.heap[w.heap.size]? = some (.cells #[.int .i64 2, .int .i64 n, .int .u64 u, .slice A m c] 31 (0, 0)) := blk_new w _
  have hb0 : Bel B w (w.alloc (.cells #[.int .i64 2, .int .i64 n, .int .u64 u, .slice A m c] 31)).drew := ((Bel.refl w).alloc hle _).drew
  have HB1 := Kp.mk h1
  have HBX := Kp.mk hbx
  have HB0 := Kp.mk hb0
  have HLE := Kp.mk hle
  clear h h1 hbx hb0 hle
  go_enter Try.func9, Try.ntmps9
  go_upto_region 7 with fail
  refine R_begin 999 (fun w9 => w9.cell? ⟨w.heap.size, 1, none⟩ = some (.int .i64 n) ∧ w9.cell? ⟨w.heap.size, 2, none⟩ = some (.int .u64 u)) (by kernel_rfl) ⟨blk_c HBX.out 1, blk_c HBX.out 2⟩ (fun HP0 => ?_)
  refine R_pure 0 rfl (by kernel_rfl) HP0 ?_
  apply Exists.intro
  refine ⟨fun _ _ _ h => h, .inl ⟨by kernel_rfl, fun w9 h9 => ?_⟩, fun HP1 => ?_⟩
  · clear h9; go_simp; first | done | rfl
  clear HP0
  refine R_pure 1 rfl (by kernel_rfl) HP1 ?_
  apply Exists.intro
  refine ⟨fun _ _ _ h => h, .inl ⟨by kernel_rfl, fun w9 h9 => ?_⟩, fun HP2 => ?_⟩
  · clear h9; go_simp; first | done | rfl
  clear HP1
  refine R_take 2 rfl (by kernel_rfl) HP2 ?_
  apply Exists.intro
  refine ⟨fun _ _ _ h => h, .inl ⟨by kernel_rfl, fun w9 h9 => ?_⟩, fun HP3 => ?_⟩
  · obtain ⟨s1, s2⟩ := h9; go_simp; first | done | rfl
  clear HP2
  refine R_pure 4 rfl (by kernel_rfl) HP3 ?_
  apply Exists.intro
  refine ⟨fun _ _ _ h => h, .inl ⟨by kernel_rfl, fun w9 h9 => ?_⟩, fun HP4 => ?_⟩
  · clear h9; go_simp; first | done | rfl
  clear HP3
  refine R_pure 5 rfl (by kernel_rfl) HP4 ?_
  apply Exists.intro
  refine ⟨fun _ _ _ h => h, .inl ⟨by kernel_rfl, fun w9 h9 => ?_⟩, fun HP5 => ?_⟩
  · clear h9; go_simp; first | done | rfl
  clear HP4
  refine R_take 6 rfl (by kernel_rfl) HP5 ?_
  apply Exists.intro
  refine ⟨fun _ _ _ h => h, .inl ⟨by kernel_rfl, fun w9 h9 => ?_⟩, fun HP6 => ?_⟩
  · obtain ⟨s1, s2⟩ := h9; go_simp; first | done | rfl
  clear HP5
  refine R_all [3] (by kernel_rfl) ?_
  refine AllR.cons (i := 3) rfl (fun K9 HK9 => ?_) ?_
  · go_simp
    refine (s_call _ p s n (HB1.out.st)).mono ?_
    rintro e w5 ⟨rfl, st5, c5⟩
    obtain ⟨fv5, rr5, hi5⟩ := HB1.out.rf.ty (L := TS) (by decide) c5
    have I5 := Kp.mk hi5
    have ST5 := Kp.mk st5
    have BX5 := Kp.mk (Ty.keep c5 HBX.out (by decide))
    have hb5 := bstep0 HB0.out (Ty.below c5 HB1.out.st.le)
    have B5 := Kp.mk hb5
    clear st5 c5 hi5 hb5
    go_simp
    refine HK9.out _ _ (.inr ⟨blk_c BX5.out 1, blk_c BX5.out 2⟩) (fun HP7 => ?_)
    clear HK9 K9
    refine R_all [7] (by kernel_rfl) ?_
    refine AllR.cons (i := 7) rfl (fun K9 HK9 => ?_) ?_
    · go_simp
      refine (rcall_any _ q fv5 s rr5 n I5.out (by have := HB1.out.inv.n; omega)).mono ?_
      rintro e w6 ⟨rfl, rf6, c6⟩
      have RF6 : Kp (Rf B w6 q _) := ⟨rf6⟩
      have ST6 := Kp.mk (ST5.out.ty (L := TR) (by decide) c6)
      have BX6 := Kp.mk (Ty.keep c6 BX5.out (by decide))
      have B6 := Kp.mk (bstep0 B5.out (Ty.below c6 ST5.out.le))
      clear rf6 c6
      go_simp
      refine HK9.out _ _ (.inr ⟨blk_c BX6.out 1, blk_c BX6.out 2⟩) (fun HP8 => ?_)
      clear HK9 K9
      refine R_pure 8 rfl (by kernel_rfl) HP8 ?_
      apply Exists.intro
      refine ⟨fun _ _ _ h => h, .inl ⟨by kernel_rfl, fun w9 h9 => ?_⟩, fun HP9 => ?_⟩
      · clear h9; go_simp; first | done | rfl
      clear HP8
      refine R_pure 9 rfl (by kernel_rfl) HP9 ?_
      apply Exists.intro
      refine ⟨fun _ _ _ h => h, .inl ⟨by kernel_rfl, fun w9 h9 => ?_⟩, fun HP10 => ?_⟩
      · clear h9; go_simp; first | done | rfl
      clear HP9
      refine R_done (by kernel_rfl) ?_
      go_wp2
      go_ret
      exact ⟨rfl, ⟨ST6.out, RF6.out, HB1.out.inv.call n⟩, B6.out⟩
    exact AllR.nil
  exact AllR.nil
set_option maxRecDepth 100000 in
set_option maxHeartbeats 4000000 in
theorem step_4 (w : World) (p q : Nat) (s : StM) (n u : Int) (A : Option Addr) (m c : Nat) (h : Bo B w p q s) :
    Calls Try.prog 9 #[.pointer (some ⟨p, 0, none⟩), .pointer (some ⟨q, 0, none⟩), .agg #[.int .i64 4, .int .i64 n, .int .u64 u, .slice A m c]] w (StepPost B w p q (openM' s n)) := by
  have hle := h.st.le
  have h1 := h.below (((Below.refl _ w).alloc (Nat.le_refl _) (.cells #[.int .i64 4, .int .i64 n, .int .u64 u, .slice A m c] 31)).drew)
  have hbx : (w.alloc (.cells #[.int .i64 4, .int .i64 n, .int .u64 u, .slice A m c] 31)).drew.heap[w.heap.size]? = some (.cells #[.int .i64 4, .int .i64 n, .int .u64 u, .slice A m c] 31 (0, 0)) := blk_new w _
  have hb0 : Bel B w (w.alloc (.cells #[.int .i64 4, .int .i64 n, .int .u64 u, .slice A m c] 31)).drew := ((Bel.refl w).alloc hle _).drew
  have HB1 := Kp.mk h1
  have HBX := Kp.mk hbx
  have HB0 := Kp.mk hb0
  have HLE := Kp.mk hle
  clear h h1 hbx hb0 hle
  go_enter Try.func9, Try.ntmps9
  go_upto_region 13 with fail
  refine R_begin 999 (fun w9 => w9.cell? ⟨w.heap.size, 1, none⟩ = some (.int .i64 n) ∧ w9.cell? ⟨w.heap.size, 2, none⟩ = some (.int .u64 u)) (by kernel_rfl) ⟨blk_c HBX.out 1, blk_c HBX.out 2⟩ (fun HP0 => ?_)
  refine R_pure 0 rfl (by kernel_rfl) HP0 ?_
  apply Exists.intro
  refine ⟨fun _ _ _ h => h, .inl ⟨by kernel_rfl, fun w9 h9 => ?_⟩, fun HP1 => ?_⟩
  · clear h9; go_simp; first | done | rfl
  clear HP0
  refine R_pure 1 rfl (by kernel_rfl) HP1 ?_
  apply Exists.intro
  refine ⟨fun _ _ _ h => h, .inl ⟨by kernel_rfl, fun w9 h9 => ?_⟩, fun HP2 => ?_⟩
  · clear h9; go_simp; first | done | rfl
  clear HP1
  refine R_take 2 rfl (by kernel_rfl) HP2 ?_
  apply Exists.intro
  refine ⟨fun _ _ _ h => h, .inl ⟨by kernel_rfl, fun w9 h9 => ?_⟩, fun HP3 => ?_⟩
  · obtain ⟨s1, s2⟩ := h9; go_simp; first | done | rfl
  clear HP2
  refine R_pure 4 rfl (by kernel_rfl) HP3 ?_
  apply Exists.intro
  refine ⟨fun _ _ _ h => h, .inl ⟨by kernel_rfl, fun w9 h9 => ?_⟩, fun HP4 => ?_⟩
  · clear h9; go_simp; first | done | rfl
  clear HP3
  refine R_pure 5 rfl (by kernel_rfl) HP4 ?_
  apply Exists.intro
  refine ⟨fun _ _ _ h => h, .inl ⟨by kernel_rfl, fun w9 h9 => ?_⟩, fun HP5 => ?_⟩
  · clear h9; go_simp; first | done | rfl
  clear HP4
  refine R_take 6 rfl (by kernel_rfl) HP5 ?_
  apply Exists.intro
  refine ⟨fun _ _ _ h => h, .inl ⟨by kernel_rfl, fun w9 h9 => ?_⟩, fun HP6 => ?_⟩
  · obtain ⟨s1, s2⟩ := h9; go_simp; first | done | rfl
  clear HP5
  refine R_all [3] (by kernel_rfl) ?_
  refine AllR.cons (i := 3) rfl (fun K9 HK9 => ?_) ?_
  · go_simp
    refine (s_open _ p s n (HB1.out.st) HB1.out.inv).mono ?_
    rintro e w5 ⟨rfl, st5, c5⟩
    obtain ⟨fv5, rr5, hi5⟩ := HB1.out.rf.ty (L := TS) (by decide) c5
    have I5 := Kp.mk hi5
    have ST5 := Kp.mk st5
    have BX5 := Kp.mk (Ty.keep c5 HBX.out (by decide))
    have hb5 := bstep0 HB0.out (Ty.below c5 HB1.out.st.le)
    have B5 := Kp.mk hb5
    clear st5 c5 hi5 hb5
    go_simp
    refine HK9.out _ _ (.inr ⟨blk_c BX5.out 1, blk_c BX5.out 2⟩) (fun HP7 => ?_)
    clear HK9 K9
    refine R_all [7] (by kernel_rfl) ?_
    refine AllR.cons (i := 7) rfl (fun K9 HK9 => ?_) ?_
    · go_simp
      refine (ropen_any _ q fv5 s rr5 n I5.out (by have := HB1.out.inv.n; omega)).mono ?_
      rintro e w6 ⟨rfl, rf6, c6⟩
      have RF6 : Kp (Rf B w6 q _) := ⟨rf6⟩
      have ST6 := Kp.mk (ST5.out.ty (L := TR) (by decide) c6)
      have BX6 := Kp.mk (Ty.keep c6 BX5.out (by decide))
      have B6 := Kp.mk (bstep0 B5.out (Ty.below c6 ST5.out.le))
      clear rf6 c6
      go_simp
      refine HK9.out _ _ (.inr ⟨blk_c BX6.out 1, blk_c BX6.out 2⟩) (fun HP8 => ?_)
      clear HK9 K9
      refine R_pure 8 rfl (by kernel_rfl) HP8 ?_
      apply Exists.intro
      refine ⟨fun _ _ _ h => h, .inl ⟨by kernel_rfl, fun w9 h9 => ?_⟩, fun HP9 => ?_⟩
      · clear h9; go_simp; first | done | rfl
      clear HP8
      refine R_pure 9 rfl (by kernel_rfl) HP9 ?_
      apply Exists.intro
      refine ⟨fun _ _ _ h => h, .inl ⟨by kernel_rfl, fun w9 h9 => ?_⟩, fun HP10 => ?_⟩
      · clear h9; go_simp; first | done | rfl
      clear HP9
      refine R_done (by kernel_rfl) ?_
      go_wp2
      go_ret
      exact ⟨rfl, ⟨ST6.out, RF6.out, HB1.out.inv.open n⟩, B6.out⟩
    exact AllR.nil
  exact AllR.nil
set_option maxRecDepth 100000 in
set_option maxHeartbeats 4000000 in
theorem step_6 (w : World) (p q : Nat) (s : StM) (n u : Int) (A : Option Addr) (m c : Nat) (h : Bo B w p q s) :
    Calls Try.prog 9 #[.pointer (some ⟨p, 0, none⟩), .pointer (some ⟨q, 0, none⟩), .agg #[.int .i64 6, .int .i64 n, .int .u64 u, .slice A m c]] w (StepPost B w p q (setYM' s n u)) := by
  have hle := h.st.le
  have h1 := h.below (((Below.refl _ w).alloc (Nat.le_refl _) (.cells #[.int .i64 6, .int .i64 n, .int .u64 u, .slice A m c] 31)).drew)
  have hbx : (w.alloc (.cells #[.int .i64 6, .int .i64 n, .int .u64 u, .slice A m c] 31)).drew.heap[w.heap.size]? = some (.cells #[.int .i64 6, .int .i64 n, .int .u64 u, .slice A m c] 31 (0, 0)) := blk_new w _
  have hb0 : Bel B w (w.alloc (.cells #[.int .i64 6, .int .i64 n, .int .u64 u, .slice A m c] 31)).drew := ((Bel.refl w).alloc hle _).drew
  have HB1 := Kp.mk h1
  have HBX := Kp.mk hbx
  have HB0 := Kp.mk hb0
  have HLE := Kp.mk hle
  clear h h1 hbx hb0 hle
  go_enter Try.func9, Try.ntmps9
  go_upto_region 17 with fail
  refine R_begin 999 (fun w9 => w9.cell? ⟨w.heap.size, 1, none⟩ = some (.int .i64 n) ∧ w9.cell? ⟨w.heap.size, 2, none⟩ = some (.int .u64 u)) (by kernel_rfl) ⟨blk_c HBX.out 1, blk_c HBX.out 2⟩ (fun HP0 => ?_)
  refine R_pure 0 rfl (by kernel_rfl) HP0 ?_
  apply Exists.intro
  refine ⟨fun _ _ _ h => h, .inl ⟨by kernel_rfl, fun w9 h9 => ?_⟩, fun HP1 => ?_⟩
  · clear h9; go_simp; first | done | rfl
  clear HP0
  refine R_pure 1 rfl (by kernel_rfl) HP1 ?_
  apply Exists.intro
  refine ⟨fun _ _ _ h => h, .inl ⟨by kernel_rfl, fun w9 h9 => ?_⟩, fun HP2 => ?_⟩
  · clear h9; go_simp; first | done | rfl
  clear HP1
  refine R_take 2 rfl (by kernel_rfl) HP2 ?_
  apply Exists.intro
  refine ⟨fun _ _ _ h => h, .inl ⟨by kernel_rfl, fun w9 h9 => ?_⟩, fun HP3 => ?_⟩
  · obtain ⟨s1, s2⟩ := h9; go_simp; first | done | rfl
  clear HP2
  refine R_pure 3 rfl (by kernel_rfl) HP3 ?_
  apply Exists.intro
  refine ⟨fun _ _ _ h => h, .inl ⟨by kernel_rfl, fun w9 h9 => ?_⟩, fun HP4 => ?_⟩
  · clear h9; go_simp; first | done | rfl
  clear HP3
  refine R_take 4 rfl (by kernel_rfl) HP4 ?_
  apply Exists.intro
  refine ⟨fun _ _ _ h => h, .inl ⟨by kernel_rfl, fun w9 h9 => ?_⟩, fun HP5 => ?_⟩
  · obtain ⟨s1, s2⟩ := h9; go_simp; first | done | rfl
  clear HP4
  refine R_pure 6 rfl (by kernel_rfl) HP5 ?_
  apply Exists.intro
  refine ⟨fun _ _ _ h => h, .inl ⟨by kernel_rfl, fun w9 h9 => ?_⟩, fun HP6 => ?_⟩
  · clear h9; go_simp; first | done | rfl
  clear HP5
  refine R_pure 7 rfl (by kernel_rfl) HP6 ?_
  apply Exists.intro
  refine ⟨fun _ _ _ h => h, .inl ⟨by kernel_rfl, fun w9 h9 => ?_⟩, fun HP7 => ?_⟩
  · clear h9; go_simp; first | done | rfl
  clear HP6
  refine R_take 8 rfl (by kernel_rfl) HP7 ?_
  apply Exists.intro
  refine ⟨fun _ _ _ h => h, .inl ⟨by kernel_rfl, fun w9 h9 => ?_⟩, fun HP8 => ?_⟩
  · obtain ⟨s1, s2⟩ := h9; go_simp; first | done | rfl
  clear HP7
  refine R_pure 9 rfl (by kernel_rfl) HP8 ?_
  apply Exists.intro
  refine ⟨fun _ _ _ h => h, .inl ⟨by kernel_rfl, fun w9 h9 => ?_⟩, fun HP9 => ?_⟩
  · clear h9; go_simp; first | done | rfl
  clear HP8
  refine R_take 10 rfl (by kernel_rfl) HP9 ?_
  apply Exists.intro
  refine ⟨fun _ _ _ h => h, .inl ⟨by kernel_rfl, fun w9 h9 => ?_⟩, fun HP10 => ?_⟩
  · obtain ⟨s1, s2⟩ := h9; go_simp; first | done | rfl
  clear HP9
  refine R_all [5] (by kernel_rfl) ?_
  refine AllR.cons (i := 5) rfl (fun K9 HK9 => ?_) ?_
  · go_simp
    refine (s_setY _ p s n u (HB1.out.st) HB1.out.inv).mono ?_
    rintro e w5 ⟨rfl, st5, c5⟩
    obtain ⟨fv5, rr5, hi5⟩ := HB1.out.rf.ty (L := TS) (by decide) c5
    have I5 := Kp.mk hi5
    have ST5 := Kp.mk st5
    have BX5 := Kp.mk (Ty.keep c5 HBX.out (by decide))
    have hb5 := bstep0 HB0.out (Ty.below c5 HB1.out.st.le)
    have B5 := Kp.mk hb5
    clear st5 c5 hi5 hb5
    go_simp
    refine HK9.out _ _ (.inr ⟨blk_c BX5.out 1, blk_c BX5.out 2⟩) (fun HP11 => ?_)
    clear HK9 K9
    refine R_all [11] (by kernel_rfl) ?_
    refine AllR.cons (i := 11) rfl (fun K9 HK9 => ?_) ?_
    · go_simp
      refine (rsety_any _ q fv5 s rr5 n u I5.out (by have := HB1.out.inv.n; omega)).mono ?_
      rintro e w6 ⟨rfl, rf6, c6⟩
      have RF6 : Kp (Rf B w6 q _) := ⟨rf6⟩
      have ST6 := Kp.mk (ST5.out.ty (L := TR) (by decide) c6)
      have BX6 := Kp.mk (Ty.keep c6 BX5.out (by decide))
      have B6 := Kp.mk (bstep0 B5.out (Ty.below c6 ST5.out.le))
      clear rf6 c6
      go_simp
      refine HK9.out _ _ (.inr ⟨blk_c BX6.out 1, blk_c BX6.out 2⟩) (fun HP12 => ?_)
      clear HK9 K9
      refine R_pure 12 rfl (by kernel_rfl) HP12 ?_
      apply Exists.intro
      refine ⟨fun _ _ _ h => h, .inl ⟨by kernel_rfl, fun w9 h9 => ?_⟩, fun HP13 => ?_⟩
      · clear h9; go_simp; first | done | rfl
      clear HP12
      refine R_pure 13 rfl (by kernel_rfl) HP13 ?_
      apply Exists.intro
      refine ⟨fun _ _ _ h => h, .inl ⟨by kernel_rfl, fun w9 h9 => ?_⟩, fun HP14 => ?_⟩
      · clear h9; go_simp; first | done | rfl
      clear HP13
      refine R_done (by kernel_rfl) ?_
      go_wp2
      go_ret
      exact ⟨rfl, ⟨ST6.out, RF6.out, HB1.out.inv.setY n u⟩, B6.out⟩
    exact AllR.nil
  exact AllR.nil
end Go.Proofs.Ythdfmopbihpcoaa
