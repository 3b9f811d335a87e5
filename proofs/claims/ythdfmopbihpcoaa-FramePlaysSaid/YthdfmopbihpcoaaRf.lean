/- What step of the package's law answers for Return, Close and what asks; bounds stand in each statement. -/
import Derived.Test.YthdfmopbihpcoaaRe
namespace Go.Proofs.Ythdfmopbihpcoaa
open Go.RowKit
variable {B : Bd}
set_option maxRecDepth 100000 in
set_option maxHeartbeats 4000000 in
theorem step_3 (w : World) (p q : Nat) (s : StM) (n u : Int) (A : Option Addr) (m c : Nat) (h : Bo B w p q s) :
    Calls Try.prog 9 #[.pointer (some ⟨p, 0, none⟩), .pointer (some ⟨q, 0, none⟩), .agg #[.int .i64 3, .int .i64 n, .int .u64 u, .slice A m c]] w (StepPost B w p q (retM s)) := by
  have hle := h.st.le
  have h1 := h.below ((Below.refl _ w).alloc (Nat.le_refl _) (.cells #[.int .i64 3, .int .i64 n, .int .u64 u, .slice A m c] 31))
  have hbx : (w.alloc (.cells #[.int .i64 3, .int .i64 n, .int .u64 u, .slice A m c] 31)).heap[w.heap.size]? = some (.cells #[.int .i64 3, .int .i64 n, .int .u64 u, .slice A m c] 31 (0, 0)) := blk_new w _
  have hb0 : Bel B w (w.alloc (.cells #[.int .i64 3, .int .i64 n, .int .u64 u, .slice A m c] 31)) := (Bel.refl w).alloc hle _
  have HB1 := Kp.mk h1
  have HBX := Kp.mk hbx
  have HB0 := Kp.mk hb0
  clear h h1 hbx hb0 hle
  go_enter Try.func9, Try.ntmps9
  go_wp2_with fail
  refine (s_ret _ p s HB1.out.st HB1.out.inv).mono ?_
  rintro e w5 ⟨rfl, st5, c5⟩
  obtain ⟨fv5, rr5, hi5⟩ := HB1.out.rf.ty (L := TS) (by decide) c5
  have I5 := Kp.mk hi5
  have ST5 := Kp.mk st5
  have hb5 := bstep0 HB0.out (Ty.below c5 HB1.out.st.le)
  have B5 := Kp.mk hb5
  clear st5 c5 hi5 hb5 HBX
  go_wp2_with fail
  refine (rret_any _ q fv5 s rr5 I5.out (by have := HB1.out.inv.n; omega)).mono ?_
  rintro e w6 ⟨rfl, rf6, c6⟩
  have RF6 : Kp (Rf B w6 q _) := ⟨rf6⟩
  have ST6 := Kp.mk (ST5.out.ty (L := TR) (by decide) c6)
  have B6 := Kp.mk (bstep0 B5.out (Ty.below c6 ST5.out.le))
  clear rf6 c6
  go_wp2
  go_ret
  exact ⟨rfl, ⟨ST6.out, RF6.out, HB1.out.inv.ret⟩, B6.out⟩
set_option maxRecDepth 100000 in
set_option maxHeartbeats 4000000 in
theorem step_5 (w : World) (p q : Nat) (s : StM) (n u : Int) (A : Option Addr) (m c : Nat) (h : Bo B w p q s) :
    Calls Try.prog 9 #[.pointer (some ⟨p, 0, none⟩), .pointer (some ⟨q, 0, none⟩), .agg #[.int .i64 5, .int .i64 n, .int .u64 u, .slice A m c]] w (StepPost B w p q (closeM' s)) := by
  have hle := h.st.le
  have h1 := h.below ((Below.refl _ w).alloc (Nat.le_refl _) (.cells #[.int .i64 5, .int .i64 n, .int .u64 u, .slice A m c] 31))
  have hbx : (w.alloc (.cells #[.int .i64 5, .int .i64 n, .int .u64 u, .slice A m c] 31)).heap[w.heap.size]? = some (.cells #[.int .i64 5, .int .i64 n, .int .u64 u, .slice A m c] 31 (0, 0)) := blk_new w _
  have hb0 : Bel B w (w.alloc (.cells #[.int .i64 5, .int .i64 n, .int .u64 u, .slice A m c] 31)) := (Bel.refl w).alloc hle _
  have HB1 := Kp.mk h1
  have HBX := Kp.mk hbx
  have HB0 := Kp.mk hb0
  clear h h1 hbx hb0 hle
  go_enter Try.func9, Try.ntmps9
  go_wp2_with fail
  refine (s_close _ p s HB1.out.st HB1.out.inv).mono ?_
  rintro e w5 ⟨rfl, st5, c5⟩
  obtain ⟨fv5, rr5, hi5⟩ := HB1.out.rf.ty (L := TS) (by decide) c5
  have I5 := Kp.mk hi5
  have ST5 := Kp.mk st5
  have hb5 := bstep0 HB0.out (Ty.below c5 HB1.out.st.le)
  have B5 := Kp.mk hb5
  clear st5 c5 hi5 hb5 HBX
  go_wp2_with fail
  refine (rclose_any _ q fv5 s rr5 I5.out (by have := HB1.out.inv.n; omega)).mono ?_
  rintro e w6 ⟨rfl, rf6, c6⟩
  have RF6 : Kp (Rf B w6 q _) := ⟨rf6⟩
  have ST6 := Kp.mk (ST5.out.ty (L := TR) (by decide) c6)
  have B6 := Kp.mk (bstep0 B5.out (Ty.below c6 ST5.out.le))
  clear rf6 c6
  go_wp2
  go_ret
  exact ⟨rfl, ⟨ST6.out, RF6.out, HB1.out.inv.close⟩, B6.out⟩
set_option maxRecDepth 100000 in
set_option maxHeartbeats 4000000 in
theorem step_ask (w : World) (p q : Nat) (s : StM) (n u : Int) (A : Option Addr) (m c : Nat) (kd : Int) (e0 : (kd == 0) = false) (e1 : (kd == 1) = false) (e2 : (kd == 2) = false) (e3 : (kd == 3) = false) (e4 : (kd == 4) = false) (e5 : (kd == 5) = false) (e6 : (kd == 6) = false) (e7 : (kd == 7) = false) (h : Bo B w p q s) :
    Calls Try.prog 9 #[.pointer (some ⟨p, 0, none⟩), .pointer (some ⟨q, 0, none⟩), .agg #[.int .i64 kd, .int .i64 n, .int .u64 u, .slice A m c]] w (StepPost B w p q (s)) := by
  have hle := h.st.le
  have h1 := h.below ((Below.refl _ w).alloc (Nat.le_refl _) (.cells #[.int .i64 kd, .int .i64 n, .int .u64 u, .slice A m c] 31))
  have hbx : (w.alloc (.cells #[.int .i64 kd, .int .i64 n, .int .u64 u, .slice A m c] 31)).heap[w.heap.size]? = some (.cells #[.int .i64 kd, .int .i64 n, .int .u64 u, .slice A m c] 31 (0, 0)) := blk_new w _
  have hb0 : Bel B w (w.alloc (.cells #[.int .i64 kd, .int .i64 n, .int .u64 u, .slice A m c] 31)) := (Bel.refl w).alloc hle _
  have HB1 := Kp.mk h1
  have HBX := Kp.mk hbx
  have HB0 := Kp.mk hb0
  clear h h1 hbx hb0 hle
  obtain ⟨fv, sv, rs, hs, _⟩ := HB1.out.st
  obtain ⟨rv, rr, hr⟩ := HB1.out.rf
  have HS := Kp.mk hs
  have HR := Kp.mk hr
  have hn9 := HB1.out.inv.n
  have HN : Kp (s.fs.length ≤ 1000) := ⟨by omega⟩
  clear hs hr hn9
  have bx := HBX.out
  have b1 := blk_c bx 1
  have b0 := blk_c bx 0
  go_enter Try.func9, Try.ntmps9
  go_wp2_with fail
  refine (x_any _ p fv sv s rs n HS.out).mono ?_
  rintro e w2 ⟨rfl, hb2⟩
  have b2 := blk_c (Chg.at (Chg.of_below hb2 NoF) HBX.out (fun h => h)) 1
  have HB2 := Kp.mk hb2
  clear hb2 bx b1 b0
  go_wp2_with fail
  refine (rget_any _ q rv s rr n (HR.out.below HB2.out)).mono ?_
  rintro e w3 ⟨rfl, hb3⟩
  have HB3 := Kp.mk (bstep HB2.out HB2.out.size hb3)
  have b3 := blk_c (Chg.at (Chg.of_below HB3.out NoF) HBX.out (fun h => h)) 1
  clear hb3 b2
  go_wp2_with fail
  refine (y_any _ p fv sv s rs n (HS.out.below HB3.out) HN.out).mono ?_
  rintro e w4 ⟨rfl, hb4⟩
  have HB4 := Kp.mk (bstep HB3.out HB3.out.size hb4)
  have b4 := blk_c (Chg.at (Chg.of_below HB4.out NoF) HBX.out (fun h => h)) 1
  clear hb4 b3
  go_wp2_with fail
  refine (rgety_any _ q rv s rr n (HR.out.below HB4.out) HN.out).mono ?_
  rintro e w5 ⟨rfl, hb5⟩
  have HB5 := Kp.mk (bstep HB4.out HB4.out.size hb5)
  clear hb5 b4
  go_wp2
  go_ret
  exact ⟨rfl, HB1.out.below HB5.out, bstep0 HB0.out (bel HB5.out HB1.out.st.le)⟩
end Go.Proofs.Ythdfmopbihpcoaa
