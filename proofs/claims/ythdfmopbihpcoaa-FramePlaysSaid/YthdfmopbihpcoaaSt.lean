/- One call of both, of any kind; its conditions stand in the statement. -/
import Derived.Test.YthdfmopbihpcoaaSx
namespace Go.Proofs.Ythdfmopbihpcoaa
open Go.RowKit
variable {B : Bd}
def SwStep (B : Bd) (w : World) (p q : Nat) (e : Ending) (w' : World) : Prop := ∃ s', StepPost B w p q s' e w'
set_option maxRecDepth 100000 in
set_option maxHeartbeats 1000000 in
theorem step_7 (w : World) (p q : Nat) (s : StM) (n u : Int) (A : Option Addr) (c m : Nat) (ws : List Int) (h : Bo B w p q s) (hm : m * 8 ≤ 140737488351232) (hl : ws.length = m) (hsrc : ∀ w', Bel B w w' → Src w' eU64 A c ws) :
    Calls Try.prog 9 #[.pointer (some ⟨p, 0, none⟩), .pointer (some ⟨q, 0, none⟩), .agg #[.int .i64 7, .int .i64 n, .int .u64 u, .slice A m c]] w (SwStep B w p q) := by
  have hle := h.st.le
  have h1 := h.below ((Below.refl _ w).alloc (Nat.le_refl _) (.cells #[.int .i64 7, .int .i64 n, .int .u64 u, .slice A m c] 31))
  have hb0 : Bel B w (w.alloc (.cells #[.int .i64 7, .int .i64 n, .int .u64 u, .slice A m c] 31)) := (Bel.refl w).alloc hle _
  have HB1 := Kp.mk h1
  have HB0 := Kp.mk hb0
  have HSRC := Kp.mk hsrc
  by_cases hn : n < 0
  · have HSW := Kp.mk (swapped_own _ p q s 7 n u A c ws h1 hn (by rw [hl]; exact hm) (fun w' hw => hsrc w' (hb0.trans hw)))
    rw [hl] at HSW
    clear h hle h1 hb0 hsrc
    go_enter Try.func9, Try.ntmps9
    go_wp2_with fail
    refine HSW.out.mono ?_
    rintro e w5 ⟨rfl, bo5, b5⟩
    have BO5 := Kp.mk bo5
    have B5 := Kp.mk (HB0.out.trans b5)
    clear bo5 b5 HSW
    go_wp2
    go_ret
    exact ⟨_, rfl, BO5.out, B5.out⟩
  · have HSW := Kp.mk (swapped_all _ p q s 7 n u A m c h1 (by omega))
    clear h hle h1 hb0 hsrc
    go_enter Try.func9, Try.ntmps9
    go_wp2_with fail
    refine HSW.out.mono ?_
    rintro e w5 ⟨l', rfl, bo5, b5⟩
    have BO5 := Kp.mk bo5
    have B5 := Kp.mk (HB0.out.trans b5)
    clear bo5 b5 HSW
    go_wp2
    go_ret
    exact ⟨_, rfl, BO5.out, B5.out⟩
theorem step_some (w : World) (p q : Nat) (s : StM) (o : OpM) (ws : List Int) (h : Bo B w p q s) (hm : o.m * 8 ≤ 140737488351232) (hl : ws.length = o.m) (hsrc : ∀ w', Bel B w w' → Src w' eU64 o.A o.c ws) :
    Calls Try.prog 9 #[.pointer (some ⟨p, 0, none⟩), .pointer (some ⟨q, 0, none⟩), .agg #[.int .i64 o.kind, .int .i64 o.n, .int .u64 o.w, .slice o.A o.m o.c]] w (SwStep B w p q) := by
  by_cases h7 : o.kind = 7
  · rw [h7]
    exact step_7 w p q s o.n o.w o.A o.c o.m ws h hm hl hsrc
  · exact (step_any w p q s o h h7).mono fun e w' h => ⟨_, h⟩
theorem Bel.below {a w : World} (h : Bel B a w) (hok : B.Ok a) : Below B.b a w :=
  ⟨h.out.os, h.out.tape, h.out.output, h.out.size, fun k hk => h.out.block k (Nat.lt_of_lt_of_le hk hok.1) (fun hf => by have := hf.1; omega)⟩
end Go.Proofs.Ythdfmopbihpcoaa
