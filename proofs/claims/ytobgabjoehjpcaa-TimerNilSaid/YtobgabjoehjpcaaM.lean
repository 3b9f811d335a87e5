/- Entries of package timer in memory, and what its comparisons answer; no condition but bounds. -/
import Derived.Test.YtobgabjoehjpcaaProg
import Derived.Test.YtobgabjoehjpcaaLib
import Derived.Test.YtobgabjoehjpcaaDraw
namespace Go.Proofs.Ytobgabjoehjpcaa
open Go.RowKit

structure Ent where
  ref : Int
  dl : Int
  tn : Int
  deriving DecidableEq
def eEnt : El Ent := ⟨3, fun e => [.int .i64 e.ref, .int .i64 e.dl, .int .i64 e.tn], fun _ => rfl, fun _ u h => by simp at h; rcases h with rfl | rfl | rfl <;> rfl, by decide⟩
theorem T56 : SlT Try.prog 56 60 eEnt 24 := SlT.mk' (k := 3) (z := .agg #[.int .i64 0, .int .i64 0, .int .i64 0]) Try.underlying56 (by kernel_rfl) rfl rfl
theorem T32 : SlT Try.prog 32 2 eI64 8 := SlT.mk' (k := 1) (z := .int .i64 0) Try.underlying32 (by kernel_rfl) rfl rfl
def cmpV (a b : Int) : Int := if a < b then -1 else if b < a then 1 else 0
def orV (x y : Int) : Int := if x ≠ 0 then x else y
def aheadV (a b : Ent) : Int := orV (cmpV a.dl b.dl) (cmpV a.tn b.tn)
def lessB (a b : Ent) : Bool := decide (aheadV a b < 0)

set_option maxHeartbeats 400000 in
theorem isNaN_any (w : World) (a : Int) : Calls Try.prog 61 #[.int .i64 a] w fun e w' => e = .returned (.bool false) ∧ w = w' := by
  have hq : (a != a) = false := by simp
  go_enter Try.func61, Try.ntmps61
  go_wp2
  go_ret
  exact ⟨rfl, rfl⟩
set_option maxHeartbeats 400000 in
theorem cmp_any (w : World) (a b : Int) : Calls Try.prog 49 #[.int .i64 a, .int .i64 b] w fun e w' => e = .returned (.int .i64 (cmpV a b)) ∧ w = w' := by
  by_cases h1 : a < b
  · have e : Kp (cmpV a b = -1) := ⟨by unfold cmpV; rw [if_pos h1]⟩
    have h1d : decide (a < b) = true := by simpa using h1
    go_enter Try.func49, Try.ntmps49
    go_wp2_with (go_at_call 61; refine (isNaN_any _ _).mono ?_; rintro e w' ⟨rfl, rfl⟩)
    go_ret
    rw [e.out]; exact ⟨rfl, rfl⟩
  · have h1d : decide (a < b) = false := by simpa using h1
    by_cases h2 : b < a
    · have e : Kp (cmpV a b = 1) := ⟨by unfold cmpV; rw [if_neg h1, if_pos h2]⟩
      have h2d : decide (b < a) = true := by simpa using h2
      go_enter Try.func49, Try.ntmps49
      go_wp2_with (go_at_call 61; refine (isNaN_any _ _).mono ?_; rintro e w' ⟨rfl, rfl⟩)
      go_ret
      rw [e.out]; exact ⟨rfl, rfl⟩
    · have e : Kp (cmpV a b = 0) := ⟨by unfold cmpV; rw [if_neg h1, if_neg h2]⟩
      have h2d : decide (b < a) = false := by simpa using h2
      go_enter Try.func49, Try.ntmps49
      go_wp2_with (go_at_call 61; refine (isNaN_any _ _).mono ?_; rintro e w' ⟨rfl, rfl⟩)
      go_ret
      rw [e.out]; exact ⟨rfl, rfl⟩
set_option maxHeartbeats 400000 in
theorem or_any (w : World) (g : Nat) (x y : Int) (h0 : w.cell? ⟨g, 0, none⟩ = some (.int .i64 x)) (h1 : w.cell? ⟨g, 1, none⟩ = some (.int .i64 y)) :
    Calls Try.prog 48 #[.slice (some ⟨g, 0, none⟩) 2 2] w fun e w' => e = .returned (.int .i64 (orV x y)) ∧ w = w' := by
  have H0 := Kp.mk h0
  have H1 := Kp.mk h1
  clear h0 h1
  go_enter Try.func48, Try.ntmps48
  go_wp2
  go_loop [5, 8] (fun v i => ∃ k : Nat, k ≤ 2 ∧ i = .int .i64 k ∧ (∃ u, v = u) ∧ Kp ((1 ≤ k → x = 0) ∧ (2 ≤ k → y = 0))) (fun _ i => 2 - (intOf i).toNat)
  case atStart => exact ⟨0, by omega, rfl, ⟨_, rfl⟩, ⟨fun h => by omega, fun h => by omega⟩⟩
  case round =>
    obtain ⟨k, hk, rfl, _, hP⟩ := hrel
    have hk3 : k = 0 ∨ k = 1 ∨ k = 2 := by omega
    rcases hk3 with rfl | rfl | rfl
    · have q := H0.out
      by_cases hx : x = 0
      · have HX := Kp.mk hx
        have hxb : (x != 0) = false := by simpa using hx
        clear hx
        go_wp2
        go_round
        case rel => exact ⟨1, by omega, rfl, ⟨_, rfl⟩, ⟨fun _ => HX.out, fun h => by omega⟩⟩
        case measure => simp [intOf]
      · have hxb : (x != 0) = true := by simpa using hx
        have e : Kp (orV x y = x) := ⟨by unfold orV; rw [if_pos hx]⟩
        clear hx
        go_wp2
        go_ret
        rw [e.out]; exact ⟨rfl, rfl⟩
    · have q := H1.out
      have HX := Kp.mk (hP.out.1 (by omega))
      have e : Kp (orV x y = y) := ⟨by unfold orV; rw [if_neg (by simpa using HX.out)]⟩
      by_cases hy : y = 0
      · have HY := Kp.mk hy
        have hyb : (y != 0) = false := by simpa using hy
        clear hy
        go_wp2
        go_round
        case rel => exact ⟨2, by omega, rfl, ⟨_, rfl⟩, ⟨fun _ => HX.out, fun _ => HY.out⟩⟩
        case measure => simp [intOf]
      · have hyb : (y != 0) = true := by simpa using hy
        clear hy
        go_wp2
        go_ret
        rw [e.out]; exact ⟨rfl, rfl⟩
    · have e : Kp (orV x y = 0) := ⟨by unfold orV; rw [if_neg (by simpa using hP.out.1 (by omega))]; exact hP.out.2 (by omega)⟩
      go_wp2
      go_ret
      rw [e.out]; exact ⟨rfl, rfl⟩
end Go.Proofs.Ytobgabjoehjpcaa
