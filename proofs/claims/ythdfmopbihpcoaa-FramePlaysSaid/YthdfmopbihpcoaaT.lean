/- What Keep of package frame answers: the registers behind are not set. -/
import Derived.Test.YthdfmopbihpcoaaS
namespace Go.Proofs.Ythdfmopbihpcoaa
open Go.RowKit

def keepV (n : Int) : Int := if n < 0 ∨ 16 < n then 1 else 0
def keepM (s : StM) (k : Nat) : StM := { s with x := s.x.take k ++ List.replicate (16 - k) zeroCl }
def KeepPost (w : World) (p : Nat) (fv sv : Value) (s : StM) (n : Int) (e : Ending) (w' : World) : Prop :=
  e = .returned (.int .i64 (keepV n)) ∧ ((keepV n ≠ 0 ∧ w = w') ∨ (keepV n = 0 ∧ ∃ rs', IsSt w' p fv sv (keepM s n.toNat) rs' ∧ Chg (fun g => g = p) w w'))
theorem run_clear (w : World) (p k c : Nat) (ty : TypeId) (fv sv : Value) (xs : List Cl) (hb : w.heap[p]? = some (.cells (StC xs fv sv) 60 (0, 0))) (hx : xs.length = 16) (hk : k < 16) :
    (Builtin.clear_ #[52] ty #[.slice (some ⟨p, k * 2, none⟩) (16 - k) c]).run Try.prog w = .ok (.tuple #[]) (w.setRow p (StC (xs.take k ++ List.replicate (16 - k) zeroCl) fv sv)) := by
  have hz0 : (Value.agg #[.int .u64 0, .bool false]).cells.toList = eCl.f zeroCl := rfl
  have hzv : (zeroValue 57).run Try.prog w = .ok (.agg #[.int .u64 0, .bool false]) w := by kernel_rfl
  have hzf := zeroCells_flat hz0 (16 - k)
  have hl : (eCl.flat (List.replicate (16 - k) zeroCl)).length = (16 - k) * 2 := by rw [eCl.flat_length]; simp; rfl
  have hxl : (eCl.flat xs).length = 32 := by rw [eCl.flat_length, hx]; rfl
  have hsz : (StC xs fv sv).size = 34 := by unfold StC; simp [hxl]
  have hst := run_storeCells_at Try.prog p (k * 2) 60 (eCl.flat (List.replicate (16 - k) zeroCl)) 0 (StC xs fv sv) w hb (by rw [hl, hsz]; omega) (eCl.flat_one_cell _)
  simp only [Nat.add_zero] at hst
  obtain ⟨m, hm⟩ : ∃ m, 16 - k = m + 1 := ⟨15 - k, by omega⟩
  have hrow : ((StC xs fv sv).toList.take (k * 2) ++ eCl.flat (List.replicate (16 - k) zeroCl) ++ (StC xs fv sv).toList.drop (k * 2 + (eCl.flat (List.replicate (16 - k) zeroCl)).length)).toArray = StC (xs.take k ++ List.replicate (16 - k) zeroCl) fv sv := by
    have e1 : xs = xs.take k ++ xs.drop k := (List.take_append_drop k xs).symm
    have l1 : (eCl.flat (xs.take k)).length = k * 2 := by rw [eCl.flat_length, List.length_take, hx, Nat.min_eq_left (by omega)]; rfl
    have e2 : (StC xs fv sv).toList = eCl.flat (xs.take k) ++ (eCl.flat (xs.drop k) ++ [fv, sv]) := by
      show eCl.flat xs ++ [fv, sv] = _
      rw [← List.append_assoc, ← eCl.flat_append, ← e1]
    have e3 : (StC xs fv sv).toList.take (k * 2) = eCl.flat (xs.take k) := by rw [e2, ← l1]; exact List.take_left
    have e4 : (StC xs fv sv).toList.drop 32 = [fv, sv] := by
      show (eCl.flat xs ++ [fv, sv]).drop 32 = _
      rw [← hxl]; exact List.drop_left
    rw [e3, hl, show k * 2 + (16 - k) * 2 = 32 by omega, e4]
    unfold StC
    rw [eCl.flat_append]
  rw [hrow, hm] at hst
  rw [hm] at hzf
  rw [hm]
  simp [Builtin.clear_, run_underlying Try.underlying52, hzv, hzf, hst]
theorem clear_none (w : World) (a : Option Addr) (c : Nat) (ty : TypeId) : (Builtin.clear_ #[52] ty #[.slice a 0 c]).run Try.prog w = .ok (.tuple #[]) w := by
  cases a <;> simp [Builtin.clear_, run_underlying Try.underlying52]
set_option maxHeartbeats 1000000 in
theorem keep_any (w : World) (p : Nat) (fv sv : Value) (s : StM) (rs : List Rec) (n : Int) (hs : IsSt w p fv sv s rs) :
    Calls Try.prog 25 #[.pointer (some ⟨p, 0, none⟩), .int .i64 n] w (KeepPost w p fv sv s n) := by
  have HS := Kp.mk hs
  clear hs
  have hb := HS.out.blk
  by_cases hn0 : n < 0
  · have e : Kp (keepV n = 1) := ⟨by unfold keepV; rw [if_pos (.inl hn0)]⟩
    go_enter Try.func25, Try.ntmps25
    go_wp2
    go_ret
    exact ⟨by rw [e.out]; rfl, .inl ⟨by rw [e.out]; decide, rfl⟩⟩
  have hn0d : decide (n < 0) = false := by simpa using hn0
  by_cases hn1 : 16 < n
  · have e : Kp (keepV n = 1) := ⟨by unfold keepV; rw [if_pos (.inr hn1)]⟩
    go_enter Try.func25, Try.ntmps25
    go_wp2
    go_ret
    exact ⟨by rw [e.out]; rfl, .inl ⟨by rw [e.out]; decide, rfl⟩⟩
  have hn1d : decide (16 < n) = false := by simpa using hn1
  have e : Kp (keepV n = 0) := ⟨by unfold keepV; rw [if_neg (by omega)]⟩
  obtain ⟨k, rfl⟩ := Int.eq_ofNat_of_zero_le (show 0 ≤ n by omega)
  have hk : (k : Int) ≤ 16 := by omega
  have hkn : k ≤ 16 := by omega
  have hk0 : (0 : Int) ≤ (k : Int) := by omega
  by_cases h16 : k = 16
  · subst h16
    have hcl := fun a c ty => clear_none w a c ty
    go_enter Try.func25, Try.ntmps25
    go_wp2_with (simp only [hcl])
    go_ret
    have hM : keepM s 16 = s := by
      unfold keepM
      rw [List.take_of_length_le (by rw [HS.out.x16]; exact Nat.le_refl _)]
      simp
    refine ⟨rfl, .inr ⟨rfl, rs, ?_, Chg.refl _ _⟩⟩
    show IsSt _ p fv sv (keepM s 16) rs
    rw [hM]
    exact HS.out
  · have hcl := fun c ty => run_clear w p k c ty fv sv s.x HS.out.blk HS.out.x16 (by omega)
    go_enter Try.func25, Try.ntmps25
    go_wp2_with (simp only [hcl])
    go_ret
    have hset := setRow_heap w p (StC s.x fv sv) (StC (s.x.take k ++ List.replicate (16 - k) zeroCl) fv sv) 60 (0, 0) HS.out.blk
    have hc : Chg (fun g => g = p) w (w.setRow p (StC (s.x.take k ++ List.replicate (16 - k) zeroCl) fv sv)) := ⟨rfl, rfl, rfl, by simp, fun j _ hj => setRow_other w p j _ hj⟩
    refine ⟨by rw [e.out]; rfl, .inr ⟨e.out, rs, ⟨?_, ?_, ?_, ?_, HS.out.cut⟩, hc⟩⟩
    · exact hset
    · show (s.x.take k ++ List.replicate (16 - k) zeroCl).length = 16
      rw [List.length_append, List.length_take, List.length_replicate, HS.out.x16]; omega
    · exact HS.out.f.frame hc (fun g hg hF => HS.out.f.ne HS.out.blk (by decide) (by rw [← hF]; exact hg))
    · exact HS.out.sl.frame hc (fun g hg hF => HS.out.sl.ne HS.out.blk (by decide) (by rw [← hF]; exact hg))
end Go.Proofs.Ythdfmopbihpcoaa
