/- Count of the document's first chapter, by four; no condition. -/
import Derived.Test.YtlbbheopoflmjaaEq
namespace Go.Proofs.Ytlbbheopoflmjaa
open Go.RowKit

set_option maxHeartbeats 400000 in
theorem count_any (w : World) (n : Int) : Calls Try.prog 10 #[.int .i64 n, .int .i64 4] w fun e w' => (∃ m : Nat, m < 4 ∧ e = .returned (.int .i64 m)) ∧ w = w' := by
  obtain ⟨r, hr⟩ : ∃ r, r = Int.tmod n 4 := ⟨_, rfl⟩
  have h1 : r < 4 := by rw [hr]; exact Int.tmod_lt_of_pos _ (by decide)
  have h2 : -4 < r := by
    have h3 := Int.tmod_lt_of_pos (-n) (b := 4) (by decide)
    rw [Int.neg_tmod, ← hr] at h3
    omega
  have hr' := hr.symm
  have hw : IntKind.i64.wrap r = r := by rw [IntKind.wrap_i64]; omega
  by_cases h0 : r < 0
  · have hw2 : IntKind.i64.wrap (r + 4) = r + 4 := by rw [IntKind.wrap_i64]; omega
    have HM : Kp ((r + 4).toNat < 4 ∧ (((r + 4).toNat : Nat) : Int) = r + 4) := ⟨by omega, by omega⟩
    have hd : decide (r < 0) = true := by simpa using h0
    clear hr
    go_enter Try.func10, Try.ntmps10
    go_wp2
    go_ret
    exact ⟨⟨_, HM.out.1, by rw [HM.out.2]; rfl⟩, rfl⟩
  · have HM : Kp (r.toNat < 4 ∧ ((r.toNat : Nat) : Int) = r) := ⟨by omega, by omega⟩
    have hd : decide (r < 0) = false := by simpa using h0
    clear hr
    go_enter Try.func10, Try.ntmps10
    go_wp2
    go_ret
    exact ⟨⟨_, HM.out.1, by rw [HM.out.2]; rfl⟩, rfl⟩

end Go.Proofs.Ytlbbheopoflmjaa
