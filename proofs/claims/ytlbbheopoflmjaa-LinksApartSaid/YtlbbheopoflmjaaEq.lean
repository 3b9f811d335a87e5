/- What bonds and pids of package links's law answer of equal lists; bounds stand in each statement. -/
import Derived.Test.YtlbbheopoflmjaaRc
namespace Go.Proofs.Ytlbbheopoflmjaa
open Go.RowKit

set_option maxHeartbeats 1000000 in
theorem pids_eq (w : World) (l : List Int) (A1 A2 : Option Addr) (c1 c2 : Nat) (ha : Src w eI64 A1 c1 l) (hb : Src w eI64 A2 c2 l) (hn : l.length ≤ 1000000000) :
    Calls Try.prog 24 #[.slice A1 l.length c1, .slice A2 l.length c2] w fun e w' => e = .returned (.bool true) ∧ Below w.heap.size w w' := by
  have hne : ((l.length : Int) != (l.length : Int)) = false := by simp
  go_enter Try.func24, Try.ntmps24
  go_wp2
  go_loopw [5, 13] (fun _ i wr => ∃ k : Nat, k ≤ l.length ∧ i = .int .i64 k ∧ Below w.heap.size w wr) (fun _ i _ => l.length - (intOf i).toNat)
  case atStart => exact ⟨0, Nat.zero_le _, rfl, Below.refl _ _⟩
  case round =>
    obtain ⟨k, hk, rfl, hbw⟩ := hrel
    by_cases hlt : k < l.length
    · cases A1 with
      | none => have := (ha.none rfl).1; subst this; simp at hlt
      | some x =>
      cases A2 with
      | none => have := (hb.none rfl).1; subst this; simp at hlt
      | some y =>
        obtain ⟨g, o, rfl⟩ := ha.addr (by omega)
        obtain ⟨g2, o2, rfl⟩ := hb.addr (by omega)
        have H0 : wr.cell? ⟨g, o + k, none⟩ = some (.int .i64 l[k]) := by have := (ha.below hbw).elem k 0 hlt (by decide); simpa [eI64] using this
        have G0 : wr.cell? ⟨g2, o2 + k, none⟩ = some (.int .i64 l[k]) := by have := (hb.below hbw).elem k 0 hlt (by decide); simpa [eI64] using this
        obtain ⟨x, hx⟩ : ∃ x, x = l[k] := ⟨_, rfl⟩
        rw [← hx] at H0 G0
        clear hx
        have k0 : (0 : Int) ≤ (k : Int) := by omega
        have k1 : (k : Int) < (l.length : Int) := by omega
        have hq : (x != x) = false := by simp
        go_wp2_with fail
        go_quiet (fail)
        go_wp2
        go_roundw
        case rel => exact ⟨k + 1, by omega, by go_num, below_drewN hbw _⟩
        case measure => simp [intOf]; omega
    · have hle : l.length ≤ k := by omega
      clear hlt
      go_wp2
      go_ret
      exact ⟨rfl, hbw⟩
set_option maxHeartbeats 1000000 in
theorem bonds_eq (w : World) (l : List Bd) (A1 A2 : Option Addr) (c1 c2 : Nat) (ha : Src w eBd A1 c1 l) (hb : Src w eBd A2 c2 l) (hn : l.length ≤ 1000000000) :
    Calls Try.prog 14 #[.slice A1 l.length c1, .slice A2 l.length c2] w fun e w' => e = .returned (.bool true) ∧ Below w.heap.size w w' := by
  have hne : ((l.length : Int) != (l.length : Int)) = false := by simp
  go_enter Try.func14, Try.ntmps14
  go_wp2
  go_loopw [5, 13] (fun _ i wr => ∃ k : Nat, k ≤ l.length ∧ i = .int .i64 k ∧ Below w.heap.size w wr) (fun _ i _ => l.length - (intOf i).toNat)
  case atStart => exact ⟨0, Nat.zero_le _, rfl, Below.refl _ _⟩
  case round =>
    obtain ⟨k, hk, rfl, hbw⟩ := hrel
    by_cases hlt : k < l.length
    · cases A1 with
      | none => have := (ha.none rfl).1; subst this; simp at hlt
      | some x =>
      cases A2 with
      | none => have := (hb.none rfl).1; subst this; simp at hlt
      | some y =>
        obtain ⟨g, o, rfl⟩ := ha.addr (by omega)
        obtain ⟨g2, o2, rfl⟩ := hb.addr (by omega)
        have H0 : wr.cell? ⟨g, o + k * 3, none⟩ = some (.int .i64 l[k].a) := by have := (ha.below hbw).elem k 0 hlt (by decide); simpa [eBd, Nat.add_assoc] using this
        have H1 : wr.cell? ⟨g, o + k * 3 + 1, none⟩ = some (.int .i64 l[k].b) := by have := (ha.below hbw).elem k 1 hlt (by decide); simpa [eBd, Nat.add_assoc] using this
        have H2 : wr.cell? ⟨g, o + k * 3 + 2, none⟩ = some (.int .i64 l[k].r) := by have := (ha.below hbw).elem k 2 hlt (by decide); simpa [eBd, Nat.add_assoc] using this
        have G0 : wr.cell? ⟨g2, o2 + k * 3, none⟩ = some (.int .i64 l[k].a) := by have := (hb.below hbw).elem k 0 hlt (by decide); simpa [eBd, Nat.add_assoc] using this
        have G1 : wr.cell? ⟨g2, o2 + k * 3 + 1, none⟩ = some (.int .i64 l[k].b) := by have := (hb.below hbw).elem k 1 hlt (by decide); simpa [eBd, Nat.add_assoc] using this
        have G2 : wr.cell? ⟨g2, o2 + k * 3 + 2, none⟩ = some (.int .i64 l[k].r) := by have := (hb.below hbw).elem k 2 hlt (by decide); simpa [eBd, Nat.add_assoc] using this
        obtain ⟨x, hx⟩ : ∃ x, x = l[k] := ⟨_, rfl⟩
        rw [← hx] at H0 H1 H2 G0 G1 G2
        clear hx
        have k0 : (0 : Int) ≤ (k : Int) := by omega
        have k1 : (k : Int) < (l.length : Int) := by omega
        have hqa : (x.a == x.a) = true := by simp
        have hqb : (x.b == x.b) = true := by simp
        have hqr : (x.r == x.r) = true := by simp
        go_wp2_with fail
        go_quiet (fail)
        go_wp2
        go_roundw
        case rel => exact ⟨k + 1, by omega, by go_num, below_drewN hbw _⟩
        case measure => simp [intOf]; omega
    · have hle : l.length ≤ k := by omega
      clear hlt
      go_wp2
      go_ret
      exact ⟨rfl, hbw⟩
end Go.Proofs.Ytlbbheopoflmjaa
