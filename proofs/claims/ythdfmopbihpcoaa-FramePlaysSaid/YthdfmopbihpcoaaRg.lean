/- SameWords of equal words; what all, Depth and Size answer of a stack from a bound on; bounds stand in each statement. -/
import Derived.Test.YthdfmopbihpcoaaRf
namespace Go.Proofs.Ythdfmopbihpcoaa
open Go.RowKit
variable {B : Bd}

set_option maxHeartbeats 1000000 in
theorem words_eq (w : World) (l : List Int) (A1 A2 : Option Addr) (c1 c2 : Nat) (ha : Src w eU64 A1 c1 l) (hb : Src w eU64 A2 c2 l) (hn : l.length ≤ 1000000000) :
    Calls Try.prog 14 #[.slice A1 l.length c1, .slice A2 l.length c2] w fun e w' => e = .returned (.bool true) ∧ Below w.heap.size w w' := by
  have hne : ((l.length : Int) != (l.length : Int)) = false := by simp
  go_enter Try.func14, Try.ntmps14
  go_wp2
  go_loopw [5] (fun i wr => ∃ k : Nat, k ≤ l.length ∧ i = .int .i64 k ∧ Below w.heap.size w wr) (fun i _ => l.length - (intOf i).toNat)
  case atStart => exact ⟨0, Nat.zero_le _, rfl, Below.refl _ _⟩
  case round =>
    obtain ⟨k, hk, rfl, hbw⟩ := hrel
    by_cases hlt : k < l.length
    · cases A1 with
      | none => have := (ha.none rfl).1; subst this; simp at hlt
      | some x =>
      cases A2 with
      | none => have := (hb.none rfl).1; subst this; simp at hlt
      | some y =>
        obtain ⟨g, o, rfl⟩ := ha.addr (by omega)
        obtain ⟨g2, o2, rfl⟩ := hb.addr (by omega)
        have H0 : wr.cell? ⟨g, o + k, none⟩ = some (.int .u64 l[k]) := by have := (ha.below hbw).elem k 0 hlt (by decide); simpa [eU64] using this
        have G0 : wr.cell? ⟨g2, o2 + k, none⟩ = some (.int .u64 l[k]) := by have := (hb.below hbw).elem k 0 hlt (by decide); simpa [eU64] using this
        obtain ⟨x, hx⟩ : ∃ x, x = l[k] := ⟨_, rfl⟩
        rw [← hx] at H0 G0
        clear hx
        have k0 : (0 : Int) ≤ (k : Int) := by omega
        have k1 : (k : Int) < (l.length : Int) := by omega
        have hq : (x != x) = false := by simp
        go_wp2_with fail
        go_quiet (fail)
        go_wp2
        go_roundw
        case rel => exact ⟨k + 1, by omega, by go_num, below_drewN hbw _⟩
        case measure => simp [intOf]; omega
    · have hle : l.length ≤ k := by omega
      clear hlt
      go_wp2
      go_ret
      exact ⟨rfl, hbw⟩
theorem s_all (w : World) (p : Nat) (s : StM) (h : St B w p s) (hi : Inv s) : Calls Try.prog 10 #[.pointer (some ⟨p, 0, none⟩), .int .i64 0] w fun e w' => ∃ A c, e = .returned (.slice A (onW (cellsOf s)).length c) ∧ Own w' 29 eU64 (.slice A (onW (cellsOf s)).length c) (onW (cellsOf s)) ∧ Fresh w (.slice A (onW (cellsOf s)).length c) ∧ Below w.heap.size w w' := by
  obtain ⟨fv, sv, rs, h1, _⟩ := h
  refine (allOf_any w p fv sv s rs 0 h1 (by have := hi.n; omega) (by have := hi.all; omega)).mono ?_
  rintro e w' ⟨v, rfl, ho, hf, hb⟩
  have e1 : cutMost 0 (onW (cellsOf s)) = onW (cellsOf s) := by unfold cutMost; rw [if_neg (by omega)]
  rw [e1] at ho
  obtain ⟨A, c, hv, _⟩ := ho.shape
  subst hv
  exact ⟨A, c, rfl, ho, hf, hb⟩
theorem onW_1040 {s : StM} (hi : Inv s) : (onW (cellsOf s)).length ≤ 1040 := by
  have h1 := onW_le (cellsOf s)
  have h2 : (cellsOf s).length = 16 + (allY s.fs).length := by simp [cellsOf, hi.x]
  have := hi.all
  omega
theorem s_depth (w : World) (p : Nat) (s : StM) (h : St B w p s) : Calls Try.prog 11 #[.pointer (some ⟨p, 0, none⟩)] w fun e w' => e = .returned (.int .i64 s.fs.length) ∧ w = w' := by
  obtain ⟨fv, sv, rs, h1, _⟩ := h
  exact depth_any w p fv sv s rs h1
theorem s_size (w : World) (p : Nat) (s : StM) (h : St B w p s) (hi : Inv s) : Calls Try.prog 12 #[.pointer (some ⟨p, 0, none⟩)] w fun e w' => e = .returned (.int .i64 (topSize s)) ∧ Below w.heap.size w w' := by
  obtain ⟨fv, sv, rs, h1, _⟩ := h
  exact size_any w p fv sv s rs h1 (by have := hi.n; omega)
theorem s_new (w : World) (hB : B.Ok w) : Calls Try.prog 7 #[] w fun e w' => ∃ p, e = .returned (.pointer (some ⟨p, 0, none⟩)) ∧ St B w' p newSt ∧ Below w.heap.size w w' := by
  refine (new_any w).mono ?_
  rintro e w' ⟨p, fv, rs, hp, hfr, rfl, h1, hb⟩
  have hbs := hb.size
  refine ⟨p, rfl, ⟨fv, _, rs, h1, fun g hg => ?_⟩, hb⟩
  rcases hg with rfl | hg | hg
  · omega
  · have := hfr g hg; omega
  · cases hg
theorem r_new (w : World) (hB : B.Ok w) : Calls Try.prog 8 #[] w fun e w' => ∃ q, e = .returned (.pointer (some ⟨q, 0, none⟩)) ∧ Rf B w' q newSt ∧ Below w.heap.size w w' := by
  refine (rnew_any w hB).mono ?_
  rintro e w' ⟨q, fv, rr, _, rfl, h1, hb⟩
  exact ⟨q, rfl, ⟨fv, rr, h1⟩, hb⟩

/-! ### the script -/
structure OpM where
  kind : Int
  n : Int
  w : Int
  A : Option Addr
  m : Nat
  c : Nat
def eOp : El OpM := ⟨4, fun o => [.int .i64 o.kind, .int .i64 o.n, .int .u64 o.w, .slice o.A o.m o.c], fun _ => rfl, fun _ u h => by simp at h; rcases h with rfl | rfl | rfl | rfl <;> rfl, by decide⟩
def stepM (s : StM) (o : OpM) : StM :=
  if o.kind = 0 then setXM s o.n o.w else if o.kind = 1 then keepM' s o.n else if o.kind = 2 then callM s o.n else if o.kind = 3 then retM s else if o.kind = 4 then openM' s o.n else if o.kind = 5 then closeM' s else if o.kind = 6 then setYM' s o.n o.w else s
/-- One call of both, but for Swap. -/
theorem step_any (w : World) (p q : Nat) (s : StM) (o : OpM) (h : Bo B w p q s) (h7 : o.kind ≠ 7) :
    Calls Try.prog 9 #[.pointer (some ⟨p, 0, none⟩), .pointer (some ⟨q, 0, none⟩), .agg #[.int .i64 o.kind, .int .i64 o.n, .int .u64 o.w, .slice o.A o.m o.c]] w (StepPost B w p q (stepM s o)) := by
  obtain ⟨kd, n, u, A, m, c⟩ := o
  simp only [stepM] at h7 ⊢
  by_cases h0 : kd = 0
  · subst h0; exact step_0 w p q s n u A m c h
  rw [if_neg h0]
  by_cases h1 : kd = 1
  · subst h1; exact step_1 w p q s n u A m c h
  rw [if_neg h1]
  by_cases h2 : kd = 2
  · subst h2; exact step_2 w p q s n u A m c h
  rw [if_neg h2]
  by_cases h3 : kd = 3
  · subst h3; exact step_3 w p q s n u A m c h
  rw [if_neg h3]
  by_cases h4 : kd = 4
  · subst h4; exact step_4 w p q s n u A m c h
  rw [if_neg h4]
  by_cases h5 : kd = 5
  · subst h5; exact step_5 w p q s n u A m c h
  rw [if_neg h5]
  by_cases h6 : kd = 6
  · subst h6; exact step_6 w p q s n u A m c h
  rw [if_neg h6]
  exact step_ask w p q s n u A m c kd (by simpa using h0) (by simpa using h1) (by simpa using h2) (by simpa using h3) (by simpa using h4) (by simpa using h5) (by simpa using h6) (by simpa using h7) h
end Go.Proofs.Ythdfmopbihpcoaa
