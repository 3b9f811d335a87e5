/- What SetX, X, Call, Depth, last and Size of package frame answer; their conditions stand in each statement. -/
import Derived.Test.YthdfmopbihpcoaaM
namespace Go.Proofs.Ythdfmopbihpcoaa
open Go.RowKit

section
variable {w w' : World} {p : Nat} {fv sv : Value} {s : StM} {rs : List Rec}
theorem IsSt.setX (h : IsSt w p fv sv s rs) (k : Nat) (hk : k < 16) (c : Cl) :
    IsSt ((w.setCell ⟨p, k * 2, none⟩ (.int .u64 c.w)).setCell ⟨p, k * 2 + 1, none⟩ (.bool c.on)) p fv sv { s with x := s.x.set k c } rs := by
  have hx := h.x16
  have e1 : (eCl.flat s.x).set (k * 2) (.int .u64 c.w) = eCl.flat (s.x.set k ⟨c.w, (s.x[k]'(by omega)).on⟩) := by
    have := eCl.flat_set s.x k 0 ⟨c.w, (s.x[k]'(by omega)).on⟩ (.int .u64 c.w) (by omega) (by decide) rfl
    exact this
  have e2 : (eCl.flat (s.x.set k ⟨c.w, (s.x[k]'(by omega)).on⟩)).set (k * 2 + 1) (.bool c.on) = eCl.flat (s.x.set k c) := by
    have := eCl.flat_set (s.x.set k ⟨c.w, (s.x[k]'(by omega)).on⟩) k 1 c (.bool c.on) (by simp; omega) (by decide) (by simp [eCl])
    rw [List.set_set] at this
    exact this
  have hl : (eCl.flat s.x).length = 32 := by rw [eCl.flat_length, hx]; rfl
  have hl2 : (eCl.flat (s.x.set k ⟨c.w, (s.x[k]'(by omega)).on⟩)).length = 32 := by rw [eCl.flat_length, List.length_set, hx]; rfl
  have b1 := blk_set h.blk (k * 2) (.int .u64 c.w)
  have b2 := blk_set b1 (k * 2 + 1) (.bool c.on)
  have hf := h.f.set_ne (q := p) (k := k * 2) (h.f.ne h.blk (by decide)) (.int .u64 c.w)
  have hs := h.sl.set_ne (q := p) (k := k * 2) (h.sl.ne h.blk (by decide)) (.int .u64 c.w)
  refine ⟨?_, by simpa using hx, hf.set_ne (hf.ne b1 (by decide)) _, hs.set_ne (hs.ne b1 (by decide)) _, h.cut⟩
  rw [b2]
  unfold StC
  congr 2
  rw [List.setIfInBounds_toArray, List.setIfInBounds_toArray, List.set_append_left _ _ (by omega), e1, List.set_append_left _ _ (by omega), e2]
end

set_option maxHeartbeats 1000000 in
theorem setX_no (w : World) (p : Nat) (n u : Int) (h : n < 0 ∨ 16 ≤ n) : Calls Try.prog 24 #[.pointer (some ⟨p, 0, none⟩), .int .i64 n, .int .u64 u] w fun e w' => e = .returned (.int .i64 1) ∧ w = w' := by
  by_cases h1 : n < 0
  · go_enter Try.func24, Try.ntmps24
    go_wp2
    go_ret
    exact ⟨rfl, rfl⟩
  · have h1d : decide (n < 0) = false := by simpa using h1
    have h2 : 16 ≤ n := by omega
    go_enter Try.func24, Try.ntmps24
    go_wp2
    go_ret
    exact ⟨rfl, rfl⟩
set_option maxHeartbeats 1000000 in
theorem setX_any (w : World) (p : Nat) (fv sv : Value) (s : StM) (rs : List Rec) (k : Nat) (u : Int) (hs : IsSt w p fv sv s rs) (hk : k < 16) :
    Calls Try.prog 24 #[.pointer (some ⟨p, 0, none⟩), .int .i64 k, .int .u64 u] w fun e w' => e = .returned (.int .i64 0) ∧ IsSt w' p fv sv { s with x := s.x.set k ⟨u, true⟩ } rs ∧ Chg (fun g => g = p) w w' := by
  have hx : s.x[k]? = some (s.x[k]'(by have := hs.x16; omega)) := List.getElem?_eq_getElem _
  obtain ⟨q0, q1⟩ := hs.cx k _ hx
  have f0 : w.frozen? ⟨p, k * 2, none⟩ = false := hs.fz _
  have f1 : w.frozen? ⟨p, k * 2 + 1, none⟩ = false := hs.fz _
  have h1d : decide ((k : Int) < 0) = false := by simp
  have h2d : decide (16 ≤ (k : Int)) = false := by simp; omega
  have k0 : (0 : Int) ≤ (k : Int) := by omega
  have k1 : (k : Int) < 16 := by omega
  have HF := Kp.mk (hs.setX k hk ⟨u, true⟩)
  have HC : Kp (Chg (fun g => g = p) w ((w.setCell ⟨p, k * 2, none⟩ (.int .u64 u)).setCell ⟨p, k * 2 + 1, none⟩ (.bool true))) := ⟨((Chg.refl (fun g => g = p) w).set (p := ⟨p, k * 2, none⟩) (.inl rfl) _).set (p := ⟨p, k * 2 + 1, none⟩) (.inl rfl) _⟩
  clear hx
  go_enter Try.func24, Try.ntmps24
  go_wp2
  go_ret
  exact ⟨rfl, HF.out, HC.out⟩

/-! ### read, X -/
set_option maxHeartbeats 1000000 in
theorem read_any (w : World) (c : Cl) : Calls Try.prog 44 #[.agg #[.int .u64 c.w, .bool c.on]] w fun e w' => e = .returned (.tuple #[.int .u64 (if c.on then c.w else 0), .bool c.on]) ∧ Below w.heap.size w w' := by
  obtain ⟨cw, on⟩ := c
  cases on
  · go_enter Try.func44, Try.ntmps44
    go_wp2
    go_ret2
    exact ⟨rfl, (Below.refl _ _).alloc (Nat.le_refl _) _⟩
  · go_enter Try.func44, Try.ntmps44
    go_wp2
    go_ret2
    exact ⟨rfl, (Below.refl _ _).alloc (Nat.le_refl _) _⟩
def getX (s : StM) (n : Int) : Int × Bool := if n < 0 ∨ 16 ≤ n then (0, false) else match s.x[n.toNat]? with | some c => if c.on then (c.w, true) else (0, false) | none => (0, false)
set_option maxHeartbeats 1000000 in
theorem x_any (w : World) (p : Nat) (fv sv : Value) (s : StM) (rs : List Rec) (n : Int) (hs : IsSt w p fv sv s rs) :
    Calls Try.prog 26 #[.pointer (some ⟨p, 0, none⟩), .int .i64 n] w fun e w' => e = .returned (.tuple #[.int .u64 (getX s n).1, .bool (getX s n).2]) ∧ Below w.heap.size w w' := by
  by_cases h1 : n < 0
  · have e : Kp (getX s n = (0, false)) := ⟨by unfold getX; rw [if_pos (.inl h1)]⟩
    go_enter Try.func26, Try.ntmps26
    go_wp2
    go_ret2
    exact ⟨by rw [e.out]; rfl, Below.refl _ _⟩
  have h1d : decide (n < 0) = false := by simpa using h1
  by_cases h2 : 16 ≤ n
  · have e : Kp (getX s n = (0, false)) := ⟨by unfold getX; rw [if_pos (.inr h2)]⟩
    go_enter Try.func26, Try.ntmps26
    go_wp2
    go_ret2
    exact ⟨by rw [e.out]; rfl, Below.refl _ _⟩
  obtain ⟨k, rfl⟩ := Int.eq_ofNat_of_zero_le (show 0 ≤ n by omega)
  have h2d : decide (16 ≤ (k : Int)) = false := by simpa using h2
  have hk : k < s.x.length := by have := hs.x16; omega
  have hx : s.x[k]? = some s.x[k] := List.getElem?_eq_getElem hk
  obtain ⟨q0, q1⟩ := hs.cx k _ hx
  have e : Kp (getX s k = (if s.x[k].on then s.x[k].w else 0, s.x[k].on)) := ⟨by
    unfold getX
    rw [if_neg (by omega), Int.toNat_natCast, hx]
    cases h : s.x[k].on <;> simp [h]⟩
  obtain ⟨c, hc⟩ : ∃ c, c = s.x[k] := ⟨_, rfl⟩
  rw [← hc] at q0 q1 e
  have k0 : (0 : Int) ≤ (k : Int) := by omega
  have k1 : (k : Int) < 16 := by have := hs.x16; omega
  clear hc hx h1 h2
  obtain ⟨cw, on⟩ := c
  cases on
  · go_enter Try.func26, Try.ntmps26
    go_wp2_with (go_at_call 44; refine (read_any _ ⟨cw, false⟩).mono ?_; rintro e w1 ⟨rfl, hb1⟩)
    go_ret2
    exact ⟨by rw [e.out]; rfl, hb1⟩
  · go_enter Try.func26, Try.ntmps26
    go_wp2_with (go_at_call 44; refine (read_any _ ⟨cw, true⟩).mono ?_; rintro e w1 ⟨rfl, hb1⟩)
    go_ret2
    exact ⟨by rw [e.out]; rfl, hb1⟩

/-! ### Depth, Call -/
set_option maxHeartbeats 1000000 in
theorem depth_any (w : World) (p : Nat) (fv sv : Value) (s : StM) (rs : List Rec) (hs : IsSt w p fv sv s rs) :
    Calls Try.prog 11 #[.pointer (some ⟨p, 0, none⟩)] w fun e w' => e = .returned (.int .i64 s.fs.length) ∧ w = w' := by
  obtain ⟨A, c, hv, _⟩ := hs.f.shape
  have hl : rs.length = s.fs.length := hs.cut.1
  rw [hl] at hv
  subst hv
  have q := hs.cf
  have HL := Kp.mk hl
  clear hl
  go_enter Try.func11, Try.ntmps11
  go_wp2
  go_ret
  exact ⟨rfl, rfl⟩

set_option maxHeartbeats 1000000 in
theorem call_no (w : World) (p : Nat) (n : Int) (h : n < 0 ∨ 4096 < n) : Calls Try.prog 13 #[.pointer (some ⟨p, 0, none⟩), .int .i64 n] w fun e w' => e = .returned (.int .i64 1) ∧ w = w' := by
  by_cases h1 : n < 0
  · go_enter Try.func13, Try.ntmps13
    go_wp2
    go_ret
    exact ⟨rfl, rfl⟩
  · have h1d : decide (n < 0) = false := by simpa using h1
    have h2 : 4096 < n := by omega
    go_enter Try.func13, Try.ntmps13
    go_wp2
    go_ret
    exact ⟨rfl, rfl⟩
theorem allY_append (a b : List Fr) : allY (a ++ b) = allY a ++ allY b := by simp [allY]
theorem Cuts.snoc {sv : Value} {fs : List Fr} {rs : List Rec} (h : Cuts sv fs rs) (n : Int) : Cuts sv (fs ++ [⟨n, none⟩]) (rs ++ [⟨n, -1, none, 0, 0⟩]) := by
  refine ⟨by simp [h.1], fun k r f hr hf => ?_⟩
  have hl := h.1
  by_cases hk : k < fs.length
  · rw [List.getElem?_append_left (by omega)] at hr hf
    rw [List.take_append_of_le_length (by omega)]
    exact h.2 k r f hr hf
  · rw [List.getElem?_append_right (by omega)] at hr hf
    have hk2 : k - fs.length = 0 := by
      have := (List.getElem?_eq_some_iff.1 hf).1
      simp at this; omega
    rw [hk2] at hf
    rw [show k - rs.length = 0 by omega] at hr
    cases hr
    cases hf
    exact ⟨rfl, rfl, rfl, fun h => absurd rfl h⟩
def FF (p : Nat) (fv : Value) : Nat → Prop := fun g => g = p ∨ fv.ownBlock = some g
/-- A value that is as it was, or new. -/
def Same (w : World) (v v' : Value) : Prop := v'.ownBlock = v.ownBlock ∨ ∃ g, v'.ownBlock = some g ∧ w.heap.size ≤ g
theorem StC_setF (xs : List Cl) (fv sv v : Value) (h : xs.length = 16) : (StC xs fv sv).setIfInBounds 32 v = StC xs v sv := by
  have hl : (eCl.flat xs).length = 32 := by rw [eCl.flat_length, h]; rfl
  unfold StC
  rw [List.setIfInBounds_toArray, List.set_append_right _ _ (by omega), hl]; rfl
theorem StC_setS (xs : List Cl) (fv sv v : Value) (h : xs.length = 16) : (StC xs fv sv).setIfInBounds 33 v = StC xs fv v := by
  have hl : (eCl.flat xs).length = 32 := by rw [eCl.flat_length, h]; rfl
  unfold StC
  rw [List.setIfInBounds_toArray, List.set_append_right _ _ (by omega), hl]; rfl
set_option maxHeartbeats 1000000 in
theorem call_full (w : World) (p : Nat) (fv sv : Value) (s : StM) (rs : List Rec) (hs : IsSt w p fv sv s rs) (n : Int) (h0 : 0 ≤ n) (h1 : n ≤ 4096) (hf : 64 ≤ s.fs.length) :
    Calls Try.prog 13 #[.pointer (some ⟨p, 0, none⟩), .int .i64 n] w fun e w' => e = .returned (.int .i64 210) ∧ w = w' := by
  obtain ⟨A, c, hv, _⟩ := hs.f.shape
  rw [hs.cut.1] at hv
  subst hv
  have q := hs.cf
  have h1d : decide (n < 0) = false := by simp; omega
  have h2d : decide (4096 < n) = false := by simp; omega
  have h3 : (64 : Int) ≤ (s.fs.length : Int) := by omega
  go_enter Try.func13, Try.ntmps13
  go_wp2
  go_ret
  exact ⟨rfl, rfl⟩
def CallPost (w : World) (p : Nat) (fv sv : Value) (s : StM) (n : Int) (e : Ending) (w' : World) : Prop :=
  ∃ fv' rs', e = .returned (.int .i64 0) ∧ IsSt w' p fv' sv { s with fs := s.fs ++ [⟨n, none⟩] } rs' ∧ Same w fv fv' ∧ Chg (FF p fv) w w'
set_option maxHeartbeats 1000000 in
theorem call_any (w : World) (p : Nat) (fv sv : Value) (s : StM) (rs : List Rec) (hs : IsSt w p fv sv s rs) (n : Int) (h0 : 0 ≤ n) (h1 : n ≤ 4096) (hf : s.fs.length < 64) :
    Calls Try.prog 13 #[.pointer (some ⟨p, 0, none⟩), .int .i64 n] w (CallPost w p fv sv s n) := by
  obtain ⟨A, c, hv, _⟩ := hs.f.shape
  have hl : rs.length = s.fs.length := hs.cut.1
  rw [hl] at hv
  have q := hs.cf
  have qf : w.frozen? ⟨p, 32, none⟩ = false := hs.fz _
  have h1d : decide (n < 0) = false := by simp; omega
  have h2d : decide (4096 < n) = false := by simp; omega
  have h3 : decide ((64 : Int) ≤ (s.fs.length : Int)) = false := by simp; omega
  have hown := hs.f
  have hne := hs.f.ne hs.blk (by decide)
  have hpl := lt_of_block hs.blk
  have HL := Kp.mk hl
  clear hl
  have HV := Kp.mk hv
  subst hv
  go_enter Try.func13, Try.ntmps13
  go_wp2_with (at_builtin; refine app1_ev T55 ⟨n, -1, none, 0, 0⟩ rfl _ _ rfl hown rfl rfl rfl (by simp) rfl (by rw [HL.out]; omega) (by rw [HL.out]; omega) ?_; intro A' n' c' w1 a0 a1 a2 a3; have B1 := a2.at hs.blk hne; have q1 : w1.cell? ⟨p, 32, none⟩ = some (.slice A s.fs.length c) := (by rw [blk_c B1]; exact (StC_f _ _ _ hs.x16).1); have qf1 := blk_f B1 32; have pl1 := lt_of_block B1)
  go_ret
  have hs1 := hs.sl.frame a2 (fun g hg hF => by
    obtain ⟨cur, hcur⟩ := hs.f.blk' hF
    exact hs.sl.ne hcur (by decide) hg)
  refine ⟨_, rs ++ [⟨n, -1, none, 0, 0⟩], rfl, ⟨?_, hs.x16, a1.set_ne (a1.ne B1 (by decide)) _, ?_, hs.cut.snoc n⟩, a3, ?_⟩
  · rw [blk_set B1, StC_setF _ _ _ _ hs.x16]
  · show Own _ 57 eCl sv (allY (s.fs ++ [⟨n, none⟩]))
    rw [allY_append]
    have : allY [(⟨n, none⟩ : Fr)] = [] := rfl
    rw [this, List.append_nil]
    exact hs1.set_ne (hs1.ne B1 (by decide)) _
  · exact (a2.mono (fun g _ hg => .inr hg)).set (p := ⟨p, 32, none⟩) (.inl (.inl rfl)) _

end Go.Proofs.Ythdfmopbihpcoaa
