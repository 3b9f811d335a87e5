/- What last and Size of package frame answer; what known answers: true. -/
import Derived.Test.YthdfmopbihpcoaaN
namespace Go.Proofs.Ythdfmopbihpcoaa
open Go.RowKit

theorem below_drewN {B : Nat} {w a : World} (h : Below B w a) (n : Nat) : Below B w (a.drewN n) := ⟨h.os, h.tape, h.output, h.size, h.block⟩
/-- The last frame's address, in the frames' own block. -/
def LastP (fv : Value) (n : Nat) (P : Option Addr) : Prop := (n = 0 ∧ P = none) ∨ ∃ m g, n = m + 1 ∧ fv.ownBlock = some g ∧ P = some ⟨g, m * 3, none⟩
def LastPost (w : World) (fv : Value) (s : StM) (e : Ending) (w' : World) : Prop := ∃ P, LastP fv s.fs.length P ∧ e = .returned (.pointer P) ∧ Below w.heap.size w w'
theorem IsSt.fshape {w : World} {p : Nat} {fv sv : Value} {s : StM} {rs : List Rec} (h : IsSt w p fv sv s rs) : ∃ A c, fv = .slice A s.fs.length c ∧ (0 < s.fs.length → ∃ g, A = some ⟨g, 0, none⟩) := by
  obtain ⟨A, c, hv, _, _, h0, h1⟩ := h.f.shape
  have hl := h.cut.1
  refine ⟨A, c, by rw [← hl]; exact hv, fun hp => ?_⟩
  cases A with
  | none => have := (h0 rfl).1; rw [this] at hl; simp at hl; omega
  | some a => obtain ⟨g, rfl⟩ := h1 a rfl; exact ⟨g, rfl⟩
set_option maxHeartbeats 1000000 in
theorem last_any (w : World) (p : Nat) (fv sv : Value) (s : StM) (rs : List Rec) (hs : IsSt w p fv sv s rs) (hn : s.fs.length ≤ 1000) :
    Calls Try.prog 39 #[.pointer (some ⟨p, 0, none⟩)] w (LastPost w fv s) := by
  obtain ⟨A, c, hv, hA⟩ := hs.fshape
  have q := hs.cf
  have HV := Kp.mk hv
  by_cases hz : s.fs.length = 0
  · have e0 : ((s.fs.length : Int) == 0) = true := by rw [hz]; rfl
    rw [hv] at q
    have HZ := Kp.mk hz
    clear hz hv hA
    go_enter Try.func39, Try.ntmps39
    go_wp2
    go_ret
    exact ⟨none, .inl ⟨HZ.out, rfl⟩, rfl, Below.refl _ _⟩
  · obtain ⟨m, hm⟩ : ∃ m, s.fs.length = m + 1 := ⟨s.fs.length - 1, by omega⟩
    obtain ⟨g, rfl⟩ := hA (by omega)
    rw [hm] at hv
    rw [hv] at q
    have HM := Kp.mk hm
    have HV2 := Kp.mk hv
    have hm2 : m ≤ 1000 := by omega
    clear hz hv hA hm hn
    have e0 : (((m : Int) + 1) == 0) = false := by simp; omega
    have e1 : ((m : Int) + 1 - 1) = (m : Int) := by omega
    have m0 : (0 : Int) ≤ (m : Int) := by omega
    have m1 : (m : Int) < (m : Int) + 1 := by omega
    go_enter Try.func39, Try.ntmps39
    go_wp2_with fail
    go_quiet (fail)
    go_wp2
    go_ret
    exact ⟨_, .inr ⟨m, g, HM.out, by rw [HV2.out]; rfl, rfl⟩, rfl, below_drewN (Below.refl _ _) _⟩

def topSize (s : StM) : Int := match s.fs.getLast? with | none => -1 | some f => f.size
theorem IsSt.top {w : World} {p : Nat} {fv sv : Value} {s : StM} {rs : List Rec} (h : IsSt w p fv sv s rs) {m : Nat} (hm : s.fs.length = m + 1) : ∃ r f, rs[m]? = some r ∧ s.fs[m]? = some f ∧ s.fs.getLast? = some f ∧ r.size = f.size ∧ r.rt = f.rt := by
  have hl := h.cut.1
  have hr : rs[m]? = some (rs[m]'(by omega)) := List.getElem?_eq_getElem _
  have hf : s.fs[m]? = some (s.fs[m]'(by omega)) := List.getElem?_eq_getElem _
  refine ⟨_, _, hr, hf, ?_, (h.cut.2 m _ _ hr hf).2.1, (h.cut.2 m _ _ hr hf).1⟩
  rw [List.getLast?_eq_getElem?, show s.fs.length - 1 = m by omega]
  exact hf
theorem IsSt.recc {w : World} {p g n c : Nat} {sv : Value} {s : StM} {rs : List Rec} (h : IsSt w p (.slice (some ⟨g, 0, none⟩) n c) sv s rs) (i : Nat) (r : Rec) (hr : rs[i]? = some r) :
    w.cell? ⟨g, i * 3, none⟩ = some (.int .i64 r.rt) ∧ w.cell? ⟨g, i * 3 + 1, none⟩ = some (.int .i64 r.size) ∧ w.cell? ⟨g, i * 3 + 2, none⟩ = some (.slice r.A r.n r.c) := by
  obtain ⟨hi, rfl⟩ := List.getElem?_eq_some_iff.1 hr
  exact ⟨h.f.elem i 0 hi (by decide), h.f.elem i 1 hi (by decide), h.f.elem i 2 hi (by decide)⟩
set_option maxHeartbeats 1000000 in
theorem size_any (w : World) (p : Nat) (fv sv : Value) (s : StM) (rs : List Rec) (hs : IsSt w p fv sv s rs) (hn : s.fs.length ≤ 1000) :
    Calls Try.prog 12 #[.pointer (some ⟨p, 0, none⟩)] w fun e w' => e = .returned (.int .i64 (topSize s)) ∧ Below w.heap.size w w' := by
  have HS := Kp.mk hs
  clear hs
  go_enter Try.func12, Try.ntmps12
  go_wp2_with fail
  refine (last_any w p fv sv s rs HS.out hn).mono ?_
  rintro e w1 ⟨P, hP, rfl, hb⟩
  rcases hP with ⟨h0, rfl⟩ | ⟨m, g, hm, hg, rfl⟩
  · have e : Kp (topSize s = -1) := ⟨by unfold topSize; rw [List.eq_nil_of_length_eq_zero h0]; rfl⟩
    clear h0
    go_wp2
    go_ret
    exact ⟨by rw [e.out]; rfl, hb⟩
  · obtain ⟨r, f, hr, hf, hl, hsz, _⟩ := HS.out.top hm
    obtain ⟨A, c, hv, hA⟩ := HS.out.fshape
    obtain ⟨g', rfl⟩ := hA (by omega)
    subst hv
    have eg : g' = g := by simpa [Value.ownBlock] using hg
    subst eg
    obtain ⟨_, q, _⟩ := (HS.out.below hb).recc m r hr
    have e : Kp (topSize s = r.size) := ⟨by unfold topSize; rw [hl, hsz]⟩
    clear hm hr hf hl hsz hg hA
    go_wp2
    go_ret
    exact ⟨by rw [e.out]; rfl, hb⟩

theorem IsSt.ff {w : World} {p : Nat} {fv sv : Value} {s : StM} {rs : List Rec} (h : IsSt w p fv sv s rs) {w0 : World} (hp : w0.heap.size ≤ p) (hf : Fresh w0 fv) : ∀ k, FF p fv k → w0.heap.size ≤ k := by
  rintro k (rfl | hk)
  · exact hp
  · exact hf k hk
set_option maxRecDepth 100000 in
set_option maxHeartbeats 2000000 in
theorem known_any (w : World) : Calls Try.prog 15 #[] w fun e w' => e = .returned (.bool true) ∧ Below w.heap.size w w' := by
  go_enter Try.func15, Try.ntmps15
  go_wp2_with fail
  refine (new_any w).mono ?_
  rintro e w1 ⟨p, fv, rs, hp, hfr, rfl, hs1, hb1⟩
  have HS1 := Kp.mk hs1
  have HP := Kp.mk hp
  have HF := Kp.mk hfr
  have HB1 := Kp.mk hb1
  clear hp hfr hs1 hb1
  go_wp2_with fail
  refine (setX_any w1 p fv _ newSt rs 0 81 HS1.out (by decide)).mono ?_
  rintro e w2 ⟨rfl, hs2, hc2⟩
  have HS2 := Kp.mk hs2
  have HB2 := Kp.mk (chg_below HB1.out hc2 (fun g hg => by rw [hg]; exact HP.out) HB1.out.size)
  clear hs2 hc2 HS1 HB1
  go_wp2_with fail
  refine (call_any w2 p fv _ _ rs HS2.out 7 (by decide) (by decide) (by decide)).mono ?_
  rintro e w3 ⟨fv3, rs3, rfl, hs3, hsm3, hc3⟩
  have HS3 := Kp.mk hs3
  have HB3 := Kp.mk (chg_below HB2.out hc3 (HS2.out.ff HP.out HF.out) HB2.out.size)
  clear hs3 hc3 hsm3 HS2 HB2
  go_wp2_with fail
  refine (x_any w3 p fv3 _ _ rs3 0 HS3.out).mono ?_
  rintro e w4 ⟨rfl, hb4⟩
  have HS4 := Kp.mk (HS3.out.below hb4)
  have HB4 := Kp.mk (bstep HB3.out HB3.out.size hb4)
  clear hb4 HS3 HB3
  go_wp2_with fail
  refine (depth_any w4 p fv3 _ _ rs3 HS4.out).mono ?_
  rintro e w5 ⟨rfl, rfl⟩
  go_wp2_with fail
  refine (size_any w4 p fv3 _ _ rs3 HS4.out (by decide)).mono ?_
  rintro e w6 ⟨rfl, hb6⟩
  go_wp2
  go_ret
  exact ⟨rfl, bstep HB4.out HB4.out.size hb6⟩

end Go.Proofs.Ythdfmopbihpcoaa
