/- What places of parleyref21 answers: the places of all registers and slots, in order; for at most 1000 frames and 10^6 slots. -/
import Derived.Test.YthdfmopbihpcoaaOp
namespace Go.Proofs.Ythdfmopbihpcoaa
open Go.RowKit
variable {B : Bd}

theorem T78 : SlT Try.prog 78 80 ePt 8 := SlT.mk' (k := 1) (z := .pointer none) Try.underlying78 (by kernel_rfl) rfl rfl
def RR.b (r : RR) : Nat := r.v.ownBlock.getD 0
def rY (rr : List RR) : List Plc := rr.flatMap fun r => row2 r.b r.n
def rplaces (q : Nat) (rr : List RR) : List Plc := row2 q 16 ++ rY rr
theorem rY_cons (r : RR) (rr : List RR) : rY (r :: rr) = row2 r.b r.n ++ rY rr := by simp [rY]
theorem rY_append (a b : List RR) : rY (a ++ b) = rY a ++ rY b := by simp [rY]
theorem rY_take (rr : List RR) (j : Nat) (hj : j < rr.length) : rY (rr.take (j + 1)) = rY (rr.take j) ++ row2 rr[j].b rr[j].n := by
  rw [List.take_succ_eq_append_getElem hj, rY_append]
  simp [rY]
theorem rY_pre (rr : List RR) (j : Nat) : (rY (rr.take j)).length ≤ (rY rr).length := by
  have h : rY rr = rY (rr.take j) ++ rY (rr.drop j) := by rw [← rY_append, List.take_append_drop]
  rw [h, List.length_append]; omega
theorem rY_len (rr : List RR) (fs : List Fr) (hl : rr.length = fs.length) (h : ∀ (k : Nat) (r : RR) (f : Fr), rr[k]? = some r → fs[k]? = some f → r.n = f.cl.length) : (rY rr).length = (allY fs).length := by
  induction rr generalizing fs with
  | nil => cases fs with | nil => rfl | cons f fs => simp at hl
  | cons r rr ih =>
    cases fs with
    | nil => simp at hl
    | cons f fs =>
      rw [rY_cons, allY_cons, List.length_append, List.length_append, row2_len, h 0 r f rfl rfl, ih fs (by simpa using hl) (fun k r f hr hf => h (k + 1) r f hr hf)]
theorem IsRf.rn {w : World} {q : Nat} {fv : Value} {s : StM} {rr : List RR} (h : IsRf B w q fv s rr) (k : Nat) (r : RR) (f : Fr) (hr : rr[k]? = some r) (hf : s.fs[k]? = some f) : r.n = f.cl.length ∧ (0 < r.n → r.A = some ⟨r.b, 0, none⟩) := by
  obtain ⟨_, _, ho⟩ := h.each k r f hr hf
  obtain ⟨A, c, hv, _, _, h0, h1⟩ := ho.shape
  have hn : r.n = f.cl.length := by unfold RR.v at hv; injection hv
  have hA : r.A = A := by unfold RR.v at hv; injection hv
  refine ⟨hn, fun hp => ?_⟩
  unfold RR.b RR.v
  rw [hA]
  cases hA2 : A with
  | none => have := (h0 hA2).1; rw [this] at hn; simp at hn; omega
  | some x => obtain ⟨g, rfl⟩ := h1 x hA2; rfl
def RLst (w wr : World) (v : Value) (l : List Plc) : Prop := Own wr 80 ePt v l ∧ Below w.heap.size w wr ∧ Fresh w v
theorem RLst.app {w wr w1 : World} {A' : Option Addr} {n' c' : Nat} {v : Value} {l : List Plc} {y : Plc} (h : RLst w wr v l) (a1 : Own w1 80 ePt (.slice A' n' c') (l ++ [y])) (a2 : Chg (fun g => v.ownBlock = some g) wr w1)
    (a3 : (Value.slice A' n' c').ownBlock = v.ownBlock ∨ ∃ g, (Value.slice A' n' c').ownBlock = some g ∧ wr.heap.size ≤ g) : RLst w w1 (.slice A' n' c') (l ++ [y]) :=
  ⟨a1, chg_below h.2.1 a2 (fun g hg => h.2.2 g hg) h.2.1.size, h.2.2.app h.2.1.size a3⟩
def PlacesPost (w : World) (q : Nat) (rr : List RR) (e : Ending) (w' : World) : Prop := ∃ v, e = .returned v ∧ RLst w w' v (rplaces q rr)
set_option maxHeartbeats 4000000 in
theorem rplaces_any (w : World) (q : Nat) (fv : Value) (s : StM) (rr : List RR) (hs : IsRf B w q fv s rr) (hn : s.fs.length ≤ 1000) (hny : (allY s.fs).length ≤ 1000000) :
    Calls Try.prog 42 #[.pointer (some ⟨q, 0, none⟩)] w (PlacesPost w q rr) := by
  obtain ⟨Af, cf, hfv, hf1⟩ := hs.fshape
  have HS := Kp.mk hs
  have HF1 := Kp.mk hf1
  subst hfv
  have hry : (rY rr).length ≤ 1000000 := by rw [rY_len rr s.fs hs.len (fun k r f hr hf => (hs.rn k r f hr hf).1)]; exact hny
  clear hs hf1
  go_enter Try.func42, Try.ntmps42
  go_wp2
  go_loopw [3, 4] (fun l i wr => ∃ (j : Nat) (A : Option Addr) (c : Nat), j ≤ 16 ∧ i = .int .i64 j ∧ l = .slice A j c ∧ Kp (RLst w wr l (row2 q j))) (fun _ i _ => 16 - (intOf i).toNat)
  case atStart => exact ⟨0, none, 0, by omega, rfl, rfl, ⟨⟨Own.nil _ _ _, Below.refl _ _, Fresh.nil _ _ _⟩⟩⟩
  case round =>
    obtain ⟨j, A, c, hj, rfl, rfl, hl⟩ := hrel
    by_cases hlt : j < 16
    · have ho : Own wr 80 ePt (.slice A j c) (row2 q j) := hl.out.1
      have hj0 : (0 : Int) ≤ (j : Int) := by omega
      have hj1 : (j : Int) < 16 := by omega
      have hjd : decide ((j : Int) < 16) = true := by simpa using hj1
      go_wp2_with (at_builtin; refine app1_ev T78 (q, j * 2) rfl _ _ rfl ho rfl rfl rfl (by simp) rfl (by rw [row2_len]; omega) (by rw [row2_len]; omega) ?_; intro A' n' c' w1 a0 a1 a2 a3)
      go_roundw
      case rel => exact ⟨j + 1, A', c', by omega, by go_num, by rw [a0.out, row2_len], ⟨by rw [row2_succ]; exact hl.out.app a1 a2 a3⟩⟩
      case measure => simp [intOf]; omega
    · have hjd : decide ((j : Int) < 16) = false := by simp; omega
      have hjf : ¬ ((j : Int) < 16) := by omega
      have hl16 : Kp (RLst w wr (.slice A j c) (row2 q 16)) := ⟨by have h1 := hl.out; rw [show row2 q j = row2 q 16 by rw [show j = 16 by omega]] at h1; exact h1⟩
      have HJ : Kp (j = 16) := ⟨by omega⟩
      go_wp2
      go_loopw [3, 5] (fun l i wr => ∃ (j N : Nat) (A : Option Addr) (c : Nat), j ≤ s.fs.length ∧ i = .int .i64 j ∧ l = .slice A N c ∧ Kp (N = 16 + (rY (rr.take j)).length) ∧ Kp (RLst w wr l (row2 q 16 ++ rY (rr.take j)))) (fun _ i _ => s.fs.length - (intOf i).toNat)
      case atStart => exact ⟨0, j, A, c, by omega, rfl, rfl, ⟨by rw [HJ.out]; simp [rY]⟩, ⟨by simpa [rY] using hl16.out⟩⟩
      case round =>
        clear hl hjd hjf HJ hl16
        obtain ⟨j2, N, A, c, hj, rfl, rfl, hN, hl⟩ := hrel
        have HS1 := Kp.mk (HS.out.below hl.out.2.1)
        have q32 := HS1.out.cf
        by_cases hlt : j2 < s.fs.length
        · obtain ⟨gf, rfl⟩ := HF1.out (by omega)
          have hlr : j2 < rr.length := by rw [HS.out.len]; exact hlt
          have hr : rr[j2]? = some rr[j2] := List.getElem?_eq_getElem hlr
          have hf : s.fs[j2]? = some s.fs[j2] := List.getElem?_eq_getElem hlt
          have hrA := (HS.out.rn j2 _ _ hr hf).2
          obtain ⟨_, _, q2⟩ := HS1.out.recc j2 _ hr
          have j0 : (0 : Int) ≤ (j2 : Int) := by omega
          have j1 : (j2 : Int) < (s.fs.length : Int) := by omega
          have hat := rY_take rr j2 hlr
          have hle := rY_pre rr (j2 + 1)
          obtain ⟨r, hrj⟩ : ∃ r, r = rr[j2] := ⟨_, rfl⟩
          rw [← hrj] at hat hrA q2 hr
          obtain ⟨a, ha⟩ : ∃ a, a = (rY (rr.take j2)).length := ⟨_, rfl⟩
          rw [← ha] at hN
          have hbd : a + r.n ≤ 1000000 := by rw [hat, List.length_append, row2_len, ← ha] at hle; omega
          have HAT := Kp.mk hat
          have HR := Kp.mk hr
          have HA := Kp.mk ha
          have HRA := Kp.mk hrA
          have hN' := hN.out
          clear hf hr hat hle hrj ha hrA
          go_wp2
          go_loopw [3, 6] (fun l i wr => ∃ (k N' : Nat) (A' : Option Addr) (c' : Nat), k ≤ r.n ∧ i = .int .i64 k ∧ l = .slice A' N' c' ∧ Kp (N' = 16 + (a + k)) ∧ Kp (RLst w wr l (row2 q 16 ++ rY (rr.take j2) ++ row2 r.b k))) (fun _ i _ => r.n - (intOf i).toNat)
          case atStart => exact ⟨0, N, A, c, Nat.zero_le _, rfl, rfl, ⟨hN'⟩, ⟨by simpa [row2] using hl.out⟩⟩
          case round =>
            clear q2 q32 hl hN hN' HS1
            obtain ⟨k, N', A', c', hk, rfl, rfl, hN, hl⟩ := hrel
            have HS2 := Kp.mk (HS.out.below hl.out.2.1)
            have q32 := HS2.out.cf
            obtain ⟨_, _, q2⟩ := HS2.out.recc j2 r HR.out
            by_cases hlt2 : k < r.n
            · have hA := HRA.out (by omega)
              rw [hA] at q2
              have k0 : (0 : Int) ≤ (k : Int) := by omega
              have k1 : (k : Int) < (r.n : Int) := by omega
              have ho : Own wr 80 ePt (.slice A' N' c') (row2 q 16 ++ rY (rr.take j2) ++ row2 r.b k) := hl.out.1
              have hlr : (row2 q 16 ++ rY (rr.take j2) ++ row2 r.b k).length = N' := by rw [List.length_append, List.length_append, row2_len, row2_len, ← HA.out, hN.out]; omega
              have hNb : N' ≤ 1000016 := by have := hN.out; omega
              have HA2 := Kp.mk hA
              clear hA
              go_wp2_with (at_builtin; refine app1_ev T78 (r.b, k * 2) rfl _ _ rfl ho rfl rfl rfl (by simp) rfl (by rw [hlr]; omega) (by rw [hlr]; omega) ?_; intro A2 n2 c2 w1 a0 a1 a2 a3)
              go_roundw
              case rel =>
                have hl2 := hl.out.app a1 a2 a3
                rw [List.append_assoc, ← row2_succ] at hl2
                exact ⟨k + 1, n2, A2, c2, by omega, by go_num, rfl, ⟨by rw [a0.out, hlr, hN.out]; omega⟩, ⟨hl2⟩⟩
              case measure => simp [intOf]; omega
            · have hkd : decide ((k : Int) < (r.n : Int)) = false := by simp; omega
              have hkf : ¬ ((k : Int) < (r.n : Int)) := by omega
              have HK : Kp (k = r.n) := ⟨by omega⟩
              go_wp2
              go_roundw
              case rel => exact ⟨j2 + 1, N', A', c', by omega, by go_num, rfl, ⟨by rw [HAT.out, List.length_append, row2_len, ← HA.out, hN.out, HK.out]⟩, ⟨by rw [HAT.out, ← List.append_assoc, ← HK.out]; exact hl.out⟩⟩
              case measure => simp [intOf]; omega
        · have hd : decide ((j2 : Int) < (s.fs.length : Int)) = false := by simp; omega
          have hdf : ¬ ((j2 : Int) < (s.fs.length : Int)) := by omega
          have HJ2 : Kp (j2 = rr.length) := ⟨by rw [HS.out.len]; omega⟩
          go_wp2
          go_ret
          refine ⟨_, rfl, ?_⟩
          have h1 := hl.out
          rw [HJ2.out, List.take_length] at h1
          exact h1
end Go.Proofs.Ythdfmopbihpcoaa
