/- What each of package frame answers: the places of all registers and slots, in order; for at most 1000 frames and 10^6 slots. -/
import Derived.Test.YthdfmopbihpcoaaT
namespace Go.Proofs.Ythdfmopbihpcoaa
open Go.RowKit

/-- A place: block, offset. -/
abbrev Plc := Nat × Nat
def ePt : El Plc := ⟨1, fun a => [.pointer (some ⟨a.1, a.2, none⟩)], fun _ => rfl, fun _ u h => by simp at h; subst h; rfl, by decide⟩
theorem T75 : SlT Try.prog 75 77 ePt 8 := SlT.mk' (k := 1) (z := .pointer none) Try.underlying75 (by kernel_rfl) rfl rfl
def row2 (b n : Nat) : List Plc := (List.range n).map fun k => (b, k * 2)
def places (p gs : Nat) (s : StM) : List Plc := row2 p 16 ++ row2 gs (allY s.fs).length
theorem row2_succ (b n : Nat) : row2 b (n + 1) = row2 b n ++ [(b, n * 2)] := by unfold row2; rw [List.range_succ, List.map_append]; rfl
theorem row2_len (b n : Nat) : (row2 b n).length = n := by simp [row2]
def Lst (w wr : World) (v : Value) (l : List Plc) : Prop := Own wr 77 ePt v l ∧ Below w.heap.size w wr ∧ Fresh w v
def EachPost (w : World) (p gs : Nat) (s : StM) (e : Ending) (w' : World) : Prop := ∃ v, e = .returned v ∧ Lst w w' v (places p gs s)
theorem Lst.app {w wr w1 : World} {A' : Option Addr} {n' c' : Nat} {v : Value} {l : List Plc} {y : Plc} (h : Lst w wr v l) (a1 : Own w1 77 ePt (.slice A' n' c') (l ++ [y])) (a2 : Chg (fun g => v.ownBlock = some g) wr w1)
    (a3 : (Value.slice A' n' c').ownBlock = v.ownBlock ∨ ∃ g, (Value.slice A' n' c').ownBlock = some g ∧ wr.heap.size ≤ g) : Lst w w1 (.slice A' n' c') (l ++ [y]) :=
  ⟨a1, chg_below h.2.1 a2 (fun g hg => h.2.2 g hg) h.2.1.size, h.2.2.app h.2.1.size a3⟩
set_option maxHeartbeats 4000000 in
theorem each_any (w : World) (p : Nat) (fv sv : Value) (s : StM) (rs : List Rec) (gs : Nat) (hs : IsSt w p fv sv s rs) (hg : ∀ g, sv.ownBlock = some g → g = gs) (hn : s.fs.length ≤ 1000) (hny : (allY s.fs).length ≤ 1000000) :
    Calls Try.prog 41 #[.pointer (some ⟨p, 0, none⟩)] w (EachPost w p gs s) := by
  obtain ⟨Af, cf, hfv, hf1⟩ := hs.fshape
  have HS := Kp.mk hs
  have HG := Kp.mk hg
  have HF1 := Kp.mk hf1
  subst hfv
  clear hs hg hf1
  go_enter Try.func41, Try.ntmps41
  go_wp2
  go_loopw [3, 8] (fun l i wr => ∃ (j : Nat) (A : Option Addr) (c : Nat), j ≤ 16 ∧ i = .int .i64 j ∧ l = .slice A j c ∧ Kp (Lst w wr l (row2 p j))) (fun _ i _ => 16 - (intOf i).toNat)
  case atStart => exact ⟨0, none, 0, by omega, rfl, rfl, ⟨⟨Own.nil _ _ _, Below.refl _ _, Fresh.nil _ _ _⟩⟩⟩
  case round =>
    obtain ⟨j, A, c, hj, rfl, rfl, hl⟩ := hrel
    by_cases hlt : j < 16
    · have hlen := row2_len p j
      have ho : Own wr 77 ePt (.slice A j c) (row2 p j) := hl.out.1
      have hj0 : (0 : Int) ≤ (j : Int) := by omega
      have hj1 : (j : Int) < 16 := by omega
      have hjd : decide ((j : Int) < 16) = true := by simpa using hj1
      go_wp2_with (at_builtin; refine app1_ev T75 (p, j * 2) rfl _ _ rfl ho rfl rfl rfl (by simp) rfl (by rw [row2_len]; omega) (by rw [row2_len]; omega) ?_; intro A' n' c' w1 a0 a1 a2 a3)
      go_roundw
      case rel => exact ⟨j + 1, A', c', by omega, by go_num, by rw [a0.out, row2_len], ⟨by rw [row2_succ]; exact hl.out.app a1 a2 a3⟩⟩
      case measure => simp [intOf]; omega
    · have hjd : decide ((j : Int) < 16) = false := by simp; omega
      have hjf : ¬ ((j : Int) < 16) := by omega
      have hl16 : Kp (Lst w wr (.slice A j c) (row2 p 16)) := ⟨by have h1 := hl.out; rw [show row2 p j = row2 p 16 by rw [show j = 16 by omega]] at h1; exact h1⟩
      have HJ : Kp (j = 16) := ⟨by omega⟩
      have HS1 := Kp.mk (HS.out.below hl.out.2.1)
      have q32 := HS1.out.cf
      go_wp2
      go_loopw [3, 25] (fun l i wr => ∃ (j N : Nat) (A : Option Addr) (c : Nat), j ≤ s.fs.length ∧ i = .int .i64 j ∧ l = .slice A N c ∧ Kp (N = 16 + (allY (s.fs.take j)).length) ∧ Kp (Lst w wr l (row2 p 16 ++ row2 gs (allY (s.fs.take j)).length))) (fun _ i _ => s.fs.length - (intOf i).toNat)
      case atStart => exact ⟨0, j, A, c, by omega, rfl, rfl, ⟨by rw [HJ.out]; simp [allY]⟩, ⟨by simpa [allY, row2] using hl16.out⟩⟩
      case round =>
        clear q32 hl HS1 hjd hjf HJ hl16
        obtain ⟨j2, N, A, c, hj, rfl, rfl, hN, hl⟩ := hrel
        by_cases hlt : j2 < s.fs.length
        · obtain ⟨gf, rfl⟩ := HF1.out (by omega)
          have HS1 := Kp.mk (HS.out.below hl.out.2.1)
          have hlr : j2 < rs.length := by rw [HS.out.cut.1]; exact hlt
          have hf : s.fs[j2]? = some s.fs[j2] := List.getElem?_eq_getElem hlt
          have hr : rs[j2]? = some rs[j2] := List.getElem?_eq_getElem hlr
          obtain ⟨k1, k2, k3, k4⟩ := HS.out.cut.2 j2 _ _ hr hf
          obtain ⟨q0, q1, q2⟩ := HS1.out.recc j2 _ hr
          have j0 : (0 : Int) ≤ (j2 : Int) := by omega
          have j1 : (j2 : Int) < (s.fs.length : Int) := by omega
          obtain ⟨f, hfj⟩ : ∃ f, f = s.fs[j2] := ⟨_, rfl⟩
          obtain ⟨r, hrj⟩ : ∃ r, r = rs[j2] := ⟨_, rfl⟩
          have hat := allY_take s.fs j2 hlt
          have hle := allY_pre s.fs (j2 + 1)
          rw [← hfj] at k3 k4 hat
          rw [← hrj] at k3 k4 q0 q1 q2
          rw [k3] at q2
          obtain ⟨a, ha⟩ : ∃ a, a = (allY (s.fs.take j2)).length := ⟨_, rfl⟩
          rw [← ha] at k4 hN hl
          obtain ⟨n, hnn⟩ : ∃ n, n = f.cl.length := ⟨_, rfl⟩
          rw [← hnn] at q2
          have hlen : (allY (s.fs.take (j2 + 1))).length = a + n := by rw [hat, List.length_append, ← ha, ← hnn]
          have hbd : a + n ≤ 1000000 := by omega
          have hN' := hN.out
          have HK4 : Kp (0 < n → r.A = some ⟨gs, a * 2, none⟩) := ⟨fun h => by
            obtain ⟨g, h1, h2⟩ := k4 (fun e => by rw [e] at hnn; simp at hnn; omega)
            rw [HG.out g h1] at h2
            exact h2⟩
          have HLEN := Kp.mk hlen
          clear hf hr k1 k2 k3 k4 hat hle hfj hrj ha hnn hlen
          go_wp2
          have B0 := blk_new wr (.cells #[.int .i64 r.rt, .int .i64 r.size, .slice r.A n r.c] 54)
          obtain ⟨q, hq⟩ : ∃ q, q = wr.heap.size := ⟨_, rfl⟩
          rw [← hq] at B0 ⊢
          clear hq
          go_loopw [3, 32] (fun l i wr' => ∃ (k N' : Nat) (A' : Option Addr) (c' : Nat), k ≤ n ∧ i = .int .i64 k ∧ l = .slice A' N' c' ∧ Kp (N' = 16 + (a + k)) ∧ Kp (Lst w wr' l (row2 p 16 ++ row2 gs (a + k))) ∧ wr'.heap[q]? = some (.cells #[.int .i64 r.rt, .int .i64 r.size, .slice r.A n r.c] 54 (0, 0))) (fun _ i _ => n - (intOf i).toNat)
          case atStart => exact ⟨0, N, A, c, Nat.zero_le _, rfl, rfl, ⟨hN'⟩, ⟨⟨hl.out.1.alloc _, hl.out.2.1.alloc hl.out.2.1.size _, hl.out.2.2⟩⟩, B0⟩
          case round =>
            clear q0 q1 q2 hl hN hN' B0 HS1
            obtain ⟨k, N', A', c', hk, rfl, rfl, hN, hl, hb⟩ := hrel
            by_cases hlt2 : k < n
            · have hA := HK4.out (by omega)
              have q2 : wr.cell? ⟨q, 2, none⟩ = some (.slice r.A n r.c) := blk_c hb 2
              rw [hA] at q2
              have k0 : (0 : Int) ≤ (k : Int) := by omega
              have k1 : (k : Int) < (n : Int) := by omega
              have ho : Own wr 77 ePt (.slice A' N' c') (row2 p 16 ++ row2 gs (a + k)) := hl.out.1
              have hlr : (row2 p 16 ++ row2 gs (a + k)).length = N' := by rw [List.length_append, row2_len, row2_len, hN.out]
              have hNb : N' ≤ 1000016 := by have := hN.out; omega
              have HA := Kp.mk hA
              clear hA
              go_wp2_with (at_builtin; refine app1_ev T75 (gs, a * 2 + k * 2) rfl _ _ rfl ho rfl rfl rfl (by simp) rfl (by rw [hlr]; omega) (by rw [hlr]; omega) ?_; intro A2 n2 c2 w1 a0 a1 a2 a3)
              go_roundw
              case rel => 
                have hl2 := hl.out.app a1 a2 a3
                rw [show a * 2 + k * 2 = (a + k) * 2 by omega, List.append_assoc, ← row2_succ] at hl2
                exact ⟨k + 1, n2, A2, c2, by omega, by go_num, rfl, ⟨by rw [a0.out, hlr, hN.out]; omega⟩, ⟨hl2⟩, a2.at hb (ho.ne hb (by decide))⟩
              case measure => simp [intOf]; omega
            · obtain rfl : k = n := by omega
              go_wp2
              go_roundw
              case rel => exact ⟨j2 + 1, N', A', c', by omega, by go_num, rfl, ⟨by rw [HLEN.out]; exact hN.out⟩, ⟨by rw [HLEN.out]; exact hl.out⟩⟩
              case measure => simp [intOf]; omega
        · obtain rfl : j2 = s.fs.length := by omega
          go_wp2
          go_ret
          refine ⟨_, rfl, ?_⟩
          have h1 := hl.out
          rw [List.take_length] at h1
          exact h1
end Go.Proofs.Ythdfmopbihpcoaa
