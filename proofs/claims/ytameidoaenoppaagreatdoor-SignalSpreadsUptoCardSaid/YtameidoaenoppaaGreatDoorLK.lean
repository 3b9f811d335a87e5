/- The keys of package links's maps; no condition. -/
import Derived.Test.YtameidoaenoppaaGreatDoorProg
import Derived.Test.YtameidoaenoppaaGreatDoorLM
import Derived.DeepKeys4
namespace Go.Proofs.YtameidoaenoppaaGreatDoor
open Go.RowKit

theorem keyType77 : Tryz.prog.keyType 92 = true := by kernel_rfl
theorem cellsOf77 : Tryz.prog.cellsOf 92 = 2 := by kernel_rfl
theorem cellsOf2 : Tryz.prog.cellsOf 2 = 1 := by kernel_rfl
theorem laid77 : laidOutB Tryz.prog = true := by kernel_rfl
theorem row77 : (92 : TypeId) < Tryz.prog.types.size := of_decide_eq_true (by kernel_rfl)
theorem law77 : WideMaps.KeyLaw Tryz.prog 92 := deep_law_laid laid77 (m := 2) (by omega) row77 (by kernel_rfl) (by rw [Tryz.underlying92])
theorem size_pos : ∃ d, Tryz.prog.types.size = d + 1 := Nat.exists_eq_succ_of_ne_zero (Nat.ne_of_gt (Nat.lt_of_le_of_lt (Nat.zero_le _) row77))
theorem lit2 (d : Nat) (v : Value) : Tryz.prog.keyLits (d + 1) 2 [v] = (match v with | .int .i64 n => if (Lit.int .i64 n).wf = true then some [Lit.int .i64 n] else none | _ => none) := by
  unfold Program.keyLits
  rw [Tryz.underlying2]
  cases v with
  | int q n => cases q <;> simp
  | _ => rfl
theorem lit77 (d : Nat) (cs : List Value) : Tryz.prog.keyLits (d + 1) 92 cs = if cs.length = 2 then (([0, 1] : List Nat).mapM fun i => Tryz.prog.keyLits d 2 ((cs.drop i).take 1)).map List.flatten else none := by
  rw [Program.keyLits.eq_def]
  simp only [Tryz.underlying92, cellsOf77]
  simp [cellsOf2]
theorem key77 (d : Nat) (hd : Tryz.prog.types.size = d + 1) (c0 c1 : Value) : keyOf Tryz.prog 92 (.agg #[c0, c1]) = (match Tryz.prog.keyLits (d + 1) 2 [c0], Tryz.prog.keyLits (d + 1) 2 [c1] with | some l0, some l1 => some (.string (keyBytes (l0 ++ l1))) | _, _ => none) := by
  unfold keyOf
  rw [Tryz.underlying92, keyType77]
  have hf : Value.formed Tryz.prog 92 (.agg #[c0, c1]) = true := by simp [Value.formed, Tryz.underlying92, cellsOf77]
  simp only [hf, Bool.and_self, if_true]
  rw [hd, lit77 (d + 1)]
  cases h0 : Tryz.prog.keyLits (d + 1) 2 [c0] <;> cases h1 : Tryz.prog.keyLits (d + 1) 2 [c1] <;> simp [Value.cells, h0, h1]
theorem key77_inv {v : Value} {l : Lit} (h : keyOf Tryz.prog 92 v = some l) : ∃ c0 c1, v = .agg #[c0, c1] := by
  obtain ⟨d, hd⟩ := size_pos
  revert h
  unfold keyOf
  rw [Tryz.underlying92, keyType77, hd]
  simp only [lit77 (d + 1)]
  intro h
  by_cases hl : v.cells.toList.length = 2
  · clear h hd
    cases v with
    | agg cs =>
      obtain ⟨c⟩ := cs
      match c, hl with
      | [c0, c1], _ => exact ⟨c0, c1, rfl⟩
    | _ => simp [Value.cells] at hl
  · simp only [if_neg hl, Option.map_none, ite_self] at h
    cases h
def kPair (x : Int × Int) : Value := .agg #[.int .i64 x.1, .int .i64 x.2]
def lPair (x : Int × Int) : Lit := .string (keyBytes [.int .i64 x.1, .int .i64 x.2])
def okPair (x : Int × Int) : Prop := (Lit.int .i64 x.1).wf = true ∧ (Lit.int .i64 x.2).wf = true
theorem key_pair (x : Int × Int) (hx : okPair x) : keyOf Tryz.prog 92 (kPair x) = some (lPair x) := by
  unfold kPair lPair
  obtain ⟨d, hd⟩ := size_pos
  rw [key77 d hd, lit2, lit2]
  simp [hx.1, hx.2]
theorem inv_pair (v : Value) (l : Lit) (h : keyOf Tryz.prog 92 v = some l) : ∃ x, okPair x ∧ v = kPair x ∧ l = lPair x := by
  obtain ⟨c0, c1, rfl⟩ := key77_inv h
  obtain ⟨d, hd⟩ := size_pos
  rw [key77 d hd, lit2, lit2] at h
  cases c0 with
  | int q0 n0 =>
    cases c1 with
    | int q1 n1 =>
      cases q0 <;> (try (simp at h; done))
      cases q1 <;> (try (simp at h; done))
      by_cases w0 : (Lit.int .i64 n0).wf = true
      · by_cases w1 : (Lit.int .i64 n1).wf = true
        · simp [w0, w1] at h
          exact ⟨(n0, n1), ⟨w0, w1⟩, rfl, h.symm⟩
        · simp [w0, w1] at h
      · simp [w0] at h
    | _ => simp at h
  | _ => simp at h
theorem inj_pair (x y : Int × Int) (hx : okPair x) (hy : okPair y) (e : lPair x = lPair y) : x = y := by
  have h1 := key_pair x hx
  have h2 := key_pair y hy
  rw [e] at h1
  have h3 := law77.inj h1 h2
  unfold kPair at h3
  cases x; cases y
  simpa using h3
def K77 : KeyT Tryz.prog 92 (Int × Int) := ⟨kPair, lPair, okPair, Go.Maps.Keyed.of_law law77, key_pair, inv_pair, inj_pair⟩
def K2 : KeyT Tryz.prog 2 Int := keyInt Tryz.underlying2
theorem ok2 (x : Int) (h1 : -9223372036854775808 ≤ x) (h2 : x ≤ 9223372036854775807) : K2.ok x := by
  show (Lit.int .i64 x).wf = true
  simp [Lit.wf, IntKind.min, IntKind.max, IntKind.signed, IntKind.bits]
  omega
end Go.Proofs.YtameidoaenoppaaGreatDoor
