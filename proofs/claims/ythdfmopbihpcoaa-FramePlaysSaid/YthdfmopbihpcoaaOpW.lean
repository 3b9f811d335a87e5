/- Opens the list of operations with the reach of the words they bring; no condition. -/
import Derived.Test.YthdfmopbihpcoaaOp
import Derived.Test.YthdfmopbihpcoaaArgsW
namespace Go.Proofs.Ythdfmopbihpcoaa
open Go.ChangeShapes Go.WideShapes Go.ChangeAt Go.RowKit Go.Deep
section
variable {H : Type} {enc : TypeId × Value → H} {w : World} {base : Nat} {spare : Nat → Bool} {held : Bool}
/-- The words that an operation brings. -/
def BringsW (w : World) (o : OpM) : Prop := ∃ ys : List Int, ys.length = o.m ∧ Src w eU64 o.A o.c ys ∧ o.m * 8 ≤ reachBytes
theorem openOW {fuel : Nat} {A : Option Addr} {len cap : Nat} {x : DataW H × List MemPlace} (hwt : ∀ z ∈ x.1.weights Try.prog 22, z ≤ reachBytes) (h : DataW.trod enc Try.prog w base spare held fuel 22 [.slice A len cap] = some x) :
    ∃ l : List OpM, l.length = len ∧ (∀ y ∈ l, BringsW w y) ∧ Src w eOp A cap l ∧ len ≤ maxLen ∧ (x.1 = .nil ∧ len = 0 ∨ ∃ el sp, x.1 = .slice el sp ∧ el.length = len) := by
  refine src_structs_w eOp (BringsW w) Try.underlying22 Try.underlying31 (by kernel_rfl) (by kernel_rfl) rfl (fun at_ hf => ?_) hwt h
  obtain ⟨v0, n0, y0, a0, t0, _⟩ := hf 0 _ rfl
  obtain ⟨v1, n1, y1, a1, t1, _⟩ := hf 1 _ rfl
  obtain ⟨v2, n2, y2, a2, t2, _⟩ := hf 2 _ rfl
  obtain ⟨v3, n3, y3, a3, t3, hw3⟩ := hf 3 _ rfl
  obtain ⟨s0, e0, _, _⟩ := DataW.trod_int Try.underlying3 t0
  obtain ⟨s1, e1, _, _⟩ := DataW.trod_int Try.underlying3 t1
  obtain ⟨s2, e2, _, _⟩ := DataW.trod_int Try.underlying29 t2
  cases e0
  cases e1
  cases e2
  obtain ⟨A3, m3, c3, rfl⟩ : ∃ A3 m3 c3, v3 = .slice A3 m3 c3 := by
    rcases open_slice Try.underlying23 t3 with ⟨hcs, _⟩ | ⟨a, len', cap', _, _, _, _, hcs, _⟩
    · simp only [List.cons.injEq, and_true] at hcs; exact ⟨_, _, _, hcs⟩
    · simp only [List.cons.injEq, and_true] at hcs; exact ⟨_, _, _, hcs⟩
  obtain ⟨ys, hl, _, hs, _, hx3⟩ := openW t3
  have hm : m3 * 8 ≤ reachBytes := by
    rcases hx3 with ⟨_, rfl⟩ | ⟨el, sp, he, rfl⟩
    · simp
    · have h1 := hw3 ((el.length + sp.length) * Try.prog.bytesOf 29) (by rw [he]; show _ ∈ DataW.weights Try.prog 23 _; simp [DataW.weights, Try.underlying23])
      rw [bytes29] at h1
      exact Nat.le_trans (Nat.mul_le_mul_right _ (Nat.le_add_right _ _)) h1
  refine ⟨⟨s0, s1, s2, A3, m3, c3⟩, ⟨ys, hl, hs, hm⟩, fun j u hu => ?_⟩
  match j, hu with
  | 0, hu => cases hu; exact a0
  | 1, hu => cases hu; exact a1
  | 2, hu => cases hu; exact a2
  | 3, hu => cases hu; exact a3
end
end Go.Proofs.Ythdfmopbihpcoaa
