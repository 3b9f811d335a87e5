/- Opens the lists of operations and of words of the package's laws; no condition. -/
import Derived.Test.YthdfmopbihpcoaaRg
import Derived.Test.YthdfmopbihpcoaaArgs
import Derived.ProofKit
import Derived.OpenShut
import Derived.ShutString
namespace Go.Proofs.Ythdfmopbihpcoaa
open Go.ChangeShapes Go.WideShapes Go.ChangeAt Go.RowKit Go.Deep

theorem bytes31 : Try.prog.bytesOf 31 = 48 := by kernel_rfl
theorem bytes29 : Try.prog.bytesOf 29 = 8 := by kernel_rfl

section
variable {H : Type} {enc : TypeId × Value → H} {w : World} {base : Nat} {spare : Nat → Bool} {held : Bool}
theorem openW {fuel : Nat} {A : Option Addr} {len cap : Nat} {x : DataW H × List MemPlace} (h : DataW.trod enc Try.prog w base spare held fuel 23 [.slice A len cap] = some x) :
    ∃ l : List Int, l.length = len ∧ (∀ y ∈ l, True) ∧ Src w eU64 A cap l ∧ len ≤ maxLen ∧ (x.1 = .nil ∧ len = 0 ∨ ∃ el sp, x.1 = .slice el sp ∧ el.length = len) := by
  refine src_ones eU64 (fun _ => True) Try.underlying23 (by kernel_rfl) rfl (fun v n y hy => ?_) h
  obtain ⟨s0, e0, _, _⟩ := DataW.trod_int Try.underlying29 hy
  cases e0
  exact ⟨s0, trivial, rfl⟩
/-- The words that an operation brings. -/
def Brings (w : World) (o : OpM) : Prop := ∃ ys : List Int, ys.length = o.m ∧ Src w eU64 o.A o.c ys
theorem openO {fuel : Nat} {A : Option Addr} {len cap : Nat} {x : DataW H × List MemPlace} (h : DataW.trod enc Try.prog w base spare held fuel 22 [.slice A len cap] = some x) :
    ∃ l : List OpM, l.length = len ∧ (∀ y ∈ l, Brings w y) ∧ Src w eOp A cap l ∧ len ≤ maxLen ∧ (x.1 = .nil ∧ len = 0 ∨ ∃ el sp, x.1 = .slice el sp ∧ el.length = len) := by
  refine src_structs eOp (Brings w) Try.underlying22 Try.underlying31 (by kernel_rfl) (by kernel_rfl) rfl (fun at_ hf => ?_) h
  obtain ⟨v0, n0, y0, a0, t0⟩ := hf 0 _ rfl
  obtain ⟨v1, n1, y1, a1, t1⟩ := hf 1 _ rfl
  obtain ⟨v2, n2, y2, a2, t2⟩ := hf 2 _ rfl
  obtain ⟨v3, n3, y3, a3, t3⟩ := hf 3 _ rfl
  obtain ⟨s0, e0, _, _⟩ := DataW.trod_int Try.underlying3 t0
  obtain ⟨s1, e1, _, _⟩ := DataW.trod_int Try.underlying3 t1
  obtain ⟨s2, e2, _, _⟩ := DataW.trod_int Try.underlying29 t2
  cases e0
  cases e1
  cases e2
  obtain ⟨A3, m3, c3, rfl⟩ : ∃ A3 m3 c3, v3 = .slice A3 m3 c3 := by
    rcases open_slice Try.underlying23 t3 with ⟨hcs, _⟩ | ⟨a, len', cap', _, _, _, _, hcs, _⟩
    · simp only [List.cons.injEq, and_true] at hcs; exact ⟨_, _, _, hcs⟩
    · simp only [List.cons.injEq, and_true] at hcs; exact ⟨_, _, _, hcs⟩
  obtain ⟨ys, hl, _, hs, _⟩ := openW t3
  refine ⟨⟨s0, s1, s2, A3, m3, c3⟩, ⟨ys, hl, hs⟩, fun j u hu => ?_⟩
  match j, hu with
  | 0, hu => cases hu; exact a0
  | 1, hu => cases hu; exact a1
  | 2, hu => cases hu; exact a2
  | 3, hu => cases hu; exact a3
end
end Go.Proofs.Ythdfmopbihpcoaa
