/- Opens the lists of children and of operations of the package's laws; no condition. -/
import Derived.Test.YtiedfckgkjcheaaB
import Derived.Test.YtiedfckgkjcheaaArgs
import Derived.ProofKit
import Derived.OpenShut
import Derived.ShutString
namespace Go.Proofs.Ytiedfckgkjcheaa
open Go.ChangeShapes Go.WideShapes Go.ChangeAt Go.RowKit

theorem bytes49 : Try.prog.bytesOf 49 = 24 := by kernel_rfl
theorem bytes39 : Try.prog.bytesOf 39 = 40 := by kernel_rfl

section
variable {H : Type} {enc : TypeId × Value → H} {w : World} {base : Nat} {spare : Nat → Bool} {held : Bool}
theorem openL {fuel : Nat} {A : Option Addr} {len cap : Nat} {x : DataW H × List MemPlace} (h : DataW.trod enc Try.prog w base spare held fuel 26 [.slice A len cap] = some x) :
    ∃ l : List CS, l.length = len ∧ (∀ y ∈ l, True) ∧ Src w eCS A cap l ∧ len ≤ maxLen ∧ (x.1 = .nil ∧ len = 0 ∨ ∃ el sp, x.1 = .slice el sp ∧ el.length = len) := by
  refine src_structs eCS (fun _ => True) Try.underlying26 Try.underlying49 (by kernel_rfl) (by kernel_rfl) rfl (fun at_ hf => ?_) h
  obtain ⟨v0, n0, y0, a0, t0⟩ := hf 0 _ rfl
  obtain ⟨v1, n1, y1, a1, t1⟩ := hf 1 _ rfl
  obtain ⟨s0, e0, _, _⟩ := DataW.trod_string Try.underlying9 t0
  obtain ⟨s1, e1, _, _⟩ := DataW.trod_int Try.underlying3 t1
  cases e0
  cases e1
  refine ⟨⟨s0, s1⟩, trivial, fun j u hu => ?_⟩
  match j, hu with
  | 0, hu => cases hu; exact a0
  | 1, hu => cases hu; exact a1
theorem openO {fuel : Nat} {A : Option Addr} {len cap : Nat} {x : DataW H × List MemPlace} (h : DataW.trod enc Try.prog w base spare held fuel 35 [.slice A len cap] = some x) :
    ∃ l : List OpM, l.length = len ∧ (∀ y ∈ l, (Lit.int .i64 y.tick).wf = true) ∧ Src w eOp A cap l ∧ len ≤ maxLen ∧ (x.1 = .nil ∧ len = 0 ∨ ∃ el sp, x.1 = .slice el sp ∧ el.length = len) := by
  refine src_structs eOp (fun y => (Lit.int .i64 y.tick).wf = true) Try.underlying35 Try.underlying39 (by kernel_rfl) (by kernel_rfl) rfl (fun at_ hf => ?_) h
  obtain ⟨v0, n0, y0, a0, t0⟩ := hf 0 _ rfl
  obtain ⟨v1, n1, y1, a1, t1⟩ := hf 1 _ rfl
  obtain ⟨v2, n2, y2, a2, t2⟩ := hf 2 _ rfl
  obtain ⟨v3, n3, y3, a3, t3⟩ := hf 3 _ rfl
  obtain ⟨s0, e0, _, _⟩ := DataW.trod_int Try.underlying3 t0
  obtain ⟨s1, e1, _, _⟩ := DataW.trod_string Try.underlying9 t1
  obtain ⟨s2, e2, _⟩ := DataW.trod_bool Try.underlying4 t2
  obtain ⟨s3, e3, _, hw⟩ := DataW.trod_int Try.underlying2 t3
  cases e0
  cases e1
  cases e2
  cases e3
  refine ⟨⟨s0, s1, s2, s3⟩, hw, fun j u hu => ?_⟩
  match j, hu with
  | 0, hu => cases hu; exact a0
  | 1, hu => cases hu; exact a1
  | 2, hu => cases hu; exact a2
  | 3, hu => cases hu; exact a3
end


end Go.Proofs.Ytiedfckgkjcheaa
