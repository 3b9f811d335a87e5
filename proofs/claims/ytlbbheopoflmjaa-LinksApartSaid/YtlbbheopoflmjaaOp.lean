/- Opens the list of calls of package links's law; no condition. -/
import Derived.Test.YtlbbheopoflmjaaLa
import Derived.Test.YtlbbheopoflmjaaArgs
import Derived.ProofKit
import Derived.OpenShut
import Derived.ShutString
namespace Go.Proofs.Ytlbbheopoflmjaa
open Go.ChangeShapes Go.WideShapes Go.ChangeAt Go.RowKit Go.Deep
theorem bytes23 : Try.prog.bytesOf 23 = 32 := by kernel_rfl
theorem in64_wf {n : Int} (h : (Lit.int .i64 n).wf = true) : In64 n := by
  simp [Lit.wf, IntKind.min, IntKind.max, IntKind.signed, IntKind.bits] at h
  exact ⟨by omega, by omega⟩
section
variable {H : Type} {enc : TypeId × Value → H} {w : World} {base : Nat} {spare : Nat → Bool} {held : Bool}
theorem openO {fuel : Nat} {A : Option Addr} {len cap : Nat} {x : DataW H × List MemPlace} (h : DataW.trod enc Try.prog w base spare held fuel 38 [.slice A len cap] = some x) :
    ∃ l : List OpM, l.length = len ∧ (∀ y ∈ l, In64 y.ref) ∧ Src w eOp A cap l ∧ len ≤ maxLen ∧ (x.1 = .nil ∧ len = 0 ∨ ∃ el sp, x.1 = .slice el sp ∧ el.length = len) := by
  refine src_structs eOp (fun y => In64 y.ref) Try.underlying38 Try.underlying23 (by kernel_rfl) (by kernel_rfl) rfl (fun at_ hf => ?_) h
  obtain ⟨v0, n0, y0, a0, t0⟩ := hf 0 _ rfl
  obtain ⟨v1, n1, y1, a1, t1⟩ := hf 1 _ rfl
  obtain ⟨v2, n2, y2, a2, t2⟩ := hf 2 _ rfl
  obtain ⟨v3, n3, y3, a3, t3⟩ := hf 3 _ rfl
  obtain ⟨s0, e0, _, _⟩ := DataW.trod_int Try.underlying3 t0
  obtain ⟨s1, e1, _, _⟩ := DataW.trod_int Try.underlying2 t1
  obtain ⟨s2, e2, _, _⟩ := DataW.trod_int Try.underlying2 t2
  obtain ⟨s3, e3, _, w3⟩ := DataW.trod_int Try.underlying2 t3
  cases e0
  cases e1
  cases e2
  cases e3
  refine ⟨⟨s0, s1, s2, s3⟩, in64_wf w3, fun j u hu => ?_⟩
  match j, hu with
  | 0, hu => cases hu; exact a0
  | 1, hu => cases hu; exact a1
  | 2, hu => cases hu; exact a2
  | 3, hu => cases hu; exact a3
end
end Go.Proofs.Ytlbbheopoflmjaa
