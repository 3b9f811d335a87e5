/- The tables of unicode/utf8 out of what the rows list; the list of calls opened; no condition. -/
import Derived.Test.YtmkfpaohlmejkaaDoorRows
import Derived.Test.YtmkfpaohlmejkaaDoorPp
import Derived.Test.YtmkfpaohlmejkaaDoorArgsW
import Derived.PinnedBridge
import Derived.Lib.LaidU8T
import Derived.LaidMore
import Derived.Lay
import Derived.ProofKit
import Derived.OpenShut
import Derived.ShutString
namespace Go.Proofs.YtmkfpaohlmejkaaDoor
open Go.ChangeShapes Go.WideShapes Go.ChangeAt Go.RowKit Go.Deep

def laidL : List (String × DataW Unit) := [("unicode/utf8.acceptRanges", Rows.laid_unicode_utf8_acceptRanges), ("unicode/utf8.first", Rows.laid_unicode_utf8_first)]
theorem acc_eq : (Rows.laid_unicode_utf8_acceptRanges : DataW Unit) = Lib.acceptData := by kernel_rfl
theorem tabs_laid {W : World} (h : laidMetH Tryd.prog laidL W) : Tabs W := by
  rw [MakeChecks.laidMetH_plain _ _ _ (by kernel_rfl)] at h
  unfold laidL at h
  have h1 : laidMet Tryd.prog [("unicode/utf8.acceptRanges", Lib.acceptData), ("unicode/utf8.first", Lib.firstData)] W := by
    rw [← acc_eq, ← Pinned.utf8First_eq]
    exact h
  exact utf8Tabs_of_readsT (U8Types.of196 Tryd.validS) ⟨by kernel_rfl, by kernel_rfl, by kernel_rfl, by kernel_rfl, by kernel_rfl, by kernel_rfl, by kernel_rfl⟩ (Lib.laidMet.reads h1 (.tail _ (.head _))) (Lib.laidMet.reads h1 (.head _))
theorem bytes31 : Tryd.prog.bytesOf 31 = 32 := by kernel_rfl
theorem okI_wf {n : Int} (h : (Lit.int .i64 n).wf = true) : KI.ok n := h
section
variable {H : Type} {enc : TypeId × Value → H} {w : World} {base : Nat} {spare : Nat → Bool} {held : Bool}
theorem openOW {fuel : Nat} {A : Option Addr} {len cap : Nat} {x : DataW H × List MemPlace} (hwt : ∀ z ∈ x.1.weights Tryd.prog 22, z ≤ reachBytes) (h : DataW.trod enc Tryd.prog w base spare held fuel 22 [.slice A len cap] = some x) :
    ∃ l : List OpM, l.length = len ∧ (∀ y ∈ l, OpG y) ∧ Src w eOp A cap l ∧ len ≤ maxLen ∧ (x.1 = .nil ∧ len = 0 ∨ ∃ el sp, x.1 = .slice el sp ∧ el.length = len) := by
  refine src_structs_w eOp OpG Tryd.underlying22 Tryd.underlying31 (by kernel_rfl) (by kernel_rfl) rfl (fun at_ hf => ?_) hwt h
  obtain ⟨v0, n0, y0, a0, t0, _⟩ := hf 0 _ rfl
  obtain ⟨v1, n1, y1, a1, t1, hw1⟩ := hf 1 _ rfl
  obtain ⟨v2, n2, y2, a2, t2, _⟩ := hf 2 _ rfl
  obtain ⟨s0, e0, _, _⟩ := DataW.trod_int Tryd.underlying3 t0
  obtain ⟨s1, e1, x1, _⟩ := DataW.trod_string Tryd.underlying9 t1
  obtain ⟨s2, e2, _, w2⟩ := DataW.trod_int Tryd.underlying2 t2
  cases e0
  cases e1
  cases e2
  have hs : s1.size ≤ 140737488355328 := by
    have h1 := hw1 s1.data.toList.length (by rw [x1]; show _ ∈ DataW.weights Tryd.prog 9 _; simp [DataW.weights])
    have h2 : s1.data.toList.length = s1.size := by simp
    rw [h2] at h1
    simp only [reachBytes] at h1
    omega
  refine ⟨⟨s0, s1, s2⟩, ⟨hs, okI_wf w2⟩, fun j u hu => ?_⟩
  match j, hu with
  | 0, hu => cases hu; exact a0
  | 1, hu => cases hu; exact a1
  | 2, hu => cases hu; exact a2
end
end Go.Proofs.YtmkfpaohlmejkaaDoor
