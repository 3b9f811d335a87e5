/- Plain: which bonds a process has; no condition. -/
import Derived.Test.YtameidoaenoppaaGreatDoorLM
namespace Go.Proofs.YtameidoaenoppaaGreatDoor
open Go.RowKit

def sel (f : Bd → Bool) (ns : List NB) : List Bd := (ns.map (·.2)).filter f
theorem sel_snoc (f : Bd → Bool) (ns : List NB) (k : Nat) (h : k < ns.length) : sel f (ns.take (k + 1)) = if f ns[k].2 = true then sel f (ns.take k) ++ [ns[k].2] else sel f (ns.take k) := by
  unfold sel
  rw [List.take_succ_eq_append_getElem h, List.map_append, List.filter_append]
  by_cases h1 : f ns[k].2 = true
  · simp [h1]
  · simp [h1]
theorem sel_pre (f : Bd → Bool) (ns : List NB) (k : Nat) : sel f (ns.take k) <+: sel f ns := ((List.take_prefix k ns).map _).filter _
theorem sel_len (f : Bd → Bool) (ns : List NB) : (sel f ns).length ≤ ns.length := by
  unfold sel; have := List.length_filter_le f (ns.map (·.2)); simpa using this
def isOf (pid : Int) (x : Bd) : Bool := decide (x.a = pid ∨ x.b = pid)
def isAll (_ : Bd) : Bool := true
end Go.Proofs.YtameidoaenoppaaGreatDoor
