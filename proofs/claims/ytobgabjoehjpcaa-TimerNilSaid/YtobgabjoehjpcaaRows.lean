/-
  No cell of these rows narrows 'for every input' (looked for: loops, veiled, ifaces, maps, wideKeys, modest, calm, conditions, laid).
  DERIVED. THE GIVEN ROWS OF THIS SEAT. 7 by the template 'for every input the law returns true; each argument reads behind the call as it read before'; 0 by the template 'total and deterministic' (their statements: YtobgabjoehjpcaaTotals.lean).
  GIVEN WITH THE SEED: the statements are not yours to turn. If you find one false, say at which input.
  Laid BY PROGRAM, IN A SANDBOX (cutbox-rows.mjs): the forced cells as the released guide's own fill.sh prints them over the translation bc52a0a45212e2be… (all of the seat's roots in one cut). By AI agents, Wed Nov 11 2026. No macro, syntax, notation, axiom, sorry.
-/
import Derived.Test.YtobgabjoehjpcaaChecked
import GoSem.Claim
import GoSem.ClaimJoined
import GoSem.ClaimMapViews
import Derived.JoinedTies
import Derived.KernelRfl
namespace Go.Proofs.Ytobgabjoehjpcaa
/- THE CELL 'sum', in the pinned program and in every row, IS THE sha256 OF THE DUMP (.gsa) THAT YtobgabjoehjpcaaProg.lean LOADS. Nothing in Lean hashes anything: it is a label: what it is worth is what the hold of that sum in a sandbox is worth. -/
noncomputable def Try.pinned : Pinned := { name := "ytobgabjoehjpcaa", sum := "bc52a0a45212e2be405e7fc3f2a93b0b6134a4f0c995bbb08882a0edd094f945", checked := Try.checked }
namespace Rows
def none {H : Type} : Left H := { results := [], args := [] }

/-- 'parleylaw14.TimerAdds': WHATEVER THE INPUT: true; the input reads as it did. -/
def timerAddsSpec : ChangeSpec := { name := "timerAdds", fn := fun _ => fun
  | [d1, d2, d3] => { results := [.lit (.bool true)], args := [d1, d2, d3] }
  | _ => none }
def timerAddsRow : OpenClaim := { program := "ytobgabjoehjpcaa", sum := "bc52a0a45212e2be405e7fc3f2a93b0b6134a4f0c995bbb08882a0edd094f945", func := "parley/parleylaw14.TimerAdds", spec := "timerAdds", unfollowed := true, recurses := true, apart := false }
def TimerAddsSaid : Prop := timerAddsRow.holds Try.pinned (OpenSpec.ofChange timerAddsSpec)

/-- ITS FALSE NEIGHBOUR: 'it returns false'. Refute it at one input. -/
def timerAddsWrong : ChangeSpec := { name := "timerAdds", fn := fun _ => fun
  | [d1, d2, d3] => { results := [.lit (.bool false)], args := [d1, d2, d3] }
  | _ => none }
def TimerAddsWrongFalsely : Prop := timerAddsRow.holds Try.pinned (OpenSpec.ofChange timerAddsWrong)

/-- 'parleylaw14.TimerSteps': WHATEVER THE INPUT: true; the input reads as it did. -/
def timerStepsSpec : ChangeSpec := { name := "timerSteps", fn := fun _ => fun
  | [d1, d2, d3] => { results := [.lit (.bool true)], args := [d1, d2, d3] }
  | _ => none }
def timerStepsRow : OpenClaim := { program := "ytobgabjoehjpcaa", sum := "bc52a0a45212e2be405e7fc3f2a93b0b6134a4f0c995bbb08882a0edd094f945", func := "parley/parleylaw14.TimerSteps", spec := "timerSteps", unfollowed := true, recurses := true, apart := false }
def TimerStepsSaid : Prop := timerStepsRow.holds Try.pinned (OpenSpec.ofChange timerStepsSpec)

/-- ITS FALSE NEIGHBOUR: 'it returns false'. Refute it at one input. -/
def timerStepsWrong : ChangeSpec := { name := "timerSteps", fn := fun _ => fun
  | [d1, d2, d3] => { results := [.lit (.bool false)], args := [d1, d2, d3] }
  | _ => none }
def TimerStepsWrongFalsely : Prop := timerStepsRow.holds Try.pinned (OpenSpec.ofChange timerStepsWrong)

/-- 'parleylaw14.TimerFull': WHATEVER THE INPUT: true; the input reads as it did. -/
def timerFullSpec : ChangeSpec := { name := "timerFull", fn := fun _ => fun
  | [d1, d2, d3] => { results := [.lit (.bool true)], args := [d1, d2, d3] }
  | _ => none }
def timerFullRow : OpenClaim := { program := "ytobgabjoehjpcaa", sum := "bc52a0a45212e2be405e7fc3f2a93b0b6134a4f0c995bbb08882a0edd094f945", func := "parley/parleylaw14.TimerFull", spec := "timerFull", unfollowed := true, recurses := true, apart := false }
def TimerFullSaid : Prop := timerFullRow.holds Try.pinned (OpenSpec.ofChange timerFullSpec)

/-- ITS FALSE NEIGHBOUR: 'it returns false'. Refute it at one input. -/
def timerFullWrong : ChangeSpec := { name := "timerFull", fn := fun _ => fun
  | [d1, d2, d3] => { results := [.lit (.bool false)], args := [d1, d2, d3] }
  | _ => none }
def TimerFullWrongFalsely : Prop := timerFullRow.holds Try.pinned (OpenSpec.ofChange timerFullWrong)

/-- 'parleylaw14.TimerInTime': WHATEVER THE INPUT: true; the input reads as it did. -/
def timerInTimeSpec : ChangeSpec := { name := "timerInTime", fn := fun _ => fun
  | [d1, d2] => { results := [.lit (.bool true)], args := [d1, d2] }
  | _ => none }
def timerInTimeRow : OpenClaim := { program := "ytobgabjoehjpcaa", sum := "bc52a0a45212e2be405e7fc3f2a93b0b6134a4f0c995bbb08882a0edd094f945", func := "parley/parleylaw14.TimerInTime", spec := "timerInTime", unfollowed := true, recurses := true, apart := false }
def TimerInTimeSaid : Prop := timerInTimeRow.holds Try.pinned (OpenSpec.ofChange timerInTimeSpec)

/-- ITS FALSE NEIGHBOUR: 'it returns false'. Refute it at one input. -/
def timerInTimeWrong : ChangeSpec := { name := "timerInTime", fn := fun _ => fun
  | [d1, d2] => { results := [.lit (.bool false)], args := [d1, d2] }
  | _ => none }
def TimerInTimeWrongFalsely : Prop := timerInTimeRow.holds Try.pinned (OpenSpec.ofChange timerInTimeWrong)

/-- 'parleylaw14.TimerApart': WHATEVER THE INPUT: true; the input reads as it did. -/
def timerApartSpec : ChangeSpec := { name := "timerApart", fn := fun _ => fun
  | [d1, d2, d3] => { results := [.lit (.bool true)], args := [d1, d2, d3] }
  | _ => none }
def timerApartRow : OpenClaim := { program := "ytobgabjoehjpcaa", sum := "bc52a0a45212e2be405e7fc3f2a93b0b6134a4f0c995bbb08882a0edd094f945", func := "parley/parleylaw14.TimerApart", spec := "timerApart", unfollowed := true, recurses := true, apart := false }
def TimerApartSaid : Prop := timerApartRow.holds Try.pinned (OpenSpec.ofChange timerApartSpec)

/-- ITS FALSE NEIGHBOUR: 'it returns false'. Refute it at one input. -/
def timerApartWrong : ChangeSpec := { name := "timerApart", fn := fun _ => fun
  | [d1, d2, d3] => { results := [.lit (.bool false)], args := [d1, d2, d3] }
  | _ => none }
def TimerApartWrongFalsely : Prop := timerApartRow.holds Try.pinned (OpenSpec.ofChange timerApartWrong)

/-- 'parleylaw14.TimerPlays': WHATEVER THE INPUT: true; the input reads as it did. -/
def timerPlaysSpec : ChangeSpec := { name := "timerPlays", fn := fun _ => fun
  | [d] => { results := [.lit (.bool true)], args := [d] }
  | _ => none }
def timerPlaysRow : OpenClaim := { program := "ytobgabjoehjpcaa", sum := "bc52a0a45212e2be405e7fc3f2a93b0b6134a4f0c995bbb08882a0edd094f945", func := "parley/parleylaw14.TimerPlays", spec := "timerPlays", unfollowed := true, recurses := true, apart := false }
def TimerPlaysSaid : Prop := timerPlaysRow.holds Try.pinned (OpenSpec.ofChange timerPlaysSpec)

/-- ITS FALSE NEIGHBOUR: 'it returns false'. Refute it at one input. -/
def timerPlaysWrong : ChangeSpec := { name := "timerPlays", fn := fun _ => fun
  | [d] => { results := [.lit (.bool false)], args := [d] }
  | _ => none }
def TimerPlaysWrongFalsely : Prop := timerPlaysRow.holds Try.pinned (OpenSpec.ofChange timerPlaysWrong)

/-- 'parleylaw14.TimerNil': WHATEVER THE INPUT: true; the input reads as it did. -/
def timerNilSpec : ChangeSpec := { name := "timerNil", fn := fun _ => fun
  | [d1, d2] => { results := [.lit (.bool true)], args := [d1, d2] }
  | _ => none }
def timerNilRow : OpenClaim := { program := "ytobgabjoehjpcaa", sum := "bc52a0a45212e2be405e7fc3f2a93b0b6134a4f0c995bbb08882a0edd094f945", func := "parley/parleylaw14.TimerNil", spec := "timerNil", unfollowed := true, recurses := true, apart := false }
def TimerNilSaid : Prop := timerNilRow.holds Try.pinned (OpenSpec.ofChange timerNilSpec)

/-- ITS FALSE NEIGHBOUR: 'it returns false'. Refute it at one input. -/
def timerNilWrong : ChangeSpec := { name := "timerNil", fn := fun _ => fun
  | [d1, d2] => { results := [.lit (.bool false)], args := [d1, d2] }
  | _ => none }
def TimerNilWrongFalsely : Prop := timerNilRow.holds Try.pinned (OpenSpec.ofChange timerNilWrong)

/- THE SECOND FORM. 'bulk': how many values and letters a reading holds, each counted each time it is reached (what is shared counts as often as it is met; a slice's spare places count too). A statement '..UptoSaid' is the law's where the arguments, and the package variables that the reading takes, are together of bulk at most 1048576: NARROWER than '..Said'. Prove '..Said' where nothing that the law and all that it calls make is longer than what came in: it says more and counts as full. Else prove '..UptoSaid'. A law counts once. -/
mutual
def uptoBulk {H : Type} : DataW H → Nat
  | .lit (.string bytes) => bytes.length + 1
  | .lit _ => 1
  | .nil => 1
  | .ptr d => uptoBulk d + 1
  | .slice elems spare => uptoBulkAll elems + uptoBulkAll spare + 1
  | .agg parts => uptoBulkAll parts + 1
  | .iface _ d => uptoBulk d + 1
  | .map entries => uptoBulkEntries entries + 1
  | .held _ => 1
def uptoBulkAll {H : Type} : List (DataW H) → Nat
  | [] => 0
  | d :: r => uptoBulk d + uptoBulkAll r
def uptoBulkEntries {H : Type} : List (Lit × DataW H) → Nat
  | [] => 0
  | x :: r => uptoBulkEntry x + uptoBulkEntries r
def uptoBulkEntry {H : Type} : Lit × DataW H → Nat
  | (.string bytes, d) => bytes.length + uptoBulk d + 1
  | (_, d) => uptoBulk d + 1
 end
def uptoSmall : (H : Type) → List (DataW H) → Bool := fun _ ds => decide (uptoBulkAll ds ≤ 1048576)
def OpenSpec.upto (s : _root_.Go.ChangeSpec) : _root_.Go.OpenSpec := { _root_.Go.OpenSpec.ofChange s with cond := some uptoSmall }

/-- 'parleylaw14.TimerAdds', WHERE WHAT IT READS IS OF BULK AT MOST 1048576: true; the input reads as it did. -/
def timerAddsUptoRow : OpenClaim := { program := "ytobgabjoehjpcaa", sum := "bc52a0a45212e2be405e7fc3f2a93b0b6134a4f0c995bbb08882a0edd094f945", func := "parley/parleylaw14.TimerAdds", spec := "timerAdds", unfollowed := true, recurses := true, apart := false, narrowed := true }
def TimerAddsUptoSaid : Prop := timerAddsUptoRow.holds Try.pinned (OpenSpec.upto timerAddsSpec)

/-- 'parleylaw14.TimerSteps', WHERE WHAT IT READS IS OF BULK AT MOST 1048576: true; the input reads as it did. -/
def timerStepsUptoRow : OpenClaim := { program := "ytobgabjoehjpcaa", sum := "bc52a0a45212e2be405e7fc3f2a93b0b6134a4f0c995bbb08882a0edd094f945", func := "parley/parleylaw14.TimerSteps", spec := "timerSteps", unfollowed := true, recurses := true, apart := false, narrowed := true }
def TimerStepsUptoSaid : Prop := timerStepsUptoRow.holds Try.pinned (OpenSpec.upto timerStepsSpec)

/-- 'parleylaw14.TimerFull', WHERE WHAT IT READS IS OF BULK AT MOST 1048576: true; the input reads as it did. -/
def timerFullUptoRow : OpenClaim := { program := "ytobgabjoehjpcaa", sum := "bc52a0a45212e2be405e7fc3f2a93b0b6134a4f0c995bbb08882a0edd094f945", func := "parley/parleylaw14.TimerFull", spec := "timerFull", unfollowed := true, recurses := true, apart := false, narrowed := true }
def TimerFullUptoSaid : Prop := timerFullUptoRow.holds Try.pinned (OpenSpec.upto timerFullSpec)

/-- 'parleylaw14.TimerInTime', WHERE WHAT IT READS IS OF BULK AT MOST 1048576: true; the input reads as it did. -/
def timerInTimeUptoRow : OpenClaim := { program := "ytobgabjoehjpcaa", sum := "bc52a0a45212e2be405e7fc3f2a93b0b6134a4f0c995bbb08882a0edd094f945", func := "parley/parleylaw14.TimerInTime", spec := "timerInTime", unfollowed := true, recurses := true, apart := false, narrowed := true }
def TimerInTimeUptoSaid : Prop := timerInTimeUptoRow.holds Try.pinned (OpenSpec.upto timerInTimeSpec)

/-- 'parleylaw14.TimerApart', WHERE WHAT IT READS IS OF BULK AT MOST 1048576: true; the input reads as it did. -/
def timerApartUptoRow : OpenClaim := { program := "ytobgabjoehjpcaa", sum := "bc52a0a45212e2be405e7fc3f2a93b0b6134a4f0c995bbb08882a0edd094f945", func := "parley/parleylaw14.TimerApart", spec := "timerApart", unfollowed := true, recurses := true, apart := false, narrowed := true }
def TimerApartUptoSaid : Prop := timerApartUptoRow.holds Try.pinned (OpenSpec.upto timerApartSpec)

/-- 'parleylaw14.TimerPlays', WHERE WHAT IT READS IS OF BULK AT MOST 1048576: true; the input reads as it did. -/
def timerPlaysUptoRow : OpenClaim := { program := "ytobgabjoehjpcaa", sum := "bc52a0a45212e2be405e7fc3f2a93b0b6134a4f0c995bbb08882a0edd094f945", func := "parley/parleylaw14.TimerPlays", spec := "timerPlays", unfollowed := true, recurses := true, apart := false, narrowed := true }
def TimerPlaysUptoSaid : Prop := timerPlaysUptoRow.holds Try.pinned (OpenSpec.upto timerPlaysSpec)

/-- 'parleylaw14.TimerNil', WHERE WHAT IT READS IS OF BULK AT MOST 1048576: true; the input reads as it did. -/
def timerNilUptoRow : OpenClaim := { program := "ytobgabjoehjpcaa", sum := "bc52a0a45212e2be405e7fc3f2a93b0b6134a4f0c995bbb08882a0edd094f945", func := "parley/parleylaw14.TimerNil", spec := "timerNil", unfollowed := true, recurses := true, apart := false, narrowed := true }
def TimerNilUptoSaid : Prop := timerNilUptoRow.holds Try.pinned (OpenSpec.upto timerNilSpec)

end Rows
end Go.Proofs.Ytobgabjoehjpcaa
