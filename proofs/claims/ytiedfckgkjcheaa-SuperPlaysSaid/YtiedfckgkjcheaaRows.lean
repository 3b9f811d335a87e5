/-
  No cell of these rows narrows 'for every input' (looked for: loops, veiled, ifaces, maps, wideKeys, modest, calm, conditions, laid).
  DERIVED. THE GIVEN ROWS OF THIS SEAT. 5 by the template 'for every input the law returns true; each argument reads behind the call as it read before'; 0 by the template 'total and deterministic' (their statements: YtiedfckgkjcheaaTotals.lean).
  GIVEN WITH THE SEED: the statements are not yours to turn. If you find one false, say at which input.
  Laid BY PROGRAM, IN A SANDBOX (cutbox-rows.mjs): the forced cells as the released guide's own fill.sh prints them over the translation 73dedfe92617c436… (all of the seat's roots in one cut). By AI agents, Wed Nov 11 2026. No macro, syntax, notation, axiom, sorry.
-/
import Derived.Test.YtiedfckgkjcheaaChecked
import GoSem.Claim
import GoSem.ClaimJoined
import GoSem.ClaimMapViews
import Derived.JoinedTies
import Derived.KernelRfl
namespace Go.Proofs.Ytiedfckgkjcheaa
/- THE CELL 'sum', in the pinned program and in every row, IS THE sha256 OF THE DUMP (.gsa) THAT YtiedfckgkjcheaaProg.lean LOADS. Nothing in Lean hashes anything: it is a label: what it is worth is what the hold of that sum in a sandbox is worth. -/
noncomputable def Try.pinned : Pinned := { name := "ytiedfckgkjcheaa", sum := "73dedfe92617c4369180118a078b71abc3d64949d854859893d2b153ded7a7ab", checked := Try.checked }
namespace Rows
def none {H : Type} : Left H := { results := [], args := [] }

/-- 'parleylaw29.SuperGives': WHATEVER THE INPUT: true; the input reads as it did. -/
def superGivesSpec : ChangeSpec := { name := "superGives", fn := fun _ => fun
  | [d1, d2, d3, d4] => { results := [.lit (.bool true)], args := [d1, d2, d3, d4] }
  | _ => none }
def superGivesRow : OpenClaim := { program := "ytiedfckgkjcheaa", sum := "73dedfe92617c4369180118a078b71abc3d64949d854859893d2b153ded7a7ab", func := "parley/parleylaw29.SuperGives", spec := "superGives", unfollowed := true, recurses := true, apart := false }
def SuperGivesSaid : Prop := superGivesRow.holds Try.pinned (OpenSpec.ofChange superGivesSpec)

/-- ITS FALSE NEIGHBOUR: 'it returns false'. Refute it at one input. -/
def superGivesWrong : ChangeSpec := { name := "superGives", fn := fun _ => fun
  | [d1, d2, d3, d4] => { results := [.lit (.bool false)], args := [d1, d2, d3, d4] }
  | _ => none }
def SuperGivesWrongFalsely : Prop := superGivesRow.holds Try.pinned (OpenSpec.ofChange superGivesWrong)

/-- 'parleylaw29.SuperAgain': WHATEVER THE INPUT: true; the input reads as it did. -/
def superAgainSpec : ChangeSpec := { name := "superAgain", fn := fun _ => fun
  | [d1, d2, d3, d4] => { results := [.lit (.bool true)], args := [d1, d2, d3, d4] }
  | _ => none }
def superAgainRow : OpenClaim := { program := "ytiedfckgkjcheaa", sum := "73dedfe92617c4369180118a078b71abc3d64949d854859893d2b153ded7a7ab", func := "parley/parleylaw29.SuperAgain", spec := "superAgain", unfollowed := true, recurses := true, apart := false }
def SuperAgainSaid : Prop := superAgainRow.holds Try.pinned (OpenSpec.ofChange superAgainSpec)

/-- ITS FALSE NEIGHBOUR: 'it returns false'. Refute it at one input. -/
def superAgainWrong : ChangeSpec := { name := "superAgain", fn := fun _ => fun
  | [d1, d2, d3, d4] => { results := [.lit (.bool false)], args := [d1, d2, d3, d4] }
  | _ => none }
def SuperAgainWrongFalsely : Prop := superAgainRow.holds Try.pinned (OpenSpec.ofChange superAgainWrong)

/-- 'parleylaw29.SuperPlays': WHATEVER THE INPUT: true; the input reads as it did. -/
def superPlaysSpec : ChangeSpec := { name := "superPlays", fn := fun _ => fun
  | [d1, d2, d3, d4, d5] => { results := [.lit (.bool true)], args := [d1, d2, d3, d4, d5] }
  | _ => none }
def superPlaysRow : OpenClaim := { program := "ytiedfckgkjcheaa", sum := "73dedfe92617c4369180118a078b71abc3d64949d854859893d2b153ded7a7ab", func := "parley/parleylaw29.SuperPlays", spec := "superPlays", unfollowed := true, recurses := true, apart := false }
def SuperPlaysSaid : Prop := superPlaysRow.holds Try.pinned (OpenSpec.ofChange superPlaysSpec)

/-- ITS FALSE NEIGHBOUR: 'it returns false'. Refute it at one input. -/
def superPlaysWrong : ChangeSpec := { name := "superPlays", fn := fun _ => fun
  | [d1, d2, d3, d4, d5] => { results := [.lit (.bool false)], args := [d1, d2, d3, d4, d5] }
  | _ => none }
def SuperPlaysWrongFalsely : Prop := superPlaysRow.holds Try.pinned (OpenSpec.ofChange superPlaysWrong)

/-- 'parleylaw29.SuperRuns': WHATEVER THE INPUT: true; the input reads as it did. -/
def superRunsSpec : ChangeSpec := { name := "superRuns", fn := fun _ => fun
  | [d1, d2, d3, d4, d5] => { results := [.lit (.bool true)], args := [d1, d2, d3, d4, d5] }
  | _ => none }
def superRunsRow : OpenClaim := { program := "ytiedfckgkjcheaa", sum := "73dedfe92617c4369180118a078b71abc3d64949d854859893d2b153ded7a7ab", func := "parley/parleylaw29.SuperRuns", spec := "superRuns", unfollowed := true, recurses := true, apart := false }
def SuperRunsSaid : Prop := superRunsRow.holds Try.pinned (OpenSpec.ofChange superRunsSpec)

/-- ITS FALSE NEIGHBOUR: 'it returns false'. Refute it at one input. -/
def superRunsWrong : ChangeSpec := { name := "superRuns", fn := fun _ => fun
  | [d1, d2, d3, d4, d5] => { results := [.lit (.bool false)], args := [d1, d2, d3, d4, d5] }
  | _ => none }
def SuperRunsWrongFalsely : Prop := superRunsRow.holds Try.pinned (OpenSpec.ofChange superRunsWrong)

/-- 'parleylaw29.SuperNil': WHATEVER THE INPUT: true; the input reads as it did. -/
def superNilSpec : ChangeSpec := { name := "superNil", fn := fun _ => fun
  | [d1, d2] => { results := [.lit (.bool true)], args := [d1, d2] }
  | _ => none }
def superNilRow : OpenClaim := { program := "ytiedfckgkjcheaa", sum := "73dedfe92617c4369180118a078b71abc3d64949d854859893d2b153ded7a7ab", func := "parley/parleylaw29.SuperNil", spec := "superNil", unfollowed := true, recurses := true, apart := false }
def SuperNilSaid : Prop := superNilRow.holds Try.pinned (OpenSpec.ofChange superNilSpec)

/-- ITS FALSE NEIGHBOUR: 'it returns false'. Refute it at one input. -/
def superNilWrong : ChangeSpec := { name := "superNil", fn := fun _ => fun
  | [d1, d2] => { results := [.lit (.bool false)], args := [d1, d2] }
  | _ => none }
def SuperNilWrongFalsely : Prop := superNilRow.holds Try.pinned (OpenSpec.ofChange superNilWrong)

/- THE SECOND FORM. 'bulk': how many values and letters a reading holds, each counted each time it is reached (what is shared counts as often as it is met; a slice's spare places count too). A statement '..UptoSaid' is the law's where the arguments, and the package variables that the reading takes, are together of bulk at most 1048576: NARROWER than '..Said'. Prove '..Said' where nothing that the law and all that it calls make is longer than what came in: it says more and counts as full. Else prove '..UptoSaid'. A law counts once. -/
mutual
def uptoBulk {H : Type} : DataW H → Nat
  | .lit (.string bytes) => bytes.length + 1
  | .lit _ => 1
  | .nil => 1
  | .ptr d => uptoBulk d + 1
  | .slice elems spare => uptoBulkAll elems + uptoBulkAll spare + 1
  | .agg parts => uptoBulkAll parts + 1
  | .iface _ d => uptoBulk d + 1
  | .map entries => uptoBulkEntries entries + 1
  | .held _ => 1
def uptoBulkAll {H : Type} : List (DataW H) → Nat
  | [] => 0
  | d :: r => uptoBulk d + uptoBulkAll r
def uptoBulkEntries {H : Type} : List (Lit × DataW H) → Nat
  | [] => 0
  | x :: r => uptoBulkEntry x + uptoBulkEntries r
def uptoBulkEntry {H : Type} : Lit × DataW H → Nat
  | (.string bytes, d) => bytes.length + uptoBulk d + 1
  | (_, d) => uptoBulk d + 1
 end
def uptoSmall : (H : Type) → List (DataW H) → Bool := fun _ ds => decide (uptoBulkAll ds ≤ 1048576)
def OpenSpec.upto (s : _root_.Go.ChangeSpec) : _root_.Go.OpenSpec := { _root_.Go.OpenSpec.ofChange s with cond := some uptoSmall }

/-- 'parleylaw29.SuperGives', WHERE WHAT IT READS IS OF BULK AT MOST 1048576: true; the input reads as it did. -/
def superGivesUptoRow : OpenClaim := { program := "ytiedfckgkjcheaa", sum := "73dedfe92617c4369180118a078b71abc3d64949d854859893d2b153ded7a7ab", func := "parley/parleylaw29.SuperGives", spec := "superGives", unfollowed := true, recurses := true, apart := false, narrowed := true }
def SuperGivesUptoSaid : Prop := superGivesUptoRow.holds Try.pinned (OpenSpec.upto superGivesSpec)

/-- 'parleylaw29.SuperAgain', WHERE WHAT IT READS IS OF BULK AT MOST 1048576: true; the input reads as it did. -/
def superAgainUptoRow : OpenClaim := { program := "ytiedfckgkjcheaa", sum := "73dedfe92617c4369180118a078b71abc3d64949d854859893d2b153ded7a7ab", func := "parley/parleylaw29.SuperAgain", spec := "superAgain", unfollowed := true, recurses := true, apart := false, narrowed := true }
def SuperAgainUptoSaid : Prop := superAgainUptoRow.holds Try.pinned (OpenSpec.upto superAgainSpec)

/-- 'parleylaw29.SuperPlays', WHERE WHAT IT READS IS OF BULK AT MOST 1048576: true; the input reads as it did. -/
def superPlaysUptoRow : OpenClaim := { program := "ytiedfckgkjcheaa", sum := "73dedfe92617c4369180118a078b71abc3d64949d854859893d2b153ded7a7ab", func := "parley/parleylaw29.SuperPlays", spec := "superPlays", unfollowed := true, recurses := true, apart := false, narrowed := true }
def SuperPlaysUptoSaid : Prop := superPlaysUptoRow.holds Try.pinned (OpenSpec.upto superPlaysSpec)

/-- 'parleylaw29.SuperRuns', WHERE WHAT IT READS IS OF BULK AT MOST 1048576: true; the input reads as it did. -/
def superRunsUptoRow : OpenClaim := { program := "ytiedfckgkjcheaa", sum := "73dedfe92617c4369180118a078b71abc3d64949d854859893d2b153ded7a7ab", func := "parley/parleylaw29.SuperRuns", spec := "superRuns", unfollowed := true, recurses := true, apart := false, narrowed := true }
def SuperRunsUptoSaid : Prop := superRunsUptoRow.holds Try.pinned (OpenSpec.upto superRunsSpec)

/-- 'parleylaw29.SuperNil', WHERE WHAT IT READS IS OF BULK AT MOST 1048576: true; the input reads as it did. -/
def superNilUptoRow : OpenClaim := { program := "ytiedfckgkjcheaa", sum := "73dedfe92617c4369180118a078b71abc3d64949d854859893d2b153ded7a7ab", func := "parley/parleylaw29.SuperNil", spec := "superNil", unfollowed := true, recurses := true, apart := false, narrowed := true }
def SuperNilUptoSaid : Prop := superNilUptoRow.holds Try.pinned (OpenSpec.upto superNilSpec)

end Rows
end Go.Proofs.Ytiedfckgkjcheaa
