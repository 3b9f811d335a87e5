/-
  No cell of these rows narrows 'for every input' (looked for: loops, veiled, ifaces, maps, wideKeys, modest, calm, conditions, laid).
  DERIVED. THE GIVEN ROWS OF THIS SEAT. 6 by the template 'for every input the law returns true; each argument reads behind the call as it read before'; 0 by the template 'total and deterministic' (their statements: YtlbbheopoflmjaaTotals.lean).
  GIVEN WITH THE SEED: the statements are not yours to turn. If you find one false, say at which input.
  Laid BY PROGRAM, IN A SANDBOX (cutbox-rows.mjs): the forced cells as the released guide's own fill.sh prints them over the translation f3ec36e8a3299462… (all of the seat's roots in one cut). By AI agents, Wed Nov 11 2026. No macro, syntax, notation, axiom, sorry.
-/
import Derived.Test.YtlbbheopoflmjaaChecked
import GoSem.Claim
import GoSem.ClaimJoined
import GoSem.ClaimMapViews
import Derived.JoinedTies
import Derived.KernelRfl
namespace Go.Proofs.Ytlbbheopoflmjaa
/- THE CELL 'sum', in the pinned program and in every row, IS THE sha256 OF THE DUMP (.gsa) THAT YtlbbheopoflmjaaProg.lean LOADS. Nothing in Lean hashes anything: it is a label: what it is worth is what the hold of that sum in a sandbox is worth. -/
noncomputable def Try.pinned : Pinned := { name := "ytlbbheopoflmjaa", sum := "f3ec36e8a329946201f63866b3e45228485d4b9868a9755516f50a19f9cb3315", checked := Try.checked }
namespace Rows
def none {H : Type} : Left H := { results := [], args := [] }

/-- 'parleylaw16.LinksFull': WHATEVER THE INPUT: true; the input reads as it did. -/
def linksFullSpec : ChangeSpec := { name := "linksFull", fn := fun _ => fun
  | [d1, d2] => { results := [.lit (.bool true)], args := [d1, d2] }
  | _ => none }
def linksFullRow : OpenClaim := { program := "ytlbbheopoflmjaa", sum := "f3ec36e8a329946201f63866b3e45228485d4b9868a9755516f50a19f9cb3315", func := "parley/parleylaw16.LinksFull", spec := "linksFull", unfollowed := true, recurses := true, plainKeys := false, apart := false }
def LinksFullSaid : Prop := linksFullRow.holds Try.pinned (OpenSpec.ofChange linksFullSpec)

/-- ITS FALSE NEIGHBOUR: 'it returns false'. Refute it at one input. -/
def linksFullWrong : ChangeSpec := { name := "linksFull", fn := fun _ => fun
  | [d1, d2] => { results := [.lit (.bool false)], args := [d1, d2] }
  | _ => none }
def LinksFullWrongFalsely : Prop := linksFullRow.holds Try.pinned (OpenSpec.ofChange linksFullWrong)

/-- 'parleylaw16.LinksEnd': WHATEVER THE INPUT: true; the input reads as it did. -/
def linksEndSpec : ChangeSpec := { name := "linksEnd", fn := fun _ => fun
  | [d1, d2] => { results := [.lit (.bool true)], args := [d1, d2] }
  | _ => none }
def linksEndRow : OpenClaim := { program := "ytlbbheopoflmjaa", sum := "f3ec36e8a329946201f63866b3e45228485d4b9868a9755516f50a19f9cb3315", func := "parley/parleylaw16.LinksEnd", spec := "linksEnd", unfollowed := true, recurses := true, plainKeys := false, apart := false }
def LinksEndSaid : Prop := linksEndRow.holds Try.pinned (OpenSpec.ofChange linksEndSpec)

/-- ITS FALSE NEIGHBOUR: 'it returns false'. Refute it at one input. -/
def linksEndWrong : ChangeSpec := { name := "linksEnd", fn := fun _ => fun
  | [d1, d2] => { results := [.lit (.bool false)], args := [d1, d2] }
  | _ => none }
def LinksEndWrongFalsely : Prop := linksEndRow.holds Try.pinned (OpenSpec.ofChange linksEndWrong)

/-- 'parleylaw16.LinksGroup': WHATEVER THE INPUT: true; the input reads as it did. -/
def linksGroupSpec : ChangeSpec := { name := "linksGroup", fn := fun _ => fun
  | [d1, d2, d3] => { results := [.lit (.bool true)], args := [d1, d2, d3] }
  | _ => none }
def linksGroupRow : OpenClaim := { program := "ytlbbheopoflmjaa", sum := "f3ec36e8a329946201f63866b3e45228485d4b9868a9755516f50a19f9cb3315", func := "parley/parleylaw16.LinksGroup", spec := "linksGroup", unfollowed := true, recurses := true, plainKeys := false, apart := false }
def LinksGroupSaid : Prop := linksGroupRow.holds Try.pinned (OpenSpec.ofChange linksGroupSpec)

/-- ITS FALSE NEIGHBOUR: 'it returns false'. Refute it at one input. -/
def linksGroupWrong : ChangeSpec := { name := "linksGroup", fn := fun _ => fun
  | [d1, d2, d3] => { results := [.lit (.bool false)], args := [d1, d2, d3] }
  | _ => none }
def LinksGroupWrongFalsely : Prop := linksGroupRow.holds Try.pinned (OpenSpec.ofChange linksGroupWrong)

/-- 'parleylaw16.LinksApart': WHATEVER THE INPUT: true; the input reads as it did. -/
def linksApartSpec : ChangeSpec := { name := "linksApart", fn := fun _ => fun
  | [d1, d2, d3] => { results := [.lit (.bool true)], args := [d1, d2, d3] }
  | _ => none }
def linksApartRow : OpenClaim := { program := "ytlbbheopoflmjaa", sum := "f3ec36e8a329946201f63866b3e45228485d4b9868a9755516f50a19f9cb3315", func := "parley/parleylaw16.LinksApart", spec := "linksApart", unfollowed := true, recurses := true, plainKeys := false, apart := false }
def LinksApartSaid : Prop := linksApartRow.holds Try.pinned (OpenSpec.ofChange linksApartSpec)

/-- ITS FALSE NEIGHBOUR: 'it returns false'. Refute it at one input. -/
def linksApartWrong : ChangeSpec := { name := "linksApart", fn := fun _ => fun
  | [d1, d2, d3] => { results := [.lit (.bool false)], args := [d1, d2, d3] }
  | _ => none }
def LinksApartWrongFalsely : Prop := linksApartRow.holds Try.pinned (OpenSpec.ofChange linksApartWrong)

/-- 'parleylaw16.LinksPlays': WHATEVER THE INPUT: true; the input reads as it did. -/
def linksPlaysSpec : ChangeSpec := { name := "linksPlays", fn := fun _ => fun
  | [d1, d2, d3] => { results := [.lit (.bool true)], args := [d1, d2, d3] }
  | _ => none }
def linksPlaysRow : OpenClaim := { program := "ytlbbheopoflmjaa", sum := "f3ec36e8a329946201f63866b3e45228485d4b9868a9755516f50a19f9cb3315", func := "parley/parleylaw16.LinksPlays", spec := "linksPlays", unfollowed := true, recurses := true, plainKeys := false, apart := false }
def LinksPlaysSaid : Prop := linksPlaysRow.holds Try.pinned (OpenSpec.ofChange linksPlaysSpec)

/-- ITS FALSE NEIGHBOUR: 'it returns false'. Refute it at one input. -/
def linksPlaysWrong : ChangeSpec := { name := "linksPlays", fn := fun _ => fun
  | [d1, d2, d3] => { results := [.lit (.bool false)], args := [d1, d2, d3] }
  | _ => none }
def LinksPlaysWrongFalsely : Prop := linksPlaysRow.holds Try.pinned (OpenSpec.ofChange linksPlaysWrong)

/-- 'parleylaw16.LinksNil': WHATEVER THE INPUT: true; the input reads as it did. -/
def linksNilSpec : ChangeSpec := { name := "linksNil", fn := fun _ => fun
  | [d1, d2, d3] => { results := [.lit (.bool true)], args := [d1, d2, d3] }
  | _ => none }
def linksNilRow : OpenClaim := { program := "ytlbbheopoflmjaa", sum := "f3ec36e8a329946201f63866b3e45228485d4b9868a9755516f50a19f9cb3315", func := "parley/parleylaw16.LinksNil", spec := "linksNil", unfollowed := true, recurses := true, plainKeys := false, apart := false }
def LinksNilSaid : Prop := linksNilRow.holds Try.pinned (OpenSpec.ofChange linksNilSpec)

/-- ITS FALSE NEIGHBOUR: 'it returns false'. Refute it at one input. -/
def linksNilWrong : ChangeSpec := { name := "linksNil", fn := fun _ => fun
  | [d1, d2, d3] => { results := [.lit (.bool false)], args := [d1, d2, d3] }
  | _ => none }
def LinksNilWrongFalsely : Prop := linksNilRow.holds Try.pinned (OpenSpec.ofChange linksNilWrong)

/- THE SECOND FORM. 'bulk': how many values and letters a reading holds, each counted each time it is reached (what is shared counts as often as it is met; a slice's spare places count too). A statement '..UptoSaid' is the law's where the arguments, and the package variables that the reading takes, are together of bulk at most 1048576: NARROWER than '..Said'. Prove '..Said' where nothing that the law and all that it calls make is longer than what came in: it says more and counts as full. Else prove '..UptoSaid'. A law counts once. -/
mutual
def uptoBulk {H : Type} : DataW H → Nat
  | .lit (.string bytes) => bytes.length + 1
  | .lit _ => 1
  | .nil => 1
  | .ptr d => uptoBulk d + 1
  | .slice elems spare => uptoBulkAll elems + uptoBulkAll spare + 1
  | .agg parts => uptoBulkAll parts + 1
  | .iface _ d => uptoBulk d + 1
  | .map entries => uptoBulkEntries entries + 1
  | .held _ => 1
def uptoBulkAll {H : Type} : List (DataW H) → Nat
  | [] => 0
  | d :: r => uptoBulk d + uptoBulkAll r
def uptoBulkEntries {H : Type} : List (Lit × DataW H) → Nat
  | [] => 0
  | x :: r => uptoBulkEntry x + uptoBulkEntries r
def uptoBulkEntry {H : Type} : Lit × DataW H → Nat
  | (.string bytes, d) => bytes.length + uptoBulk d + 1
  | (_, d) => uptoBulk d + 1
 end
def uptoSmall : (H : Type) → List (DataW H) → Bool := fun _ ds => decide (uptoBulkAll ds ≤ 1048576)
def OpenSpec.upto (s : _root_.Go.ChangeSpec) : _root_.Go.OpenSpec := { _root_.Go.OpenSpec.ofChange s with cond := some uptoSmall }

/-- 'parleylaw16.LinksFull', WHERE WHAT IT READS IS OF BULK AT MOST 1048576: true; the input reads as it did. -/
def linksFullUptoRow : OpenClaim := { program := "ytlbbheopoflmjaa", sum := "f3ec36e8a329946201f63866b3e45228485d4b9868a9755516f50a19f9cb3315", func := "parley/parleylaw16.LinksFull", spec := "linksFull", unfollowed := true, recurses := true, plainKeys := false, apart := false, narrowed := true }
def LinksFullUptoSaid : Prop := linksFullUptoRow.holds Try.pinned (OpenSpec.upto linksFullSpec)

/-- 'parleylaw16.LinksEnd', WHERE WHAT IT READS IS OF BULK AT MOST 1048576: true; the input reads as it did. -/
def linksEndUptoRow : OpenClaim := { program := "ytlbbheopoflmjaa", sum := "f3ec36e8a329946201f63866b3e45228485d4b9868a9755516f50a19f9cb3315", func := "parley/parleylaw16.LinksEnd", spec := "linksEnd", unfollowed := true, recurses := true, plainKeys := false, apart := false, narrowed := true }
def LinksEndUptoSaid : Prop := linksEndUptoRow.holds Try.pinned (OpenSpec.upto linksEndSpec)

/-- 'parleylaw16.LinksGroup', WHERE WHAT IT READS IS OF BULK AT MOST 1048576: true; the input reads as it did. -/
def linksGroupUptoRow : OpenClaim := { program := "ytlbbheopoflmjaa", sum := "f3ec36e8a329946201f63866b3e45228485d4b9868a9755516f50a19f9cb3315", func := "parley/parleylaw16.LinksGroup", spec := "linksGroup", unfollowed := true, recurses := true, plainKeys := false, apart := false, narrowed := true }
def LinksGroupUptoSaid : Prop := linksGroupUptoRow.holds Try.pinned (OpenSpec.upto linksGroupSpec)

/-- 'parleylaw16.LinksApart', WHERE WHAT IT READS IS OF BULK AT MOST 1048576: true; the input reads as it did. -/
def linksApartUptoRow : OpenClaim := { program := "ytlbbheopoflmjaa", sum := "f3ec36e8a329946201f63866b3e45228485d4b9868a9755516f50a19f9cb3315", func := "parley/parleylaw16.LinksApart", spec := "linksApart", unfollowed := true, recurses := true, plainKeys := false, apart := false, narrowed := true }
def LinksApartUptoSaid : Prop := linksApartUptoRow.holds Try.pinned (OpenSpec.upto linksApartSpec)

/-- 'parleylaw16.LinksPlays', WHERE WHAT IT READS IS OF BULK AT MOST 1048576: true; the input reads as it did. -/
def linksPlaysUptoRow : OpenClaim := { program := "ytlbbheopoflmjaa", sum := "f3ec36e8a329946201f63866b3e45228485d4b9868a9755516f50a19f9cb3315", func := "parley/parleylaw16.LinksPlays", spec := "linksPlays", unfollowed := true, recurses := true, plainKeys := false, apart := false, narrowed := true }
def LinksPlaysUptoSaid : Prop := linksPlaysUptoRow.holds Try.pinned (OpenSpec.upto linksPlaysSpec)

/-- 'parleylaw16.LinksNil', WHERE WHAT IT READS IS OF BULK AT MOST 1048576: true; the input reads as it did. -/
def linksNilUptoRow : OpenClaim := { program := "ytlbbheopoflmjaa", sum := "f3ec36e8a329946201f63866b3e45228485d4b9868a9755516f50a19f9cb3315", func := "parley/parleylaw16.LinksNil", spec := "linksNil", unfollowed := true, recurses := true, plainKeys := false, apart := false, narrowed := true }
def LinksNilUptoSaid : Prop := linksNilUptoRow.holds Try.pinned (OpenSpec.upto linksNilSpec)

end Rows
end Go.Proofs.Ytlbbheopoflmjaa
