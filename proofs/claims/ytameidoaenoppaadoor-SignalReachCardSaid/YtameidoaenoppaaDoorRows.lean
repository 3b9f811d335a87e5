/-
  NARROWER THAN 'FOR EVERY INPUT', by the rows' own cells (each row's printed sentence says how): SignalSends: laid · SignalNil: laid · SignalReach: laid · SignalTraps: laid · SignalOnce: laid · SignalLeft: laid.
  DERIVED. THE GIVEN ROWS OF THIS SEAT. 6 by the template 'for every input the law returns true; each argument reads behind the call as it read before'; 0 by the template 'total and deterministic' (their statements: YtameidoaenoppaaDoorTotals.lean).
  GIVEN WITH THE SEED: the statements are not yours to turn. If you find one false, say at which input.
  Laid BY PROGRAM, IN A SANDBOX (cutbox-rows.mjs): the forced cells as the released guide's own fill.sh prints them over the translation fa1b4f0e0168288a… (all of the seat's roots in one cut). By AI agents, Wed Nov 11 2026. No macro, syntax, notation, axiom, sorry.
-/
import Derived.Test.YtameidoaenoppaaDoorChecked
import GoSem.PinnedTables
import GoSem.Claim
import GoSem.ClaimJoined
import GoSem.ClaimMapViews
import Derived.JoinedTies
import Derived.KernelRfl
namespace Go.Proofs.YtameidoaenoppaaDoor
/- THE CELL 'sum', in the pinned program and in every row, IS THE sha256 OF THE DUMP (.gsa) THAT YtameidoaenoppaaDoorProg.lean LOADS. Nothing in Lean hashes anything: it is a label: what it is worth is what the hold of that sum in a sandbox is worth. -/
noncomputable def Tryd.pinned : Pinned := { name := "ytameidoaenoppaadoor", sum := "fa1b4f0e0168288abd37893a0f575891a67128ea142803ca4ac045eb0e8588bc", checked := Tryd.checked }
namespace Rows
def none {H : Type} : Left H := { results := [], args := [] }

/- WHAT THE LISTED PACKAGE-LEVEL VARIABLES READ AS WHEN THE CALL BEGINS. Each datum BY PROGRAM (the guide's laid-datum.mjs) off the statement by which the dump's own 'gosem.cut.vars' lays the variable. In a bare row this is a premise. The card (YtameidoaenoppaaDoorCards.lean) ties it to the program's text. -/
def laid_unicode_utf8_acceptRanges {H : Type} : DataW H := .agg [.agg [.lit (.int .u8 128), .lit (.int .u8 191)], .agg [.lit (.int .u8 160), .lit (.int .u8 191)], .agg [.lit (.int .u8 128), .lit (.int .u8 159)], .agg [.lit (.int .u8 144), .lit (.int .u8 191)], .agg [.lit (.int .u8 128), .lit (.int .u8 143)], .agg [.lit (.int .u8 0), .lit (.int .u8 0)], .agg [.lit (.int .u8 0), .lit (.int .u8 0)], .agg [.lit (.int .u8 0), .lit (.int .u8 0)], .agg [.lit (.int .u8 0), .lit (.int .u8 0)], .agg [.lit (.int .u8 0), .lit (.int .u8 0)], .agg [.lit (.int .u8 0), .lit (.int .u8 0)], .agg [.lit (.int .u8 0), .lit (.int .u8 0)], .agg [.lit (.int .u8 0), .lit (.int .u8 0)], .agg [.lit (.int .u8 0), .lit (.int .u8 0)], .agg [.lit (.int .u8 0), .lit (.int .u8 0)], .agg [.lit (.int .u8 0), .lit (.int .u8 0)]]
/-- One of Go's own tables, pinned by name: the form's constant. -/
def laid_unicode_utf8_first : DataW Unit := Go.Pinned.utf8First

/-- 'parleylaw26.SignalSends': WHATEVER THE INPUT: true; the input reads as it did. -/
def signalSendsSpec : ChangeSpec := { name := "signalSends", fn := fun _ => fun
  | [d1, d2, d3, d4, d5] => { results := [.lit (.bool true)], args := [d1, d2, d3, d4, d5] }
  | _ => none }
def signalSendsRow : OpenClaim := { program := "ytameidoaenoppaadoor", sum := "fa1b4f0e0168288abd37893a0f575891a67128ea142803ca4ac045eb0e8588bc", func := "parley/parleylaw26.SignalSends", spec := "signalSends", unfollowed := true, recurses := true, named := ["unicode/utf8.first", "unicode/utf8.acceptRanges"], plainKeys := false, apart := false, laid := [("unicode/utf8.acceptRanges", laid_unicode_utf8_acceptRanges), ("unicode/utf8.first", laid_unicode_utf8_first)] }
def SignalSendsSaid : Prop := signalSendsRow.holds Tryd.pinned (OpenSpec.ofChange signalSendsSpec)

/-- ITS FALSE NEIGHBOUR: 'it returns false'. Refute it at one input. -/
def signalSendsWrong : ChangeSpec := { name := "signalSends", fn := fun _ => fun
  | [d1, d2, d3, d4, d5] => { results := [.lit (.bool false)], args := [d1, d2, d3, d4, d5] }
  | _ => none }
def SignalSendsWrongFalsely : Prop := signalSendsRow.holds Tryd.pinned (OpenSpec.ofChange signalSendsWrong)

/-- 'parleylaw26.SignalNil': WHATEVER THE INPUT: true; the input reads as it did. -/
def signalNilSpec : ChangeSpec := { name := "signalNil", fn := fun _ => fun
  | [d] => { results := [.lit (.bool true)], args := [d] }
  | _ => none }
def signalNilRow : OpenClaim := { program := "ytameidoaenoppaadoor", sum := "fa1b4f0e0168288abd37893a0f575891a67128ea142803ca4ac045eb0e8588bc", func := "parley/parleylaw26.SignalNil", spec := "signalNil", unfollowed := true, recurses := true, named := ["unicode/utf8.first", "unicode/utf8.acceptRanges"], plainKeys := false, apart := false, laid := [("unicode/utf8.acceptRanges", laid_unicode_utf8_acceptRanges), ("unicode/utf8.first", laid_unicode_utf8_first)] }
def SignalNilSaid : Prop := signalNilRow.holds Tryd.pinned (OpenSpec.ofChange signalNilSpec)

/-- ITS FALSE NEIGHBOUR: 'it returns false'. Refute it at one input. -/
def signalNilWrong : ChangeSpec := { name := "signalNil", fn := fun _ => fun
  | [d] => { results := [.lit (.bool false)], args := [d] }
  | _ => none }
def SignalNilWrongFalsely : Prop := signalNilRow.holds Tryd.pinned (OpenSpec.ofChange signalNilWrong)

/-- 'parleylaw26.SignalReach': WHATEVER THE INPUT: true; the input reads as it did. -/
def signalReachSpec : ChangeSpec := { name := "signalReach", fn := fun _ => fun
  | [d] => { results := [.lit (.bool true)], args := [d] }
  | _ => none }
def signalReachRow : OpenClaim := { program := "ytameidoaenoppaadoor", sum := "fa1b4f0e0168288abd37893a0f575891a67128ea142803ca4ac045eb0e8588bc", func := "parley/parleylaw26.SignalReach", spec := "signalReach", unfollowed := true, recurses := true, named := ["unicode/utf8.first", "unicode/utf8.acceptRanges"], plainKeys := false, apart := false, laid := [("unicode/utf8.acceptRanges", laid_unicode_utf8_acceptRanges), ("unicode/utf8.first", laid_unicode_utf8_first)] }
def SignalReachSaid : Prop := signalReachRow.holds Tryd.pinned (OpenSpec.ofChange signalReachSpec)

/-- ITS FALSE NEIGHBOUR: 'it returns false'. Refute it at one input. -/
def signalReachWrong : ChangeSpec := { name := "signalReach", fn := fun _ => fun
  | [d] => { results := [.lit (.bool false)], args := [d] }
  | _ => none }
def SignalReachWrongFalsely : Prop := signalReachRow.holds Tryd.pinned (OpenSpec.ofChange signalReachWrong)

/-- 'parleylaw26.SignalTraps': WHATEVER THE INPUT: true; the input reads as it did. -/
def signalTrapsSpec : ChangeSpec := { name := "signalTraps", fn := fun _ => fun
  | [d1, d2] => { results := [.lit (.bool true)], args := [d1, d2] }
  | _ => none }
def signalTrapsRow : OpenClaim := { program := "ytameidoaenoppaadoor", sum := "fa1b4f0e0168288abd37893a0f575891a67128ea142803ca4ac045eb0e8588bc", func := "parley/parleylaw26.SignalTraps", spec := "signalTraps", unfollowed := true, recurses := true, named := ["unicode/utf8.first", "unicode/utf8.acceptRanges"], plainKeys := false, apart := false, laid := [("unicode/utf8.acceptRanges", laid_unicode_utf8_acceptRanges), ("unicode/utf8.first", laid_unicode_utf8_first)] }
def SignalTrapsSaid : Prop := signalTrapsRow.holds Tryd.pinned (OpenSpec.ofChange signalTrapsSpec)

/-- ITS FALSE NEIGHBOUR: 'it returns false'. Refute it at one input. -/
def signalTrapsWrong : ChangeSpec := { name := "signalTraps", fn := fun _ => fun
  | [d1, d2] => { results := [.lit (.bool false)], args := [d1, d2] }
  | _ => none }
def SignalTrapsWrongFalsely : Prop := signalTrapsRow.holds Tryd.pinned (OpenSpec.ofChange signalTrapsWrong)

/-- 'parleylaw26.SignalOnce': WHATEVER THE INPUT: true; the input reads as it did. -/
def signalOnceSpec : ChangeSpec := { name := "signalOnce", fn := fun _ => fun
  | [d] => { results := [.lit (.bool true)], args := [d] }
  | _ => none }
def signalOnceRow : OpenClaim := { program := "ytameidoaenoppaadoor", sum := "fa1b4f0e0168288abd37893a0f575891a67128ea142803ca4ac045eb0e8588bc", func := "parley/parleylaw26.SignalOnce", spec := "signalOnce", unfollowed := true, recurses := true, named := ["unicode/utf8.first", "unicode/utf8.acceptRanges"], plainKeys := false, apart := false, laid := [("unicode/utf8.acceptRanges", laid_unicode_utf8_acceptRanges), ("unicode/utf8.first", laid_unicode_utf8_first)] }
def SignalOnceSaid : Prop := signalOnceRow.holds Tryd.pinned (OpenSpec.ofChange signalOnceSpec)

/-- ITS FALSE NEIGHBOUR: 'it returns false'. Refute it at one input. -/
def signalOnceWrong : ChangeSpec := { name := "signalOnce", fn := fun _ => fun
  | [d] => { results := [.lit (.bool false)], args := [d] }
  | _ => none }
def SignalOnceWrongFalsely : Prop := signalOnceRow.holds Tryd.pinned (OpenSpec.ofChange signalOnceWrong)

/-- 'parleylaw26.SignalLeft': WHATEVER THE INPUT: true; the input reads as it did. -/
def signalLeftSpec : ChangeSpec := { name := "signalLeft", fn := fun _ => fun
  | [d] => { results := [.lit (.bool true)], args := [d] }
  | _ => none }
def signalLeftRow : OpenClaim := { program := "ytameidoaenoppaadoor", sum := "fa1b4f0e0168288abd37893a0f575891a67128ea142803ca4ac045eb0e8588bc", func := "parley/parleylaw26.SignalLeft", spec := "signalLeft", unfollowed := true, recurses := true, named := ["unicode/utf8.first", "unicode/utf8.acceptRanges"], plainKeys := false, apart := false, laid := [("unicode/utf8.acceptRanges", laid_unicode_utf8_acceptRanges), ("unicode/utf8.first", laid_unicode_utf8_first)] }
def SignalLeftSaid : Prop := signalLeftRow.holds Tryd.pinned (OpenSpec.ofChange signalLeftSpec)

/-- ITS FALSE NEIGHBOUR: 'it returns false'. Refute it at one input. -/
def signalLeftWrong : ChangeSpec := { name := "signalLeft", fn := fun _ => fun
  | [d] => { results := [.lit (.bool false)], args := [d] }
  | _ => none }
def SignalLeftWrongFalsely : Prop := signalLeftRow.holds Tryd.pinned (OpenSpec.ofChange signalLeftWrong)

/- THE SECOND FORM. 'bulk': how many values and letters a reading holds, each counted each time it is reached (what is shared counts as often as it is met; a slice's spare places count too). A statement '..UptoSaid' is the law's where the arguments, and the package variables that the reading takes, are together of bulk at most 1048576: NARROWER than '..Said'. Prove '..Said' where nothing that the law and all that it calls make is longer than what came in: it says more and counts as full. Else prove '..UptoSaid'. A law counts once. -/
mutual
def uptoBulk {H : Type} : DataW H → Nat
  | .lit (.string bytes) => bytes.length + 1
  | .lit _ => 1
  | .nil => 1
  | .ptr d => uptoBulk d + 1
  | .slice elems spare => uptoBulkAll elems + uptoBulkAll spare + 1
  | .agg parts => uptoBulkAll parts + 1
  | .iface _ d => uptoBulk d + 1
  | .map entries => uptoBulkEntries entries + 1
  | .held _ => 1
def uptoBulkAll {H : Type} : List (DataW H) → Nat
  | [] => 0
  | d :: r => uptoBulk d + uptoBulkAll r
def uptoBulkEntries {H : Type} : List (Lit × DataW H) → Nat
  | [] => 0
  | x :: r => uptoBulkEntry x + uptoBulkEntries r
def uptoBulkEntry {H : Type} : Lit × DataW H → Nat
  | (.string bytes, d) => bytes.length + uptoBulk d + 1
  | (_, d) => uptoBulk d + 1
 end
def uptoSmall : (H : Type) → List (DataW H) → Bool := fun _ ds => decide (uptoBulkAll ds ≤ 1048576)
def OpenSpec.upto (s : _root_.Go.ChangeSpec) : _root_.Go.OpenSpec := { _root_.Go.OpenSpec.ofChange s with cond := some uptoSmall }

/-- 'parleylaw26.SignalSends', WHERE WHAT IT READS IS OF BULK AT MOST 1048576: true; the input reads as it did. -/
def signalSendsUptoRow : OpenClaim := { program := "ytameidoaenoppaadoor", sum := "fa1b4f0e0168288abd37893a0f575891a67128ea142803ca4ac045eb0e8588bc", func := "parley/parleylaw26.SignalSends", spec := "signalSends", unfollowed := true, recurses := true, named := ["unicode/utf8.first", "unicode/utf8.acceptRanges"], plainKeys := false, apart := false, laid := [("unicode/utf8.acceptRanges", laid_unicode_utf8_acceptRanges), ("unicode/utf8.first", laid_unicode_utf8_first)], narrowed := true }
def SignalSendsUptoSaid : Prop := signalSendsUptoRow.holds Tryd.pinned (OpenSpec.upto signalSendsSpec)

/-- 'parleylaw26.SignalNil', WHERE WHAT IT READS IS OF BULK AT MOST 1048576: true; the input reads as it did. -/
def signalNilUptoRow : OpenClaim := { program := "ytameidoaenoppaadoor", sum := "fa1b4f0e0168288abd37893a0f575891a67128ea142803ca4ac045eb0e8588bc", func := "parley/parleylaw26.SignalNil", spec := "signalNil", unfollowed := true, recurses := true, named := ["unicode/utf8.first", "unicode/utf8.acceptRanges"], plainKeys := false, apart := false, laid := [("unicode/utf8.acceptRanges", laid_unicode_utf8_acceptRanges), ("unicode/utf8.first", laid_unicode_utf8_first)], narrowed := true }
def SignalNilUptoSaid : Prop := signalNilUptoRow.holds Tryd.pinned (OpenSpec.upto signalNilSpec)

/-- 'parleylaw26.SignalReach', WHERE WHAT IT READS IS OF BULK AT MOST 1048576: true; the input reads as it did. -/
def signalReachUptoRow : OpenClaim := { program := "ytameidoaenoppaadoor", sum := "fa1b4f0e0168288abd37893a0f575891a67128ea142803ca4ac045eb0e8588bc", func := "parley/parleylaw26.SignalReach", spec := "signalReach", unfollowed := true, recurses := true, named := ["unicode/utf8.first", "unicode/utf8.acceptRanges"], plainKeys := false, apart := false, laid := [("unicode/utf8.acceptRanges", laid_unicode_utf8_acceptRanges), ("unicode/utf8.first", laid_unicode_utf8_first)], narrowed := true }
def SignalReachUptoSaid : Prop := signalReachUptoRow.holds Tryd.pinned (OpenSpec.upto signalReachSpec)

/-- 'parleylaw26.SignalTraps', WHERE WHAT IT READS IS OF BULK AT MOST 1048576: true; the input reads as it did. -/
def signalTrapsUptoRow : OpenClaim := { program := "ytameidoaenoppaadoor", sum := "fa1b4f0e0168288abd37893a0f575891a67128ea142803ca4ac045eb0e8588bc", func := "parley/parleylaw26.SignalTraps", spec := "signalTraps", unfollowed := true, recurses := true, named := ["unicode/utf8.first", "unicode/utf8.acceptRanges"], plainKeys := false, apart := false, laid := [("unicode/utf8.acceptRanges", laid_unicode_utf8_acceptRanges), ("unicode/utf8.first", laid_unicode_utf8_first)], narrowed := true }
def SignalTrapsUptoSaid : Prop := signalTrapsUptoRow.holds Tryd.pinned (OpenSpec.upto signalTrapsSpec)

/-- 'parleylaw26.SignalOnce', WHERE WHAT IT READS IS OF BULK AT MOST 1048576: true; the input reads as it did. -/
def signalOnceUptoRow : OpenClaim := { program := "ytameidoaenoppaadoor", sum := "fa1b4f0e0168288abd37893a0f575891a67128ea142803ca4ac045eb0e8588bc", func := "parley/parleylaw26.SignalOnce", spec := "signalOnce", unfollowed := true, recurses := true, named := ["unicode/utf8.first", "unicode/utf8.acceptRanges"], plainKeys := false, apart := false, laid := [("unicode/utf8.acceptRanges", laid_unicode_utf8_acceptRanges), ("unicode/utf8.first", laid_unicode_utf8_first)], narrowed := true }
def SignalOnceUptoSaid : Prop := signalOnceUptoRow.holds Tryd.pinned (OpenSpec.upto signalOnceSpec)

/-- 'parleylaw26.SignalLeft', WHERE WHAT IT READS IS OF BULK AT MOST 1048576: true; the input reads as it did. -/
def signalLeftUptoRow : OpenClaim := { program := "ytameidoaenoppaadoor", sum := "fa1b4f0e0168288abd37893a0f575891a67128ea142803ca4ac045eb0e8588bc", func := "parley/parleylaw26.SignalLeft", spec := "signalLeft", unfollowed := true, recurses := true, named := ["unicode/utf8.first", "unicode/utf8.acceptRanges"], plainKeys := false, apart := false, laid := [("unicode/utf8.acceptRanges", laid_unicode_utf8_acceptRanges), ("unicode/utf8.first", laid_unicode_utf8_first)], narrowed := true }
def SignalLeftUptoSaid : Prop := signalLeftUptoRow.holds Tryd.pinned (OpenSpec.upto signalLeftSpec)

end Rows
end Go.Proofs.YtameidoaenoppaaDoor
