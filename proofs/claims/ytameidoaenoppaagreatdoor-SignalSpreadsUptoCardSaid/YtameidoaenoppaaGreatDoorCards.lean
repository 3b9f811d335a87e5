/-
  DERIVED. GIVEN WITH THE SEED: THE CARDS: each row of YtameidoaenoppaaGreatDoorRows.lean that lists a variable, with what it lists TIED to the program's text (the seventh form; the later family's looks); each row that meets fmt, with fmt's text TOLD by the authors' own Lean function (tested against real Go, not proved from fmt's source: count such statements apart). THE CARD IS WHAT COUNTS. Prove the row's statement (the work); the ties are given (YtameidoaenoppaaGreatDoorTie.lean); close each card by the builder's one call (the guide's Derived/Test/ToyasCard.lean, 'card_holds'). Laid BY PROGRAM, IN A SANDBOX (cutbox-door.mjs). By AI agents, Wed Nov 11 2026. No macro, syntax, notation, axiom, sorry.
-/
import Derived.Test.YtameidoaenoppaaGreatDoorRows
import GoSem.ClaimSeven
namespace Go.Proofs.YtameidoaenoppaaGreatDoor
namespace Rows

/-- THE TIED CARD OF 'parleylaw26.SignalSpreads'. -/
def signalSpreadsCard : Claim7 := { stood := { row := signalSpreadsRow, standIns := [], harness := (true, "fbf0f2a17c20d52856e582e95c5f7f51a2a4495f5184d6c6ad8cbc7b51662bb3"), looks := false }, kinds := [], alts := [], laidByText := true, laidKinds := [.data, .pinned], laidTests := true, laidLooks := .later }
def SignalSpreadsCardSaid : Prop := Claim7.holds Tryz.pinned (.plain (OpenSpec.ofChange signalSpreadsSpec)) signalSpreadsCard

/-- THE SECOND FORM's CARD OF 'parleylaw26.SignalSpreads'. -/
def signalSpreadsUptoCard : Claim7 := { stood := { row := signalSpreadsUptoRow, standIns := [], harness := (true, "fbf0f2a17c20d52856e582e95c5f7f51a2a4495f5184d6c6ad8cbc7b51662bb3"), looks := false }, kinds := [], alts := [], laidByText := true, laidKinds := [.data, .pinned], laidTests := true, laidLooks := .later }
def SignalSpreadsUptoCardSaid : Prop := Claim7.holds Tryz.pinned (.plain (OpenSpec.upto signalSpreadsSpec)) signalSpreadsUptoCard
end Rows
end Go.Proofs.YtameidoaenoppaaGreatDoor
