/-
  DERIVED. GIVEN WITH THE SEED: THE CARDS: each row of YtameidoaenoppaaDoorRows.lean that lists a variable, with what it lists TIED to the program's text (the seventh form; the later family's looks); each row that meets fmt, with fmt's text TOLD by the authors' own Lean function (tested against real Go, not proved from fmt's source: count such statements apart). THE CARD IS WHAT COUNTS. Prove the row's statement (the work); the ties are given (YtameidoaenoppaaDoorTie.lean); close each card by the builder's one call (the guide's Derived/Test/ToyasCard.lean, 'card_holds'). Laid BY PROGRAM, IN A SANDBOX (cutbox-door.mjs). By AI agents, Wed Nov 11 2026. No macro, syntax, notation, axiom, sorry.
-/
import Derived.Test.YtameidoaenoppaaDoorRows
import GoSem.ClaimSeven
namespace Go.Proofs.YtameidoaenoppaaDoor
namespace Rows

/-- THE TIED CARD OF 'parleylaw26.SignalSends'. -/
def signalSendsCard : Claim7 := { stood := { row := signalSendsRow, standIns := [], harness := (true, "8c1318e5b93f53daf8b5b4c901e9a9f42f5f2dd7c08f968ecfbc85a8ceb5a06e"), looks := false }, kinds := [], alts := [], laidByText := true, laidKinds := [.data, .pinned], laidTests := true, laidLooks := .later }
def SignalSendsCardSaid : Prop := Claim7.holds Tryd.pinned (.plain (OpenSpec.ofChange signalSendsSpec)) signalSendsCard

/-- THE TIED CARD OF 'parleylaw26.SignalNil'. -/
def signalNilCard : Claim7 := { stood := { row := signalNilRow, standIns := [], harness := (true, "8c1318e5b93f53daf8b5b4c901e9a9f42f5f2dd7c08f968ecfbc85a8ceb5a06e"), looks := false }, kinds := [], alts := [], laidByText := true, laidKinds := [.data, .pinned], laidTests := true, laidLooks := .later }
def SignalNilCardSaid : Prop := Claim7.holds Tryd.pinned (.plain (OpenSpec.ofChange signalNilSpec)) signalNilCard

/-- THE TIED CARD OF 'parleylaw26.SignalReach'. -/
def signalReachCard : Claim7 := { stood := { row := signalReachRow, standIns := [], harness := (true, "8c1318e5b93f53daf8b5b4c901e9a9f42f5f2dd7c08f968ecfbc85a8ceb5a06e"), looks := false }, kinds := [], alts := [], laidByText := true, laidKinds := [.data, .pinned], laidTests := true, laidLooks := .later }
def SignalReachCardSaid : Prop := Claim7.holds Tryd.pinned (.plain (OpenSpec.ofChange signalReachSpec)) signalReachCard

/-- THE TIED CARD OF 'parleylaw26.SignalTraps'. -/
def signalTrapsCard : Claim7 := { stood := { row := signalTrapsRow, standIns := [], harness := (true, "8c1318e5b93f53daf8b5b4c901e9a9f42f5f2dd7c08f968ecfbc85a8ceb5a06e"), looks := false }, kinds := [], alts := [], laidByText := true, laidKinds := [.data, .pinned], laidTests := true, laidLooks := .later }
def SignalTrapsCardSaid : Prop := Claim7.holds Tryd.pinned (.plain (OpenSpec.ofChange signalTrapsSpec)) signalTrapsCard

/-- THE TIED CARD OF 'parleylaw26.SignalOnce'. -/
def signalOnceCard : Claim7 := { stood := { row := signalOnceRow, standIns := [], harness := (true, "8c1318e5b93f53daf8b5b4c901e9a9f42f5f2dd7c08f968ecfbc85a8ceb5a06e"), looks := false }, kinds := [], alts := [], laidByText := true, laidKinds := [.data, .pinned], laidTests := true, laidLooks := .later }
def SignalOnceCardSaid : Prop := Claim7.holds Tryd.pinned (.plain (OpenSpec.ofChange signalOnceSpec)) signalOnceCard

/-- THE TIED CARD OF 'parleylaw26.SignalLeft'. -/
def signalLeftCard : Claim7 := { stood := { row := signalLeftRow, standIns := [], harness := (true, "8c1318e5b93f53daf8b5b4c901e9a9f42f5f2dd7c08f968ecfbc85a8ceb5a06e"), looks := false }, kinds := [], alts := [], laidByText := true, laidKinds := [.data, .pinned], laidTests := true, laidLooks := .later }
def SignalLeftCardSaid : Prop := Claim7.holds Tryd.pinned (.plain (OpenSpec.ofChange signalLeftSpec)) signalLeftCard

/-- THE SECOND FORM's CARD OF 'parleylaw26.SignalSends'. -/
def signalSendsUptoCard : Claim7 := { stood := { row := signalSendsUptoRow, standIns := [], harness := (true, "8c1318e5b93f53daf8b5b4c901e9a9f42f5f2dd7c08f968ecfbc85a8ceb5a06e"), looks := false }, kinds := [], alts := [], laidByText := true, laidKinds := [.data, .pinned], laidTests := true, laidLooks := .later }
def SignalSendsUptoCardSaid : Prop := Claim7.holds Tryd.pinned (.plain (OpenSpec.upto signalSendsSpec)) signalSendsUptoCard

/-- THE SECOND FORM's CARD OF 'parleylaw26.SignalNil'. -/
def signalNilUptoCard : Claim7 := { stood := { row := signalNilUptoRow, standIns := [], harness := (true, "8c1318e5b93f53daf8b5b4c901e9a9f42f5f2dd7c08f968ecfbc85a8ceb5a06e"), looks := false }, kinds := [], alts := [], laidByText := true, laidKinds := [.data, .pinned], laidTests := true, laidLooks := .later }
def SignalNilUptoCardSaid : Prop := Claim7.holds Tryd.pinned (.plain (OpenSpec.upto signalNilSpec)) signalNilUptoCard

/-- THE SECOND FORM's CARD OF 'parleylaw26.SignalReach'. -/
def signalReachUptoCard : Claim7 := { stood := { row := signalReachUptoRow, standIns := [], harness := (true, "8c1318e5b93f53daf8b5b4c901e9a9f42f5f2dd7c08f968ecfbc85a8ceb5a06e"), looks := false }, kinds := [], alts := [], laidByText := true, laidKinds := [.data, .pinned], laidTests := true, laidLooks := .later }
def SignalReachUptoCardSaid : Prop := Claim7.holds Tryd.pinned (.plain (OpenSpec.upto signalReachSpec)) signalReachUptoCard

/-- THE SECOND FORM's CARD OF 'parleylaw26.SignalTraps'. -/
def signalTrapsUptoCard : Claim7 := { stood := { row := signalTrapsUptoRow, standIns := [], harness := (true, "8c1318e5b93f53daf8b5b4c901e9a9f42f5f2dd7c08f968ecfbc85a8ceb5a06e"), looks := false }, kinds := [], alts := [], laidByText := true, laidKinds := [.data, .pinned], laidTests := true, laidLooks := .later }
def SignalTrapsUptoCardSaid : Prop := Claim7.holds Tryd.pinned (.plain (OpenSpec.upto signalTrapsSpec)) signalTrapsUptoCard

/-- THE SECOND FORM's CARD OF 'parleylaw26.SignalOnce'. -/
def signalOnceUptoCard : Claim7 := { stood := { row := signalOnceUptoRow, standIns := [], harness := (true, "8c1318e5b93f53daf8b5b4c901e9a9f42f5f2dd7c08f968ecfbc85a8ceb5a06e"), looks := false }, kinds := [], alts := [], laidByText := true, laidKinds := [.data, .pinned], laidTests := true, laidLooks := .later }
def SignalOnceUptoCardSaid : Prop := Claim7.holds Tryd.pinned (.plain (OpenSpec.upto signalOnceSpec)) signalOnceUptoCard

/-- THE SECOND FORM's CARD OF 'parleylaw26.SignalLeft'. -/
def signalLeftUptoCard : Claim7 := { stood := { row := signalLeftUptoRow, standIns := [], harness := (true, "8c1318e5b93f53daf8b5b4c901e9a9f42f5f2dd7c08f968ecfbc85a8ceb5a06e"), looks := false }, kinds := [], alts := [], laidByText := true, laidKinds := [.data, .pinned], laidTests := true, laidLooks := .later }
def SignalLeftUptoCardSaid : Prop := Claim7.holds Tryd.pinned (.plain (OpenSpec.upto signalLeftSpec)) signalLeftUptoCard
end Rows
end Go.Proofs.YtameidoaenoppaaDoor
