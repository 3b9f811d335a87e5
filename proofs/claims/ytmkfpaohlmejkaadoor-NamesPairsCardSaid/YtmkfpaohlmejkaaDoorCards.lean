/-
  DERIVED. GIVEN WITH THE SEED: THE CARDS: each row of YtmkfpaohlmejkaaDoorRows.lean that lists a variable, with what it lists TIED to the program's text (the seventh form; the later family's looks); each row that meets fmt, with fmt's text TOLD by the authors' own Lean function (tested against real Go, not proved from fmt's source: count such statements apart). THE CARD IS WHAT COUNTS. Prove the row's statement (the work); the ties are given (YtmkfpaohlmejkaaDoorTie.lean); close each card by the builder's one call (the guide's Derived/Test/ToyasCard.lean, 'card_holds'). Laid BY PROGRAM, IN A SANDBOX (cutbox-door.mjs). By AI agents, Wed Nov 11 2026. No macro, syntax, notation, axiom, sorry.
-/
import Derived.Test.YtmkfpaohlmejkaaDoorRows
import GoSem.ClaimSeven
namespace Go.Proofs.YtmkfpaohlmejkaaDoor
namespace Rows

/-- THE TIED CARD OF 'parleylaw15.NamesPlays'. -/
def namesPlaysCard : Claim7 := { stood := { row := namesPlaysRow, standIns := [], harness := (true, "4037085f0fe68ecf6a08709414a8087d34aba4bc9ecc98f96a7aab6946a6df3a"), looks := false }, kinds := [], alts := [], laidByText := true, laidKinds := [.data, .pinned], laidTests := true, laidLooks := .later }
def NamesPlaysCardSaid : Prop := Claim7.holds Tryd.pinned (.plain (OpenSpec.ofChange namesPlaysSpec)) namesPlaysCard

/-- THE TIED CARD OF 'parleylaw15.NamesPairs'. -/
def namesPairsCard : Claim7 := { stood := { row := namesPairsRow, standIns := [], harness := (true, "4037085f0fe68ecf6a08709414a8087d34aba4bc9ecc98f96a7aab6946a6df3a"), looks := false }, kinds := [], alts := [], laidByText := true, laidKinds := [.data, .pinned], laidTests := true, laidLooks := .later }
def NamesPairsCardSaid : Prop := Claim7.holds Tryd.pinned (.plain (OpenSpec.ofChange namesPairsSpec)) namesPairsCard

/-- THE TIED CARD OF 'parleylaw15.NamesUndone'. -/
def namesUndoneCard : Claim7 := { stood := { row := namesUndoneRow, standIns := [], harness := (true, "4037085f0fe68ecf6a08709414a8087d34aba4bc9ecc98f96a7aab6946a6df3a"), looks := false }, kinds := [], alts := [], laidByText := true, laidKinds := [.data, .pinned], laidTests := true, laidLooks := .later }
def NamesUndoneCardSaid : Prop := Claim7.holds Tryd.pinned (.plain (OpenSpec.ofChange namesUndoneSpec)) namesUndoneCard

/-- THE TIED CARD OF 'parleylaw15.NamesNil'. -/
def namesNilCard : Claim7 := { stood := { row := namesNilRow, standIns := [], harness := (true, "4037085f0fe68ecf6a08709414a8087d34aba4bc9ecc98f96a7aab6946a6df3a"), looks := false }, kinds := [], alts := [], laidByText := true, laidKinds := [.data, .pinned], laidTests := true, laidLooks := .later }
def NamesNilCardSaid : Prop := Claim7.holds Tryd.pinned (.plain (OpenSpec.ofChange namesNilSpec)) namesNilCard

/-- THE SECOND FORM's CARD OF 'parleylaw15.NamesPlays'. -/
def namesPlaysUptoCard : Claim7 := { stood := { row := namesPlaysUptoRow, standIns := [], harness := (true, "4037085f0fe68ecf6a08709414a8087d34aba4bc9ecc98f96a7aab6946a6df3a"), looks := false }, kinds := [], alts := [], laidByText := true, laidKinds := [.data, .pinned], laidTests := true, laidLooks := .later }
def NamesPlaysUptoCardSaid : Prop := Claim7.holds Tryd.pinned (.plain (OpenSpec.upto namesPlaysSpec)) namesPlaysUptoCard

/-- THE SECOND FORM's CARD OF 'parleylaw15.NamesPairs'. -/
def namesPairsUptoCard : Claim7 := { stood := { row := namesPairsUptoRow, standIns := [], harness := (true, "4037085f0fe68ecf6a08709414a8087d34aba4bc9ecc98f96a7aab6946a6df3a"), looks := false }, kinds := [], alts := [], laidByText := true, laidKinds := [.data, .pinned], laidTests := true, laidLooks := .later }
def NamesPairsUptoCardSaid : Prop := Claim7.holds Tryd.pinned (.plain (OpenSpec.upto namesPairsSpec)) namesPairsUptoCard

/-- THE SECOND FORM's CARD OF 'parleylaw15.NamesUndone'. -/
def namesUndoneUptoCard : Claim7 := { stood := { row := namesUndoneUptoRow, standIns := [], harness := (true, "4037085f0fe68ecf6a08709414a8087d34aba4bc9ecc98f96a7aab6946a6df3a"), looks := false }, kinds := [], alts := [], laidByText := true, laidKinds := [.data, .pinned], laidTests := true, laidLooks := .later }
def NamesUndoneUptoCardSaid : Prop := Claim7.holds Tryd.pinned (.plain (OpenSpec.upto namesUndoneSpec)) namesUndoneUptoCard

/-- THE SECOND FORM's CARD OF 'parleylaw15.NamesNil'. -/
def namesNilUptoCard : Claim7 := { stood := { row := namesNilUptoRow, standIns := [], harness := (true, "4037085f0fe68ecf6a08709414a8087d34aba4bc9ecc98f96a7aab6946a6df3a"), looks := false }, kinds := [], alts := [], laidByText := true, laidKinds := [.data, .pinned], laidTests := true, laidLooks := .later }
def NamesNilUptoCardSaid : Prop := Claim7.holds Tryd.pinned (.plain (OpenSpec.upto namesNilSpec)) namesNilUptoCard
end Rows
end Go.Proofs.YtmkfpaohlmejkaaDoor
