/-
  DERIVED. GIVEN WITH THE SEED: THE CARDS: each row of YtpnnbffhdhbonaaDoorRows.lean that lists a variable, with what it lists TIED to the program's text (the seventh form; the later family's looks); each row that meets fmt, with fmt's text TOLD by the authors' own Lean function (tested against real Go, not proved from fmt's source: count such statements apart). THE CARD IS WHAT COUNTS. Prove the row's statement (the work); the ties are given (YtpnnbffhdhbonaaDoorTie.lean); close each card by the builder's one call (the guide's Derived/Test/ToyasCard.lean, 'card_holds'). Laid BY PROGRAM, IN A SANDBOX (cutbox-door.mjs). By AI agents, Wed Nov 11 2026. No macro, syntax, notation, axiom, sorry.
-/
import Derived.Test.YtpnnbffhdhbonaaDoorRows
import GoSem.ClaimSeven
namespace Go.Proofs.YtpnnbffhdhbonaaDoor
namespace Rows

/-- THE TIED CARD OF 'rosterlaw03.PrepAgain'. -/
def prepAgainCard : Claim7 := { stood := { row := prepAgainRow, standIns := [], harness := (true, "3266276d16688fda676dd4e0de9b3c2f935491b167e30881be2baa51a5ee8bdc"), looks := false }, kinds := [], alts := [], laidByText := true, laidKinds := [.data, .data, .data, .data, .pinned], laidTests := true, laidLooks := .later }
def PrepAgainCardSaid : Prop := Claim7.holds Tryd.pinned (.plain (OpenSpec.ofChange prepAgainSpec)) prepAgainCard

/-- THE TIED CARD OF 'rosterlaw03.PrepCuts'. -/
def prepCutsCard : Claim7 := { stood := { row := prepCutsRow, standIns := [], harness := (true, "3266276d16688fda676dd4e0de9b3c2f935491b167e30881be2baa51a5ee8bdc"), looks := false }, kinds := [], alts := [], laidByText := true, laidKinds := [.data, .data, .data, .data, .pinned], laidTests := true, laidLooks := .later }
def PrepCutsCardSaid : Prop := Claim7.holds Tryd.pinned (.plain (OpenSpec.ofChange prepCutsSpec)) prepCutsCard

/-- THE TIED CARD OF 'rosterlaw03.PrepSums'. -/
def prepSumsCard : Claim7 := { stood := { row := prepSumsRow, standIns := [], harness := (true, "3266276d16688fda676dd4e0de9b3c2f935491b167e30881be2baa51a5ee8bdc"), looks := false }, kinds := [], alts := [], laidByText := true, laidKinds := [.data, .data, .data, .data, .pinned], laidTests := true, laidLooks := .later }
def PrepSumsCardSaid : Prop := Claim7.holds Tryd.pinned (.plain (OpenSpec.ofChange prepSumsSpec)) prepSumsCard

/-- THE TIED CARD OF 'rosterlaw03.PrepKnown'. -/
def prepKnownCard : Claim7 := { stood := { row := prepKnownRow, standIns := [], harness := (true, "3266276d16688fda676dd4e0de9b3c2f935491b167e30881be2baa51a5ee8bdc"), looks := false }, kinds := [], alts := [], laidByText := true, laidKinds := [.data, .data, .data, .data, .pinned], laidTests := true, laidLooks := .later }
def PrepKnownCardSaid : Prop := Claim7.holds Tryd.pinned (.plain (OpenSpec.ofChange prepKnownSpec)) prepKnownCard

/-- THE SECOND FORM's CARD OF 'rosterlaw03.PrepAgain'. -/
def prepAgainUptoCard : Claim7 := { stood := { row := prepAgainUptoRow, standIns := [], harness := (true, "3266276d16688fda676dd4e0de9b3c2f935491b167e30881be2baa51a5ee8bdc"), looks := false }, kinds := [], alts := [], laidByText := true, laidKinds := [.data, .data, .data, .data, .pinned], laidTests := true, laidLooks := .later }
def PrepAgainUptoCardSaid : Prop := Claim7.holds Tryd.pinned (.plain (OpenSpec.upto prepAgainSpec)) prepAgainUptoCard

/-- THE SECOND FORM's CARD OF 'rosterlaw03.PrepCuts'. -/
def prepCutsUptoCard : Claim7 := { stood := { row := prepCutsUptoRow, standIns := [], harness := (true, "3266276d16688fda676dd4e0de9b3c2f935491b167e30881be2baa51a5ee8bdc"), looks := false }, kinds := [], alts := [], laidByText := true, laidKinds := [.data, .data, .data, .data, .pinned], laidTests := true, laidLooks := .later }
def PrepCutsUptoCardSaid : Prop := Claim7.holds Tryd.pinned (.plain (OpenSpec.upto prepCutsSpec)) prepCutsUptoCard

/-- THE SECOND FORM's CARD OF 'rosterlaw03.PrepSums'. -/
def prepSumsUptoCard : Claim7 := { stood := { row := prepSumsUptoRow, standIns := [], harness := (true, "3266276d16688fda676dd4e0de9b3c2f935491b167e30881be2baa51a5ee8bdc"), looks := false }, kinds := [], alts := [], laidByText := true, laidKinds := [.data, .data, .data, .data, .pinned], laidTests := true, laidLooks := .later }
def PrepSumsUptoCardSaid : Prop := Claim7.holds Tryd.pinned (.plain (OpenSpec.upto prepSumsSpec)) prepSumsUptoCard

/-- THE SECOND FORM's CARD OF 'rosterlaw03.PrepKnown'. -/
def prepKnownUptoCard : Claim7 := { stood := { row := prepKnownUptoRow, standIns := [], harness := (true, "3266276d16688fda676dd4e0de9b3c2f935491b167e30881be2baa51a5ee8bdc"), looks := false }, kinds := [], alts := [], laidByText := true, laidKinds := [.data, .data, .data, .data, .pinned], laidTests := true, laidLooks := .later }
def PrepKnownUptoCardSaid : Prop := Claim7.holds Tryd.pinned (.plain (OpenSpec.upto prepKnownSpec)) prepKnownUptoCard
end Rows
end Go.Proofs.YtpnnbffhdhbonaaDoor
