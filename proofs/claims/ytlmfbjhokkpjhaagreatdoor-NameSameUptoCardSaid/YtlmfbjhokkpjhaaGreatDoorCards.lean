/-
  DERIVED. GIVEN WITH THE SEED: THE CARDS: each row of YtlmfbjhokkpjhaaGreatDoorRows.lean that lists a variable, with what it lists TIED to the program's text (the seventh form; the later family's looks); each row that meets fmt, with fmt's text TOLD by the authors' own Lean function (tested against real Go, not proved from fmt's source: count such statements apart). THE CARD IS WHAT COUNTS. Prove the row's statement (the work); the ties are given (YtlmfbjhokkpjhaaGreatDoorTie.lean); close each card by the builder's one call (the guide's Derived/Test/ToyasCard.lean, 'card_holds'). Laid BY PROGRAM, IN A SANDBOX (cutbox-door.mjs). By AI agents, Wed Nov 11 2026. No macro, syntax, notation, axiom, sorry.
-/
import Derived.Test.YtlmfbjhokkpjhaaGreatDoorRows
import GoSem.ClaimSeven
namespace Go.Proofs.YtlmfbjhokkpjhaaGreatDoor
namespace Rows

/-- THE TIED CARD OF 'rosterlaw07.MatchLaws'. -/
def matchLawsCard : Claim7 := { stood := { row := matchLawsRow, standIns := [], harness := (true, "e9692e38e8dcf812acdb3deb344909ae8b550673e3e2d3497575032a8025b788"), looks := true }, kinds := [], alts := [], laidByText := true, laidKinds := [.data, .data, .data, .data, .sentinel, .sentinel, .data, .data, .data, .pinned], laidTests := true, laidLooks := .later }
def MatchLawsCardSaid : Prop := Claim7.holds Tryz.pinned (.plain (OpenSpec.ofChange matchLawsSpec)) matchLawsCard

/-- THE TIED CARD OF 'rosterlaw07.MatchSame'. -/
def matchSameCard : Claim7 := { stood := { row := matchSameRow, standIns := [], harness := (true, "e9692e38e8dcf812acdb3deb344909ae8b550673e3e2d3497575032a8025b788"), looks := true }, kinds := [], alts := [], laidByText := true, laidKinds := [.data, .data, .data, .data, .sentinel, .sentinel, .data, .data, .data, .pinned], laidTests := true, laidLooks := .later }
def MatchSameCardSaid : Prop := Claim7.holds Tryz.pinned (.plain (OpenSpec.ofChange matchSameSpec)) matchSameCard

/-- THE TIED CARD OF 'rosterlaw06.NameSteps'. -/
def nameStepsCard : Claim7 := { stood := { row := nameStepsRow, standIns := [], harness := (true, "e9692e38e8dcf812acdb3deb344909ae8b550673e3e2d3497575032a8025b788"), looks := true }, kinds := [], alts := [], laidByText := true, laidKinds := [.data, .data, .data, .data, .sentinel, .sentinel, .data, .pinned], laidTests := true, laidLooks := .later }
def NameStepsCardSaid : Prop := Claim7.holds Tryz.pinned (.plain (OpenSpec.ofChange nameStepsSpec)) nameStepsCard

/-- THE TIED CARD OF 'rosterlaw06.NameBack'. -/
def nameBackCard : Claim7 := { stood := { row := nameBackRow, standIns := [], harness := (true, "e9692e38e8dcf812acdb3deb344909ae8b550673e3e2d3497575032a8025b788"), looks := true }, kinds := [], alts := [], laidByText := true, laidKinds := [.data, .data, .data, .data, .sentinel, .sentinel, .data, .pinned], laidTests := true, laidLooks := .later }
def NameBackCardSaid : Prop := Claim7.holds Tryz.pinned (.plain (OpenSpec.ofChange nameBackSpec)) nameBackCard

/-- THE TIED CARD OF 'rosterlaw06.NameSame'. -/
def nameSameCard : Claim7 := { stood := { row := nameSameRow, standIns := [], harness := (true, "e9692e38e8dcf812acdb3deb344909ae8b550673e3e2d3497575032a8025b788"), looks := true }, kinds := [], alts := [], laidByText := true, laidKinds := [.data, .data, .data, .data, .sentinel, .sentinel, .data, .pinned], laidTests := true, laidLooks := .later }
def NameSameCardSaid : Prop := Claim7.holds Tryz.pinned (.plain (OpenSpec.ofChange nameSameSpec)) nameSameCard

/-- THE TIED CARD OF 'rosterlaw06.NameKnown'. -/
def nameKnownCard : Claim7 := { stood := { row := nameKnownRow, standIns := [], harness := (true, "e9692e38e8dcf812acdb3deb344909ae8b550673e3e2d3497575032a8025b788"), looks := true }, kinds := [], alts := [], laidByText := true, laidKinds := [.data, .data, .data, .data, .handle, .sentinel, .sentinel, .data, .pinned], laidTests := true, laidLooks := .later }
def NameKnownCardSaid : Prop := Claim7.holds Tryz.pinned (.plain (OpenSpec.ofChange nameKnownSpec)) nameKnownCard

/-- THE SECOND FORM's CARD OF 'rosterlaw07.MatchLaws'. -/
def matchLawsUptoCard : Claim7 := { stood := { row := matchLawsUptoRow, standIns := [], harness := (true, "e9692e38e8dcf812acdb3deb344909ae8b550673e3e2d3497575032a8025b788"), looks := true }, kinds := [], alts := [], laidByText := true, laidKinds := [.data, .data, .data, .data, .sentinel, .sentinel, .data, .data, .data, .pinned], laidTests := true, laidLooks := .later }
def MatchLawsUptoCardSaid : Prop := Claim7.holds Tryz.pinned (.plain (OpenSpec.upto matchLawsSpec)) matchLawsUptoCard

/-- THE SECOND FORM's CARD OF 'rosterlaw07.MatchSame'. -/
def matchSameUptoCard : Claim7 := { stood := { row := matchSameUptoRow, standIns := [], harness := (true, "e9692e38e8dcf812acdb3deb344909ae8b550673e3e2d3497575032a8025b788"), looks := true }, kinds := [], alts := [], laidByText := true, laidKinds := [.data, .data, .data, .data, .sentinel, .sentinel, .data, .data, .data, .pinned], laidTests := true, laidLooks := .later }
def MatchSameUptoCardSaid : Prop := Claim7.holds Tryz.pinned (.plain (OpenSpec.upto matchSameSpec)) matchSameUptoCard

/-- THE SECOND FORM's CARD OF 'rosterlaw06.NameSteps'. -/
def nameStepsUptoCard : Claim7 := { stood := { row := nameStepsUptoRow, standIns := [], harness := (true, "e9692e38e8dcf812acdb3deb344909ae8b550673e3e2d3497575032a8025b788"), looks := true }, kinds := [], alts := [], laidByText := true, laidKinds := [.data, .data, .data, .data, .sentinel, .sentinel, .data, .pinned], laidTests := true, laidLooks := .later }
def NameStepsUptoCardSaid : Prop := Claim7.holds Tryz.pinned (.plain (OpenSpec.upto nameStepsSpec)) nameStepsUptoCard

/-- THE SECOND FORM's CARD OF 'rosterlaw06.NameBack'. -/
def nameBackUptoCard : Claim7 := { stood := { row := nameBackUptoRow, standIns := [], harness := (true, "e9692e38e8dcf812acdb3deb344909ae8b550673e3e2d3497575032a8025b788"), looks := true }, kinds := [], alts := [], laidByText := true, laidKinds := [.data, .data, .data, .data, .sentinel, .sentinel, .data, .pinned], laidTests := true, laidLooks := .later }
def NameBackUptoCardSaid : Prop := Claim7.holds Tryz.pinned (.plain (OpenSpec.upto nameBackSpec)) nameBackUptoCard

/-- THE SECOND FORM's CARD OF 'rosterlaw06.NameSame'. -/
def nameSameUptoCard : Claim7 := { stood := { row := nameSameUptoRow, standIns := [], harness := (true, "e9692e38e8dcf812acdb3deb344909ae8b550673e3e2d3497575032a8025b788"), looks := true }, kinds := [], alts := [], laidByText := true, laidKinds := [.data, .data, .data, .data, .sentinel, .sentinel, .data, .pinned], laidTests := true, laidLooks := .later }
def NameSameUptoCardSaid : Prop := Claim7.holds Tryz.pinned (.plain (OpenSpec.upto nameSameSpec)) nameSameUptoCard

/-- THE SECOND FORM's CARD OF 'rosterlaw06.NameKnown'. -/
def nameKnownUptoCard : Claim7 := { stood := { row := nameKnownUptoRow, standIns := [], harness := (true, "e9692e38e8dcf812acdb3deb344909ae8b550673e3e2d3497575032a8025b788"), looks := true }, kinds := [], alts := [], laidByText := true, laidKinds := [.data, .data, .data, .data, .handle, .sentinel, .sentinel, .data, .pinned], laidTests := true, laidLooks := .later }
def NameKnownUptoCardSaid : Prop := Claim7.holds Tryz.pinned (.plain (OpenSpec.upto nameKnownSpec)) nameKnownUptoCard
end Rows
end Go.Proofs.YtlmfbjhokkpjhaaGreatDoor
