/-
  DERIVED. GIVEN WITH THE SEED: THE CARDS: each row of YtifgmnafjihlkaaGreatDoorRows.lean that lists a variable, with what it lists TIED to the program's text (the seventh form; the later family's looks); each row that meets fmt, with fmt's text TOLD by the authors' own Lean function (tested against real Go, not proved from fmt's source: count such statements apart). THE CARD IS WHAT COUNTS. Prove the row's statement (the work); the ties are given (YtifgmnafjihlkaaGreatDoorTie.lean); close each card by the builder's one call (the guide's Derived/Test/ToyasCard.lean, 'card_holds'). Laid BY PROGRAM, IN A SANDBOX (cutbox-door.mjs). By AI agents, Wed Nov 11 2026. No macro, syntax, notation, axiom, sorry.
-/
import Derived.Test.YtifgmnafjihlkaaGreatDoorRows
import GoSem.ClaimSeven
namespace Go.Proofs.YtifgmnafjihlkaaGreatDoor
namespace Rows

/-- THE TIED CARD OF 'rosterlaw07.MatchNil'. -/
def matchNilCard : Claim7 := { stood := { row := matchNilRow, standIns := [], harness := (true, "a77f927dddbc31e12364b77d8bd0f2ef79e01c71771819b72c31a58587f7f438"), looks := true }, kinds := [], alts := [], laidByText := true, laidKinds := [.data, .data, .data, .data, .sentinel, .sentinel, .data, .data, .data, .pinned], laidTests := true, laidLooks := .later }
def MatchNilCardSaid : Prop := Claim7.holds Tryz.pinned (.plain (OpenSpec.ofChange matchNilSpec)) matchNilCard

/-- THE TIED CARD OF 'rosterlaw07.MatchNames'. -/
def matchNamesCard : Claim7 := { stood := { row := matchNamesRow, standIns := [], harness := (true, "a77f927dddbc31e12364b77d8bd0f2ef79e01c71771819b72c31a58587f7f438"), looks := true }, kinds := [], alts := [], laidByText := true, laidKinds := [.data, .data, .data, .data, .sentinel, .sentinel, .data, .data, .data, .pinned], laidTests := true, laidLooks := .later }
def MatchNamesCardSaid : Prop := Claim7.holds Tryz.pinned (.plain (OpenSpec.ofChange matchNamesSpec)) matchNamesCard

/-- THE TIED CARD OF 'rosterlaw07.MatchLaws'. -/
def matchLawsCard : Claim7 := { stood := { row := matchLawsRow, standIns := [], harness := (true, "a77f927dddbc31e12364b77d8bd0f2ef79e01c71771819b72c31a58587f7f438"), looks := true }, kinds := [], alts := [], laidByText := true, laidKinds := [.data, .data, .data, .data, .sentinel, .sentinel, .data, .data, .data, .pinned], laidTests := true, laidLooks := .later }
def MatchLawsCardSaid : Prop := Claim7.holds Tryz.pinned (.plain (OpenSpec.ofChange matchLawsSpec)) matchLawsCard

/-- THE TIED CARD OF 'rosterlaw07.MatchSame'. -/
def matchSameCard : Claim7 := { stood := { row := matchSameRow, standIns := [], harness := (true, "a77f927dddbc31e12364b77d8bd0f2ef79e01c71771819b72c31a58587f7f438"), looks := true }, kinds := [], alts := [], laidByText := true, laidKinds := [.data, .data, .data, .data, .sentinel, .sentinel, .data, .data, .data, .pinned], laidTests := true, laidLooks := .later }
def MatchSameCardSaid : Prop := Claim7.holds Tryz.pinned (.plain (OpenSpec.ofChange matchSameSpec)) matchSameCard

/-- THE TIED CARD OF 'rosterlaw07.MatchPieces'. -/
def matchPiecesCard : Claim7 := { stood := { row := matchPiecesRow, standIns := [], harness := (true, "a77f927dddbc31e12364b77d8bd0f2ef79e01c71771819b72c31a58587f7f438"), looks := true }, kinds := [], alts := [], laidByText := true, laidKinds := [.data, .data, .data, .data, .sentinel, .sentinel, .data, .data, .data, .pinned], laidTests := true, laidLooks := .later }
def MatchPiecesCardSaid : Prop := Claim7.holds Tryz.pinned (.plain (OpenSpec.ofChange matchPiecesSpec)) matchPiecesCard

/-- THE TIED CARD OF 'rosterlaw23.ViewNil'. -/
def viewNilCard : Claim7 := { stood := { row := viewNilRow, standIns := [], harness := (true, "a77f927dddbc31e12364b77d8bd0f2ef79e01c71771819b72c31a58587f7f438"), looks := true }, kinds := [], alts := [], laidByText := true, laidKinds := [.data, .data, .data, .data, .data, .pinned], laidTests := true, laidLooks := .later }
def ViewNilCardSaid : Prop := Claim7.holds Tryz.pinned (.plain (OpenSpec.ofChange viewNilSpec)) viewNilCard

/-- THE TIED CARD OF 'rosterlaw23.ViewKnown'. -/
def viewKnownCard : Claim7 := { stood := { row := viewKnownRow, standIns := [], harness := (true, "a77f927dddbc31e12364b77d8bd0f2ef79e01c71771819b72c31a58587f7f438"), looks := true }, kinds := [], alts := [], laidByText := true, laidKinds := [.data, .data, .data, .data, .data, .pinned], laidTests := true, laidLooks := .later }
def ViewKnownCardSaid : Prop := Claim7.holds Tryz.pinned (.plain (OpenSpec.ofChange viewKnownSpec)) viewKnownCard

/-- THE TIED CARD OF 'rosterlaw23.ViewMore'. -/
def viewMoreCard : Claim7 := { stood := { row := viewMoreRow, standIns := [], harness := (true, "a77f927dddbc31e12364b77d8bd0f2ef79e01c71771819b72c31a58587f7f438"), looks := true }, kinds := [], alts := [], laidByText := true, laidKinds := [.data, .data, .data, .data, .data, .pinned], laidTests := true, laidLooks := .later }
def ViewMoreCardSaid : Prop := Claim7.holds Tryz.pinned (.plain (OpenSpec.ofChange viewMoreSpec)) viewMoreCard

/-- THE TIED CARD OF 'rosterlaw06.NameSteps'. -/
def nameStepsCard : Claim7 := { stood := { row := nameStepsRow, standIns := [], harness := (true, "a77f927dddbc31e12364b77d8bd0f2ef79e01c71771819b72c31a58587f7f438"), looks := true }, kinds := [], alts := [], laidByText := true, laidKinds := [.data, .data, .data, .data, .sentinel, .sentinel, .data, .pinned], laidTests := true, laidLooks := .later }
def NameStepsCardSaid : Prop := Claim7.holds Tryz.pinned (.plain (OpenSpec.ofChange nameStepsSpec)) nameStepsCard

/-- THE TIED CARD OF 'rosterlaw06.NameBack'. -/
def nameBackCard : Claim7 := { stood := { row := nameBackRow, standIns := [], harness := (true, "a77f927dddbc31e12364b77d8bd0f2ef79e01c71771819b72c31a58587f7f438"), looks := true }, kinds := [], alts := [], laidByText := true, laidKinds := [.data, .data, .data, .data, .sentinel, .sentinel, .data, .pinned], laidTests := true, laidLooks := .later }
def NameBackCardSaid : Prop := Claim7.holds Tryz.pinned (.plain (OpenSpec.ofChange nameBackSpec)) nameBackCard

/-- THE TIED CARD OF 'rosterlaw06.NameSame'. -/
def nameSameCard : Claim7 := { stood := { row := nameSameRow, standIns := [], harness := (true, "a77f927dddbc31e12364b77d8bd0f2ef79e01c71771819b72c31a58587f7f438"), looks := true }, kinds := [], alts := [], laidByText := true, laidKinds := [.data, .data, .data, .data, .sentinel, .sentinel, .data, .pinned], laidTests := true, laidLooks := .later }
def NameSameCardSaid : Prop := Claim7.holds Tryz.pinned (.plain (OpenSpec.ofChange nameSameSpec)) nameSameCard

/-- THE TIED CARD OF 'rosterlaw06.NameKnown'. -/
def nameKnownCard : Claim7 := { stood := { row := nameKnownRow, standIns := [], harness := (true, "a77f927dddbc31e12364b77d8bd0f2ef79e01c71771819b72c31a58587f7f438"), looks := true }, kinds := [], alts := [], laidByText := true, laidKinds := [.data, .data, .data, .data, .handle, .sentinel, .sentinel, .data, .pinned], laidTests := true, laidLooks := .later }
def NameKnownCardSaid : Prop := Claim7.holds Tryz.pinned (.plain (OpenSpec.ofChange nameKnownSpec)) nameKnownCard

/-- THE SECOND FORM's CARD OF 'rosterlaw07.MatchNil'. -/
def matchNilUptoCard : Claim7 := { stood := { row := matchNilUptoRow, standIns := [], harness := (true, "a77f927dddbc31e12364b77d8bd0f2ef79e01c71771819b72c31a58587f7f438"), looks := true }, kinds := [], alts := [], laidByText := true, laidKinds := [.data, .data, .data, .data, .sentinel, .sentinel, .data, .data, .data, .pinned], laidTests := true, laidLooks := .later }
def MatchNilUptoCardSaid : Prop := Claim7.holds Tryz.pinned (.plain (OpenSpec.upto matchNilSpec)) matchNilUptoCard

/-- THE SECOND FORM's CARD OF 'rosterlaw07.MatchNames'. -/
def matchNamesUptoCard : Claim7 := { stood := { row := matchNamesUptoRow, standIns := [], harness := (true, "a77f927dddbc31e12364b77d8bd0f2ef79e01c71771819b72c31a58587f7f438"), looks := true }, kinds := [], alts := [], laidByText := true, laidKinds := [.data, .data, .data, .data, .sentinel, .sentinel, .data, .data, .data, .pinned], laidTests := true, laidLooks := .later }
def MatchNamesUptoCardSaid : Prop := Claim7.holds Tryz.pinned (.plain (OpenSpec.upto matchNamesSpec)) matchNamesUptoCard

/-- THE SECOND FORM's CARD OF 'rosterlaw07.MatchLaws'. -/
def matchLawsUptoCard : Claim7 := { stood := { row := matchLawsUptoRow, standIns := [], harness := (true, "a77f927dddbc31e12364b77d8bd0f2ef79e01c71771819b72c31a58587f7f438"), looks := true }, kinds := [], alts := [], laidByText := true, laidKinds := [.data, .data, .data, .data, .sentinel, .sentinel, .data, .data, .data, .pinned], laidTests := true, laidLooks := .later }
def MatchLawsUptoCardSaid : Prop := Claim7.holds Tryz.pinned (.plain (OpenSpec.upto matchLawsSpec)) matchLawsUptoCard

/-- THE SECOND FORM's CARD OF 'rosterlaw07.MatchSame'. -/
def matchSameUptoCard : Claim7 := { stood := { row := matchSameUptoRow, standIns := [], harness := (true, "a77f927dddbc31e12364b77d8bd0f2ef79e01c71771819b72c31a58587f7f438"), looks := true }, kinds := [], alts := [], laidByText := true, laidKinds := [.data, .data, .data, .data, .sentinel, .sentinel, .data, .data, .data, .pinned], laidTests := true, laidLooks := .later }
def MatchSameUptoCardSaid : Prop := Claim7.holds Tryz.pinned (.plain (OpenSpec.upto matchSameSpec)) matchSameUptoCard

/-- THE SECOND FORM's CARD OF 'rosterlaw07.MatchPieces'. -/
def matchPiecesUptoCard : Claim7 := { stood := { row := matchPiecesUptoRow, standIns := [], harness := (true, "a77f927dddbc31e12364b77d8bd0f2ef79e01c71771819b72c31a58587f7f438"), looks := true }, kinds := [], alts := [], laidByText := true, laidKinds := [.data, .data, .data, .data, .sentinel, .sentinel, .data, .data, .data, .pinned], laidTests := true, laidLooks := .later }
def MatchPiecesUptoCardSaid : Prop := Claim7.holds Tryz.pinned (.plain (OpenSpec.upto matchPiecesSpec)) matchPiecesUptoCard

/-- THE SECOND FORM's CARD OF 'rosterlaw23.ViewNil'. -/
def viewNilUptoCard : Claim7 := { stood := { row := viewNilUptoRow, standIns := [], harness := (true, "a77f927dddbc31e12364b77d8bd0f2ef79e01c71771819b72c31a58587f7f438"), looks := true }, kinds := [], alts := [], laidByText := true, laidKinds := [.data, .data, .data, .data, .data, .pinned], laidTests := true, laidLooks := .later }
def ViewNilUptoCardSaid : Prop := Claim7.holds Tryz.pinned (.plain (OpenSpec.upto viewNilSpec)) viewNilUptoCard

/-- THE SECOND FORM's CARD OF 'rosterlaw23.ViewKnown'. -/
def viewKnownUptoCard : Claim7 := { stood := { row := viewKnownUptoRow, standIns := [], harness := (true, "a77f927dddbc31e12364b77d8bd0f2ef79e01c71771819b72c31a58587f7f438"), looks := true }, kinds := [], alts := [], laidByText := true, laidKinds := [.data, .data, .data, .data, .data, .pinned], laidTests := true, laidLooks := .later }
def ViewKnownUptoCardSaid : Prop := Claim7.holds Tryz.pinned (.plain (OpenSpec.upto viewKnownSpec)) viewKnownUptoCard

/-- THE SECOND FORM's CARD OF 'rosterlaw23.ViewMore'. -/
def viewMoreUptoCard : Claim7 := { stood := { row := viewMoreUptoRow, standIns := [], harness := (true, "a77f927dddbc31e12364b77d8bd0f2ef79e01c71771819b72c31a58587f7f438"), looks := true }, kinds := [], alts := [], laidByText := true, laidKinds := [.data, .data, .data, .data, .data, .pinned], laidTests := true, laidLooks := .later }
def ViewMoreUptoCardSaid : Prop := Claim7.holds Tryz.pinned (.plain (OpenSpec.upto viewMoreSpec)) viewMoreUptoCard

/-- THE SECOND FORM's CARD OF 'rosterlaw06.NameSteps'. -/
def nameStepsUptoCard : Claim7 := { stood := { row := nameStepsUptoRow, standIns := [], harness := (true, "a77f927dddbc31e12364b77d8bd0f2ef79e01c71771819b72c31a58587f7f438"), looks := true }, kinds := [], alts := [], laidByText := true, laidKinds := [.data, .data, .data, .data, .sentinel, .sentinel, .data, .pinned], laidTests := true, laidLooks := .later }
def NameStepsUptoCardSaid : Prop := Claim7.holds Tryz.pinned (.plain (OpenSpec.upto nameStepsSpec)) nameStepsUptoCard

/-- THE SECOND FORM's CARD OF 'rosterlaw06.NameBack'. -/
def nameBackUptoCard : Claim7 := { stood := { row := nameBackUptoRow, standIns := [], harness := (true, "a77f927dddbc31e12364b77d8bd0f2ef79e01c71771819b72c31a58587f7f438"), looks := true }, kinds := [], alts := [], laidByText := true, laidKinds := [.data, .data, .data, .data, .sentinel, .sentinel, .data, .pinned], laidTests := true, laidLooks := .later }
def NameBackUptoCardSaid : Prop := Claim7.holds Tryz.pinned (.plain (OpenSpec.upto nameBackSpec)) nameBackUptoCard

/-- THE SECOND FORM's CARD OF 'rosterlaw06.NameSame'. -/
def nameSameUptoCard : Claim7 := { stood := { row := nameSameUptoRow, standIns := [], harness := (true, "a77f927dddbc31e12364b77d8bd0f2ef79e01c71771819b72c31a58587f7f438"), looks := true }, kinds := [], alts := [], laidByText := true, laidKinds := [.data, .data, .data, .data, .sentinel, .sentinel, .data, .pinned], laidTests := true, laidLooks := .later }
def NameSameUptoCardSaid : Prop := Claim7.holds Tryz.pinned (.plain (OpenSpec.upto nameSameSpec)) nameSameUptoCard

/-- THE SECOND FORM's CARD OF 'rosterlaw06.NameKnown'. -/
def nameKnownUptoCard : Claim7 := { stood := { row := nameKnownUptoRow, standIns := [], harness := (true, "a77f927dddbc31e12364b77d8bd0f2ef79e01c71771819b72c31a58587f7f438"), looks := true }, kinds := [], alts := [], laidByText := true, laidKinds := [.data, .data, .data, .data, .handle, .sentinel, .sentinel, .data, .pinned], laidTests := true, laidLooks := .later }
def NameKnownUptoCardSaid : Prop := Claim7.holds Tryz.pinned (.plain (OpenSpec.upto nameKnownSpec)) nameKnownUptoCard
end Rows
end Go.Proofs.YtifgmnafjihlkaaGreatDoor
