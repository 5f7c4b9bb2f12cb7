/-
  DERIVED. GIVEN WITH THE SEED: THE CARDS: each row of YtpnnbffhdhbonaaGreatDoorRows.lean that lists a variable, with what it lists TIED to the program's text (the seventh form; the later family's looks); each row that meets fmt, with fmt's text TOLD by the authors' own Lean function (tested against real Go, not proved from fmt's source: count such statements apart). THE CARD IS WHAT COUNTS. Prove the row's statement (the work); the ties are given (YtpnnbffhdhbonaaGreatDoorTie.lean); close each card by the builder's one call (the guide's Derived/Test/ToyasCard.lean, 'card_holds'). Laid BY PROGRAM, IN A SANDBOX (cutbox-door.mjs). By AI agents, Wed Nov 11 2026. No macro, syntax, notation, axiom, sorry.
-/
import Derived.Test.YtpnnbffhdhbonaaGreatDoorRows
import GoSem.ClaimSeven
namespace Go.Proofs.YtpnnbffhdhbonaaGreatDoor
namespace Rows

/-- THE TIED CARD OF 'rosterlaw03.PrepKeys'. -/
def prepKeysCard : Claim7 := { stood := { row := prepKeysRow, standIns := [], harness := (true, "4800a7ec13d8bb1bb692b7d7bff505d7cd584e098481018606e3032af800a5e8"), looks := false }, kinds := [], alts := [], laidByText := true, laidKinds := [.data, .data, .data, .data, .pinned], laidTests := true, laidLooks := .later }
def PrepKeysCardSaid : Prop := Claim7.holds Tryz.pinned (.plain (OpenSpec.ofChange prepKeysSpec)) prepKeysCard

/-- THE TIED CARD OF 'rosterlaw03.PrepPieces'. -/
def prepPiecesCard : Claim7 := { stood := { row := prepPiecesRow, standIns := [], harness := (true, "4800a7ec13d8bb1bb692b7d7bff505d7cd584e098481018606e3032af800a5e8"), looks := false }, kinds := [], alts := [], laidByText := true, laidKinds := [.data, .data, .data, .data, .pinned], laidTests := true, laidLooks := .later }
def PrepPiecesCardSaid : Prop := Claim7.holds Tryz.pinned (.plain (OpenSpec.ofChange prepPiecesSpec)) prepPiecesCard

/-- THE TIED CARD OF 'rosterlaw03.PrepAdds'. -/
def prepAddsCard : Claim7 := { stood := { row := prepAddsRow, standIns := [], harness := (true, "4800a7ec13d8bb1bb692b7d7bff505d7cd584e098481018606e3032af800a5e8"), looks := false }, kinds := [], alts := [], laidByText := true, laidKinds := [.data, .data, .data, .data, .pinned], laidTests := true, laidLooks := .later }
def PrepAddsCardSaid : Prop := Claim7.holds Tryz.pinned (.plain (OpenSpec.ofChange prepAddsSpec)) prepAddsCard

/-- THE TIED CARD OF 'rosterlaw03.PrepTimes'. -/
def prepTimesCard : Claim7 := { stood := { row := prepTimesRow, standIns := [], harness := (true, "4800a7ec13d8bb1bb692b7d7bff505d7cd584e098481018606e3032af800a5e8"), looks := false }, kinds := [], alts := [], laidByText := true, laidKinds := [.data, .data, .data, .data, .pinned], laidTests := true, laidLooks := .later }
def PrepTimesCardSaid : Prop := Claim7.holds Tryz.pinned (.plain (OpenSpec.ofChange prepTimesSpec)) prepTimesCard

/-- THE TIED CARD OF 'rosterlaw03.PrepSounds'. -/
def prepSoundsCard : Claim7 := { stood := { row := prepSoundsRow, standIns := [], harness := (true, "4800a7ec13d8bb1bb692b7d7bff505d7cd584e098481018606e3032af800a5e8"), looks := false }, kinds := [], alts := [], laidByText := true, laidKinds := [.data, .data, .data, .data, .pinned], laidTests := true, laidLooks := .later }
def PrepSoundsCardSaid : Prop := Claim7.holds Tryz.pinned (.plain (OpenSpec.ofChange prepSoundsSpec)) prepSoundsCard

/-- THE TIED CARD OF 'rosterlaw03.PrepAny'. -/
def prepAnyCard : Claim7 := { stood := { row := prepAnyRow, standIns := [], harness := (true, "4800a7ec13d8bb1bb692b7d7bff505d7cd584e098481018606e3032af800a5e8"), looks := false }, kinds := [], alts := [], laidByText := true, laidKinds := [.data, .data, .data, .data, .pinned], laidTests := true, laidLooks := .later }
def PrepAnyCardSaid : Prop := Claim7.holds Tryz.pinned (.plain (OpenSpec.ofChange prepAnySpec)) prepAnyCard

/-- THE TIED CARD OF 'rosterlaw03.PrepOrder'. -/
def prepOrderCard : Claim7 := { stood := { row := prepOrderRow, standIns := [], harness := (true, "4800a7ec13d8bb1bb692b7d7bff505d7cd584e098481018606e3032af800a5e8"), looks := false }, kinds := [], alts := [], laidByText := true, laidKinds := [.data, .data, .data, .data, .pinned], laidTests := true, laidLooks := .later }
def PrepOrderCardSaid : Prop := Claim7.holds Tryz.pinned (.plain (OpenSpec.ofChange prepOrderSpec)) prepOrderCard

/-- THE SECOND FORM's CARD OF 'rosterlaw03.PrepKeys'. -/
def prepKeysUptoCard : Claim7 := { stood := { row := prepKeysUptoRow, standIns := [], harness := (true, "4800a7ec13d8bb1bb692b7d7bff505d7cd584e098481018606e3032af800a5e8"), looks := false }, kinds := [], alts := [], laidByText := true, laidKinds := [.data, .data, .data, .data, .pinned], laidTests := true, laidLooks := .later }
def PrepKeysUptoCardSaid : Prop := Claim7.holds Tryz.pinned (.plain (OpenSpec.upto prepKeysSpec)) prepKeysUptoCard

/-- THE SECOND FORM's CARD OF 'rosterlaw03.PrepPieces'. -/
def prepPiecesUptoCard : Claim7 := { stood := { row := prepPiecesUptoRow, standIns := [], harness := (true, "4800a7ec13d8bb1bb692b7d7bff505d7cd584e098481018606e3032af800a5e8"), looks := false }, kinds := [], alts := [], laidByText := true, laidKinds := [.data, .data, .data, .data, .pinned], laidTests := true, laidLooks := .later }
def PrepPiecesUptoCardSaid : Prop := Claim7.holds Tryz.pinned (.plain (OpenSpec.upto prepPiecesSpec)) prepPiecesUptoCard

/-- THE SECOND FORM's CARD OF 'rosterlaw03.PrepAdds'. -/
def prepAddsUptoCard : Claim7 := { stood := { row := prepAddsUptoRow, standIns := [], harness := (true, "4800a7ec13d8bb1bb692b7d7bff505d7cd584e098481018606e3032af800a5e8"), looks := false }, kinds := [], alts := [], laidByText := true, laidKinds := [.data, .data, .data, .data, .pinned], laidTests := true, laidLooks := .later }
def PrepAddsUptoCardSaid : Prop := Claim7.holds Tryz.pinned (.plain (OpenSpec.upto prepAddsSpec)) prepAddsUptoCard

/-- THE SECOND FORM's CARD OF 'rosterlaw03.PrepTimes'. -/
def prepTimesUptoCard : Claim7 := { stood := { row := prepTimesUptoRow, standIns := [], harness := (true, "4800a7ec13d8bb1bb692b7d7bff505d7cd584e098481018606e3032af800a5e8"), looks := false }, kinds := [], alts := [], laidByText := true, laidKinds := [.data, .data, .data, .data, .pinned], laidTests := true, laidLooks := .later }
def PrepTimesUptoCardSaid : Prop := Claim7.holds Tryz.pinned (.plain (OpenSpec.upto prepTimesSpec)) prepTimesUptoCard

/-- THE SECOND FORM's CARD OF 'rosterlaw03.PrepSounds'. -/
def prepSoundsUptoCard : Claim7 := { stood := { row := prepSoundsUptoRow, standIns := [], harness := (true, "4800a7ec13d8bb1bb692b7d7bff505d7cd584e098481018606e3032af800a5e8"), looks := false }, kinds := [], alts := [], laidByText := true, laidKinds := [.data, .data, .data, .data, .pinned], laidTests := true, laidLooks := .later }
def PrepSoundsUptoCardSaid : Prop := Claim7.holds Tryz.pinned (.plain (OpenSpec.upto prepSoundsSpec)) prepSoundsUptoCard

/-- THE SECOND FORM's CARD OF 'rosterlaw03.PrepAny'. -/
def prepAnyUptoCard : Claim7 := { stood := { row := prepAnyUptoRow, standIns := [], harness := (true, "4800a7ec13d8bb1bb692b7d7bff505d7cd584e098481018606e3032af800a5e8"), looks := false }, kinds := [], alts := [], laidByText := true, laidKinds := [.data, .data, .data, .data, .pinned], laidTests := true, laidLooks := .later }
def PrepAnyUptoCardSaid : Prop := Claim7.holds Tryz.pinned (.plain (OpenSpec.upto prepAnySpec)) prepAnyUptoCard

/-- THE SECOND FORM's CARD OF 'rosterlaw03.PrepOrder'. -/
def prepOrderUptoCard : Claim7 := { stood := { row := prepOrderUptoRow, standIns := [], harness := (true, "4800a7ec13d8bb1bb692b7d7bff505d7cd584e098481018606e3032af800a5e8"), looks := false }, kinds := [], alts := [], laidByText := true, laidKinds := [.data, .data, .data, .data, .pinned], laidTests := true, laidLooks := .later }
def PrepOrderUptoCardSaid : Prop := Claim7.holds Tryz.pinned (.plain (OpenSpec.upto prepOrderSpec)) prepOrderUptoCard
end Rows
end Go.Proofs.YtpnnbffhdhbonaaGreatDoor
