/- The closed facts of the row of MatchPieces, each checked by itself. -/
import Derived.Test.YtifgmnafjihlkaaGreatDoorMP24
namespace Go.Proofs.YtifgmnafjihlkaaGreatDoor.matchPiecesUpto
open Go
theorem k0 : Rows.matchPiecesUptoRow.wf (OpenSpec.ofChange (Rows.OpenSpec.upto Rows.matchPiecesSpec).bare) = true := by kernel_rfl
theorem k9 : (Rows.matchPiecesUptoRow.inPlace == Tryz.prog.inPlace 7) = true := by kernel_rfl
theorem k10 : (Rows.matchPiecesUptoRow.unfollowed == Tryz.prog.unfollowed 7) = true := by kernel_rfl
theorem k11 : (Rows.matchPiecesUptoRow.recurses == Tryz.prog.recurses 7) = true := by kernel_rfl
theorem k12 : (Rows.matchPiecesUptoRow.named == Tryz.prog.varsNamed 7) = true := by kernel_rfl
theorem kw : Rows.matchPiecesUptoRow.wfByText (Rows.OpenSpec.upto Rows.matchPiecesSpec) = true := by kernel_rfl
theorem kg : false = Rows.matchPiecesUptoRow.goesBy Tryz.pinned.checked.prog := by kernel_rfl
end Go.Proofs.YtifgmnafjihlkaaGreatDoor.matchPiecesUpto
