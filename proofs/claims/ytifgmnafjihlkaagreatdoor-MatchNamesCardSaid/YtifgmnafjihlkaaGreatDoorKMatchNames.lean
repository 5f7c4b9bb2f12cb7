/- The closed facts of the row of MatchNames, each checked by itself. -/
import Derived.Test.YtifgmnafjihlkaaGreatDoorMX22
namespace Go.Proofs.YtifgmnafjihlkaaGreatDoor.matchNames
open Go
theorem k0 : Rows.matchNamesRow.wf (OpenSpec.ofChange (OpenSpec.ofChange Rows.matchNamesSpec).bare) = true := by kernel_rfl
theorem k9 : (Rows.matchNamesRow.inPlace == Tryz.prog.inPlace 4) = true := by kernel_rfl
theorem k10 : (Rows.matchNamesRow.unfollowed == Tryz.prog.unfollowed 4) = true := by kernel_rfl
theorem k11 : (Rows.matchNamesRow.recurses == Tryz.prog.recurses 4) = true := by kernel_rfl
theorem k12 : (Rows.matchNamesRow.named == Tryz.prog.varsNamed 4) = true := by kernel_rfl
theorem kw : Rows.matchNamesRow.wfByText (OpenSpec.ofChange Rows.matchNamesSpec) = true := by kernel_rfl
theorem kg : false = Rows.matchNamesRow.goesBy Tryz.pinned.checked.prog := by kernel_rfl
end Go.Proofs.YtifgmnafjihlkaaGreatDoor.matchNames
