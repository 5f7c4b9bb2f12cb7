/- The closed facts of the row of ViewKnown, each checked by itself. -/
import Derived.Test.YtifgmnafjihlkaaGreatDoorMV07
namespace Go.Proofs.YtifgmnafjihlkaaGreatDoor.viewKnown
open Go
theorem k0 : Rows.viewKnownRow.wf (OpenSpec.ofChange (OpenSpec.ofChange Rows.viewKnownSpec).bare) = true := by kernel_rfl
theorem k9 : (Rows.viewKnownRow.inPlace == Tryz.prog.inPlace 9) = true := by kernel_rfl
theorem k10 : (Rows.viewKnownRow.unfollowed == Tryz.prog.unfollowed 9) = true := by kernel_rfl
theorem k11 : (Rows.viewKnownRow.recurses == Tryz.prog.recurses 9) = true := by kernel_rfl
theorem k12 : (Rows.viewKnownRow.named == Tryz.prog.varsNamed 9) = true := by kernel_rfl
theorem kw : Rows.viewKnownRow.wfByText (OpenSpec.ofChange Rows.viewKnownSpec) = true := by kernel_rfl
theorem kg : false = Rows.viewKnownRow.goesBy Tryz.pinned.checked.prog := by kernel_rfl
end Go.Proofs.YtifgmnafjihlkaaGreatDoor.viewKnown
