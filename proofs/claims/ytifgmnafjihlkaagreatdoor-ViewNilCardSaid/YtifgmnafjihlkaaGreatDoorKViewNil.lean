/- The closed facts of the row of ViewNil, each checked by itself. -/
import Derived.Test.YtifgmnafjihlkaaGreatDoorMV07
namespace Go.Proofs.YtifgmnafjihlkaaGreatDoor.viewNil
open Go
theorem k0 : Rows.viewNilRow.wf (OpenSpec.ofChange (OpenSpec.ofChange Rows.viewNilSpec).bare) = true := by kernel_rfl
theorem k9 : (Rows.viewNilRow.inPlace == Tryz.prog.inPlace 8) = true := by kernel_rfl
theorem k10 : (Rows.viewNilRow.unfollowed == Tryz.prog.unfollowed 8) = true := by kernel_rfl
theorem k11 : (Rows.viewNilRow.recurses == Tryz.prog.recurses 8) = true := by kernel_rfl
theorem k12 : (Rows.viewNilRow.named == Tryz.prog.varsNamed 8) = true := by kernel_rfl
theorem kw : Rows.viewNilRow.wfByText (OpenSpec.ofChange Rows.viewNilSpec) = true := by kernel_rfl
theorem kg : false = Rows.viewNilRow.goesBy Tryz.pinned.checked.prog := by kernel_rfl
end Go.Proofs.YtifgmnafjihlkaaGreatDoor.viewNil
