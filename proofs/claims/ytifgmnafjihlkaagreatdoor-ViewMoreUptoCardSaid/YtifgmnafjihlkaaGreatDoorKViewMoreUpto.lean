/- The closed facts of the row of ViewMore, each checked by itself. -/
import Derived.Test.YtifgmnafjihlkaaGreatDoorMW07
namespace Go.Proofs.YtifgmnafjihlkaaGreatDoor.viewMoreUpto
open Go
theorem k0 : Rows.viewMoreUptoRow.wf (OpenSpec.ofChange (Rows.OpenSpec.upto Rows.viewMoreSpec).bare) = true := by kernel_rfl
theorem k9 : (Rows.viewMoreUptoRow.inPlace == Tryz.prog.inPlace 10) = true := by kernel_rfl
theorem k10 : (Rows.viewMoreUptoRow.unfollowed == Tryz.prog.unfollowed 10) = true := by kernel_rfl
theorem k11 : (Rows.viewMoreUptoRow.recurses == Tryz.prog.recurses 10) = true := by kernel_rfl
theorem k12 : (Rows.viewMoreUptoRow.named == Tryz.prog.varsNamed 10) = true := by kernel_rfl
theorem kw : Rows.viewMoreUptoRow.wfByText (Rows.OpenSpec.upto Rows.viewMoreSpec) = true := by kernel_rfl
theorem kg : false = Rows.viewMoreUptoRow.goesBy Tryz.pinned.checked.prog := by kernel_rfl
end Go.Proofs.YtifgmnafjihlkaaGreatDoor.viewMoreUpto
