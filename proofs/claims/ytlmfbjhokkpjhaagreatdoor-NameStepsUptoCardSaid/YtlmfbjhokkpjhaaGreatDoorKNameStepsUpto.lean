/- The closed facts of the row of NameSteps, each checked by itself. -/
import Derived.Test.YtlmfbjhokkpjhaaGreatDoorNB07
namespace Go.Proofs.YtlmfbjhokkpjhaaGreatDoor.nameStepsUpto
open Go
theorem k0 : Rows.nameStepsUptoRow.wf (OpenSpec.ofChange (Rows.OpenSpec.upto Rows.nameStepsSpec).bare) = true := by kernel_rfl
theorem k9 : (Rows.nameStepsUptoRow.inPlace == Tryz.prog.inPlace 5) = true := by kernel_rfl
theorem k10 : (Rows.nameStepsUptoRow.unfollowed == Tryz.prog.unfollowed 5) = true := by kernel_rfl
theorem k11 : (Rows.nameStepsUptoRow.recurses == Tryz.prog.recurses 5) = true := by kernel_rfl
theorem k12 : (Rows.nameStepsUptoRow.named == Tryz.prog.varsNamed 5) = true := by kernel_rfl
theorem kw : Rows.nameStepsUptoRow.wfByText (Rows.OpenSpec.upto Rows.nameStepsSpec) = true := by kernel_rfl
theorem kg : false = Rows.nameStepsUptoRow.goesBy Tryz.pinned.checked.prog := by kernel_rfl
end Go.Proofs.YtlmfbjhokkpjhaaGreatDoor.nameStepsUpto
