/- The closed facts of the row of MatchLaws, each checked by itself. -/
import Derived.Test.YtlmfbjhokkpjhaaGreatDoorML07
namespace Go.Proofs.YtlmfbjhokkpjhaaGreatDoor.matchLawsUpto
open Go
theorem k0 : Rows.matchLawsUptoRow.wf (OpenSpec.ofChange (Rows.OpenSpec.upto Rows.matchLawsSpec).bare) = true := by kernel_rfl
theorem k9 : (Rows.matchLawsUptoRow.inPlace == Tryz.prog.inPlace 3) = true := by kernel_rfl
theorem k10 : (Rows.matchLawsUptoRow.unfollowed == Tryz.prog.unfollowed 3) = true := by kernel_rfl
theorem k11 : (Rows.matchLawsUptoRow.recurses == Tryz.prog.recurses 3) = true := by kernel_rfl
theorem k12 : (Rows.matchLawsUptoRow.named == Tryz.prog.varsNamed 3) = true := by kernel_rfl
theorem kw : Rows.matchLawsUptoRow.wfByText (Rows.OpenSpec.upto Rows.matchLawsSpec) = true := by kernel_rfl
theorem kg : false = Rows.matchLawsUptoRow.goesBy Tryz.pinned.checked.prog := by kernel_rfl
end Go.Proofs.YtlmfbjhokkpjhaaGreatDoor.matchLawsUpto
