/- The closed facts of the row of MatchSame, each checked by itself. -/
import Derived.Test.YtlmfbjhokkpjhaaGreatDoorML07
namespace Go.Proofs.YtlmfbjhokkpjhaaGreatDoor.matchSameUpto
open Go
theorem k0 : Rows.matchSameUptoRow.wf (OpenSpec.ofChange (Rows.OpenSpec.upto Rows.matchSameSpec).bare) = true := by kernel_rfl
theorem k9 : (Rows.matchSameUptoRow.inPlace == Tryz.prog.inPlace 4) = true := by kernel_rfl
theorem k10 : (Rows.matchSameUptoRow.unfollowed == Tryz.prog.unfollowed 4) = true := by kernel_rfl
theorem k11 : (Rows.matchSameUptoRow.recurses == Tryz.prog.recurses 4) = true := by kernel_rfl
theorem k12 : (Rows.matchSameUptoRow.named == Tryz.prog.varsNamed 4) = true := by kernel_rfl
theorem kw : Rows.matchSameUptoRow.wfByText (Rows.OpenSpec.upto Rows.matchSameSpec) = true := by kernel_rfl
theorem kg : false = Rows.matchSameUptoRow.goesBy Tryz.pinned.checked.prog := by kernel_rfl
end Go.Proofs.YtlmfbjhokkpjhaaGreatDoor.matchSameUpto
