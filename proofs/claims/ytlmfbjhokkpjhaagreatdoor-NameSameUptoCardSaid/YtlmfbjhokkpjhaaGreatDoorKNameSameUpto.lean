/- The closed facts of the row of NameSame, each checked by itself. -/
import Derived.Test.YtlmfbjhokkpjhaaGreatDoorNM07
namespace Go.Proofs.YtlmfbjhokkpjhaaGreatDoor.nameSameUpto
open Go
theorem k0 : Rows.nameSameUptoRow.wf (OpenSpec.ofChange (Rows.OpenSpec.upto Rows.nameSameSpec).bare) = true := by kernel_rfl
theorem k9 : (Rows.nameSameUptoRow.inPlace == Tryz.prog.inPlace 7) = true := by kernel_rfl
theorem k10 : (Rows.nameSameUptoRow.unfollowed == Tryz.prog.unfollowed 7) = true := by kernel_rfl
theorem k11 : (Rows.nameSameUptoRow.recurses == Tryz.prog.recurses 7) = true := by kernel_rfl
theorem k12 : (Rows.nameSameUptoRow.named == Tryz.prog.varsNamed 7) = true := by kernel_rfl
theorem kw : Rows.nameSameUptoRow.wfByText (Rows.OpenSpec.upto Rows.nameSameSpec) = true := by kernel_rfl
theorem kg : false = Rows.nameSameUptoRow.goesBy Tryz.pinned.checked.prog := by kernel_rfl
end Go.Proofs.YtlmfbjhokkpjhaaGreatDoor.nameSameUpto
