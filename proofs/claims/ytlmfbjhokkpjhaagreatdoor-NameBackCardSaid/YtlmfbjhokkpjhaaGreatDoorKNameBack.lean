/- The closed facts of the row of NameBack, each checked by itself. -/
import Derived.Test.YtlmfbjhokkpjhaaGreatDoorNB07
namespace Go.Proofs.YtlmfbjhokkpjhaaGreatDoor.nameBack
open Go
theorem k0 : Rows.nameBackRow.wf (OpenSpec.ofChange (OpenSpec.ofChange Rows.nameBackSpec).bare) = true := by kernel_rfl
theorem k9 : (Rows.nameBackRow.inPlace == Tryz.prog.inPlace 6) = true := by kernel_rfl
theorem k10 : (Rows.nameBackRow.unfollowed == Tryz.prog.unfollowed 6) = true := by kernel_rfl
theorem k11 : (Rows.nameBackRow.recurses == Tryz.prog.recurses 6) = true := by kernel_rfl
theorem k12 : (Rows.nameBackRow.named == Tryz.prog.varsNamed 6) = true := by kernel_rfl
theorem kw : Rows.nameBackRow.wfByText (OpenSpec.ofChange Rows.nameBackSpec) = true := by kernel_rfl
theorem kg : false = Rows.nameBackRow.goesBy Tryz.pinned.checked.prog := by kernel_rfl
end Go.Proofs.YtlmfbjhokkpjhaaGreatDoor.nameBack
