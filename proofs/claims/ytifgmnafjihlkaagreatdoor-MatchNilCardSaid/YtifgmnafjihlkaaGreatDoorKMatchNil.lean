/- The closed facts of the row of MatchNil, each checked by itself. -/
import Derived.Test.YtifgmnafjihlkaaGreatDoorMX22
namespace Go.Proofs.YtifgmnafjihlkaaGreatDoor.matchNil
open Go
theorem k0 : Rows.matchNilRow.wf (OpenSpec.ofChange (OpenSpec.ofChange Rows.matchNilSpec).bare) = true := by kernel_rfl
theorem k9 : (Rows.matchNilRow.inPlace == Tryz.prog.inPlace 3) = true := by kernel_rfl
theorem k10 : (Rows.matchNilRow.unfollowed == Tryz.prog.unfollowed 3) = true := by kernel_rfl
theorem k11 : (Rows.matchNilRow.recurses == Tryz.prog.recurses 3) = true := by kernel_rfl
theorem k12 : (Rows.matchNilRow.named == Tryz.prog.varsNamed 3) = true := by kernel_rfl
theorem kw : Rows.matchNilRow.wfByText (OpenSpec.ofChange Rows.matchNilSpec) = true := by kernel_rfl
theorem kg : false = Rows.matchNilRow.goesBy Tryz.pinned.checked.prog := by kernel_rfl
end Go.Proofs.YtifgmnafjihlkaaGreatDoor.matchNil
