/- Part 33 of the walks and plain laws, joined: CountC, StepC. -/
import Derived.Test.YtlmfbjhokkpjhaaGreatDoorML00
import Derived.Test.YtlmfbjhokkpjhaaGreatDoorML26
import Derived.Test.YtlmfbjhokkpjhaaGreatDoorML29
import Derived.Test.YtlmfbjhokkpjhaaGreatDoorShelfM
import Derived.Test.YtlmfbjhokkpjhaaGreatDoorML31
import Derived.Lib.AtoiAll
import Derived.Lib.AtoiAllCases
import Derived.Lib.AtoiErrMem
import Derived.BigQuiet
import Derived.BigRegion
import Derived.Deep.DeepCutAuto
set_option linter.unusedVariables false
set_option linter.unusedSimpArgs false
namespace Go.Proofs.YtlmfbjhokkpjhaaGreatDoor
open Go Go.RowKit
end Go.Proofs.YtlmfbjhokkpjhaaGreatDoor
namespace Go.Proofs.YtlmfbjhokkpjhaaGreatDoor
open Go Go.RowKit
theorem size_extract (s : ByteArray) (q : Nat) : (s.extract q s.size).size = s.size - q := by simp
section
variable {f : Nat} {last : Int} {l l2 l3 l4 : Str} {t d n d2 : Nat} {c c2 c3 : UInt8}
end
theorem toL_injS {a b : ByteArray} (h : toL a = toL b) : a = b := by
 unfold toL at h
 cases a; cases b
 simp only [ByteArray.mk.injEq]
 exact Array.toList_inj.1 h
end Go.Proofs.YtlmfbjhokkpjhaaGreatDoor
