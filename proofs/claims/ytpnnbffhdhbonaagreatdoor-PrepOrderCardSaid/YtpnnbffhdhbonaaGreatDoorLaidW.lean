/- A world in which the listed variables lie as the program's text lays them; what the row's list gives: the walks' environment. -/
import Derived.Test.YtpnnbffhdhbonaaGreatDoorRows
import Derived.Test.YtpnnbffhdhbonaaGreatDoorEnv
import Derived.Test.YtpnnbffhdhbonaaGreatDoorShelf
import Derived.Lib.LaidTab
import Derived.LaidSub
import Derived.Deep.DeepHandedRow
namespace Go.Proofs.YtpnnbffhdhbonaaGreatDoor
open Go Go.RowKit

/-- the cells of a listed table -/
def litV : DataW Unit → List Value
  | .lit (.int k n) => [.int k n]
  | _ => []
def litW : DataW Unit → List Value
  | .lit (.int k n) => [.int k n]
  | .agg l => l.flatMap litV
  | _ => []
def cellsD : DataW Unit → Array Value
  | .agg l => (l.flatMap litW).toArray
  | _ => #[]
def setD (h : Array Obj) (g : Nat) (d : DataW Unit) : Array Obj := h.modify g fun
  | .cells _ t fz => .cells (cellsD d) t fz
  | o => o

noncomputable def laidHeap (h : Array Obj) : Array Obj :=
  setD (setD (setD (setD (setD h 1 Rows.laid_unicode_utf8_first) 2 Rows.laid_unicode_utf8_acceptRanges)
    3 Rows.laid_internal_strconv_uint64pow10) 4 Rows.laid_math_bits_deBruijn32tab) 5 Rows.laid_math_bits_deBruijn64tab
noncomputable def laidWorld (os : Os) : World :=
  { World.holding Tryz.prog os ⟨#[], #[], []⟩ with heap := laidHeap (World.holding Tryz.prog os ⟨#[], #[], []⟩).heap }

def laidAll : List (String × DataW Unit) := [("math/bits.deBruijn32tab", Rows.laid_math_bits_deBruijn32tab), ("math/bits.deBruijn64tab", Rows.laid_math_bits_deBruijn64tab), ("internal/strconv.uint64pow10", Rows.laid_internal_strconv_uint64pow10), ("unicode/utf8.acceptRanges", Rows.laid_unicode_utf8_acceptRanges), ("unicode/utf8.first", Rows.laid_unicode_utf8_first)]

theorem gPow : Tryz.prog.globalNamed "internal/strconv.uint64pow10" = some 3 := by kernel_rfl
theorem gPowType : (Tryz.prog.globals[3]?).map (·.type) = some 122 := by kernel_rfl
theorem cellsPow : Tryz.prog.cellsOf 122 = 20 := by kernel_rfl
theorem cellsU64 : Tryz.prog.cellsOf 116 = 1 := by kernel_rfl

theorem env_of {W : World} (hL : laidMetH Tryz.prog laidAll W) (hsh : W.ShapedOpen Tryz.prog) : Env W where
  max := Tryz.laysM143.s1_3 W hsh
  pow := by
    have h := hL.filter fun x => x.1 == "internal/strconv.uint64pow10"
    rw [show laidAll.filter (fun x => x.1 == "internal/strconv.uint64pow10") = [("internal/strconv.uint64pow10", Lib.tabData .u64 Lib.pow10Tab)] by kernel_rfl] at h
    exact Lib.tabIs_of_head gPow gPowType Tryz.underlying122 Tryz.underlying116 cellsU64 cellsPow h
end Go.Proofs.YtpnnbffhdhbonaaGreatDoor
