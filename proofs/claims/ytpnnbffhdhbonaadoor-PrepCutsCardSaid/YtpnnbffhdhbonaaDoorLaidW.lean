/- A world in which the listed variables lie as the program's text lays them; what the row's list gives: the walks' environment. -/
import Derived.Test.YtpnnbffhdhbonaaDoorRows
import Derived.Test.YtpnnbffhdhbonaaDoorEnv
import Derived.Test.YtpnnbffhdhbonaaDoorShelf
import Derived.Lib.LaidTab
import Derived.LaidSub
import Derived.Deep.DeepHandedRow
namespace Go.Proofs.YtpnnbffhdhbonaaDoor
open Go Go.RowKit

/-- the cells of a listed table -/
def litV : DataW Unit → List Value
  | .lit (.int k n) => [.int k n]
  | _ => []
def litW : DataW Unit → List Value
  | .lit (.int k n) => [.int k n]
  | .agg l => l.flatMap litV
  | _ => []
def cellsD : DataW Unit → Array Value
  | .agg l => (l.flatMap litW).toArray
  | _ => #[]
def setD (h : Array Obj) (g : Nat) (d : DataW Unit) : Array Obj := h.modify g fun
  | .cells _ t fz => .cells (cellsD d) t fz
  | o => o

noncomputable def laidHeap (h : Array Obj) : Array Obj :=
  setD (setD (setD (setD (setD h 1 Rows.laid_unicode_utf8_first) 2 Rows.laid_unicode_utf8_acceptRanges)
    3 Rows.laid_internal_strconv_uint64pow10) 4 Rows.laid_math_bits_deBruijn32tab) 5 Rows.laid_math_bits_deBruijn64tab
noncomputable def laidWorld (os : Os) : World :=
  { World.holding Tryd.prog os ⟨#[], #[], []⟩ with heap := laidHeap (World.holding Tryd.prog os ⟨#[], #[], []⟩).heap }

def laidAll : List (String × DataW Unit) := [("math/bits.deBruijn32tab", Rows.laid_math_bits_deBruijn32tab), ("math/bits.deBruijn64tab", Rows.laid_math_bits_deBruijn64tab), ("internal/strconv.uint64pow10", Rows.laid_internal_strconv_uint64pow10), ("unicode/utf8.acceptRanges", Rows.laid_unicode_utf8_acceptRanges), ("unicode/utf8.first", Rows.laid_unicode_utf8_first)]

theorem gPow : Tryd.prog.globalNamed "internal/strconv.uint64pow10" = some 3 := by kernel_rfl
theorem gPowType : (Tryd.prog.globals[3]?).map (·.type) = some 116 := by kernel_rfl
theorem cellsPow : Tryd.prog.cellsOf 116 = 20 := by kernel_rfl
theorem cellsU64 : Tryd.prog.cellsOf 110 = 1 := by kernel_rfl

theorem env_of {W : World} (hL : laidMetH Tryd.prog laidAll W) (hsh : W.ShapedOpen Tryd.prog) : Env W where
  max := Tryd.laysM143.s1_3 W hsh
  pow := by
    have h := hL.filter fun x => x.1 == "internal/strconv.uint64pow10"
    rw [show laidAll.filter (fun x => x.1 == "internal/strconv.uint64pow10") = [("internal/strconv.uint64pow10", Lib.tabData .u64 Lib.pow10Tab)] by kernel_rfl] at h
    exact Lib.tabIs_of_head gPow gPowType Tryd.underlying116 Tryd.underlying110 cellsU64 cellsPow h
end Go.Proofs.YtpnnbffhdhbonaaDoor
