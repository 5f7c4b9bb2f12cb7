/- package bough at [int, string] where there is no bough (nil): what each call tells. -/
import Derived.Test.YtdfkokbpidkokaaIterB
namespace Go.Proofs.Ytdfkokbpidkokaa
open Go.RowKit

set_option maxRecDepth 20000
set_option maxHeartbeats 1000000

theorem new_nilB (w : World) : Calls Try.prog 21 #[.nilFunc] w fun e w' => e = .returned (.pointer none) ∧ w = w' := by
  have hne : ∀ w, (binOp .eql 46 .nilFunc .nilFunc).run Try.prog w = .ok (.bool true) w := fun _ => by kernel_rfl
  go_enter Try.func21, Try.ntmps21
  go_wp2
  go_ret
  exact ⟨rfl, rfl⟩
theorem get_nilB (k : Int) (w : World) : Calls Try.prog 43 #[.pointer none, .int .i64 k] w fun e w' => e = .returned (.tuple #[.string ByteArray.empty, .bool false]) ∧ Chg (fun _ => False) w w' := by
  have hch : Chg (fun _ => False) w (w.alloc (.cells #[.string ByteArray.empty] 9)) := (Chg.refl _ w).alloc _
  have HCH := Lib.hid hch; clear hch
  go_enter Try.func43, Try.ntmps43
  go_wp2
  go_ret2
  exact ⟨rfl, HCH.out⟩
theorem nth_nilB (k : Int) (w : World) : Calls Try.prog 44 #[.pointer none, .int .i64 k] w fun e w' => e = .returned (.tuple #[.int .i64 0, .string ByteArray.empty, .bool false]) ∧ Chg (fun _ => False) w w' := by
  have hch : Chg (fun _ => False) w (w.alloc (.cells #[.int .i64 0, .string ByteArray.empty] 120)) := (Chg.refl _ w).alloc _
  have HCH := Lib.hid hch; clear hch
  go_enter Try.func44, Try.ntmps44
  go_wp2
  go_quiet (fail)
  go_wp2
  go_ret3
  exact ⟨rfl, HCH.out.drewN nq⟩
theorem put_nilB (k : Int) (s : ByteArray) (w : World) : Calls Try.prog 47 #[.pointer none, .int .i64 k, .string s] w fun e w' => e = .returned (.bool false) ∧ w = w' := by
  go_enter Try.func47, Try.ntmps47
  go_wp2
  go_ret
  exact ⟨rfl, rfl⟩
theorem del_nilB (k : Int) (w : World) : Calls Try.prog 48 #[.pointer none, .int .i64 k] w fun e w' => e = .returned (.bool false) ∧ w = w' := by
  go_enter Try.func48, Try.ntmps48
  go_wp2
  go_ret
  exact ⟨rfl, rfl⟩
theorem len_nilB (w : World) : Calls Try.prog 28 #[.pointer none] w fun e w' => e = .returned (.int .i64 0) ∧ w = w' := by
  go_enter Try.func28, Try.ntmps28
  go_wp2
  go_ret
  exact ⟨rfl, rfl⟩
theorem rank_nilB (k : Int) (w : World) : Calls Try.prog 49 #[.pointer none, .int .i64 k] w fun e w' => e = .returned (.int .i64 0) ∧ w = w' := by
  go_enter Try.func49, Try.ntmps49
  go_wp2
  go_ret
  exact ⟨rfl, rfl⟩
theorem row_nilB (w : World) : Calls Try.prog 61 #[.pointer none] w fun e w' => e = .returned (.slice none 0 0) ∧ w = w' := by
  go_enter Try.func61, Try.ntmps61
  go_wp2
  go_ret
  exact ⟨rfl, rfl⟩
/-- an iterator over nothing: its closure's captured slice lies in the block that was just made -/
def GivesNil (w : World) (e : Ending) (w' : World) : Prop := e = .returned (.func (.func 68) #[] #[.pointer (some ⟨w.heap.size, 0, none⟩)]) ∧ w.alloc (.cells #[.slice none 0 0] 107) = w'
theorem all_nilB (w : World) : Calls Try.prog 26 #[.pointer none] w (GivesNil w) := by
  go_enter Try.func26, Try.ntmps26
  go_wp2_with fail
  refine (row_nilB _).mono ?_
  rintro e w1 ⟨rfl, rfl⟩
  go_wp2_with fail
  refine (over_anyB _ _ _ _).mono ?_
  rintro e w2 ⟨rfl, rfl⟩
  go_wp2_with fail
  go_ret
  exact ⟨rfl, rfl⟩
theorem from_nilB (k : Int) (w : World) : Calls Try.prog 45 #[.pointer none, .int .i64 k] w (GivesNil w) := by
  go_enter Try.func45, Try.ntmps45
  go_wp2_with fail
  refine (row_nilB _).mono ?_
  rintro e w1 ⟨rfl, rfl⟩
  go_wp2_with fail
  refine (rank_nilB _ _).mono ?_
  rintro e w1 ⟨rfl, rfl⟩
  go_wp2_with fail
  refine (over_anyB _ _ _ _).mono ?_
  rintro e w2 ⟨rfl, rfl⟩
  go_wp2_with fail
  go_ret
  exact ⟨rfl, rfl⟩
theorem up_nilB (k : Int) (w : World) : Calls Try.prog 46 #[.pointer none, .int .i64 k] w fun e w' => ∃ n, GivesNil (w.drewN n) e w' := by
  go_enter Try.func46, Try.ntmps46
  go_wp2_with fail
  refine (row_nilB _).mono ?_
  rintro e w1 ⟨rfl, rfl⟩
  go_wp2_with fail
  refine (rank_nilB _ _).mono ?_
  rintro e w1 ⟨rfl, rfl⟩
  go_wp2_with fail
  go_quiet (fail)
  go_wp2
  go_loopw [7, 8] (fun i j wr => i = .int .i64 0 ∧ j = .int .i64 (-1) ∧ wr = w.drewN nq) (fun _ _ _ => 0)
  case atStart => exact ⟨rfl, rfl, rfl⟩
  case round =>
    obtain ⟨rfl, rfl, hw⟩ := hrel
    have HW := Lib.hid hw; clear hw
    go_wp2_with fail
    refine (over_anyB _ _ _ _).mono ?_
    rintro e w2 ⟨rfl, rfl⟩
    go_wp2_with fail
    go_ret
    exact ⟨nq, by rw [HW.out]; rfl, by rw [HW.out]⟩
end Go.Proofs.Ytdfkokbpidkokaa
