/- octet.kind and octet.Valid: whether all of a text are characters. -/
import Derived.Test.YtpnnbffhdhbonaaGreatDoorTxt
import Derived.Test.YtpnnbffhdhbonaaGreatDoorShelf
import Derived.Laws.RangeAny
import Derived.Lib.MapLaws
import Derived.Lib.ValidU
import Derived.Lib.FieldsU
namespace Go.Proofs.YtpnnbffhdhbonaaGreatDoor
open Go Go.RowKit

/-- what a rune at the head of a text is: 0 no character, 1 special, 2 fine -/
def kindI (l : List UInt8) (r : Int) : Int := if r = 65533 ∧ Lib.hasPrefix l [239, 191, 189] = false then 0 else if r = 0 ∨ r = 40 ∨ r = 41 ∨ r = 42 ∨ r = 92 then 1 else 2

set_option maxRecDepth 100000 in
theorem kind_any (s : ByteArray) (p : Nat) (r : Int) (w : World) (hp : p ≤ s.size) (_hs : s.size ≤ 140737488355328) :
    Calls Tryz.prog 78 #[.string s, .int .i64 p, .int .i32 r] w fun e w' => e = .returned (.int .i64 (kindI (s.data.toList.drop p) r)) ∧ w' = w := by
  have hx : (s.extract p s.size).data.toList = s.data.toList.drop p := by
    rw [Lib.extract_data, List.take_of_length_le (by simp)]
  have ht : List.take (s.size - p) (List.drop p s.data.toList) = List.drop p s.data.toList := List.take_of_length_le (by simp)
  have x0 : ∀ w, (Instr.index 94 (.agg #[.int .i32 0, .int .i32 40, .int .i32 41, .int .i32 42, .int .i32 92]) (.int .i64 0)).run Tryz.prog w = .ok (.int .i32 0) w := fun _ => by kernel_rfl
  have x1 : ∀ w, (Instr.index 94 (.agg #[.int .i32 0, .int .i32 40, .int .i32 41, .int .i32 42, .int .i32 92]) (.int .i64 1)).run Tryz.prog w = .ok (.int .i32 40) w := fun _ => by kernel_rfl
  have x2 : ∀ w, (Instr.index 94 (.agg #[.int .i32 0, .int .i32 40, .int .i32 41, .int .i32 42, .int .i32 92]) (.int .i64 2)).run Tryz.prog w = .ok (.int .i32 41) w := fun _ => by kernel_rfl
  have x3 : ∀ w, (Instr.index 94 (.agg #[.int .i32 0, .int .i32 40, .int .i32 41, .int .i32 42, .int .i32 92]) (.int .i64 3)).run Tryz.prog w = .ok (.int .i32 42) w := fun _ => by kernel_rfl
  have x4 : ∀ w, (Instr.index 94 (.agg #[.int .i32 0, .int .i32 40, .int .i32 41, .int .i32 42, .int .i32 92]) (.int .i64 4)).run Tryz.prog w = .ok (.int .i32 92) w := fun _ => by kernel_rfl
  go_enter Tryz.func78, Tryz.ntmps78
  by_cases h0 : r = 65533
  · cases hpx : Lib.hasPrefix (s.data.toList.drop p) [239, 191, 189] with
    | false =>
      subst h0
      have HK := Lib.hid (show kindI (s.data.toList.drop p) 65533 = 0 by unfold kindI; rw [if_pos ⟨rfl, hpx⟩])
      go_wp2_with (first | (go_at_call 103; refine (Tryz.strings_HasPrefix _ _ _).mono ?_; rintro e w' ⟨rfl, rfl⟩) | fail)
      go_ret
      exact ⟨by rw [HK.out]; rfl, rfl⟩
    | true =>
      have HK := Lib.hid (show kindI (s.data.toList.drop p) r = if r = 0 ∨ r = 40 ∨ r = 41 ∨ r = 42 ∨ r = 92 then 1 else 2 by unfold kindI; rw [if_neg (by rw [hpx]; simp)])
      go_wp2_with (first | (go_at_call 103; refine (Tryz.strings_HasPrefix _ _ _).mono ?_; rintro e w' ⟨rfl, rfl⟩) | fail)
      go_loopw [20] (fun iv wr => ∃ i : Nat, iv = .int .i64 i ∧ i ≤ 5 ∧ wr = w' ∧ (0 < i → r ≠ 0) ∧ (1 < i → r ≠ 40) ∧ (2 < i → r ≠ 41) ∧ (3 < i → r ≠ 42) ∧ (4 < i → r ≠ 92)) (fun iv _ => 5 - (intOf iv).toNat)
      case atStart => exact ⟨0, rfl, by omega, rfl, by omega, by omega, by omega, by omega, by omega⟩
      case round =>
        obtain ⟨i, rfl, hi, rfl, c0, c1, c2, c3, c4⟩ := hrel
        have C := Lib.hid (And.intro c0 (And.intro c1 (And.intro c2 (And.intro c3 c4)))); clear c0 c1 c2 c3 c4
        obtain rfl | rfl | rfl | rfl | rfl | rfl : i = 0 ∨ i = 1 ∨ i = 2 ∨ i = 3 ∨ i = 4 ∨ i = 5 := by omega
        all_goals go_wp2_with fail
        all_goals have c := C.out
        all_goals try simp only [ne_eq] at *
        all_goals first
          | (go_ret; refine ⟨?_, rfl⟩; rw [HK.out, if_pos (by omega)]; rfl)
          | (go_ret; refine ⟨?_, rfl⟩; rw [HK.out, if_neg (by omega)]; rfl)
          | exact ⟨⟨1, rfl, by omega, trivial, by omega, by omega, by omega, by omega, by omega⟩, by decide⟩ | exact ⟨⟨2, rfl, by omega, trivial, by omega, by omega, by omega, by omega, by omega⟩, by decide⟩ | exact ⟨⟨3, rfl, by omega, trivial, by omega, by omega, by omega, by omega, by omega⟩, by decide⟩ | exact ⟨⟨4, rfl, by omega, trivial, by omega, by omega, by omega, by omega, by omega⟩, by decide⟩ | exact ⟨⟨5, rfl, by omega, trivial, by omega, by omega, by omega, by omega, by omega⟩, by decide⟩
          | fail
  · have HK := Lib.hid (show kindI (s.data.toList.drop p) r = if r = 0 ∨ r = 40 ∨ r = 41 ∨ r = 42 ∨ r = 92 then 1 else 2 by unfold kindI; rw [if_neg (by simp [h0])])
    go_wp2_with fail
    go_loopw [20] (fun iv wr => ∃ i : Nat, iv = .int .i64 i ∧ i ≤ 5 ∧ wr = w ∧ (0 < i → r ≠ 0) ∧ (1 < i → r ≠ 40) ∧ (2 < i → r ≠ 41) ∧ (3 < i → r ≠ 42) ∧ (4 < i → r ≠ 92)) (fun iv _ => 5 - (intOf iv).toNat)
    case atStart => exact ⟨0, rfl, by omega, rfl, by omega, by omega, by omega, by omega, by omega⟩
    case round =>
      obtain ⟨i, rfl, hi, rfl, c0, c1, c2, c3, c4⟩ := hrel
      have C := Lib.hid (And.intro c0 (And.intro c1 (And.intro c2 (And.intro c3 c4)))); clear c0 c1 c2 c3 c4
      obtain rfl | rfl | rfl | rfl | rfl | rfl : i = 0 ∨ i = 1 ∨ i = 2 ∨ i = 3 ∨ i = 4 ∨ i = 5 := by omega
      all_goals go_wp2_with fail
      all_goals have c := C.out
      all_goals try simp only [beq_iff_eq, beq_eq_false_iff_ne, ne_eq] at *
      all_goals first
        | (go_ret; refine ⟨?_, rfl⟩; rw [HK.out, if_pos (by omega)]; rfl)
        | (go_ret; refine ⟨?_, rfl⟩; rw [HK.out, if_neg (by omega)]; rfl)
        | exact ⟨⟨1, rfl, by omega, trivial, by omega, by omega, by omega, by omega, by omega⟩, by decide⟩ | exact ⟨⟨2, rfl, by omega, trivial, by omega, by omega, by omega, by omega, by omega⟩, by decide⟩ | exact ⟨⟨3, rfl, by omega, trivial, by omega, by omega, by omega, by omega, by omega⟩, by decide⟩ | exact ⟨⟨4, rfl, by omega, trivial, by omega, by omega, by omega, by omega, by omega⟩, by decide⟩ | exact ⟨⟨5, rfl, by omega, trivial, by omega, by omega, by omega, by omega, by omega⟩, by decide⟩
        | fail

end Go.Proofs.YtpnnbffhdhbonaaGreatDoor
