/- prep.voice: the digit of a letter; prep.Sound's own function: what parts words. -/
import Derived.Test.YtpnnbffhdhbonaaGreatDoorEnv
import Derived.Test.YtpnnbffhdhbonaaGreatDoorShelf
import Derived.BigQuiet
namespace Go.Proofs.YtpnnbffhdhbonaaGreatDoor
open Go Go.RowKit

def voiceI (r : Int) : Int :=
  if r = 98 ∨ r = 102 ∨ r = 112 ∨ r = 118 then 49
  else if r = 99 ∨ r = 103 ∨ r = 106 ∨ r = 107 ∨ r = 113 ∨ r = 115 ∨ r = 120 ∨ r = 122 then 50
  else if r = 100 ∨ r = 116 then 51 else if r = 108 then 52 else if r = 109 ∨ r = 110 then 53 else if r = 114 then 54 else 0

set_option maxRecDepth 20000 in
set_option maxHeartbeats 4000000 in
theorem voice_any (r : Int) (w : World) :
    Calls Tryz.prog 92 #[.int .i32 r] w fun e w' => e = .returned (.int .u8 (voiceI r)) ∧ w' = w := by
  go_enter Tryz.func92, Tryz.ntmps92
  go_wp2_with fail
  all_goals (
    go_ret
    refine ⟨?_, rfl⟩
    simp only [beq_iff_eq, beq_eq_false_iff_ne, ne_eq] at *
    unfold voiceI
    first
    | (rw [if_pos (by omega)] <;> rfl)
    | (rw [if_neg (by omega), if_pos (by omega)] <;> rfl)
    | (rw [if_neg (by omega), if_neg (by omega), if_pos (by omega)] <;> rfl)
    | (rw [if_neg (by omega), if_neg (by omega), if_neg (by omega), if_pos (by omega)] <;> rfl)
    | (rw [if_neg (by omega), if_neg (by omega), if_neg (by omega), if_neg (by omega), if_pos (by omega)] <;> rfl)
    | (rw [if_neg (by omega), if_neg (by omega), if_neg (by omega), if_neg (by omega), if_neg (by omega), if_pos (by omega)] <;> rfl)
    | (rw [if_neg (by omega), if_neg (by omega), if_neg (by omega), if_neg (by omega), if_neg (by omega), if_neg (by omega)] <;> rfl)
    | trace_state)

/-- what parts words: all but small letters -/
def parts (r : Nat) : Bool := decide (r < 97) || decide (122 < r)

set_option maxRecDepth 20000 in
theorem part_any (r : Int) (w : World) :
    Calls Tryz.prog 57 #[.int .i32 r] w fun e w' => e = .returned (.bool (decide (r < 97) || decide (122 < r))) ∧ w' = w := by
  by_cases h1 : r < 97
  · go_enter Tryz.func57, Tryz.ntmps57
    go_wp2_with fail
    go_ret
    exact ⟨by simp only [decide_eq_true h1, Bool.true_or]; rfl, rfl⟩
  · by_cases h2 : 122 < r
    · have g1 : ¬ r < 97 := h1
      go_enter Tryz.func57, Tryz.ntmps57
      go_wp2_with fail
      go_ret
      exact ⟨rfl, rfl⟩
    · have H := Lib.hid (And.intro h1 h2)
      go_enter Tryz.func57, Tryz.ntmps57
      go_wp2_with fail
      go_ret
      exact ⟨by rw [decide_eq_false (by omega : ¬ r < 97), decide_eq_false (by omega : ¬ 122 < r)]; rfl, rfl⟩

theorem parts_runes (w : World) : PredAtRunes Tryz.prog 57 #[] parts w := fun W x hx hb => by
  have h := part_any (x : Int) W
  have e : (decide ((x : Int) < 97) || decide (122 < (x : Int))) = parts x := by
    unfold parts
    congr 1 <;> (apply decide_eq_decide.2; omega)
  rw [e] at h
  exact Calls.mono h fun e w' ⟨a, b⟩ => ⟨a, 0, b⟩
end Go.Proofs.YtpnnbffhdhbonaaGreatDoor
