/- rosterref01.Valid: whether all of a text are characters. -/
import Derived.Test.YtpnnbffhdhbonaaGreatDoorRefU
namespace Go.Proofs.YtpnnbffhdhbonaaGreatDoor
open Go Go.RowKit

def textOf : Value → ByteArray | .string s => s | _ => ⟨#[]⟩

set_option maxRecDepth 20000 in
theorem rvalid_any (s : ByteArray) (w : World) (hs : s.size ≤ 140737488355327) :
    Calls Tryz.prog 24 #[.string s] w fun e w' => e = .returned (.bool (Lib.validD s.data.toList)) ∧ w' = w := by
  go_enter Tryz.func24, Tryz.ntmps24
  go_wp2_with fail
  go_loopw [0] (fun sv wr => ∃ z : ByteArray, sv = .string z ∧ z.size ≤ s.size ∧ Lib.validD s.data.toList = Lib.validD z.data.toList ∧ w = wr) (fun sv _ => (textOf sv).size)
  case atStart => exact ⟨s, rfl, Nat.le_refl _, rfl, rfl⟩
  case round =>
    obtain ⟨z, rfl, hz, hv, rfl⟩ := hrel
    by_cases hne : z.data.toList = []
    · obtain rfl := empty_of z hne
      have HV := Lib.hid hv; clear hv
      go_wp2_with fail
      go_ret
      exact ⟨by rw [HV.out]; rfl, rfl⟩
    · have hp := nonempty_of z hne
      have hf := fun w => rfirst_any z w (by omega)
      have hl : z.data.toList.length = z.size := by simp
      rcases firstL_cases z.data.toList hne with ⟨h1, h2⟩ | ⟨h1, h2, h3⟩
      · rw [h1] at hf
        rw [h2] at hv
        have HF := Lib.hid hf; have HV := Lib.hid hv; clear hf hv h1 h2 hl
        obtain ⟨hp1, hp2, hp3⟩ := hp
        go_wp2_with (first
          | (go_at_call 71; with_reducible refine (HF.out _).mono ?_; rintro e w2 ⟨rfl, rfl⟩)
          | fail)
        go_ret
        exact ⟨by rw [HV.out]; rfl, rfl⟩
      · generalize firstL z.data.toList = n at *
        have HF := Lib.hid hf; clear hf
        obtain ⟨hp1, hp2, hp3⟩ := hp
        have n1 : ¬ (n : Int) = 0 := by omega
        have n2 : (n : Int) ≤ z.size := by omega
        have n3 : n ≤ z.size := by omega
        have hx : (z.extract n z.size).data.toList = z.data.toList.drop n := by rw [Lib.extract_data, List.take_of_length_le (by rw [List.length_drop]; omega)]
        have hxs : (z.extract n z.size).size = z.size - n := by simp
        rw [h3, ← hx] at hv
        have HV := Lib.hid hv; have HXS := Lib.hid hxs; clear hv h3 hx hxs hl
        have n0 : 1 ≤ n := h1
        go_wp2_with (first
          | (go_at_call 71; with_reducible refine (HF.out _).mono ?_; rintro e w2 ⟨rfl, rfl⟩)
          | fail)
        exact ⟨⟨_, rfl, by rw [HXS.out]; omega, HV.out, trivial⟩, by show (z.extract n z.size).size < z.size; rw [HXS.out]; omega⟩
end Go.Proofs.YtpnnbffhdhbonaaGreatDoor
