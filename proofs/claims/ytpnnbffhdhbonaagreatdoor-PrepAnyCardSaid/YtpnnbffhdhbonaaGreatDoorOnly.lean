/- prep.only: digits and given bytes alone. -/
import Derived.Test.YtpnnbffhdhbonaaGreatDoorTxt
import Derived.Test.YtpnnbffhdhbonaaGreatDoorShelf
namespace Go.Proofs.YtpnnbffhdhbonaaGreatDoor
open Go Go.RowKit

theorem only_any (s o : ByteArray) (w : World) (hs : s.size ≤ 140737488355328) :
    Calls Tryz.prog 37 #[.string s, .string o] w fun e w' => e = .returned (.bool (onlyL o.data.toList s.data.toList)) ∧ w' = w := by
  go_enter Tryz.func37, Tryz.ntmps37
  go_wp2_with fail
  go_loopw [8] (fun iv wr => ∃ i : Nat, iv = .int .i64 i ∧ wr = w ∧ i ≤ s.size ∧ onlyL o.data.toList s.data.toList = onlyL o.data.toList (s.data.toList.drop i)) (fun iv _ => s.size - (intOf iv).toNat)
  case atStart => exact ⟨0, rfl, rfl, Nat.zero_le _, by simp⟩
  case round =>
    obtain ⟨i, rfl, rfl, hi, he⟩ := hrel
    by_cases hlt : i < s.size
    · have hd := drop_at s hlt
      rw [hd, onlyL_cons] at he
      have ht := only_test o.data.toList s[i]
      generalize hb : s[i] = b at hd he ht
      rcases ht with ⟨h1, h2⟩ | ⟨h1, h2, h3⟩
      · rw [h1, Bool.true_and] at he
        go_wp2_with (first | (go_at_call 81; refine (Tryz.strings_IndexByte _ _ _).mono ?_; rintro e w' ⟨rfl, rfl⟩) | fail)
        all_goals simp only [hb] at *
        all_goals first | (exfalso; omega) | exact ⟨⟨i + 1, by simp, trivial, by omega, he⟩, by simp [intOf]; omega⟩
      · rw [h1, Bool.false_and] at he
        go_wp2_with (first | (go_at_call 81; refine (Tryz.strings_IndexByte _ _ _).mono ?_; rintro e w' ⟨rfl, rfl⟩) | fail)
        all_goals simp only [hb] at *
        all_goals first | (exfalso; omega) | (go_ret; exact ⟨by rw [he]; rfl, rfl⟩)
    · go_wp2_with fail
      go_ret
      rw [he, drop_end s hlt]; exact ⟨rfl, rfl⟩
end Go.Proofs.YtpnnbffhdhbonaaGreatDoor
