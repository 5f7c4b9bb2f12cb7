/- rosterlaw03.PrepPieces: true. -/
import Derived.Test.YtpnnbffhdhbonaaGreatDoorRefP
import Derived.Test.YtpnnbffhdhbonaaGreatDoorAwake
namespace Go.Proofs.YtpnnbffhdhbonaaGreatDoor
open Go Go.RowKit

set_option maxRecDepth 20000 in
set_option maxHeartbeats 1000000 in
theorem law_pieces (s : ByteArray) (hs : s.size ≤ maxLen) (w : World) (hE : Env w) :
    Calls Tryz.prog 4 #[.string s] w fun e w' => e = .returned (.bool true) ∧ Below w.heap.size w w' := by
  unfold maxLen at hs
  have hP := fun f wh w hE => piece_any f wh s w hE hs
  have hR := fun f wh w => rpiece_any f wh s w
  have HP := Lib.hid hP; have HR := Lib.hid hR; have HE := Lib.hid hE; have HA := Lib.hid (fun w hE => alive_any w hE); clear hP hR hE
  go_enter Tryz.func4, Tryz.ntmps4
  go_wp2_with fail
  go_loopw [3] (fun iv wr => ∃ f : Int, iv = .int .i8 f ∧ -1 ≤ f ∧ f ≤ 11 ∧ Below w.heap.size w wr) (fun iv _ => (11 - intOf iv).toNat)
  case atStart => exact ⟨-1, rfl, by omega, by omega, Below.refl _ _⟩
  case round =>
    obtain ⟨f, rfl, hf0, hf1, hb⟩ := hrel
    obtain ⟨wo, hwo⟩ : ∃ wo : World, wo = wr := ⟨_, rfl⟩
    rw [← hwo] at hb ⊢
    clear hwo
    have HB := Lib.hid hb; clear hb
    by_cases hlt : f < 11
    · go_wp2_with fail
      go_loopw [4] (fun iv wx => ∃ k : Int, iv = .int .i8 k ∧ -1 ≤ k ∧ k ≤ 4 ∧ Below w.heap.size w wx) (fun iv _ => (4 - intOf iv).toNat)
      case atStart => exact ⟨-1, rfl, by omega, by omega, HB.out⟩
      case round =>
        obtain ⟨k, rfl, hk0, hk1, hb⟩ := hrel
        have HB2 := Lib.hid hb; clear hb
        by_cases hkt : k < 4
        · have h1 := fun w hE => HP.out f k w hE
          have h2 := fun w => HR.out f k w
          generalize pieceL f k s.data.toList = r at h1 h2
          obtain ⟨l, ok⟩ := r
          simp only [ret2] at h1 h2
          have H1 := Lib.hid h1; have H2 := Lib.hid h2; clear h1 h2
          cases ok <;> (
            go_wp2_with (first
              | (go_at_call 13; with_reducible refine (H1.out _ (HE.out.next HB2.out)).mono ?_; rintro e w3 ⟨rfl, hb3⟩; have HB3 := Lib.hid (bnext HB2.out hb3); clear hb3)
              | (go_at_call 14; with_reducible refine (H2.out _).mono ?_; rintro e w4 ⟨rfl, hb4⟩; have HB4 := Lib.hid (bnext HB3.out hb4); clear hb4)
              | fail)
            exact ⟨⟨k + 1, rfl, by omega, by omega, HB4.out⟩, by simp [intOf]; omega⟩)
        · go_wp2_with fail
          exact ⟨⟨f + 1, rfl, by omega, by omega, HB2.out⟩, by simp [intOf]; omega⟩
    · go_wp2_with (first
        | (go_at_call 12; with_reducible refine (HA.out _ (HE.out.next HB.out)).mono ?_; rintro e w3 ⟨rfl, hb3⟩)
        | fail)
      go_ret
      exact ⟨rfl, bnext HB.out hb3⟩
end Go.Proofs.YtpnnbffhdhbonaaGreatDoor
