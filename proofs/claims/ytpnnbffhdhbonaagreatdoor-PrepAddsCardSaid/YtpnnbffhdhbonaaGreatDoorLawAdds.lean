/- rosterlaw03.PrepAdds: true. -/
import Derived.Test.YtpnnbffhdhbonaaGreatDoorRefAdd
import Derived.Test.YtpnnbffhdhbonaaGreatDoorAwake
namespace Go.Proofs.YtpnnbffhdhbonaaGreatDoor
open Go Go.RowKit

theorem law_adds (a : ByteArray) (ha : a.size ≤ maxLen) (b : ByteArray) (hb : b.size ≤ maxLen) (w : World) (hE : Env w) :
    Calls Tryz.prog 5 #[.string a, .string b] w fun e w' => e = .returned (.bool true) ∧ Below w.heap.size w w' := by
  unfold maxLen at ha hb
  have h1 := fun w => add_any a b w (by omega) (by omega)
  have h2 := fun w => radd_any a b w (by omega) (by omega)
  generalize addL a.data.toList b.data.toList = r at h1 h2
  obtain ⟨l, ok⟩ := r
  simp only [ret2] at h1 h2
  have H1 := Lib.hid h1; have H2 := Lib.hid h2; have HE := Lib.hid hE; have HA := Lib.hid (fun w hE => alive_any w hE); clear h1 h2 hE
  cases ok <;> (
    go_enter Tryz.func5, Tryz.ntmps5
    go_wp2_with (first
      | (go_at_call 15; with_reducible refine (H1.out _).mono ?_; rintro e w1 ⟨rfl, hb1⟩; have HB1 := Lib.hid hb1; clear hb1)
      | (go_at_call 16; with_reducible refine (H2.out _).mono ?_; rintro e w2 ⟨rfl, hb2⟩; have HB2 := Lib.hid (bnext HB1.out hb2); clear hb2)
      | (go_at_call 12; with_reducible refine (HA.out _ (HE.out.next HB2.out)).mono ?_; rintro e w3 ⟨rfl, hb3⟩)
      | fail)
    go_ret
    exact ⟨rfl, bnext HB2.out hb3⟩)
end Go.Proofs.YtpnnbffhdhbonaaGreatDoor
