/- rosterlaw03.PrepTimes: true. -/
import Derived.Test.YtpnnbffhdhbonaaGreatDoorRefTime
import Derived.Test.YtpnnbffhdhbonaaGreatDoorAwake
namespace Go.Proofs.YtpnnbffhdhbonaaGreatDoor
open Go Go.RowKit

theorem law_times (v : ByteArray) (hv : v.size ≤ maxLen) (w : World) (hE : Env w) :
    Calls Tryz.prog 6 #[.string v] w fun e w' => e = .returned (.bool true) ∧ Below w.heap.size w w' := by
  unfold maxLen at hv
  have h1 := fun w => time_any v w (by omega)
  have h2 := fun w => rtime_any v w (by omega)
  generalize timeL v.data.toList = r at h1 h2
  obtain ⟨n, l, ok⟩ := r
  simp only [ret3] at h1 h2
  have H1 := Lib.hid h1; have H2 := Lib.hid h2; have HE := Lib.hid hE; have HA := Lib.hid (fun w hE => alive_any w hE); clear h1 h2 hE
  cases ok <;> (
    go_enter Tryz.func6, Tryz.ntmps6
    go_wp2_with (first
      | (go_at_call 17; with_reducible refine (H1.out _).mono ?_; rintro e w1 ⟨rfl, hb1⟩; have HB1 := Lib.hid hb1; clear hb1)
      | (go_at_call 18; with_reducible refine (H2.out _).mono ?_; rintro e w2 ⟨rfl, hb2⟩; have HB2 := Lib.hid (bnext HB1.out hb2); clear hb2)
      | (go_at_call 12; with_reducible refine (HA.out _ (HE.out.next HB2.out)).mono ?_; rintro e w3 ⟨rfl, hb3⟩)
      | fail)
    go_ret
    exact ⟨rfl, bnext HB2.out hb3⟩)
end Go.Proofs.YtpnnbffhdhbonaaGreatDoor
