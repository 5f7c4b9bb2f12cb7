/- rosterlaw03.PrepSounds: true. -/
import Derived.Test.YtpnnbffhdhbonaaGreatDoorRefSounds
import Derived.Test.YtpnnbffhdhbonaaGreatDoorAwake
import Derived.Test.YtpnnbffhdhbonaaGreatDoorRows
namespace Go.Proofs.YtpnnbffhdhbonaaGreatDoor
open Go Go.RowKit

theorem bulk_str {H : Type} {s : ByteArray} (h : Rows.uptoSmall H [.lit (.string s.data.toList)] = true) : s.size ≤ 1048576 := by
  have := of_decide_eq_true h
  simp only [Rows.uptoBulkAll, Rows.uptoBulk] at this
  rw [Lib.size_eq]; omega

theorem law_sounds {H : Type} (s : ByteArray) (hs : s.size ≤ maxLen) (w : World) (hE : Env w) (hbulk : Rows.uptoSmall H [.lit (.string s.data.toList)] = true) :
    Calls Tryz.prog 7 #[.string s] w fun e w' => e = .returned (.bool true) ∧ Below w.heap.size w w' := by
  clear hs
  have hb := bulk_str hbulk
  clear hbulk
  have h1 := fun w => sound_any s w (by omega)
  have h2 := fun w => rsounds_any s w (by omega)
  generalize soundL s.data.toList = r at h1 h2
  have H1 := Lib.hid h1; have H2 := Lib.hid h2; have HE := Lib.hid hE; have HA := Lib.hid (fun w hE => alive_any w hE); clear h1 h2 hE
  go_enter Tryz.func7, Tryz.ntmps7
  go_wp2_with (first
    | (go_at_call 19; with_reducible refine (H1.out _).mono ?_; rintro e w1 ⟨rfl, hb1⟩; have HB1 := Lib.hid hb1; clear hb1)
    | (go_at_call 20; with_reducible refine (H2.out _).mono ?_; rintro e w2 ⟨rfl, hb2⟩; have HB2 := Lib.hid (bnext HB1.out hb2); clear hb2)
    | (go_at_call 12; with_reducible refine (HA.out _ (HE.out.next HB2.out)).mono ?_; rintro e w3 ⟨rfl, hb3⟩)
    | fail)
  go_ret
  exact ⟨rfl, bnext HB2.out hb3⟩
end Go.Proofs.YtpnnbffhdhbonaaGreatDoor
