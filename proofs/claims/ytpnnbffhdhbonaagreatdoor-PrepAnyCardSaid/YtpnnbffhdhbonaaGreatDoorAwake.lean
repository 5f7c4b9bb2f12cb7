/- rosterlaw03.alive: true. -/
import Derived.Test.YtpnnbffhdhbonaaGreatDoorKey
import Derived.Test.YtpnnbffhdhbonaaGreatDoorPiece
import Derived.Test.YtpnnbffhdhbonaaGreatDoorAdd
import Derived.Test.YtpnnbffhdhbonaaGreatDoorSound
namespace Go.Proofs.YtpnnbffhdhbonaaGreatDoor
open Go Go.RowKit

theorem alive_key1 : keyL 0 [32, 65, 98, 32, 32, 67, 32] = ([97, 98, 32, 99], true) := by decide +kernel
theorem alive_key2 : keyL 4 [45, 55] = ([110, 255, 255, 254, 50], true) := by decide +kernel
theorem alive_piece : pieceL 0 0 [32, 65, 32] = ([97, 32], true) := by decide +kernel
theorem alive_add : addL [57, 57] [49] = ([49, 48, 48], true) := by decide +kernel
theorem alive_time : timeL [50, 48, 48, 48, 48, 50, 50, 57, 49, 50, 48, 48, 48, 48, 44, 50, 53, 48, 45, 48, 49, 48, 48] = (951829200, [50, 53], true) := by decide +kernel
theorem alive_sound : soundL [84, 121, 109, 99, 122, 97, 107] = [84, 53, 50, 50] := by decide +kernel

set_option maxRecDepth 20000 in
theorem alive_any (w : World) (hE : Env w) :
    Calls Tryz.prog 12 #[] w fun e w' => e = .returned (.bool true) ∧ Below w.heap.size w w' := by
  have k1 : ∀ w, Env w → Calls Tryz.prog 10 #[.int .i8 0, .string ⟨#[32, 65, 98, 32, 32, 67, 32]⟩] w fun e w' => e = .returned (.tuple #[.string ⟨#[97, 98, 32, 99]⟩, .bool true]) ∧ Below w.heap.size w w' :=
    fun w hE => by have h := key_any 0 ⟨#[32, 65, 98, 32, 32, 67, 32]⟩ w hE; rw [show keyL 0 _ = _ from alive_key1] at h; exact h
  have k2 : ∀ w, Env w → Calls Tryz.prog 10 #[.int .i8 4, .string ⟨#[45, 55]⟩] w fun e w' => e = .returned (.tuple #[.string ⟨#[110, 255, 255, 254, 50]⟩, .bool true]) ∧ Below w.heap.size w w' :=
    fun w hE => by have h := key_any 4 ⟨#[45, 55]⟩ w hE; rw [show keyL 4 _ = _ from alive_key2] at h; exact h
  have k3 : ∀ w, Env w → Calls Tryz.prog 13 #[.int .i8 0, .int .i8 0, .string ⟨#[32, 65, 32]⟩] w fun e w' => e = .returned (.tuple #[.string ⟨#[97, 32]⟩, .bool true]) ∧ Below w.heap.size w w' :=
    fun w hE => by have h := piece_any 0 0 ⟨#[32, 65, 32]⟩ w hE (by decide); rw [show pieceL 0 0 _ = _ from alive_piece] at h; exact h
  have k4 : ∀ w, Calls Tryz.prog 15 #[.string ⟨#[57, 57]⟩, .string ⟨#[49]⟩] w fun e w' => e = .returned (.tuple #[.string ⟨#[49, 48, 48]⟩, .bool true]) ∧ Below w.heap.size w w' :=
    fun w => by have h := add_any ⟨#[57, 57]⟩ ⟨#[49]⟩ w (by decide) (by decide); rw [show addL _ _ = _ from alive_add] at h; exact h
  have k5 : ∀ w, Calls Tryz.prog 17 #[.string ⟨#[50, 48, 48, 48, 48, 50, 50, 57, 49, 50, 48, 48, 48, 48, 44, 50, 53, 48, 45, 48, 49, 48, 48]⟩] w fun e w' => e = .returned (.tuple #[.int .i64 951829200, .string ⟨#[50, 53]⟩, .bool true]) ∧ Below w.heap.size w w' :=
    fun w => by have h := time_any ⟨#[50, 48, 48, 48, 48, 50, 50, 57, 49, 50, 48, 48, 48, 48, 44, 50, 53, 48, 45, 48, 49, 48, 48]⟩ w (by decide); rw [show timeL _ = _ from alive_time] at h; exact h
  have k6 : ∀ w, Calls Tryz.prog 19 #[.string ⟨#[84, 121, 109, 99, 122, 97, 107]⟩] w fun e w' => e = .returned (.string ⟨#[84, 53, 50, 50]⟩) ∧ Below w.heap.size w w' :=
    fun w => by have h := sound_any ⟨#[84, 121, 109, 99, 122, 97, 107]⟩ w (by decide); rw [show soundL _ = _ from alive_sound] at h; exact h
  have K1 := Lib.hid k1; have K2 := Lib.hid k2; have K3 := Lib.hid k3; have K4 := Lib.hid k4; have K5 := Lib.hid k5; have K6 := Lib.hid k6; have HE := Lib.hid hE
  clear k1 k2 k3 k4 k5 k6 hE
  go_enter Tryz.func12, Tryz.ntmps12
  go_wp2_with (first
    | (go_at_call 10; with_reducible refine (K1.out _ HE.out).mono ?_; rintro e w1 ⟨rfl, hb1⟩; have HB1 := Lib.hid hb1; clear hb1)
    | (go_at_call 10; with_reducible refine (K2.out _ (HE.out.next HB1.out)).mono ?_; rintro e w2 ⟨rfl, hb2⟩; have HB2 := Lib.hid (bnext HB1.out hb2); clear hb2)
    | (go_at_call 13; with_reducible refine (K3.out _ (HE.out.next HB2.out)).mono ?_; rintro e w3 ⟨rfl, hb3⟩; have HB3 := Lib.hid (bnext HB2.out hb3); clear hb3)
    | (go_at_call 15; with_reducible refine (K4.out _).mono ?_; rintro e w4 ⟨rfl, hb4⟩; have HB4 := Lib.hid (bnext HB3.out hb4); clear hb4)
    | (go_at_call 17; with_reducible refine (K5.out _).mono ?_; rintro e w5 ⟨rfl, hb5⟩; have HB5 := Lib.hid (bnext HB4.out hb5); clear hb5)
    | (go_at_call 19; with_reducible refine (K6.out _).mono ?_; rintro e w6 ⟨rfl, hb6⟩; have HB6 := Lib.hid (bnext HB5.out hb6); clear hb6)
    | fail)
  go_ret
  exact ⟨rfl, HB6.out⟩
end Go.Proofs.YtpnnbffhdhbonaaGreatDoor
