/- rosterlaw03.PrepKnown: true. -/
import Derived.Test.YtpnnbffhdhbonaaDoorKnownV
import Derived.Test.YtpnnbffhdhbonaaDoorAwake
namespace Go.Proofs.YtpnnbffhdhbonaaDoor
open Go Go.RowKit

set_option maxRecDepth 20000 in
theorem known_none (f : Int) (v : ByteArray) (w : World) (hE : Env w) (h : keyL f v.data.toList = ([], false)) :
    Calls Tryd.prog 15 #[.int .i8 f, .string v, .string ⟨#[45]⟩] w fun e w' => e = .returned (.bool true) ∧ Below w.heap.size w w' := by
  have k1 := key_any f v w hE
  rw [h] at k1
  simp only [ret2] at k1
  have K1 := Lib.hid k1; clear k1 h
  go_enter Tryd.func15, Tryd.ntmps15
  go_wp2_with (first
    | (go_at_call 8; with_reducible refine K1.out.mono ?_; rintro e w1 ⟨rfl, hb1⟩; have HB1 := Lib.hid hb1; clear hb1)
    | fail)
  go_ret
  exact ⟨rfl, HB1.out⟩

set_option maxRecDepth 20000 in
theorem known_some (f : Int) (v : ByteArray) (k : List UInt8) (w : World) (hE : Env w) (h : keyL f v.data.toList = (k, true)) (hk : (k == [45]) = false) :
    Calls Tryd.prog 15 #[.int .i8 f, .string v, .string ⟨k.toArray⟩] w fun e w' => e = .returned (.bool true) ∧ Below w.heap.size w w' := by
  have k1 := key_any f v w hE
  rw [h] at k1
  simp only [ret2] at k1
  have K1 := Lib.hid k1; clear k1 h
  go_enter Tryd.func15, Tryd.ntmps15
  go_wp2_with (first
    | (go_at_call 8; with_reducible refine K1.out.mono ?_; rintro e w1 ⟨rfl, hb1⟩; have HB1 := Lib.hid hb1; clear hb1)
    | fail)
  go_ret
  exact ⟨rfl, HB1.out⟩

theorem make_nines (w : World) (N : Nat) (hN : N = 65536) :
    ∃ w', (Instr.makeSlice 36 (.int .i64 65536) (.int .i64 65536)).run Tryd.prog w = .ok (.slice (some ⟨w.heap.size, 0, none⟩) N N) w' ∧ Buf w w' (some w.heap.size) N (List.replicate N 0) := by
  subst hN
  exact makeN w 65536 (by decide)

theorem known_piece1 : pieceL 0 1 [32, 65, 32] = ([32, 97, 32], true) := by decide +kernel
theorem known_piece2 : pieceL 0 2 [32, 65, 32] = ([32, 97], true) := by decide +kernel
theorem known_piece3 : pieceL 0 0 [32] = ([], true) := by decide +kernel
theorem known_piece4 : pieceL 4 0 [49] = ([], false) := by decide +kernel
theorem known_piece5 : pieceL 2 1 [97] = ([], false) := by decide +kernel
theorem known_add1 : addL [53] [45, 55] = ([45, 50], true) := by decide +kernel
theorem known_add2 : addL [45, 53] [53] = ([48], true) := by decide +kernel
theorem known_add3 : addL [49] [48, 49] = ([], false) := by decide +kernel
theorem known_snd1 : soundL [82, 111, 98, 101, 114, 116, 32, 82, 117, 112, 101, 114, 116] = [82, 49, 54, 51, 32, 82, 49, 54, 51] := by decide +kernel
theorem known_snd2 : soundL [80, 102, 105, 115, 116, 101, 114] = [80, 50, 51, 54] := by decide +kernel
theorem known_snd3 : soundL [49, 50] = [] := by decide +kernel
theorem known_snd4 : soundL [97, 45, 98] = [65, 48, 48, 48, 32, 66, 48, 48, 48] := by decide +kernel

set_option maxRecDepth 20000 in
set_option maxHeartbeats 4000000 in
theorem law_known (w : World) (hE : Env w) :
    Calls Tryd.prog 6 #[] w fun e w' => e = .returned (.bool true) ∧ Below w.heap.size w w' := by
  have p1 : ∀ w, Env w → Calls Tryd.prog 12 #[.int .i8 0, .int .i8 1, .string ⟨#[32, 65, 32]⟩] w fun e w' => e = .returned (.tuple #[.string ⟨#[32, 97, 32]⟩, .bool true]) ∧ Below w.heap.size w w' :=
    fun w hE => by have h := piece_any 0 1 ⟨#[32, 65, 32]⟩ w hE (by decide); rw [show pieceL 0 1 _ = _ from known_piece1] at h; exact h
  have p2 : ∀ w, Env w → Calls Tryd.prog 12 #[.int .i8 0, .int .i8 2, .string ⟨#[32, 65, 32]⟩] w fun e w' => e = .returned (.tuple #[.string ⟨#[32, 97]⟩, .bool true]) ∧ Below w.heap.size w w' :=
    fun w hE => by have h := piece_any 0 2 ⟨#[32, 65, 32]⟩ w hE (by decide); rw [show pieceL 0 2 _ = _ from known_piece2] at h; exact h
  have p3 : ∀ w, Env w → Calls Tryd.prog 12 #[.int .i8 0, .int .i8 0, .string ⟨#[32]⟩] w fun e w' => e = .returned (.tuple #[.string ⟨#[]⟩, .bool true]) ∧ Below w.heap.size w w' :=
    fun w hE => by have h := piece_any 0 0 ⟨#[32]⟩ w hE (by decide); rw [show pieceL 0 0 _ = _ from known_piece3] at h; exact h
  have p4 : ∀ w, Env w → Calls Tryd.prog 12 #[.int .i8 4, .int .i8 0, .string ⟨#[49]⟩] w fun e w' => e = .returned (.tuple #[.string ⟨#[]⟩, .bool false]) ∧ Below w.heap.size w w' :=
    fun w hE => by have h := piece_any 4 0 ⟨#[49]⟩ w hE (by decide); rw [show pieceL 4 0 _ = _ from known_piece4] at h; exact h
  have p5 : ∀ w, Env w → Calls Tryd.prog 12 #[.int .i8 2, .int .i8 1, .string ⟨#[97]⟩] w fun e w' => e = .returned (.tuple #[.string ⟨#[]⟩, .bool false]) ∧ Below w.heap.size w w' :=
    fun w hE => by have h := piece_any 2 1 ⟨#[97]⟩ w hE (by decide); rw [show pieceL 2 1 _ = _ from known_piece5] at h; exact h
  have a1 : ∀ w, Calls Tryd.prog 13 #[.string ⟨#[53]⟩, .string ⟨#[45, 55]⟩] w fun e w' => e = .returned (.tuple #[.string ⟨#[45, 50]⟩, .bool true]) ∧ Below w.heap.size w w' :=
    fun w => by have h := add_any ⟨#[53]⟩ ⟨#[45, 55]⟩ w (by decide) (by decide); rw [show addL _ _ = _ from known_add1] at h; exact h
  have a2 : ∀ w, Calls Tryd.prog 13 #[.string ⟨#[45, 53]⟩, .string ⟨#[53]⟩] w fun e w' => e = .returned (.tuple #[.string ⟨#[48]⟩, .bool true]) ∧ Below w.heap.size w w' :=
    fun w => by have h := add_any ⟨#[45, 53]⟩ ⟨#[53]⟩ w (by decide) (by decide); rw [show addL _ _ = _ from known_add2] at h; exact h
  have a3 : ∀ w, Calls Tryd.prog 13 #[.string ⟨#[49]⟩, .string ⟨#[48, 49]⟩] w fun e w' => e = .returned (.tuple #[.string ⟨#[]⟩, .bool false]) ∧ Below w.heap.size w w' :=
    fun w => by have h := add_any ⟨#[49]⟩ ⟨#[48, 49]⟩ w (by decide) (by decide); rw [show addL _ _ = _ from known_add3] at h; exact h
  have s1 : ∀ w, Calls Tryd.prog 16 #[.string ⟨#[82, 111, 98, 101, 114, 116, 32, 82, 117, 112, 101, 114, 116]⟩] w fun e w' => e = .returned (.string ⟨#[82, 49, 54, 51, 32, 82, 49, 54, 51]⟩) ∧ Below w.heap.size w w' :=
    fun w => by have h := sound_any ⟨#[82, 111, 98, 101, 114, 116, 32, 82, 117, 112, 101, 114, 116]⟩ w (by decide); rw [show soundL _ = _ from known_snd1] at h; exact h
  have s2 : ∀ w, Calls Tryd.prog 16 #[.string ⟨#[80, 102, 105, 115, 116, 101, 114]⟩] w fun e w' => e = .returned (.string ⟨#[80, 50, 51, 54]⟩) ∧ Below w.heap.size w w' :=
    fun w => by have h := sound_any ⟨#[80, 102, 105, 115, 116, 101, 114]⟩ w (by decide); rw [show soundL _ = _ from known_snd2] at h; exact h
  have s3 : ∀ w, Calls Tryd.prog 16 #[.string ⟨#[49, 50]⟩] w fun e w' => e = .returned (.string ⟨#[]⟩) ∧ Below w.heap.size w w' :=
    fun w => by have h := sound_any ⟨#[49, 50]⟩ w (by decide); rw [show soundL _ = _ from known_snd3] at h; exact h
  have s4 : ∀ w, Calls Tryd.prog 16 #[.string ⟨#[97, 45, 98]⟩] w fun e w' => e = .returned (.string ⟨#[65, 48, 48, 48, 32, 66, 48, 48, 48]⟩) ∧ Below w.heap.size w w' :=
    fun w => by have h := sound_any ⟨#[97, 45, 98]⟩ w (by decide); rw [show soundL _ = _ from known_snd4] at h; exact h
  obtain ⟨n, hn⟩ : ∃ n : Nat, n + 1 = 65536 := ⟨65535, rfl⟩
  obtain ⟨N, hN⟩ : ∃ N : Nat, N = n + 1 := ⟨_, rfl⟩
  have hV : (nines N).length = N := nines_length N
  have hVs : (ByteArray.mk (nines N).toArray).size = N := hV
  have t1 := fun w => add_any ⟨(nines N).toArray⟩ ⟨#[49]⟩ w (by rw [hVs]; omega) (by decide)
  have t2 := fun w => add_any ⟨(nines N).toArray⟩ ⟨#[45, 49]⟩ w (by rw [hVs]; omega) (by decide)
  have t3 := fun w hE => key_any 4 ⟨(nines N).toArray⟩ w hE
  rw [show addL (ByteArray.mk (nines N).toArray).data.toList (ByteArray.mk #[49]).data.toList = ([], false) from hN ▸ nines_much hn] at t1
  rw [show addL (ByteArray.mk (nines N).toArray).data.toList (ByteArray.mk #[45, 49]).data.toList = (eight n, true) from hN ▸ nines_less hn] at t2
  rw [show keyL 4 (ByteArray.mk (nines N).toArray).data.toList = (112 :: n3 (n + 1) ++ nines (n + 1), true) from hN ▸ nines_key hn] at t3
  simp only [ret2] at t1 t2 t3
  obtain ⟨V, hVe⟩ : ∃ V : ByteArray, V = ⟨(nines N).toArray⟩ := ⟨_, rfl⟩
  obtain ⟨E, hEe⟩ : ∃ E : ByteArray, E = ⟨(eight n).toArray⟩ := ⟨_, rfl⟩
  obtain ⟨L, hLe⟩ : ∃ L : ByteArray, L = ⟨(112 :: n3 (n + 1) ++ nines (n + 1)).toArray⟩ := ⟨_, rfl⟩
  rw [← hVe] at t1 t2 t3
  rw [← hEe] at t2
  rw [← hLe] at t3
  have eSize : E.size = 65536 := by rw [hEe]; show (eight n).length = _; rw [eight_length]; exact hn
  have lSize : L.size = 65540 := by rw [hLe]; show (112 :: n3 (n + 1) ++ nines (n + 1)).length = _; simp only [List.length_append, List.length_cons, nines_length, n3, List.length_nil]; omega
  have eLast : ∀ h, E[65535]'h = 56 := by
    intro h
    have : (eight n)[65535]'(by rw [eight_length]; omega) = 56 := by
      unfold eight
      rw [List.getElem_append_right (by rw [nines_length]; omega)]
      simp
    subst hEe; exact this
  have hNs : N = 65536 := by omega
  have HNs := Lib.hid hNs
  have hNl : N ≤ 65536 := by omega
  have HVe := Lib.hid hVe
  have P1 := Lib.hid p1; have P2 := Lib.hid p2; have P3 := Lib.hid p3; have P4 := Lib.hid p4; have P5 := Lib.hid p5; have A1 := Lib.hid a1; have A2 := Lib.hid a2; have A3 := Lib.hid a3
  have S1 := Lib.hid s1; have S2 := Lib.hid s2; have S3 := Lib.hid s3; have S4 := Lib.hid s4; have T1 := Lib.hid t1; have T2 := Lib.hid t2; have T3 := Lib.hid t3
  have HE := Lib.hid hE
  have HB := Lib.hid (Below.refl w.heap.size w)
  have HA := Lib.hid (fun w hE => alive_any w hE)
  clear p1 p2 p3 p4 p5 a1 a2 a3 s1 s2 s3 s4 t1 t2 t3 hE hVe hEe hLe hV hVs hNs hN hn
  go_enter Tryd.func6, Tryd.ntmps6
  go_wp2_with (first
    | (go_at_call 15; with_reducible refine (known_none _ _ _ (HE.out.next HB.out) (by decide +kernel)).mono ?_; rintro e w2 ⟨rfl, hb2⟩; have HB := Lib.hid (bnext HB.out hb2); clear hb2; (try clear hr); obtain ⟨wm, hr, hM⟩ := make_nines w2 N HNs.out; have HM := Lib.hid hM; clear hM)
    | (go_at_call 15; with_reducible refine (known_some _ _ _ _ (HE.out.next HB.out) (by decide +kernel) (by decide +kernel)).mono ?_; rintro e w2 ⟨rfl, hb2⟩; have HB := Lib.hid (bnext HB.out hb2); clear hb2; (try clear hr); obtain ⟨wm, hr, hM⟩ := make_nines w2 N HNs.out; have HM := Lib.hid hM; clear hM)
    | (go_at_call 12; (first | with_reducible refine (P1.out _ (HE.out.next HB.out)).mono ?_ | with_reducible refine (P2.out _ (HE.out.next HB.out)).mono ?_ | with_reducible refine (P3.out _ (HE.out.next HB.out)).mono ?_ | with_reducible refine (P4.out _ (HE.out.next HB.out)).mono ?_ | with_reducible refine (P5.out _ (HE.out.next HB.out)).mono ?_); rintro e w2 ⟨rfl, hb2⟩; have HB := Lib.hid (bnext HB.out hb2); clear hb2)
    | (go_at_call 13; (first | with_reducible refine (A1.out _).mono ?_ | with_reducible refine (A2.out _).mono ?_ | with_reducible refine (A3.out _).mono ?_); rintro e w2 ⟨rfl, hb2⟩; have HB := Lib.hid (bnext HB.out hb2); clear hb2)
    | (go_at_call 16; (first | with_reducible refine (S1.out _).mono ?_ | with_reducible refine (S2.out _).mono ?_ | with_reducible refine (S3.out _).mono ?_ | with_reducible refine (S4.out _).mono ?_); rintro e w2 ⟨rfl, hb2⟩; have HB := Lib.hid (bnext HB.out hb2); clear hb2)
    | fail)
  go_loopw [25] (fun iv wr => ∃ i : Nat, iv = .int .i64 i ∧ i ≤ N ∧ Buf w2 wr (some w2.heap.size) N (mapAt (fun _ => (57 : UInt8)) (List.replicate N 0) i)) (fun iv _ => N - (intOf iv).toNat)
  case atStart => exact ⟨0, rfl, Nat.zero_le _, by rw [mapAt_zero]; exact HM.out⟩
  case round =>
    (try clear hr)
    obtain ⟨i, rfl, hi, hb⟩ := hrel
    have HI := Lib.hid hb; clear hb
    by_cases hlt : i < N
    · have hln : i < (List.replicate N (0 : UInt8)).length := by rw [List.length_replicate]; exact hlt
      obtain ⟨z, hcell⟩ : ∃ z : UInt8, wr.cell? ⟨w2.heap.size, i, none⟩ = some (.int .u8 (z.toNat : Int)) := ⟨_, HI.out.cell (mapAt_get _ _ hln)⟩
      have hfr := HI.out.frozen i
      have hset := HI.out.set (j := i) (by rw [mapAt_length]; exact hln) 57
      rw [mapAt_step (fun _ => (57 : UInt8)) _ hln] at hset
      have HS := Lib.hid hset; clear hset hln
      have i1 : (i : Int) < N := by omega
      go_wp2_with fail
      exact ⟨⟨i + 1, rfl, by omega, HS.out⟩, by simp [intOf]; omega⟩
    · have i1 : ¬ (i : Int) < N := by omega
      have hX := HI.out
      rw [nines_made hlt] at hX
      have HX := Lib.hid hX
      have hbk := hX.back (nines_length N).symm N
      rw [← HVe.out] at hbk
      clear hX
      go_wp2_with (first
        | (go_at_call 13; with_reducible refine (T1.out _).mono ?_; rintro e w3 ⟨rfl, hb3⟩; have HX3 := Lib.hid (HX.out.next hb3); clear hb3; have hbk3 := HX3.out.back (nines_length N).symm N; rw [← HVe.out] at hbk3)
        | (go_at_call 13; with_reducible refine (T2.out _).mono ?_; rintro e w4 ⟨rfl, hb4⟩; have HX4 := Lib.hid (HX3.out.next hb4); clear hb4; have hbk4 := HX4.out.back (nines_length N).symm N; rw [← HVe.out] at hbk4)
        | (go_at_call 8; with_reducible refine (T3.out _ (HE.out.next (bnext HB.out HX4.out.below))).mono ?_; rintro e w5 ⟨rfl, hb5⟩; have HX5 := Lib.hid (HX4.out.next hb5); clear hb5)
        | (go_at_call 9; with_reducible refine (HA.out _ (HE.out.next (bnext HB.out HX5.out.below))).mono ?_; rintro e w6 ⟨rfl, hb6⟩)
        | fail)
      go_ret
      exact ⟨rfl, bnext (bnext HB.out HX5.out.below) hb6⟩
end Go.Proofs.YtpnnbffhdhbonaaDoor
