/- prep.Piece: what a piece of a value becomes. -/
import Derived.Test.YtpnnbffhdhbonaaGreatDoorForms
namespace Go.Proofs.YtpnnbffhdhbonaaGreatDoor
open Go Go.RowKit

def placeL (wh : Int) (t : List UInt8) : List UInt8 := if wh = 0 then Lib.trimPrefix t [32] else if wh = 2 then Lib.trimSuffix t [32] else t
def pieceL (f wh : Int) (s : List UInt8) : List UInt8 × Bool :=
  if 65536 < s.length ∨ wh < 0 ∨ 2 < wh then ([], false)
  else if f = 0 ∨ f = 1 then (if Lib.validD s = false then ([], false) else (placeL wh (sqz false (if f = 0 then low s else s)), true))
  else if f = 2 then (if onlyL [32] s = true then (zapB 32 s, true) else ([], false))
  else if f = 3 then (if onlyL signs s = true then (dialL s, true) else ([], false))
  else ([], false)

theorem low_length (l : List UInt8) : (low l).length = l.length := by unfold low; simp

set_option maxRecDepth 20000 in
theorem piece_any (f wh : Int) (s : ByteArray) (w : World) (E : Env w) (hs : s.size ≤ 9223372036854775807) :
    Calls Tryz.prog 13 #[.int .i8 f, .int .i8 wh, .string s] w fun e w' => e = .returned (ret2 (pieceL f wh s.data.toList)) ∧ Below w.heap.size w w' := by
  have hls := Lib.size_eq s
  have HL0 := Lib.hid hls; clear hls
  by_cases h1 : 65536 < s.size
  · have HE := Lib.hid E; clear E
    go_enter Tryz.func13, Tryz.ntmps13
    go_wp2_with fail
    go_ret2
    exact ⟨by rw [pieceL, if_pos (.inl (by have := HL0.out; omega))]; rfl, Below.refl _ _⟩
  have g1 : ¬ (65536 : Int) < s.size := by omega
  by_cases h2 : wh < 0
  · have HE := Lib.hid E; clear E
    go_enter Tryz.func13, Tryz.ntmps13
    go_wp2_with fail
    go_ret2
    exact ⟨by rw [pieceL, if_pos (.inr (.inl h2))]; rfl, Below.refl _ _⟩
  by_cases h3 : 2 < wh
  · have HE := Lib.hid E; clear E
    go_enter Tryz.func13, Tryz.ntmps13
    go_wp2_with fail
    go_ret2
    exact ⟨by rw [pieceL, if_pos (.inr (.inr h3))]; rfl, Below.refl _ _⟩
  have hP : pieceL f wh s.data.toList = if f = 0 ∨ f = 1 then (if Lib.validD s.data.toList = false then ([], false) else (placeL wh (sqz false (if f = 0 then low s.data.toList else s.data.toList)), true))
      else if f = 2 then (if onlyL [32] s.data.toList = true then (zapB 32 s.data.toList, true) else ([], false))
      else if f = 3 then (if onlyL signs s.data.toList = true then (dialL s.data.toList, true) else ([], false))
      else ([], false) := by
    have := HL0.out
    unfold pieceL; rw [if_neg (by omega)]
  have HP := Lib.hid hP; have HE := Lib.hid E; clear hP E
  have l1 := sqz_length false (low s.data.toList)
  have l2 := sqz_length false s.data.toList
  rw [low_length, ← HL0.out] at l1
  rw [← HL0.out] at l2
  have HL := Lib.hid (And.intro (show (sqz false (low s.data.toList)).length ≤ 65536 by omega) (show (sqz false s.data.toList).length ≤ 65536 by omega)); clear l1 l2
  have hw : wh = 0 ∨ wh = 1 ∨ wh = 2 := by omega
  clear h2 h3
  by_cases f0 : f = 0
  · subst f0
    cases hv : Lib.validD s.data.toList with
    | false =>
      have HV := Lib.hid (show pieceL 0 wh s.data.toList = ([], false) by rw [HP.out, if_pos (.inl rfl), if_pos hv])
      clear HP
      go_enter Tryz.func13, Tryz.ntmps13
      go_wp2_with (first
        | (go_at_call 32; refine (valid_any _ _ (by omega)).mono ?_; rintro e w1 ⟨rfl, hb1⟩; have HB1 := Lib.hid hb1; clear hb1)
        | fail)
      go_ret2
      exact ⟨by rw [HV.out]; rfl, HB1.out⟩
    | true =>
      have HV := Lib.hid (show pieceL 0 wh s.data.toList = (placeL wh (sqz false (low s.data.toList)), true) by rw [HP.out, if_pos (.inl rfl), if_neg (by rw [hv]; simp), if_pos rfl])
      rcases hw with rfl | rfl | rfl
      · skip
        go_enter Tryz.func13, Tryz.ntmps13
        go_wp2_with (first
          | (go_at_call 32; refine (valid_any _ _ (by omega)).mono ?_; rintro e w1 ⟨rfl, hb1⟩; have HB1 := Lib.hid hb1; clear hb1)
          | (go_at_call 33; refine (lower_any _ _ (by omega)).mono ?_; rintro e w2 ⟨rfl, hb2⟩; have HB2 := Lib.hid (bnext HB1.out hb2); clear hb2)
          | (go_at_call 34; refine (squeeze_any _ _ (by show (low s.data.toList).length ≤ _; rw [low_length, ← HL0.out]; omega)).mono ?_; rintro e w3 ⟨rfl, hb3⟩; have HB3 := Lib.hid (bnext HB2.out hb3); clear hb3)
          | (go_at_call 35; refine (Tryz.strings_TrimPrefix _ _ _).mono ?_; rintro e w4 ⟨rfl, rfl⟩)
          | fail)
        go_ret2
        exact ⟨by rw [HV.out]; rfl, HB3.out⟩
      · skip
        go_enter Tryz.func13, Tryz.ntmps13
        go_wp2_with (first
          | (go_at_call 32; refine (valid_any _ _ (by omega)).mono ?_; rintro e w1 ⟨rfl, hb1⟩; have HB1 := Lib.hid hb1; clear hb1)
          | (go_at_call 33; refine (lower_any _ _ (by omega)).mono ?_; rintro e w2 ⟨rfl, hb2⟩; have HB2 := Lib.hid (bnext HB1.out hb2); clear hb2)
          | (go_at_call 34; refine (squeeze_any _ _ (by show (low s.data.toList).length ≤ _; rw [low_length, ← HL0.out]; omega)).mono ?_; rintro e w3 ⟨rfl, hb3⟩; have HB3 := Lib.hid (bnext HB2.out hb3); clear hb3)
          | fail)
        go_ret2
        exact ⟨by rw [HV.out]; rfl, HB3.out⟩
      · skip
        go_enter Tryz.func13, Tryz.ntmps13
        go_wp2_with (first
          | (go_at_call 32; refine (valid_any _ _ (by omega)).mono ?_; rintro e w1 ⟨rfl, hb1⟩; have HB1 := Lib.hid hb1; clear hb1)
          | (go_at_call 33; refine (lower_any _ _ (by omega)).mono ?_; rintro e w2 ⟨rfl, hb2⟩; have HB2 := Lib.hid (bnext HB1.out hb2); clear hb2)
          | (go_at_call 34; refine (squeeze_any _ _ (by show (low s.data.toList).length ≤ _; rw [low_length, ← HL0.out]; omega)).mono ?_; rintro e w3 ⟨rfl, hb3⟩; have HB3 := Lib.hid (bnext HB2.out hb3); clear hb3)
          | (go_at_call 36; refine (Tryz.strings_TrimSuffix _ _ _ (by have := HL.out; show (sqz false (low s.data.toList)).length ≤ _; omega)).mono ?_; rintro e w4 ⟨rfl, rfl⟩)
          | fail)
        go_ret2
        exact ⟨by rw [HV.out]; rfl, HB3.out⟩
  by_cases f1 : f = 1
  · subst f1
    cases hv : Lib.validD s.data.toList with
    | false =>
      have HV := Lib.hid (show pieceL 1 wh s.data.toList = ([], false) by rw [HP.out, if_pos (.inr rfl), if_pos hv])
      clear HP
      go_enter Tryz.func13, Tryz.ntmps13
      go_wp2_with (first
        | (go_at_call 32; refine (valid_any _ _ (by omega)).mono ?_; rintro e w1 ⟨rfl, hb1⟩; have HB1 := Lib.hid hb1; clear hb1)
        | fail)
      go_ret2
      exact ⟨by rw [HV.out]; rfl, HB1.out⟩
    | true =>
      have HV := Lib.hid (show pieceL 1 wh s.data.toList = (placeL wh (sqz false s.data.toList), true) by rw [HP.out, if_pos (.inr rfl), if_neg (by rw [hv]; simp), if_neg (by decide)])
      rcases hw with rfl | rfl | rfl
      · skip
        go_enter Tryz.func13, Tryz.ntmps13
        go_wp2_with (first
          | (go_at_call 32; refine (valid_any _ _ (by omega)).mono ?_; rintro e w1 ⟨rfl, hb1⟩; have HB1 := Lib.hid hb1; clear hb1)
          | (go_at_call 34; refine (squeeze_any _ _ (by omega)).mono ?_; rintro e w3 ⟨rfl, hb3⟩; have HB3 := Lib.hid (bnext HB1.out hb3); clear hb3)
          | (go_at_call 35; refine (Tryz.strings_TrimPrefix _ _ _).mono ?_; rintro e w4 ⟨rfl, rfl⟩)
          | fail)
        go_ret2
        exact ⟨by rw [HV.out]; rfl, HB3.out⟩
      · skip
        go_enter Tryz.func13, Tryz.ntmps13
        go_wp2_with (first
          | (go_at_call 32; refine (valid_any _ _ (by omega)).mono ?_; rintro e w1 ⟨rfl, hb1⟩; have HB1 := Lib.hid hb1; clear hb1)
          | (go_at_call 34; refine (squeeze_any _ _ (by omega)).mono ?_; rintro e w3 ⟨rfl, hb3⟩; have HB3 := Lib.hid (bnext HB1.out hb3); clear hb3)
          | fail)
        go_ret2
        exact ⟨by rw [HV.out]; rfl, HB3.out⟩
      · skip
        go_enter Tryz.func13, Tryz.ntmps13
        go_wp2_with (first
          | (go_at_call 32; refine (valid_any _ _ (by omega)).mono ?_; rintro e w1 ⟨rfl, hb1⟩; have HB1 := Lib.hid hb1; clear hb1)
          | (go_at_call 34; refine (squeeze_any _ _ (by omega)).mono ?_; rintro e w3 ⟨rfl, hb3⟩; have HB3 := Lib.hid (bnext HB1.out hb3); clear hb3)
          | (go_at_call 36; refine (Tryz.strings_TrimSuffix _ _ _ (by have := HL.out; show (sqz false s.data.toList).length ≤ _; omega)).mono ?_; rintro e w4 ⟨rfl, rfl⟩)
          | fail)
        go_ret2
        exact ⟨by rw [HV.out]; rfl, HB3.out⟩
  by_cases f2 : f = 2
  · subst f2
    cases hv : onlyL [32] s.data.toList with
    | false =>
      have HV := Lib.hid (show pieceL 2 wh s.data.toList = ([], false) by rw [HP.out, if_neg (by decide), if_pos rfl, if_neg (by rw [hv]; simp)])
      clear HP
      go_enter Tryz.func13, Tryz.ntmps13
      go_wp2_with (first
        | (go_at_call 37; refine (only_any _ _ _ (by omega)).mono ?_; rintro e w1 ⟨rfl, rfl⟩; rw [show onlyL (ByteArray.mk #[32]).data.toList s.data.toList = false from hv])
        | fail)
      go_ret2
      exact ⟨by rw [HV.out]; rfl, Below.refl _ _⟩
    | true =>
      have HV := Lib.hid (show pieceL 2 wh s.data.toList = (zapB 32 s.data.toList, true) by rw [HP.out, if_neg (by decide), if_pos rfl, if_pos hv])
      clear HP
      obtain ⟨m, hm⟩ := HE.out.max
      have HM := Lib.hid hm; clear hm
      go_enter Tryz.func13, Tryz.ntmps13
      go_wp2_with (first
        | (go_at_call 37; refine (only_any _ _ _ (by omega)).mono ?_; rintro e w1 ⟨rfl, rfl⟩; rw [show onlyL (ByteArray.mk #[32]).data.toList s.data.toList = true from hv])
        | (go_at_call 38; refine (Tryz.strings_ReplaceAll s _ _ m _ (by omega) HM.out (by decide) (by show _ + _ * 0 ≤ _; omega)).mono ?_; rintro e w2 ⟨rfl, hb2⟩; have HB2 := Lib.hid hb2; clear hb2; rw [show Lib.replaceAll s.data.toList (ByteArray.mk #[32]).data.toList (ByteArray.mk #[]).data.toList = zapB 32 s.data.toList from replaceAll_zap 32 _])
        | fail)
      go_ret2
      exact ⟨by rw [HV.out]; rfl, HB2.out⟩
  by_cases f3 : f = 3
  · subst f3
    cases hv : onlyL signs s.data.toList with
    | false =>
      have HV := Lib.hid (show pieceL 3 wh s.data.toList = ([], false) by rw [HP.out, if_neg (by decide), if_neg (by decide), if_pos rfl, if_neg (by rw [hv]; simp)])
      clear HP
      go_enter Tryz.func13, Tryz.ntmps13
      go_wp2_with (first
        | (go_at_call 37; refine (only_any _ _ _ (by omega)).mono ?_; rintro e w1 ⟨rfl, rfl⟩; rw [show onlyL (ByteArray.mk #[97, 98, 99, 100, 101, 102, 103, 104, 105, 106, 107, 108, 109, 110, 111, 112, 113, 114, 115, 116, 117, 118, 119, 120, 121, 122, 65, 66, 67, 68, 69, 70, 71, 72, 73, 74, 75, 76, 77, 78, 79, 80, 81, 82, 83, 84, 85, 86, 87, 88, 89, 90, 39, 40, 41, 43, 44, 45, 46, 47, 58, 63, 61, 32]).data.toList s.data.toList = false from hv])
        | fail)
      go_ret2
      exact ⟨by rw [HV.out]; rfl, Below.refl _ _⟩
    | true =>
      have HV := Lib.hid (show pieceL 3 wh s.data.toList = (dialL s.data.toList, true) by rw [HP.out, if_neg (by decide), if_neg (by decide), if_pos rfl, if_pos hv])
      clear HP
      obtain ⟨m, hm⟩ := HE.out.max
      have HM := Lib.hid hm; clear hm
      go_enter Tryz.func13, Tryz.ntmps13
      go_wp2_with (first
        | (go_at_call 37; refine (only_any _ _ _ (by omega)).mono ?_; rintro e w1 ⟨rfl, rfl⟩; rw [show onlyL (ByteArray.mk #[97, 98, 99, 100, 101, 102, 103, 104, 105, 106, 107, 108, 109, 110, 111, 112, 113, 114, 115, 116, 117, 118, 119, 120, 121, 122, 65, 66, 67, 68, 69, 70, 71, 72, 73, 74, 75, 76, 77, 78, 79, 80, 81, 82, 83, 84, 85, 86, 87, 88, 89, 90, 39, 40, 41, 43, 44, 45, 46, 47, 58, 63, 61, 32]).data.toList s.data.toList = true from hv])
        | (go_at_call 39; refine (dialled_any s _ HE.out (by omega)).mono ?_; rintro e w2 ⟨rfl, hb2⟩; have HB2 := Lib.hid hb2; clear hb2)
        | fail)
      go_ret2
      exact ⟨by rw [HV.out]; rfl, HB2.out⟩
  have HV := Lib.hid (show pieceL f wh s.data.toList = ([], false) by rw [HP.out, if_neg (by rintro (h | h); exact f0 h; exact f1 h), if_neg f2, if_neg f3])
  clear HP
  go_enter Tryz.func13, Tryz.ntmps13
  go_wp2_with (first
    | fail)
  go_ret2
  exact ⟨by rw [HV.out]; rfl, Below.refl _ _⟩
end Go.Proofs.YtpnnbffhdhbonaaGreatDoor
