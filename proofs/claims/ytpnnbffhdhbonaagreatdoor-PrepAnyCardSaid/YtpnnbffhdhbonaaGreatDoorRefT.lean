/- rosterref03.two, days, date: two digits, a month's days, a day's number. -/
import Derived.Test.YtpnnbffhdhbonaaGreatDoorRefA
import Derived.Test.YtpnnbffhdhbonaaGreatDoorCalV
namespace Go.Proofs.YtpnnbffhdhbonaaGreatDoor
open Go Go.RowKit

set_option maxRecDepth 20000 in
theorem rtwo_any (s : ByteArray) (w : World) (hs : s.size ≤ 140737488355327) :
    Calls Tryz.prog 52 #[.string s] w fun e w' => e = .returned (.int .i64 (pairL s.data.toList)) ∧ Below w.heap.size w w' := by
  have hD := fun w => rdigits_any s w hs
  by_cases h2 : s.size = 2
  · obtain ⟨a, b, rfl⟩ : ∃ a b, s = ⟨#[a, b]⟩ := by
      obtain ⟨⟨l⟩⟩ := s
      match l, h2 with
      | [a, b], _ => exact ⟨a, b, rfl⟩
    have g0 : ∀ h, (ByteArray.mk #[a, b])[0]'h = a := fun _ => rfl
    have g1 : ∀ h, (ByteArray.mk #[a, b])[1]'h = b := fun _ => rfl
    have hsz : (ByteArray.mk #[a, b]).size = 2 := rfl
    by_cases hd : dig a = true ∧ dig b = true
    · have ha := (dig_iff a).1 hd.1
      have hb := (dig_iff b).1 hd.2
      have a1 : (48 : Int) ≤ a.toNat := by omega
      have a2 : (a.toNat : Int) ≤ 57 := by omega
      have b1 : (48 : Int) ≤ b.toNat := by omega
      have b2 : (b.toNat : Int) ≤ 57 := by omega
      rw [show digitsR (ByteArray.mk #[a, b]).data.toList = true by show (dig a && (dig b && true)) = true; rw [hd.1, hd.2]; rfl] at hD
      have HD := Lib.hid hD; clear hD
      have HP := Lib.hid (show pairL [a, b] = ((a.toNat : Int) - 48) * 10 + ((b.toNat : Int) - 48) from if_pos hd)
      clear hd ha hb h2
      go_enter Tryz.func52, Tryz.ntmps52
      go_wp2_with (first
        | (go_at_call 83; with_reducible refine (HD.out _).mono ?_; rintro e w1 ⟨rfl, rfl⟩)
        | fail)
      go_quiet (fail)
      go_wp2_with fail
      go_ret
      exact ⟨by show Ending.returned (.int .i64 (10 * ((a.toNat : Int) - 48) + ((b.toNat : Int) - 48))) = Ending.returned (.int .i64 (pairL [a, b])); rw [HP.out, Int.mul_comm], bdrewN (Below.refl _ _) _⟩
    · rw [show digitsR (ByteArray.mk #[a, b]).data.toList = false by
        show (dig a && (dig b && true)) = false
        cases h1 : dig a <;> cases h2 : dig b <;> simp_all] at hD
      have HD := Lib.hid hD; clear hD
      have HP := Lib.hid (show pairL [a, b] = -1 from if_neg hd)
      clear hd h2
      go_enter Tryz.func52, Tryz.ntmps52
      go_wp2_with (first
        | (go_at_call 83; with_reducible refine (HD.out _).mono ?_; rintro e w1 ⟨rfl, rfl⟩)
        | fail)
      go_ret
      exact ⟨by show _ = Ending.returned (.int .i64 (pairL [a, b])); rw [HP.out]; rfl, Below.refl _ _⟩
  · have HP := Lib.hid (show pairL s.data.toList = -1 by
      obtain ⟨⟨l⟩⟩ := s
      show pairL l = -1
      match l, h2 with
      | [], _ => rfl
      | [_], _ => rfl
      | [_, _], h => exact absurd rfl h
      | _ :: _ :: _ :: _, _ => rfl)
    have g : ¬ (s.size : Int) = 2 := by omega
    cases hdr : digitsR s.data.toList <;> (
      rw [hdr] at hD
      have HD := Lib.hid hD; clear hD hdr
      go_enter Tryz.func52, Tryz.ntmps52
      go_wp2_with (first
        | (go_at_call 83; with_reducible refine (HD.out _).mono ?_; rintro e w1 ⟨rfl, rfl⟩)
        | fail)
      go_ret
      exact ⟨by rw [HP.out]; rfl, Below.refl _ _⟩)

set_option maxRecDepth 20000 in
theorem rdays_any (y m : Int) (w : World) (hy : 0 ≤ y ∧ y ≤ 99999) (hm : 1 ≤ m ∧ m ≤ 12) :
    Calls Tryz.prog 53 #[.int .i64 y, .int .i64 m] w fun e w' => e = .returned (.int .i64 (dimI y m)) ∧ w' = w := by
  have hmm : m = 1 ∨ m = 2 ∨ m = 3 ∨ m = 4 ∨ m = 5 ∨ m = 6 ∨ m = 7 ∨ m = 8 ∨ m = 9 ∨ m = 10 ∨ m = 11 ∨ m = 12 := by omega
  have e4 : y.tmod 4 = y % 4 := Int.tmod_eq_emod_of_nonneg hy.1
  have e100 : y.tmod 100 = y % 100 := Int.tmod_eq_emod_of_nonneg hy.1
  have e400 : y.tmod 400 = y % 400 := Int.tmod_eq_emod_of_nonneg hy.1
  have HF : Hid (dimI y 2 = if (y % 4 = 0 ∧ y % 100 ≠ 0) ∨ y % 400 = 0 then 29 else 28) := Lib.hid rfl
  have k1 := Int.emod_nonneg y (show (4 : Int) ≠ 0 by decide)
  have k2 := Int.emod_nonneg y (show (100 : Int) ≠ 0 by decide)
  have k3 := Int.emod_nonneg y (show (400 : Int) ≠ 0 by decide)
  have l1 := Int.emod_lt_of_pos y (show (0 : Int) < 4 by decide)
  have l2 := Int.emod_lt_of_pos y (show (0 : Int) < 100 by decide)
  have l3 := Int.emod_lt_of_pos y (show (0 : Int) < 400 by decide)
  clear hm
  rcases hmm with rfl | rfl | rfl | rfl | rfl | rfl | rfl | rfl | rfl | rfl | rfl | rfl
  case inr.inl =>
    generalize y % 4 = p at *
    generalize y % 100 = q at *
    generalize y % 400 = r at *
    by_cases hr : r = 0
    · subst hr
      by_cases hp : p = 0
      · subst hp
        by_cases hq : q = 0
        · subst hq
          go_enter Tryz.func53, Tryz.ntmps53
          go_wp2_with fail
          go_ret
          exact ⟨by rw [HF.out]; rfl, rfl⟩
        · go_enter Tryz.func53, Tryz.ntmps53
          go_wp2_with fail
          go_ret
          exact ⟨by rw [HF.out, if_pos (.inr trivial)]; rfl, rfl⟩
      · go_enter Tryz.func53, Tryz.ntmps53
        go_wp2_with fail
        go_ret
        exact ⟨by rw [HF.out, if_pos (.inr trivial)]; rfl, rfl⟩
    · by_cases hp : p = 0
      · subst hp
        by_cases hq : q = 0
        · subst hq
          go_enter Tryz.func53, Tryz.ntmps53
          go_wp2_with fail
          go_ret
          exact ⟨by rw [HF.out, if_neg (by omega)]; rfl, rfl⟩
        · go_enter Tryz.func53, Tryz.ntmps53
          go_wp2_with fail
          go_ret
          exact ⟨by rw [HF.out, if_pos (.inl ⟨trivial, hq⟩)]; rfl, rfl⟩
      · go_enter Tryz.func53, Tryz.ntmps53
        go_wp2_with fail
        go_ret
        exact ⟨by rw [HF.out, if_neg (by omega)]; rfl, rfl⟩
  all_goals (
    clear HF e4 e100 e400 k1 k2 k3 l1 l2 l3
    go_enter Tryz.func53, Tryz.ntmps53
    go_wp2_with fail
    go_ret
    exact ⟨rfl, rfl⟩)

/-- the first day of a month (the thirteenth: of the next year) -/
def baseI (y m : Int) : Int := if 12 < m then daysI (y + 1) 1 1 else daysI y m 1
theorem baseI_next {y m : Int} (h1 : 1 ≤ m) (h2 : m ≤ 12) : baseI y (m + 1) = baseI y m + dimI y m := by
  unfold baseI
  rw [if_neg (show ¬ 12 < m by omega)]
  by_cases h : m = 12
  · subst h
    rw [if_pos (by decide), daysI_year]; rfl
  · rw [if_neg (by omega), daysI_next h1 (by omega)]
theorem daysI_wide {y m : Int} (y0 : 0 ≤ y) (y1 : y ≤ 10001) (m0 : 1 ≤ m) (m1 : m ≤ 12) : -719530 ≤ daysI y m 1 ∧ daysI y m 1 ≤ 4000000 := by
  unfold daysI
  by_cases h : m ≤ 2
  · simp only [if_pos h]; omega
  · simp only [if_neg h]; omega
theorem baseI_range {y m : Int} (y0 : 0 ≤ y) (y1 : y ≤ 10000) (m0 : 1 ≤ m) : -719530 ≤ baseI y m ∧ baseI y m ≤ 4000000 := by
  unfold baseI
  split
  · exact daysI_wide (by omega) (by omega) (by decide) (by decide)
  · exact daysI_wide y0 (by omega) m0 (by omega)
theorem daysI_d (y m d : Int) : daysI y m d = daysI y m 1 + d - 1 := by
  unfold daysI
  by_cases h : m ≤ 2
  · simp only [if_pos h]; omega
  · simp only [if_neg h]; omega
theorem base_13 (y : Int) : baseI y 13 = baseI (y + 1) 1 := by unfold baseI; rw [if_pos (by decide), if_neg (by decide)]
theorem base_1970 : baseI 1970 1 = 0 := by decide

set_option maxRecDepth 20000 in
set_option maxHeartbeats 1000000 in
theorem rdate_any (y m d : Int) (w : World) (hy : 0 ≤ y ∧ y ≤ 10000) (hm : 1 ≤ m ∧ m ≤ 12) (hd : 0 ≤ d ∧ d ≤ 99) :
    Calls Tryz.prog 55 #[.int .i64 y, .int .i64 m, .int .i64 d] w fun e w' => e = .returned (.int .i64 (daysI y m d)) ∧ w' = w := by
  obtain ⟨y0, y1⟩ := hy; obtain ⟨m0, m1⟩ := hm; obtain ⟨d0, d1⟩ := hd
  have HD := Lib.hid (fun y m w hy hm => rdays_any y m w hy hm)
  go_enter Tryz.func55, Tryz.ntmps55
  go_wp2_with fail
  go_loopw [7, 8] (fun nv yv wr => ∃ Y : Int, yv = .int .i64 Y ∧ 1970 ≤ Y ∧ (Y = 1970 ∨ Y ≤ y) ∧ nv = .int .i64 (baseI Y 1) ∧ w = wr) (fun _ yv _ => (10001 - intOf yv).toNat)
  case atStart => exact ⟨1970, rfl, by omega, .inl rfl, by rw [base_1970], rfl⟩
  case round =>
    obtain ⟨Y, rfl, hY0, hY1, rfl, rfl⟩ := hrel
    by_cases hYy : Y < y
    · have hB := baseI_range (y := Y) (m := 1) (by omega) (by omega) (by decide)
      have HY1 := Lib.hid hY1; clear hY1
      generalize hN : baseI Y 1 = N at *
      have HN := Lib.hid hN; clear hN
      go_wp2_with fail
      go_loopw [7, 9] (fun nv mv wr => ∃ M : Int, mv = .int .i64 M ∧ 1 ≤ M ∧ M ≤ 13 ∧ nv = .int .i64 (baseI Y M) ∧ w = wr) (fun _ mv _ => (13 - intOf mv).toNat)
      case atStart => exact ⟨1, rfl, by omega, by omega, by rw [HN.out], rfl⟩
      case round =>
        obtain ⟨M, rfl, hM0, hM1, rfl, rfl⟩ := hrel
        by_cases hM : M ≤ 12
        · have hB1 := baseI_range (y := Y) (m := M) (by omega) (by omega) hM0
          have hdm := dimI_range Y M
          have hnx := baseI_next (y := Y) hM0 hM
          have hq := fun w => HD.out Y M w ⟨by omega, by omega⟩ ⟨hM0, hM⟩
          generalize baseI Y M = B at *
          generalize dimI Y M = D at *
          have HQ := Lib.hid hq; have HX := Lib.hid hnx; clear hq hnx
          go_wp2_with (first
            | (go_at_call 53; with_reducible refine (HQ.out _).mono ?_; rintro e w2 ⟨rfl, rfl⟩)
            | fail)
          exact ⟨⟨M + 1, rfl, by omega, by omega, by rw [HX.out], trivial⟩, by simp [intOf]; omega⟩
        · obtain rfl : M = 13 := by omega
          have hB1 := baseI_range (y := Y) (m := 13) (by omega) (by omega) (by decide)
          have h13 := base_13 Y
          generalize baseI Y 13 = B at *
          have H13 := Lib.hid h13; clear h13
          go_wp2_with fail
          exact ⟨⟨Y + 1, rfl, by omega, .inr (by omega), by rw [H13.out], trivial⟩, by simp [intOf]; omega⟩
    · obtain ⟨X, hX⟩ : ∃ X : Int, X = Y := ⟨_, rfl⟩
      have hX1 : 1970 ≤ X := by omega
      have hX2 : y ≤ X := by omega
      have hX4 : X ≤ 10000 := by omega
      have hX3 : X = 1970 ∨ X = y := by omega
      have HYX := Lib.hid hX; have HX3 := Lib.hid hX3; clear hX hX3
      have hB := baseI_range (y := Y) (m := 1) (by omega) (by omega) (by decide)
      have HY1 := Lib.hid hY1; clear hY1
      generalize hN : baseI Y 1 = N at *
      have HN := Lib.hid hN; clear hN
      go_wp2_with fail
      go_loopw [7, 10] (fun nv yv wr => ∃ Z : Int, yv = .int .i64 Z ∧ y ≤ Z ∧ Z ≤ X ∧ nv = .int .i64 (baseI X 1 - baseI Z 1 + baseI y 1) ∧ w = wr) (fun _ yv _ => (1970 - intOf yv).toNat)
      case atStart => exact ⟨y, rfl, by omega, hX2, by rw [← HN.out, HYX.out]; congr 1; omega, rfl⟩
      case round =>
        obtain ⟨Z, rfl, hZ0, hZ1, rfl, rfl⟩ := hrel
        by_cases hZ : Z < 1970
        · have hX9 : X = 1970 := by rcases HX3.out with h | h <;> omega
          have HX9 := Lib.hid hX9; clear hX9
          have hB0 := baseI_range (y := Z) (m := 1) (by omega) (by omega) (by decide)
          have hB1 := baseI_range (y := y) (m := 1) (by omega) (by omega) (by decide)
          have hB2 := baseI_range (y := X) (m := 1) (by omega) (by omega) (by decide)
          generalize hC0 : baseI Z 1 = C0 at *
          generalize hC1 : baseI y 1 = C1 at *
          generalize hC2 : baseI X 1 = C2 at *
          have HC0 := Lib.hid hC0; have HC1 := Lib.hid hC1; have HC2 := Lib.hid hC2; clear hC0 hC1 hC2
          go_wp2_with fail
          go_loopw [7, 11] (fun nv mv wr => ∃ M : Int, mv = .int .i64 M ∧ 1 ≤ M ∧ M ≤ 13 ∧ nv = .int .i64 (C2 - baseI Z M + C1) ∧ w = wr) (fun _ mv _ => (13 - intOf mv).toNat)
          case atStart => exact ⟨1, rfl, by omega, by omega, by rw [HC0.out], rfl⟩
          case round =>
            obtain ⟨M, rfl, hM0, hM1, rfl, rfl⟩ := hrel
            by_cases hM : M ≤ 12
            · have hBM := baseI_range (y := Z) (m := M) (by omega) (by omega) hM0
              have hdm := dimI_range Z M
              have hnx := baseI_next (y := Z) hM0 hM
              have hq := fun w => HD.out Z M w ⟨by omega, by omega⟩ ⟨hM0, hM⟩
              generalize baseI Z M = B at *
              generalize dimI Z M = D at *
              have HQ := Lib.hid hq; have HX := Lib.hid hnx; clear hq hnx
              go_wp2_with (first
                | (go_at_call 53; with_reducible refine (HQ.out _).mono ?_; rintro e w2 ⟨rfl, rfl⟩)
                | fail)
              exact ⟨⟨M + 1, rfl, by omega, by omega, by rw [HX.out]; congr 1; omega, trivial⟩, by simp [intOf]; omega⟩
            · obtain rfl : M = 13 := by omega
              have hB13 := baseI_range (y := Z) (m := 13) (by omega) (by omega) (by decide)
              have h13 := base_13 Z
              generalize baseI Z 13 = B at *
              have H13 := Lib.hid h13; clear h13
              go_wp2_with fail
              exact ⟨⟨Z + 1, rfl, by omega, by have := HX9.out; omega, by rw [H13.out], trivial⟩, by simp [intOf]; omega⟩
        · have hZX : Z = X := by rcases HX3.out with h | h <;> omega
          have hB1 := baseI_range (y := y) (m := 1) (by omega) (by omega) (by decide)
          have hB2 := baseI_range (y := X) (m := 1) (by omega) (by omega) (by decide)
          rw [hZX]
          have hZ2 : ¬ X < 1970 := by omega
          clear hZX hZ hZ0 hZ1 HN
          rw [show baseI X 1 - baseI X 1 + baseI y 1 = baseI y 1 by omega]
          generalize hC1 : baseI y 1 = C1 at *
          have HC1 := Lib.hid hC1; clear hC1 hB2
          go_wp2_with fail
          go_loopw [7, 12] (fun nv mv wr => ∃ M : Int, mv = .int .i64 M ∧ 1 ≤ M ∧ M ≤ m ∧ nv = .int .i64 (baseI y M) ∧ w = wr) (fun _ mv _ => (m - intOf mv).toNat)
          case atStart => exact ⟨1, rfl, by omega, by omega, by rw [HC1.out], rfl⟩
          case round =>
            obtain ⟨M, rfl, hM0, hM1, rfl, rfl⟩ := hrel
            by_cases hM : M < m
            · have hBM := baseI_range (y := y) (m := M) (by omega) (by omega) hM0
              have hdm := dimI_range y M
              have hnx := baseI_next (y := y) hM0 (by omega)
              have hq := fun w => HD.out y M w ⟨by omega, by omega⟩ ⟨hM0, by omega⟩
              generalize baseI y M = B at *
              generalize dimI y M = D at *
              have HQ := Lib.hid hq; have HX := Lib.hid hnx; clear hq hnx
              go_wp2_with (first
                | (go_at_call 53; with_reducible refine (HQ.out _).mono ?_; rintro e w2 ⟨rfl, rfl⟩)
                | fail)
              exact ⟨⟨M + 1, rfl, by omega, by omega, by rw [HX.out], trivial⟩, by simp [intOf]; omega⟩
            · have hMm : M = m := by omega
              rw [hMm]
              have hBM := baseI_range (y := y) (m := m) (by omega) (by omega) m0
              have hfin : baseI y m + d - 1 = daysI y m d := by
                unfold baseI; rw [if_neg (by omega), daysI_d y m d]
              clear hM hMm hM0 hM1
              generalize baseI y m = B at *
              have HFIN := Lib.hid hfin; clear hfin
              have m2 : ¬ m < m := by omega
              go_wp2_with fail
              go_ret
              exact ⟨by rw [← HFIN.out]; rfl, rfl⟩
end Go.Proofs.YtpnnbffhdhbonaaGreatDoor
