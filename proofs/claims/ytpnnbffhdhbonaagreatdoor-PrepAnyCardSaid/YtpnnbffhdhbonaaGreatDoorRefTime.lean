/- rosterref03.Time: a text as a moment. -/
import Derived.Test.YtpnnbffhdhbonaaGreatDoorRefH
import Derived.Test.YtpnnbffhdhbonaaGreatDoorCalV
import Derived.Test.YtpnnbffhdhbonaaGreatDoorTime
namespace Go.Proofs.YtpnnbffhdhbonaaGreatDoor
open Go Go.RowKit

def bad3 : Int × List UInt8 × Bool := (0, [], false)
def secI (N h m s off : Int) : Int := N * 86400 + (h * 3600 + m * 60 + s) - off * 60
/-- the reference's answer behind the pairs -/
def refT (y c M D h m s : Int) (t : List UInt8) : Int × List UInt8 × Bool :=
  if y < 0 ∨ c < 0 then bad3
  else if M < 1 ∨ 12 < M ∨ D < 1 ∨ dimI (100 * y + c) M < D ∨ h < 0 ∨ 23 < h ∨ m < 0 ∨ 59 < m ∨ s < 0 ∨ 59 < s then bad3
  else if (behindL t).2.2 = false ∨ secI (daysI (100 * y + c) M D) h m s (behindL t).2.1 < -62167219200 ∨ 253402300800 ≤ secI (daysI (100 * y + c) M D) h m s (behindL t).2.1 then bad3
  else (secI (daysI (100 * y + c) M D) h m s (behindL t).2.1, (behindL t).1, true)

theorem pairL_neg (a b : UInt8) : (dig a && dig b) = true ↔ 0 ≤ pairL [a, b] := by
  by_cases hd : dig a = true ∧ dig b = true
  · rw [show pairL [a, b] = ((a.toNat : Int) - 48) * 10 + ((b.toNat : Int) - 48) from if_pos hd]
    have ha := (dig_iff a).1 hd.1
    have hb := (dig_iff b).1 hd.2
    rw [Bool.and_eq_true]
    exact ⟨fun _ => by omega, fun _ => hd⟩
  · rw [show pairL [a, b] = -1 from if_neg hd, Bool.and_eq_true]
    exact ⟨fun h => absurd h hd, fun h => by omega⟩
theorem head14 {v : List UInt8} (h : 15 ≤ v.length) : ∃ a0 a1 a2 a3 a4 a5 a6 a7 a8 a9 a10 a11 a12 a13 b t, v = a0 :: a1 :: a2 :: a3 :: a4 :: a5 :: a6 :: a7 :: a8 :: a9 :: a10 :: a11 :: a12 :: a13 :: b :: t := by
  match v, h with
  | a0 :: a1 :: a2 :: a3 :: a4 :: a5 :: a6 :: a7 :: a8 :: a9 :: a10 :: a11 :: a12 :: a13 :: b :: t, _ => exact ⟨a0, a1, a2, a3, a4, a5, a6, a7, a8, a9, a10, a11, a12, a13, b, t, rfl⟩
theorem pairs_iff {v : List UInt8} (h : 15 ≤ v.length) : (v.take 14).all dig = true ↔ 0 ≤ two v 0 ∧ 0 ≤ two v 2 ∧ 0 ≤ two v 4 ∧ 0 ≤ two v 6 ∧ 0 ≤ two v 8 ∧ 0 ≤ two v 10 ∧ 0 ≤ two v 12 := by
  obtain ⟨a0, a1, a2, a3, a4, a5, a6, a7, a8, a9, a10, a11, a12, a13, b, t, rfl⟩ := head14 h
  show ([a0, a1, a2, a3, a4, a5, a6, a7, a8, a9, a10, a11, a12, a13] : List UInt8).all dig = true ↔ 0 ≤ pairL [a0, a1] ∧ 0 ≤ pairL [a2, a3] ∧ 0 ≤ pairL [a4, a5] ∧ 0 ≤ pairL [a6, a7] ∧ 0 ≤ pairL [a8, a9] ∧ 0 ≤ pairL [a10, a11] ∧ 0 ≤ pairL [a12, a13]
  rw [← pairL_neg, ← pairL_neg, ← pairL_neg, ← pairL_neg, ← pairL_neg, ← pairL_neg, ← pairL_neg]
  simp only [List.all_cons, List.all_nil, Bool.and_true, Bool.and_eq_true]
  constructor
  · rintro ⟨h0, h1, h2, h3, h4, h5, h6, h7, h8, h9, h10, h11, h12, h13⟩; exact ⟨⟨h0, h1⟩, ⟨h2, h3⟩, ⟨h4, h5⟩, ⟨h6, h7⟩, ⟨h8, h9⟩, ⟨h10, h11⟩, h12, h13⟩
  · rintro ⟨⟨h0, h1⟩, ⟨h2, h3⟩, ⟨h4, h5⟩, ⟨h6, h7⟩, ⟨h8, h9⟩, ⟨h10, h11⟩, h12, h13⟩; exact ⟨h0, h1, h2, h3, h4, h5, h6, h7, h8, h9, h10, h11, h12, h13⟩
theorem two_range {v : List UInt8} (h : 15 ≤ v.length) : (-1 ≤ two v 0 ∧ two v 0 ≤ 99) ∧ (-1 ≤ two v 2 ∧ two v 2 ≤ 99) ∧ (-1 ≤ two v 4 ∧ two v 4 ≤ 99) ∧ (-1 ≤ two v 6 ∧ two v 6 ≤ 99) ∧ (-1 ≤ two v 8 ∧ two v 8 ≤ 99) ∧ (-1 ≤ two v 10 ∧ two v 10 ≤ 99) ∧ (-1 ≤ two v 12 ∧ two v 12 ≤ 99) := by
  obtain ⟨a0, a1, a2, a3, a4, a5, a6, a7, a8, a9, a10, a11, a12, a13, b, t, rfl⟩ := head14 h
  exact ⟨pairL_range a0 a1, pairL_range a2 a3, pairL_range a4 a5, pairL_range a6 a7, pairL_range a8 a9, pairL_range a10 a11, pairL_range a12 a13⟩

theorem time_ref {v : List UInt8} (h : 15 ≤ v.length) (h2 : v.length ≤ 65536) : timeL v = refT (two v 0) (two v 2) (two v 4) (two v 6) (two v 8) (two v 10) (two v 12) (v.drop 14) := by
  have hp := pairs_iff h
  have hr := two_range h
  have hT : timeL v = if (v.take 14).all dig = false then bad3 else timeT (two v 0 * 100 + two v 2) (two v 4) (two v 6) (two v 8) (two v 10) (two v 12) (v.drop 14) := by
    have hy : yearT v = two v 0 * 100 + two v 2 := rfl
    have hh : headT v = false ↔ (two v 4 < 1 ∨ 12 < two v 4 ∨ two v 6 < 1 ∨ dateI (daysI (two v 0 * 100 + two v 2) (two v 4) (two v 6)) ≠ (two v 0 * 100 + two v 2, two v 4, two v 6) ∨ 23 < two v 8 ∨ 59 < two v 10 ∨ 59 < two v 12) := by
      unfold headT
      rw [Bool.not_eq_false', hy]
      simp only [Bool.or_eq_true, decide_eq_true_eq, Bool.not_eq_true', beq_eq_false_iff_ne, ne_eq, or_assoc]
    by_cases hd : (v.take 14).all dig = false
    · rw [if_pos hd]; exact if_pos (.inr (.inr (.inl hd)))
    rw [if_neg hd]
    unfold timeL timeT timeZ secT
    rw [hy]
    by_cases hb : headT v = false
    · rw [if_pos (.inr (.inr (.inr hb))), if_pos (hh.1 hb)]
    · rw [if_neg (fun e => by
        rcases e with e | e | e | e
        · omega
        · omega
        · exact hd e
        · exact hb e), if_neg (fun e => hb (hh.2 e))]
  rw [hT]
  generalize two v 0 = y at *
  generalize two v 2 = c at *
  generalize two v 4 = M at *
  generalize two v 6 = D at *
  generalize two v 8 = hh at *
  generalize two v 10 = m at *
  generalize two v 12 = s at *
  generalize v.drop 14 = t at *
  cases ha : (v.take 14).all dig with
  | false =>
    rw [if_pos rfl]
    rw [ha] at hp
    have hn : ¬ (0 ≤ y ∧ 0 ≤ c ∧ 0 ≤ M ∧ 0 ≤ D ∧ 0 ≤ hh ∧ 0 ≤ m ∧ 0 ≤ s) := fun e => by cases hp.2 e
    unfold refT
    by_cases q : y < 0 ∨ c < 0
    · rw [if_pos q]
    · rw [if_neg q, if_pos (by omega)]
  | true =>
    rw [if_neg (by simp)]
    have hn := hp.1 ha
    clear hp hT
    obtain ⟨n0, n1, n2, n3, n4, n5, n6⟩ := hn
    unfold refT timeT
    rw [if_neg (show ¬ (y < 0 ∨ c < 0) by omega), show y * 100 + c = 100 * y + c by omega]
    by_cases hMD : M < 1 ∨ 12 < M ∨ D < 1
    · rw [if_pos (by omega), if_pos (by omega)]; rfl
    · have hd := date_iff (y := 100 * y + c) (m := M) (d := D) (by omega) (by omega) (by omega) (by omega)
      by_cases hrest : dimI (100 * y + c) M < D ∨ 23 < hh ∨ 59 < m ∨ 59 < s
      · rw [if_pos (by rw [ne_eq, hd]; omega), if_pos (by omega)]; rfl
      · rw [if_neg (by rw [ne_eq, hd]; omega), if_neg (by omega)]
        unfold behindL
        cases fracT t with
        | none => rw [if_pos (.inl rfl)]; rfl
        | some p =>
          obtain ⟨rest, z⟩ := p
          unfold timeZ secI
          simp only []
          generalize daysI (100 * y + c) M D = N
          cases hz : (zoneL z).2 with
          | false => rw [if_pos (.inl rfl), if_pos (.inl rfl)]; rfl
          | true =>
            simp only [if_true]
            rw [show N * 86400 + (hh * 3600 + m * 60 + s - (zoneL z).1 * 60) = N * 86400 + (hh * 3600 + m * 60 + s) - (zoneL z).1 * 60 by omega]
            simp [bad3]

set_option maxRecDepth 100000 in
set_option maxHeartbeats 8000000 in
theorem rtime_any (v : ByteArray) (w : World) (hs : v.size ≤ 9223372036854775807) :
    Calls Tryz.prog 18 #[.string v] w fun e w' => e = .returned (ret3 (timeL v.data.toList)) ∧ Below w.heap.size w w' := by
  have hls := Lib.size_eq v
  by_cases h1 : 65536 < v.size
  · have HT := Lib.hid (show timeL v.data.toList = (0, [], false) from if_pos (.inr (.inl (by omega))))
    have g1 : (65536 : Int) < v.size := by omega
    clear hls
    go_enter Tryz.func18, Tryz.ntmps18
    go_wp2_with fail
    go_ret3
    exact ⟨by rw [HT.out]; rfl, Below.refl _ _⟩
  have g1 : ¬ (65536 : Int) < v.size := by omega
  by_cases h2 : v.size < 15
  · have HT := Lib.hid (show timeL v.data.toList = (0, [], false) from if_pos (.inl (by omega)))
    have g2 : (v.size : Int) < 15 := by omega
    clear hls
    go_enter Tryz.func18, Tryz.ntmps18
    go_wp2_with fail
    go_ret3
    exact ⟨by rw [HT.out]; rfl, Below.refl _ _⟩
  have g2 : ¬ (v.size : Int) < 15 := by omega
  have hT := time_ref (v := v.data.toList) (by omega) (by omega)
  have hr := two_range (v := v.data.toList) (by omega)
  have e14 : v.extract 14 v.size = ⟨(v.data.toList.drop 14).toArray⟩ := by rw [Lib.extract_eq, List.take_of_length_le (by rw [List.length_drop]; omega)]
  have tw : ∀ k, k + 2 ≤ 14 → ∀ w, Calls Tryz.prog 52 #[.string (v.extract k (k + 2))] w fun e w' => e = .returned (.int .i64 (two v.data.toList k)) ∧ Below w.heap.size w w' := fun k hk w => by
    have := rtwo_any (v.extract k (k + 2)) w (by rw [Lib.size_eq, Lib.extract_data, List.length_take, List.length_drop]; omega)
    rw [Lib.extract_data, show k + 2 - k = 2 by omega] at this
    exact this
  have h0 := tw 0 (by decide); have h2' := tw 2 (by decide); have h4 := tw 4 (by decide); have h6 := tw 6 (by decide); have h8 := tw 8 (by decide); have h10 := tw 10 (by decide); have h12 := tw 12 (by decide)
  have hbh := fun w => rbehind_any ⟨(v.data.toList.drop 14).toArray⟩ w (by show (v.data.toList.drop 14).length ≤ _; rw [List.length_drop]; omega)
  rw [show (ByteArray.mk (v.data.toList.drop 14).toArray).data.toList = v.data.toList.drop 14 from rfl] at hbh
  have hoff : -1439 ≤ (behindL (v.data.toList.drop 14)).2.1 ∧ (behindL (v.data.toList.drop 14)).2.1 ≤ 1439 := by
    unfold behindL
    split
    · decide
    · rename_i rest z _
      have := zoneL_range z
      split
      · exact this
      · decide
  clear tw hls h1 h2
  have i14 : (14 : Int) ≤ v.size := by omega
  have j14 : 14 ≤ v.size := by omega
  unfold refT at hT
  generalize (v.data.toList.drop 14) = t at *
  generalize two v.data.toList 0 = y at *
  generalize two v.data.toList 2 = c at *
  generalize two v.data.toList 4 = M at *
  generalize two v.data.toList 6 = D at *
  generalize two v.data.toList 8 = h at *
  generalize two v.data.toList 10 = m at *
  generalize two v.data.toList 12 = s at *
  obtain ⟨⟨y0, y1⟩, ⟨c0, c1⟩, ⟨M0, M1⟩, ⟨D0, D1⟩, ⟨a0, a1⟩, ⟨m0, m1⟩, s0, s1⟩ := hr
  have H0 := Lib.hid h0; have H2 := Lib.hid h2'; have H4 := Lib.hid h4; have H6 := Lib.hid h6; have H8 := Lib.hid h8; have H10 := Lib.hid h10; have H12 := Lib.hid h12
  clear h0 h2' h4 h6 h8 h10 h12
  have HB := Lib.hid (Below.refl w.heap.size w)
  by_cases q1 : y < 0
  · have HT := Lib.hid (hT.trans (if_pos (.inl (by assumption))))
    clear hT
    go_enter Tryz.func18, Tryz.ntmps18
    go_wp2_with (first
      | (go_at_call 52; (first | with_reducible refine (H0.out _).mono ?_ | with_reducible refine (H2.out _).mono ?_ | with_reducible refine (H4.out _).mono ?_ | with_reducible refine (H6.out _).mono ?_ | with_reducible refine (H8.out _).mono ?_ | with_reducible refine (H10.out _).mono ?_ | with_reducible refine (H12.out _).mono ?_); rintro e w1 ⟨rfl, hb1⟩; have HB := Lib.hid (bnext HB.out hb1); clear hb1)
      | fail)
    go_ret3
    exact ⟨by rw [HT.out]; rfl, HB.out⟩
  by_cases q2 : c < 0
  · have HT := Lib.hid (hT.trans (if_pos (.inr (by assumption))))
    clear hT
    go_enter Tryz.func18, Tryz.ntmps18
    go_wp2_with (first
      | (go_at_call 52; (first | with_reducible refine (H0.out _).mono ?_ | with_reducible refine (H2.out _).mono ?_ | with_reducible refine (H4.out _).mono ?_ | with_reducible refine (H6.out _).mono ?_ | with_reducible refine (H8.out _).mono ?_ | with_reducible refine (H10.out _).mono ?_ | with_reducible refine (H12.out _).mono ?_); rintro e w1 ⟨rfl, hb1⟩; have HB := Lib.hid (bnext HB.out hb1); clear hb1)
      | fail)
    go_ret3
    exact ⟨by rw [HT.out]; rfl, HB.out⟩
  have hT := hT.trans (if_neg (by omega))
  by_cases q4 : M < 1
  · have HT := Lib.hid (hT.trans (if_pos (by omega)))
    clear hT
    go_enter Tryz.func18, Tryz.ntmps18
    go_wp2_with (first
      | (go_at_call 52; (first | with_reducible refine (H0.out _).mono ?_ | with_reducible refine (H2.out _).mono ?_ | with_reducible refine (H4.out _).mono ?_ | with_reducible refine (H6.out _).mono ?_ | with_reducible refine (H8.out _).mono ?_ | with_reducible refine (H10.out _).mono ?_ | with_reducible refine (H12.out _).mono ?_); rintro e w1 ⟨rfl, hb1⟩; have HB := Lib.hid (bnext HB.out hb1); clear hb1)
      | fail)
    go_ret3
    exact ⟨by rw [HT.out]; rfl, HB.out⟩
  by_cases q5 : 12 < M
  · have HT := Lib.hid (hT.trans (if_pos (by omega)))
    clear hT
    go_enter Tryz.func18, Tryz.ntmps18
    go_wp2_with (first
      | (go_at_call 52; (first | with_reducible refine (H0.out _).mono ?_ | with_reducible refine (H2.out _).mono ?_ | with_reducible refine (H4.out _).mono ?_ | with_reducible refine (H6.out _).mono ?_ | with_reducible refine (H8.out _).mono ?_ | with_reducible refine (H10.out _).mono ?_ | with_reducible refine (H12.out _).mono ?_); rintro e w1 ⟨rfl, hb1⟩; have HB := Lib.hid (bnext HB.out hb1); clear hb1)
      | fail)
    go_ret3
    exact ⟨by rw [HT.out]; rfl, HB.out⟩
  by_cases q6 : D < 1
  · have HT := Lib.hid (hT.trans (if_pos (by omega)))
    clear hT
    go_enter Tryz.func18, Tryz.ntmps18
    go_wp2_with (first
      | (go_at_call 52; (first | with_reducible refine (H0.out _).mono ?_ | with_reducible refine (H2.out _).mono ?_ | with_reducible refine (H4.out _).mono ?_ | with_reducible refine (H6.out _).mono ?_ | with_reducible refine (H8.out _).mono ?_ | with_reducible refine (H10.out _).mono ?_ | with_reducible refine (H12.out _).mono ?_); rintro e w1 ⟨rfl, hb1⟩; have HB := Lib.hid (bnext HB.out hb1); clear hb1)
      | fail)
    go_ret3
    exact ⟨by rw [HT.out]; rfl, HB.out⟩
  have y2 : 0 ≤ y := by omega
  have c2 : 0 ≤ c := by omega
  have M2 : 1 ≤ M := by omega
  have M3 : M ≤ 12 := by omega
  have D2 : 1 ≤ D := by omega
  have hdm := fun w => rdays_any (100 * y + c) M w ⟨by omega, by omega⟩ ⟨M2, M3⟩
  have hdr := dimI_range (100 * y + c) M
  have hNr := daysI_range (y := 100 * y + c) (m := M) (d := D) (by omega) (by omega) M2 M3 D2 D1
  have hN := fun w => rdate_any (100 * y + c) M D w ⟨by omega, by omega⟩ ⟨M2, M3⟩ ⟨by omega, D1⟩
  generalize dimI (100 * y + c) M = L at *
  generalize daysI (100 * y + c) M D = N at *
  obtain ⟨L0, L1⟩ := hdr
  obtain ⟨N0, N1⟩ := hNr
  have HDM := Lib.hid hdm; have HN := Lib.hid hN; clear hdm hN
  by_cases q8 : L < D
  · have HT := Lib.hid (hT.trans (if_pos (by omega)))
    clear hT
    go_enter Tryz.func18, Tryz.ntmps18
    go_wp2_with (first
      | (go_at_call 52; (first | with_reducible refine (H0.out _).mono ?_ | with_reducible refine (H2.out _).mono ?_ | with_reducible refine (H4.out _).mono ?_ | with_reducible refine (H6.out _).mono ?_ | with_reducible refine (H8.out _).mono ?_ | with_reducible refine (H10.out _).mono ?_ | with_reducible refine (H12.out _).mono ?_); rintro e w1 ⟨rfl, hb1⟩; have HB := Lib.hid (bnext HB.out hb1); clear hb1)
      | (go_at_call 53; with_reducible refine (HDM.out _).mono ?_; rintro e w2 ⟨rfl, rfl⟩)
      | fail)
    go_ret3
    exact ⟨by rw [HT.out]; rfl, HB.out⟩
  by_cases q9 : h < 0
  · have HT := Lib.hid (hT.trans (if_pos (by omega)))
    clear hT
    go_enter Tryz.func18, Tryz.ntmps18
    go_wp2_with (first
      | (go_at_call 52; (first | with_reducible refine (H0.out _).mono ?_ | with_reducible refine (H2.out _).mono ?_ | with_reducible refine (H4.out _).mono ?_ | with_reducible refine (H6.out _).mono ?_ | with_reducible refine (H8.out _).mono ?_ | with_reducible refine (H10.out _).mono ?_ | with_reducible refine (H12.out _).mono ?_); rintro e w1 ⟨rfl, hb1⟩; have HB := Lib.hid (bnext HB.out hb1); clear hb1)
      | (go_at_call 53; with_reducible refine (HDM.out _).mono ?_; rintro e w2 ⟨rfl, rfl⟩)
      | fail)
    go_ret3
    exact ⟨by rw [HT.out]; rfl, HB.out⟩
  by_cases q10 : 23 < h
  · have HT := Lib.hid (hT.trans (if_pos (by omega)))
    clear hT
    go_enter Tryz.func18, Tryz.ntmps18
    go_wp2_with (first
      | (go_at_call 52; (first | with_reducible refine (H0.out _).mono ?_ | with_reducible refine (H2.out _).mono ?_ | with_reducible refine (H4.out _).mono ?_ | with_reducible refine (H6.out _).mono ?_ | with_reducible refine (H8.out _).mono ?_ | with_reducible refine (H10.out _).mono ?_ | with_reducible refine (H12.out _).mono ?_); rintro e w1 ⟨rfl, hb1⟩; have HB := Lib.hid (bnext HB.out hb1); clear hb1)
      | (go_at_call 53; with_reducible refine (HDM.out _).mono ?_; rintro e w2 ⟨rfl, rfl⟩)
      | fail)
    go_ret3
    exact ⟨by rw [HT.out]; rfl, HB.out⟩
  by_cases q11 : m < 0
  · have HT := Lib.hid (hT.trans (if_pos (by omega)))
    clear hT
    go_enter Tryz.func18, Tryz.ntmps18
    go_wp2_with (first
      | (go_at_call 52; (first | with_reducible refine (H0.out _).mono ?_ | with_reducible refine (H2.out _).mono ?_ | with_reducible refine (H4.out _).mono ?_ | with_reducible refine (H6.out _).mono ?_ | with_reducible refine (H8.out _).mono ?_ | with_reducible refine (H10.out _).mono ?_ | with_reducible refine (H12.out _).mono ?_); rintro e w1 ⟨rfl, hb1⟩; have HB := Lib.hid (bnext HB.out hb1); clear hb1)
      | (go_at_call 53; with_reducible refine (HDM.out _).mono ?_; rintro e w2 ⟨rfl, rfl⟩)
      | fail)
    go_ret3
    exact ⟨by rw [HT.out]; rfl, HB.out⟩
  by_cases q12 : 59 < m
  · have HT := Lib.hid (hT.trans (if_pos (by omega)))
    clear hT
    go_enter Tryz.func18, Tryz.ntmps18
    go_wp2_with (first
      | (go_at_call 52; (first | with_reducible refine (H0.out _).mono ?_ | with_reducible refine (H2.out _).mono ?_ | with_reducible refine (H4.out _).mono ?_ | with_reducible refine (H6.out _).mono ?_ | with_reducible refine (H8.out _).mono ?_ | with_reducible refine (H10.out _).mono ?_ | with_reducible refine (H12.out _).mono ?_); rintro e w1 ⟨rfl, hb1⟩; have HB := Lib.hid (bnext HB.out hb1); clear hb1)
      | (go_at_call 53; with_reducible refine (HDM.out _).mono ?_; rintro e w2 ⟨rfl, rfl⟩)
      | fail)
    go_ret3
    exact ⟨by rw [HT.out]; rfl, HB.out⟩
  by_cases q13 : s < 0
  · have HT := Lib.hid (hT.trans (if_pos (by omega)))
    clear hT
    go_enter Tryz.func18, Tryz.ntmps18
    go_wp2_with (first
      | (go_at_call 52; (first | with_reducible refine (H0.out _).mono ?_ | with_reducible refine (H2.out _).mono ?_ | with_reducible refine (H4.out _).mono ?_ | with_reducible refine (H6.out _).mono ?_ | with_reducible refine (H8.out _).mono ?_ | with_reducible refine (H10.out _).mono ?_ | with_reducible refine (H12.out _).mono ?_); rintro e w1 ⟨rfl, hb1⟩; have HB := Lib.hid (bnext HB.out hb1); clear hb1)
      | (go_at_call 53; with_reducible refine (HDM.out _).mono ?_; rintro e w2 ⟨rfl, rfl⟩)
      | fail)
    go_ret3
    exact ⟨by rw [HT.out]; rfl, HB.out⟩
  by_cases q14 : 59 < s
  · have HT := Lib.hid (hT.trans (if_pos (by omega)))
    clear hT
    go_enter Tryz.func18, Tryz.ntmps18
    go_wp2_with (first
      | (go_at_call 52; (first | with_reducible refine (H0.out _).mono ?_ | with_reducible refine (H2.out _).mono ?_ | with_reducible refine (H4.out _).mono ?_ | with_reducible refine (H6.out _).mono ?_ | with_reducible refine (H8.out _).mono ?_ | with_reducible refine (H10.out _).mono ?_ | with_reducible refine (H12.out _).mono ?_); rintro e w1 ⟨rfl, hb1⟩; have HB := Lib.hid (bnext HB.out hb1); clear hb1)
      | (go_at_call 53; with_reducible refine (HDM.out _).mono ?_; rintro e w2 ⟨rfl, rfl⟩)
      | fail)
    go_ret3
    exact ⟨by rw [HT.out]; rfl, HB.out⟩
  have hT := hT.trans (if_neg (by omega))
  generalize hbt : behindL t = bt at *
  obtain ⟨rest, off, ok⟩ := bt
  clear hbt
  obtain ⟨o0, o1⟩ := hoff
  simp only [] at hT o0 o1
  simp only [retB] at hbh
  have HBH := Lib.hid hbh; clear hbh
  cases ok with
  | false =>
    have HT := Lib.hid (hT.trans (if_pos (.inl rfl))); clear hT
    go_enter Tryz.func18, Tryz.ntmps18
    go_wp2_with (first
      | (go_at_call 52; (first | with_reducible refine (H0.out _).mono ?_ | with_reducible refine (H2.out _).mono ?_ | with_reducible refine (H4.out _).mono ?_ | with_reducible refine (H6.out _).mono ?_ | with_reducible refine (H8.out _).mono ?_ | with_reducible refine (H10.out _).mono ?_ | with_reducible refine (H12.out _).mono ?_); rintro e w1 ⟨rfl, hb1⟩; have HB := Lib.hid (bnext HB.out hb1); clear hb1)
      | (go_at_call 53; with_reducible refine (HDM.out _).mono ?_; rintro e w2 ⟨rfl, rfl⟩)
      | (go_at_call 54; with_reducible refine (HBH.out _).mono ?_; rintro e w3 ⟨rfl, hb3⟩; have HB := Lib.hid (bnext HB.out hb3); clear hb3)
      | fail)
    go_ret3
    exact ⟨by rw [HT.out]; rfl, HB.out⟩
  | true =>
    have HN0 := Lib.hid (show ∀ w, Calls Tryz.prog 55 #[.int .i64 0, .int .i64 1, .int .i64 1] w fun e w' => e = .returned (.int .i64 (-719528)) ∧ w' = w from fun w => rdate_any 0 1 1 w (by decide) (by decide) (by decide))
    have HN1 := Lib.hid (show ∀ w, Calls Tryz.prog 55 #[.int .i64 10000, .int .i64 1, .int .i64 1] w fun e w' => e = .returned (.int .i64 2932897) ∧ w' = w from fun w => rdate_any 10000 1 1 w (by decide) (by decide) (by decide))
    unfold secI at hT
    by_cases k1 : N * 86400 + (h * 3600 + m * 60 + s) - off * 60 < -62167219200
    · have HT := Lib.hid (hT.trans (if_pos (.inr (.inl k1)))); clear hT
      go_enter Tryz.func18, Tryz.ntmps18
      go_wp2_with (first
        | (go_at_call 52; (first | with_reducible refine (H0.out _).mono ?_ | with_reducible refine (H2.out _).mono ?_ | with_reducible refine (H4.out _).mono ?_ | with_reducible refine (H6.out _).mono ?_ | with_reducible refine (H8.out _).mono ?_ | with_reducible refine (H10.out _).mono ?_ | with_reducible refine (H12.out _).mono ?_); rintro e w1 ⟨rfl, hb1⟩; have HB := Lib.hid (bnext HB.out hb1); clear hb1)
        | (go_at_call 53; with_reducible refine (HDM.out _).mono ?_; rintro e w2 ⟨rfl, rfl⟩)
        | (go_at_call 54; with_reducible refine (HBH.out _).mono ?_; rintro e w3 ⟨rfl, hb3⟩; have HB := Lib.hid (bnext HB.out hb3); clear hb3)
        | (go_at_call 55; (first | with_reducible refine (HN.out _).mono ?_ | with_reducible refine (HN0.out _).mono ?_ | with_reducible refine (HN1.out _).mono ?_); rintro e w4 ⟨rfl, rfl⟩)
        | fail)
      go_ret3
      exact ⟨by rw [HT.out]; rfl, HB.out⟩
    by_cases k2 : 253402300800 ≤ N * 86400 + (h * 3600 + m * 60 + s) - off * 60
    · have HT := Lib.hid (hT.trans (if_pos (.inr (.inr k2)))); clear hT
      go_enter Tryz.func18, Tryz.ntmps18
      go_wp2_with (first
        | (go_at_call 52; (first | with_reducible refine (H0.out _).mono ?_ | with_reducible refine (H2.out _).mono ?_ | with_reducible refine (H4.out _).mono ?_ | with_reducible refine (H6.out _).mono ?_ | with_reducible refine (H8.out _).mono ?_ | with_reducible refine (H10.out _).mono ?_ | with_reducible refine (H12.out _).mono ?_); rintro e w1 ⟨rfl, hb1⟩; have HB := Lib.hid (bnext HB.out hb1); clear hb1)
        | (go_at_call 53; with_reducible refine (HDM.out _).mono ?_; rintro e w2 ⟨rfl, rfl⟩)
        | (go_at_call 54; with_reducible refine (HBH.out _).mono ?_; rintro e w3 ⟨rfl, hb3⟩; have HB := Lib.hid (bnext HB.out hb3); clear hb3)
        | (go_at_call 55; (first | with_reducible refine (HN.out _).mono ?_ | with_reducible refine (HN0.out _).mono ?_ | with_reducible refine (HN1.out _).mono ?_); rintro e w4 ⟨rfl, rfl⟩)
        | fail)
      go_ret3
      exact ⟨by rw [HT.out]; rfl, HB.out⟩
    have HT := Lib.hid (hT.trans (if_neg (by rintro (h | h | h); · cases h
                                             · exact k1 h
                                             · exact k2 h))); clear hT
    go_enter Tryz.func18, Tryz.ntmps18
    go_wp2_with (first
      | (go_at_call 52; (first | with_reducible refine (H0.out _).mono ?_ | with_reducible refine (H2.out _).mono ?_ | with_reducible refine (H4.out _).mono ?_ | with_reducible refine (H6.out _).mono ?_ | with_reducible refine (H8.out _).mono ?_ | with_reducible refine (H10.out _).mono ?_ | with_reducible refine (H12.out _).mono ?_); rintro e w1 ⟨rfl, hb1⟩; have HB := Lib.hid (bnext HB.out hb1); clear hb1)
      | (go_at_call 53; with_reducible refine (HDM.out _).mono ?_; rintro e w2 ⟨rfl, rfl⟩)
      | (go_at_call 54; with_reducible refine (HBH.out _).mono ?_; rintro e w3 ⟨rfl, hb3⟩; have HB := Lib.hid (bnext HB.out hb3); clear hb3)
      | (go_at_call 55; (first | with_reducible refine (HN.out _).mono ?_ | with_reducible refine (HN0.out _).mono ?_ | with_reducible refine (HN1.out _).mono ?_); rintro e w4 ⟨rfl, rfl⟩)
      | fail)
    go_ret3
    exact ⟨by rw [HT.out]; rfl, HB.out⟩
end Go.Proofs.YtpnnbffhdhbonaaGreatDoor
