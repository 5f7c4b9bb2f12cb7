/- rosterref03.moment: the key of a moment. -/
import Derived.Test.YtpnnbffhdhbonaaGreatDoorRefT
import Derived.Test.YtpnnbffhdhbonaaGreatDoorRefN
import Derived.Test.YtpnnbffhdhbonaaGreatDoorMoment
import Derived.Deep.CutRange
import Derived.Deep.CutBlock
import Derived.Deep.DeepCutAuto
import Derived.IntWalk
namespace Go.Proofs.YtpnnbffhdhbonaaGreatDoor
open Go Go.RowKit

theorem rpadded_int (x : Int) (k : Nat) (w : World) (l : List UInt8) (hk : k ≤ 4) (hk0 : 1 ≤ k) (h0 : 0 ≤ x) (h1 : x.toNat < 10 ^ k) (hl : wideL x.toNat k = l) :
    Calls Tryz.prog 102 #[.int .i64 x, .int .i64 k] w fun e w' => e = .returned (.string ⟨l.toArray⟩) ∧ Below w.heap.size w w' := by
  obtain ⟨n, rfl⟩ := Int.eq_ofNat_of_zero_le h0
  subst hl
  exact rpadded_any n k w hk (by simpa using h1) hk0
theorem rpad2 (x : Int) (w : World) (l : List UInt8) (h0 : 0 ≤ x) (h1 : x.toNat < 10 ^ 2) (hl : wideL x.toNat 2 = l) :
    Calls Tryz.prog 102 #[.int .i64 x, .int .i64 2] w fun e w' => e = .returned (.string ⟨l.toArray⟩) ∧ Below w.heap.size w w' := rpadded_int x 2 w l (by decide) (by decide) h0 h1 hl
theorem rpad4 (x : Int) (w : World) (l : List UInt8) (h0 : 0 ≤ x) (h1 : x.toNat < 10 ^ 4) (hl : wideL x.toNat 4 = l) :
    Calls Tryz.prog 102 #[.int .i64 x, .int .i64 4] w fun e w' => e = .returned (.string ⟨l.toArray⟩) ∧ Below w.heap.size w w' := rpadded_int x 4 w l (by decide) (by decide) h0 h1 hl
theorem dim_feb (y : Int) : dimI y 2 = 28 ∨ dimI y 2 = 29 := by
  have h : dimI y 2 = if (y % 4 = 0 ∧ y % 100 ≠ 0) ∨ y % 400 = 0 then 29 else 28 := rfl
  rw [h]
  split
  · exact .inr rfl
  · exact .inl rfl
theorem year_len (y : Int) : daysI (y + 1) 1 1 = daysI y 1 1 + 337 + dimI y 2 := by
  have h1 := daysI_next (y := y) (m := 1) (by decide) (by decide)
  have h2 := daysI_next (y := y) (m := 2) (by decide) (by decide)
  have h3 := daysI_next (y := y) (m := 3) (by decide) (by decide)
  have h4 := daysI_next (y := y) (m := 4) (by decide) (by decide)
  have h5 := daysI_next (y := y) (m := 5) (by decide) (by decide)
  have h6 := daysI_next (y := y) (m := 6) (by decide) (by decide)
  have h7 := daysI_next (y := y) (m := 7) (by decide) (by decide)
  have h8 := daysI_next (y := y) (m := 8) (by decide) (by decide)
  have h9 := daysI_next (y := y) (m := 9) (by decide) (by decide)
  have h10 := daysI_next (y := y) (m := 10) (by decide) (by decide)
  have h11 := daysI_next (y := y) (m := 11) (by decide) (by decide)
  have h12 := daysI_year y
  have e1 : dimI y 1 = 31 := rfl
  have e3 : dimI y 3 = 31 := rfl
  have e4 : dimI y 4 = 30 := rfl
  have e5 : dimI y 5 = 31 := rfl
  have e6 : dimI y 6 = 30 := rfl
  have e7 : dimI y 7 = 31 := rfl
  have e8 : dimI y 8 = 31 := rfl
  have e9 : dimI y 9 = 30 := rfl
  have e10 : dimI y 10 = 31 := rfl
  have e11 : dimI y 11 = 30 := rfl
  simp only [show (1 : Int) + 1 = 2 from rfl, show (2 : Int) + 1 = 3 from rfl, show (3 : Int) + 1 = 4 from rfl, show (4 : Int) + 1 = 5 from rfl, show (5 : Int) + 1 = 6 from rfl, show (6 : Int) + 1 = 7 from rfl, show (7 : Int) + 1 = 8 from rfl, show (8 : Int) + 1 = 9 from rfl, show (9 : Int) + 1 = 10 from rfl, show (10 : Int) + 1 = 11 from rfl, show (11 : Int) + 1 = 12 from rfl] at *
  omega
theorem days_10000 : daysI 10000 1 1 = 2932897 := by decide

set_option maxRecDepth 100000 in
set_option maxHeartbeats 8000000 in
theorem rmoment_any (n : Int) (rest : ByteArray) (w : World) (h0 : -62167219200 ≤ n) (h1 : n < 253402300800) (hr : rest.size ≤ 65536) :
    Calls Tryz.prog 76 #[.int .i64 n, .string rest] w fun e w' => e = .returned (.string ⟨(momentL n rest.data.toList).toArray⟩) ∧ Below w.heap.size w w' := by
  have HM : momentL n rest.data.toList = wideL (dateI (n / 86400)).1.toNat 4 ++ (wideL (dateI (n / 86400)).2.1.toNat 2 ++ (wideL (dateI (n / 86400)).2.2.toNat 2 ++
    (wideL (n % 86400 / 3600).toNat 2 ++ (wideL (n % 86400 / 60 % 60).toNat 2 ++ (wideL (n % 86400 % 60).toNat 2 ++ rest.data.toList))))) := rfl
  obtain ⟨d, hd⟩ : ∃ d, d = n / 86400 := ⟨_, rfl⟩
  obtain ⟨i, hi⟩ : ∃ i, i = n % 86400 := ⟨_, rfl⟩
  obtain ⟨q, hq⟩ : ∃ q, n.tdiv 86400 = q := ⟨_, rfl⟩
  obtain ⟨r, hrm⟩ : ∃ r, n.tmod 86400 = r := ⟨_, rfl⟩
  have hqr : n = 86400 * q + r := by rw [← hq, ← hrm]; exact (Int.mul_tdiv_add_tmod n 86400).symm
  have hr1 : -86400 < r ∧ r < 86400 := by
    have := Int.tmod_eq_emod (a := n) (b := 86400)
    rw [hrm] at this
    split at this <;> omega
  obtain ⟨r1, r2⟩ := hr1
  have d0 : -719528 ≤ d := by omega
  have d1 : d ≤ 2932896 := by omega
  have i0 : 0 ≤ i := by omega
  have i1 : i < 86400 := by omega
  have hneg : r < 0 → d = q - 1 ∧ i = r + 86400 := fun h => by omega
  have hpos : ¬ r < 0 → d = q ∧ i = r := fun h => by omega
  have q0 : -719529 ≤ q := by omega
  have q1 : q ≤ 2932897 := by omega
  rw [← hd, ← hi] at HM
  obtain ⟨X, hX⟩ : ∃ X, momentL n rest.data.toList = X := ⟨_, rfl⟩
  rw [hX]
  have HX := Lib.hid (hX.symm.trans HM)
  have HD := Lib.hid (fun y m w hy hm => rdays_any y m w hy hm)
  have HN := Lib.hid hneg; have HP := Lib.hid hpos
  have HD0 := Lib.hid (show ∀ w, Calls Tryz.prog 55 #[.int .i64 0, .int .i64 1, .int .i64 1] w fun e w' => e = .returned (.int .i64 (-719528)) ∧ w' = w from fun w => rdate_any 0 1 1 w (by decide) (by decide) (by decide))
  clear hneg hpos hqr hd hi HM hX h0 h1
  go_enter Tryz.func76, Tryz.ntmps76
  go_upto_if 17 with (fail)
  go_cut [5, 6] (fun a b wx => a = .int .i64 d ∧ b = .int .i64 i ∧ w = wx)
  case first =>
    by_cases hrn : r < 0
    · have he := HN.out hrn
      have HE := Lib.hid he; clear he
      go_wp2_with fail
      go_meet
      exact ⟨by rw [HE.out.1], by rw [HE.out.2], rfl⟩
    · have he := HP.out hrn
      have HE := Lib.hid he; clear he
      go_wp2_with fail
      go_meet
      exact ⟨by rw [HE.out.1], by rw [HE.out.2], rfl⟩
  case rest =>
    obtain ⟨rfl, rfl, rfl⟩ := hcut
    clear HN HP hq hrm r1 r2 q0 q1
    go_upto_block 0 with (first
      | (go_at_call 55; with_reducible refine (HD0.out _).mono ?_; rintro e w2 ⟨rfl, rfl⟩)
      | fail)
    go_cut [7, 8] (fun a b wx => ∃ l Y : Int, a = .int .i64 l ∧ b = .int .i64 Y ∧ 0 ≤ Y ∧ Y ≤ 9999 ∧ 0 ≤ l ∧ daysI Y 1 1 + l = d ∧ d < daysI (Y + 1) 1 1 ∧ w2 = wx)
    case first =>
      go_wp2_with fail
      go_loopw [7, 8] (fun a b wx => ∃ l Y : Int, a = .int .i64 l ∧ b = .int .i64 Y ∧ 0 ≤ Y ∧ Y ≤ 9999 ∧ 0 ≤ l ∧ l ≤ 4000000 ∧ daysI Y 1 1 + l = d ∧ w2 = wx) (fun _ b _ => (10000 - intOf b).toNat)
      case atStart => exact ⟨d + 719528, 0, by congr 1, rfl, by omega, by omega, by omega, by omega, by rw [show daysI 0 1 1 = -719528 by decide]; omega, rfl⟩
      case round =>
        obtain ⟨l, Y, rfl, rfl, hY0, hY1, hl0, hl1, hl2, rfl⟩ := hrel
        have hy := year_len Y
        have hf := dim_feb Y
        have hD := fun w => HD.out Y 2 w ⟨hY0, by omega⟩ ⟨by decide, by decide⟩
        have hlast : Y = 9999 → daysI (Y + 1) 1 1 = 2932897 := fun e => by rw [e]; exact days_10000
        generalize dimI Y 2 = L at *
        have HDD := Lib.hid hD; have HLA := Lib.hid hlast
        clear hD hlast
        rcases hf with rfl | rfl
        · have HQ := Lib.hid (And.intro hy hl2); clear hy hl2
          by_cases hlt : l < 365
          · go_wp2_with (first
              | (go_at_call 53; with_reducible refine (HDD.out _).mono ?_; rintro e w3 ⟨rfl, rfl⟩)
              | fail)
            go_meet
            exact ⟨l, Y, rfl, rfl, hY0, hY1, hl0, HQ.out.2, by have := HQ.out; omega, rfl⟩
          · have hY9 : Y ≠ 9999 := fun e => by have := HLA.out e; have := HQ.out; omega
            have hY2 : Y ≤ 9998 := by omega
            clear hY9
            go_wp2_with (first
              | (go_at_call 53; with_reducible refine (HDD.out _).mono ?_; rintro e w3 ⟨rfl, rfl⟩)
              | fail)
            exact ⟨⟨l - 365, Y + 1, rfl, rfl, by omega, by omega, by omega, by omega, by have := HQ.out; omega, trivial⟩, by simp [intOf]; omega⟩
        · have HQ := Lib.hid (And.intro hy hl2); clear hy hl2
          by_cases hlt : l < 366
          · go_wp2_with (first
              | (go_at_call 53; with_reducible refine (HDD.out _).mono ?_; rintro e w3 ⟨rfl, rfl⟩)
              | fail)
            go_meet
            exact ⟨l, Y, rfl, rfl, hY0, hY1, hl0, HQ.out.2, by have := HQ.out; omega, rfl⟩
          · have hY9 : Y ≠ 9999 := fun e => by have := HLA.out e; have := HQ.out; omega
            have hY2 : Y ≤ 9998 := by omega
            clear hY9
            go_wp2_with (first
              | (go_at_call 53; with_reducible refine (HDD.out _).mono ?_; rintro e w3 ⟨rfl, rfl⟩)
              | fail)
            exact ⟨⟨l - 366, Y + 1, rfl, rfl, by omega, by omega, by omega, by omega, by have := HQ.out; omega, trivial⟩, by simp [intOf]; omega⟩
    case rest =>
      obtain ⟨l, Y, rfl, rfl, hY0, hY1, hl0, hl2, hd2, rfl⟩ := hcut
      have hlr : l ≤ 366 := by have := year_len Y; have := dim_feb Y; omega
      have HQ := Lib.hid (And.intro hl2 hd2); clear hl2 hd2
      go_wp2_with fail
      go_loopw [7, 10] (fun a b wx => ∃ l M : Int, a = .int .i64 l ∧ b = .int .i64 M ∧ 1 ≤ M ∧ M ≤ 12 ∧ 0 ≤ l ∧ l ≤ 366 ∧ daysI Y M 1 + l = d ∧ w2 = wx) (fun _ b _ => (13 - intOf b).toNat)
      case atStart => exact ⟨l, 1, rfl, rfl, by omega, by omega, hl0, hlr, HQ.out.1, rfl⟩
      case round =>
        obtain ⟨l, M, rfl, rfl, hM0, hM1, hl0, hl1, hl2, rfl⟩ := hrel
        have hdr := dimI_range Y M
        have hD := fun w => HD.out Y M w ⟨hY0, by omega⟩ ⟨hM0, hM1⟩
        have hlast : M = 12 → daysI (Y + 1) 1 1 = daysI Y M 1 + 31 ∧ dimI Y M = 31 := fun e => by rw [e]; exact ⟨daysI_year Y, rfl⟩
        have hnext : M ≤ 11 → daysI Y (M + 1) 1 = daysI Y M 1 + dimI Y M := fun e => daysI_next hM0 e
        have hdt : l < dimI Y M → dateI d = (Y, M, l + 1) := fun e => by
          have := dateI_daysI (y := Y) (m := M) (d := l + 1) hM0 hM1 (by omega) (by omega)
          rw [daysI_d Y M (l + 1)] at this
          rw [← this]; congr 1; omega
        generalize dimI Y M = L at *
        obtain ⟨L0, L1⟩ := hdr
        have HDD := Lib.hid hD; have HLA := Lib.hid hlast; have HNX := Lib.hid hnext; have HDT := Lib.hid hdt; have HL2 := Lib.hid hl2
        clear hD hlast hnext hdt hl2
        by_cases hlt : l < L
        · have hfin := HDT.out hlt
          have i4 : 0 ≤ i / 3600 ∧ i / 3600 < 24 := by omega
          have i5 : 0 ≤ i / 60 % 60 ∧ i / 60 % 60 < 60 := by omega
          have i6 : 0 ≤ i % 60 ∧ i % 60 < 60 := by omega
          have i7 : 0 ≤ i / 60 ∧ i / 60 < 1440 := by omega
          have q2 : i.tdiv 3600 = i / 3600 := Int.tdiv_eq_ediv_of_nonneg i0
          have q3 : i.tdiv 60 = i / 60 := Int.tdiv_eq_ediv_of_nonneg i0
          have q4 : (i / 60).tmod 60 = i / 60 % 60 := Int.tmod_eq_emod_of_nonneg (by omega)
          have q5 : i.tmod 60 = i % 60 := Int.tmod_eq_emod_of_nonneg i0
          have wl : ∀ (n k : Nat), n < 10000 → k ≤ 4 → (wideL n k).length ≤ 30 := by
            intro n k h1 h2
            have h3 := Lib.nDigits_le20 n (by omega)
            unfold wideL; rw [List.length_append, List.length_replicate, Lib.decDigits_length]; omega
          have hXf : X = wideL Y.toNat 4 ++ (wideL M.toNat 2 ++ (wideL (l + 1).toNat 2 ++ (wideL (i / 3600).toNat 2 ++ (wideL (i / 60 % 60).toNat 2 ++ (wideL (i % 60).toNat 2 ++ rest.data.toList))))) := by rw [HX.out, hfin]
          generalize i / 3600 = hh at *
          generalize i / 60 % 60 = mm at *
          generalize i / 60 = m6 at *
          generalize i % 60 = ss at *
          have nY := wl Y.toNat 4 (by omega) (by omega)
          have nM := wl M.toNat 2 (by omega) (by omega)
          have nD := wl (l + 1).toNat 2 (by omega) (by omega)
          have nh := wl hh.toNat 2 (by omega) (by omega)
          have nm := wl mm.toNat 2 (by omega) (by omega)
          have ns := wl ss.toNat 2 (by omega) (by omega)
          clear wl
          have pY := fun w => rpad4 Y w _ hY0 (by omega) rfl
          have pM := fun w => rpad2 M w _ (by omega) (by omega) rfl
          have pD := fun w => rpad2 (l + 1) w _ (by omega) (by omega) rfl
          have ph := fun w => rpad2 hh w _ (by omega) (by omega) rfl
          have pm := fun w => rpad2 mm w _ (by omega) (by omega) rfl
          have ps := fun w => rpad2 ss w _ (by omega) (by omega) rfl
          generalize wideL Y.toNat 4 = lY at *
          generalize wideL M.toNat 2 = lM at *
          generalize wideL (l + 1).toNat 2 = lD at *
          generalize wideL hh.toNat 2 = lh at *
          generalize wideL mm.toNat 2 = lm at *
          generalize wideL ss.toNat 2 = ls at *
          have PY := Lib.hid pY; have PM := Lib.hid pM; have PD := Lib.hid pD; have Ph := Lib.hid ph; have Pm := Lib.hid pm; have Ps := Lib.hid ps
          have HXF := Lib.hid hXf
          clear pY pM pD ph pm ps hfin hXf
          obtain ⟨i4a, i4b⟩ := i4; obtain ⟨i5a, i5b⟩ := i5; obtain ⟨i6a, i6b⟩ := i6; obtain ⟨i7a, i7b⟩ := i7
          have f2 : ¬ 9223372036854775807 < lY.length + lM.length := by omega
          have f3 : ¬ 9223372036854775807 < lY.length + lM.length + lD.length := by omega
          have f4 : ¬ 9223372036854775807 < lY.length + lM.length + lD.length + lh.length := by omega
          have f5 : ¬ 9223372036854775807 < lY.length + lM.length + lD.length + lh.length + lm.length := by omega
          have f6 : ¬ 9223372036854775807 < lY.length + lM.length + lD.length + lh.length + lm.length + ls.length := by omega
          have f7 : ¬ 9223372036854775807 < lY.length + lM.length + lD.length + lh.length + lm.length + ls.length + rest.size := by omega
          have HB := Lib.hid (Below.refl w2.heap.size w2)
          go_wp2_with (first
            | (go_at_call 53; with_reducible refine (HDD.out _).mono ?_; rintro e w3 ⟨rfl, rfl⟩)
            | (go_at_call 102; (first | with_reducible refine (PY.out _).mono ?_ | with_reducible refine (PM.out _).mono ?_ | with_reducible refine (PD.out _).mono ?_ | with_reducible refine (Ph.out _).mono ?_ | with_reducible refine (Pm.out _).mono ?_ | with_reducible refine (Ps.out _).mono ?_); rintro e w4 ⟨rfl, hb4⟩; have HB := Lib.hid (bnext HB.out hb4); clear hb4)
            | fail)
          go_ret
          refine ⟨?_, HB.out⟩
          show Ending.returned (.string _) = _
          rw [cat7, HXF.out]
        · have hM9 : M ≠ 12 := fun e => by have := HLA.out e; have := HL2.out; have := HQ.out; omega
          have hM2 : M ≤ 11 := by omega
          clear hM9
          go_wp2_with (first
            | (go_at_call 53; with_reducible refine (HDD.out _).mono ?_; rintro e w3 ⟨rfl, rfl⟩)
            | fail)
          exact ⟨⟨l - L, M + 1, rfl, rfl, by omega, by omega, by omega, by omega, by rw [HNX.out hM2]; have := HL2.out; omega, trivial⟩, by simp [intOf]; omega⟩
end Go.Proofs.YtpnnbffhdhbonaaGreatDoor
