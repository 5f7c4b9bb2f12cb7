/- prep.pair, prep.days, prep.date, prep.zone: the calendar. -/
import Derived.Test.YtpnnbffhdhbonaaGreatDoorForms
import Derived.BigQuiet
namespace Go.Proofs.YtpnnbffhdhbonaaGreatDoor
open Go Go.RowKit

/-- how many days a day is behind 1970-01-01 -/
def daysI (y m d : Int) : Int :=
  let y1 := if m ≤ 2 then y - 1 else y
  let m1 := if m ≤ 2 then m + 12 else m
  let era := y1 / 400
  let inn := y1 - era * 400
  era * 146097 + inn * 365 + inn / 4 - inn / 100 + (153 * (m1 - 3) + 2) / 5 + d - 1 - 719468

set_option maxRecDepth 20000 in
theorem days_any (y m d : Int) (w : World) (hy : 0 ≤ y ∧ y ≤ 99999) (hm : 1 ≤ m ∧ m ≤ 12) (hd : 0 ≤ d ∧ d ≤ 99) :
    Calls Tryz.prog 48 #[.agg #[.int .i64 y, .int .i64 m, .int .i64 d]] w fun e w' => e = .returned (.int .i64 (daysI y m d)) ∧ Below w.heap.size w w' := by
  have b0 : Below w.heap.size w (w.alloc (.cells #[.int .i64 y, .int .i64 m, .int .i64 d] 45)) := (Below.refl _ w).alloc (Nat.le_refl _) _
  have HB0 := Lib.hid b0; clear b0
  obtain ⟨hy1, hy2⟩ := hy
  obtain ⟨hm1, hm2⟩ := hm
  obtain ⟨hd1, hd2⟩ := hd
  go_enter Tryz.func48, Tryz.ntmps48
  go_wp2_with fail
  go_quiet (fail)
  by_cases h2 : m ≤ 2
  · by_cases h0 : y = 0
    · subst h0
      have hD := Lib.hid (show daysI 0 m d = -366 + (153 * (m + 12 - 3) + 2) / 5 + d - 1 - 719468 by unfold daysI; simp only [if_pos h2]; omega)
      go_wp2_with fail
      go_ret
      exact ⟨by rw [hD.out]; rfl, bdrewN HB0.out _⟩
    · have h1 : 1 ≤ y := by omega
      have hD := Lib.hid (show daysI y m d = (y - 1) / 400 * 146097 + (y - 1 - (y - 1) / 400 * 400) * 365 + (y - 1 - (y - 1) / 400 * 400) / 4 - (y - 1 - (y - 1) / 400 * 400) / 100 + (153 * (m + 12 - 3) + 2) / 5 + d - 1 - 719468 by unfold daysI; simp only [if_pos h2])
      go_wp2_with fail
      go_ret
      exact ⟨by rw [hD.out]; rfl, bdrewN HB0.out _⟩
  · have hD := Lib.hid (show daysI y m d = y / 400 * 146097 + (y - y / 400 * 400) * 365 + (y - y / 400 * 400) / 4 - (y - y / 400 * 400) / 100 + (153 * (m - 3) + 2) / 5 + d - 1 - 719468 by unfold daysI; simp only [if_neg h2])
    go_wp2_with fail
    go_ret
    exact ⟨by rw [hD.out]; rfl, bdrewN HB0.out _⟩

/-- the day of a number of days: year, month, day -/
def dateI (n0 : Int) : Int × Int × Int :=
  let n := n0 + 719468
  let era := n / 146097
  let inn := n - era * 146097
  let year := (inn - inn / 1460 + inn / 36524 - inn / 146096) / 365
  let of := inn - (365 * year + year / 4 - year / 100)
  let m := (5 * of + 2) / 153
  (if 12 < m + 3 then year + era * 400 + 1 else year + era * 400, if 12 < m + 3 then m + 3 - 12 else m + 3, of - (153 * m + 2) / 5 + 1)

theorem date_lin (I a b g Y c e : Int) (h0 : 0 ≤ I) (h1 : I ≤ 146096) (ha : 1460 * a ≤ I ∧ I < 1460 * a + 1460) (hb : 36524 * b ≤ I ∧ I < 36524 * b + 36524) (hg : 146096 * g ≤ I ∧ I < 146096 * g + 146096)
    (hY : 365 * Y ≤ I - a + b - g ∧ I - a + b - g < 365 * Y + 365) (hc : 4 * c ≤ Y ∧ Y < 4 * c + 4) (he : 100 * e ≤ Y ∧ Y < 100 * e + 100) :
    0 ≤ Y ∧ Y ≤ 399 ∧ 0 ≤ I - (365 * Y + c - e) ∧ I - (365 * Y + c - e) ≤ 366 := by
  have hg2 : g = 0 ∨ g = 1 := by omega
  have hb2 : b = 0 ∨ b = 1 ∨ b = 2 ∨ b = 3 ∨ b = 4 := by omega
  have y0 : 0 ≤ Y := by omega
  have y1 : Y ≤ 399 := by omega
  have k1 : c ≤ a := by omega
  have k2 : b - g ≤ e := by rcases hb2 with rfl | rfl | rfl | rfl | rfl <;> rcases hg2 with rfl | rfl <;> omega
  have k3 : 0 ≤ I - (365 * Y + c - e) := by omega
  have k4 : e ≤ b := by rcases hb2 with rfl | rfl | rfl | rfl | rfl <;> rcases hg2 with rfl | rfl <;> omega
  have k5 : I - (365 * Y + c - e) ≤ 366 := by
    rcases hb2 with rfl | rfl | rfl | rfl | rfl <;> rcases hg2 with rfl | rfl <;> omega
  exact ⟨y0, y1, k3, k5⟩

theorem date_facts (I : Int) (h0 : 0 ≤ I) (h1 : I ≤ 146096) : ∃ Y O M : Int, (I - I / 1460 + I / 36524 - I / 146096) / 365 = Y ∧ 0 ≤ Y ∧ Y ≤ 399 ∧ I - (365 * Y + Y / 4 - Y / 100) = O ∧ 0 ≤ O ∧ O ≤ 366 ∧ (5 * O + 2) / 153 = M ∧ 0 ≤ M ∧ M ≤ 11 := by
  obtain ⟨Y, hY⟩ : ∃ Y, (I - I / 1460 + I / 36524 - I / 146096) / 365 = Y := ⟨_, rfl⟩
  obtain ⟨k1, k2, k3, k4⟩ := date_lin I (I / 1460) (I / 36524) (I / 146096) Y (Y / 4) (Y / 100) h0 h1 (by omega) (by omega) (by omega) (by omega) (by omega) (by omega)
  exact ⟨Y, _, _, hY, k1, k2, rfl, k3, k4, rfl, by omega, by omega⟩

theorem date_heap (w : World) (o1 o2 : Obj) : ((w.alloc o1).alloc o2).heap[w.heap.size]? = some o1 := by
  rw [Below.heap_alloc _ _ _ (by simp)]; exact heap_alloc_new _ _

set_option maxRecDepth 20000 in
theorem date_any (n : Int) (w : World) (hn : -719600 ≤ n ∧ n ≤ 40000000) :
    Calls Tryz.prog 47 #[.int .i64 n] w fun e w' => e = .returned (.agg #[.int .i64 (dateI n).1, .int .i64 (dateI n).2.1, .int .i64 (dateI n).2.2]) ∧ Below w.heap.size w w' := by
  obtain ⟨hn1, hn2⟩ := hn
  obtain ⟨N, hN⟩ : ∃ N, n + 719468 = N := ⟨_, rfl⟩
  obtain ⟨E, hE⟩ : ∃ E, N / 146097 = E := ⟨_, rfl⟩
  obtain ⟨I, hI⟩ : ∃ I, N - E * 146097 = I := ⟨_, rfl⟩
  obtain ⟨Y, O, M, hY, y0, y1, hO, o0, o1, hM, m0, m1⟩ := date_facts I (by omega) (by omega)
  have hD := Lib.hid (show dateI n = (if 12 < M + 3 then Y + E * 400 + 1 else Y + E * 400, if 12 < M + 3 then M + 3 - 12 else M + 3, O - (153 * M + 2) / 5 + 1) by
    unfold dateI; simp only [hN, hE, hI, hY, hO, hM])
  have e0 : -1 ≤ E := by omega
  have e1 : E ≤ 300 := by omega
  have i0 : 0 ≤ I := by omega
  have i1 : I ≤ 146096 := by omega
  have HH := Lib.hid (And.intro hN (And.intro hE hI))
  by_cases h0 : N < 0
  · have hq : (N - 146096).tdiv 146097 = -1 := by
      rw [show N - 146096 = -(146096 - N) by omega, Int.neg_tdiv, Int.tdiv_eq_ediv_of_nonneg (by omega)]
      omega
    obtain rfl : E = -1 := by omega
    have hI2 : N + 146097 = I := by omega
    clear hE hI
    go_enter Tryz.func47, Tryz.ntmps47
    go_wp2_with fail
    all_goals rename_i h12
    · refine bodyPost_ret (results_cell_row rfl _ _ w.heap.size 45 _ (0, 0) (.array 3 3) rfl (date_heap w _ _) Tryz.underlying45 rfl (by kernel_rfl)) rfl ⟨?_, ((Below.refl _ w).alloc (Nat.le_refl _) _).alloc (by simp) _⟩
      have e := hD.out
      simp only [if_pos h12] at e
      rw [e]; rw [show Y + -1 * 400 + 1 = Y + -400 + 1 by omega]
    · have h13 := Int.not_lt.2 h12
      refine bodyPost_ret (results_cell_row rfl _ _ w.heap.size 45 _ (0, 0) (.array 3 3) rfl (date_heap w _ _) Tryz.underlying45 rfl (by kernel_rfl)) rfl ⟨?_, ((Below.refl _ w).alloc (Nat.le_refl _) _).alloc (by simp) _⟩
      have e := hD.out
      simp only [if_neg h13] at e
      rw [e]; rw [show Y + -1 * 400 = Y + -400 by omega]
  · go_enter Tryz.func47, Tryz.ntmps47
    go_wp2_with fail
    · rename_i h12
      refine bodyPost_ret (results_cell_row rfl _ _ w.heap.size 45 _ (0, 0) (.array 3 3) rfl (date_heap w _ _) Tryz.underlying45 rfl (by kernel_rfl)) rfl ⟨?_, ((Below.refl _ w).alloc (Nat.le_refl _) _).alloc (by simp) _⟩
      have e := hD.out
      simp only [if_pos h12] at e
      rw [e]
    · rename_i h12
      have h13 := Int.not_lt.2 h12
      refine bodyPost_ret (results_cell_row rfl _ _ w.heap.size 45 _ (0, 0) (.array 3 3) rfl (date_heap w _ _) Tryz.underlying45 rfl (by kernel_rfl)) rfl ⟨?_, ((Below.refl _ w).alloc (Nat.le_refl _) _).alloc (by simp) _⟩
      have e := hD.out
      simp only [if_neg h13] at e
      rw [e]

end Go.Proofs.YtpnnbffhdhbonaaGreatDoor
