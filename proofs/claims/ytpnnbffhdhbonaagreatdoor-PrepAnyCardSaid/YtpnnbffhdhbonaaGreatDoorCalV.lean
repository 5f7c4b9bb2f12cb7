/- The calendar: a day's number and its day (plain: no program in it). -/
import Derived.Test.YtpnnbffhdhbonaaGreatDoorMoment
namespace Go.Proofs.YtpnnbffhdhbonaaGreatDoor
open Go Go.RowKit

/-- how many days a month has -/
def dimI (y m : Int) : Int := if m = 4 ∨ m = 6 ∨ m = 9 ∨ m = 11 then 30 else if m = 2 then (if (y % 4 = 0 ∧ y % 100 ≠ 0) ∨ y % 400 = 0 then 29 else 28) else 31
theorem dimI_range (y m : Int) : 28 ≤ dimI y m ∧ dimI y m ≤ 31 := by
  unfold dimI; split
  · omega
  · split
    · split <;> omega
    · omega
theorem daysI_lin (y m d : Int) : daysI y m d = daysI y m 1 + (d - 1) := by unfold daysI; simp only []; omega
theorem daysI_next {y m : Int} (h1 : 1 ≤ m) (h2 : m ≤ 11) : daysI y (m + 1) 1 = daysI y m 1 + dimI y m := by
  have hm : m = 1 ∨ m = 2 ∨ m = 3 ∨ m = 4 ∨ m = 5 ∨ m = 6 ∨ m = 7 ∨ m = 8 ∨ m = 9 ∨ m = 10 ∨ m = 11 := by omega
  rcases hm with rfl | rfl | rfl | rfl | rfl | rfl | rfl | rfl | rfl | rfl | rfl
  case inr.inl =>
    unfold daysI dimI
    simp only [show ((2 : Int) + 1) = 3 from rfl, show ¬ (3 : Int) ≤ 2 from by decide, show (2 : Int) ≤ 2 from by decide, if_false, if_true, show ¬ ((2 : Int) = 4 ∨ (2 : Int) = 6 ∨ (2 : Int) = 9 ∨ (2 : Int) = 11) from by decide]
    split <;> omega
  all_goals (unfold daysI dimI; simp; try omega)
theorem daysI_year (y : Int) : daysI (y + 1) 1 1 = daysI y 12 1 + 31 := by unfold daysI; simp; omega

/-- the year of its century of centuries, out of its day -/
theorem yoe (Y r : Int) (h0 : 0 ≤ Y) (h1 : Y ≤ 399) (r0 : 0 ≤ r) (r1 : r ≤ 365) (h : r = 365 → ((Y + 1) % 4 = 0 ∧ (Y + 1) % 100 ≠ 0) ∨ Y = 399) :
    ((365 * Y + Y / 4 - Y / 100 + r) - (365 * Y + Y / 4 - Y / 100 + r) / 1460 + (365 * Y + Y / 4 - Y / 100 + r) / 36524 - (365 * Y + Y / 4 - Y / 100 + r) / 146096) / 365 = Y ∧ 365 * Y + Y / 4 - Y / 100 + r ≤ 146096 := by
  obtain ⟨c, hc⟩ : ∃ c, Y / 100 = c := ⟨_, rfl⟩
  obtain ⟨q, hq⟩ : ∃ q, (Y - 100 * c) / 4 = q := ⟨_, rfl⟩
  obtain ⟨s, hs⟩ : ∃ s, Y - 100 * c - 4 * q = s := ⟨_, rfl⟩
  have c0 : c = 0 ∨ c = 1 ∨ c = 2 ∨ c = 3 := by omega
  have q0 : 0 ≤ q := by omega
  have q1 : q ≤ 24 := by omega
  have s0 : s = 0 ∨ s = 1 ∨ s = 2 ∨ s = 3 := by omega
  have e4 : Y / 4 = 25 * c + q := by omega
  have eY : Y = 100 * c + 4 * q + s := by omega
  have hr : r ≤ 364 ∨ (s = 3 ∧ (q ≤ 23 ∨ c = 3)) := by
    by_cases e : r = 365
    · right
      rcases h e with ⟨a, b⟩ | a <;> omega
    · left; omega
  rw [hc, e4]
  clear h hc hq hs e4
  subst eY
  generalize hd : 365 * (100 * c + 4 * q + s) + (25 * c + q) - c + r = d
  have hd2 : d = 36524 * c + 1461 * q + 365 * s + r := by omega
  clear hd
  obtain ⟨a, ha⟩ : ∃ a, d / 1460 = a := ⟨_, rfl⟩
  obtain ⟨b, hb⟩ : ∃ b, d / 36524 = b := ⟨_, rfl⟩
  obtain ⟨g, hg⟩ : ∃ g, d / 146096 = g := ⟨_, rfl⟩
  rw [ha, hb, hg]
  have k1 : a = 25 * c + q ∧ 24 * c + q + 365 * s + r < 1460 ∨ a = 25 * c + q + 1 ∧ 1460 ≤ 24 * c + q + 365 * s + r := by
    rcases c0 with rfl | rfl | rfl | rfl <;> rcases s0 with rfl | rfl | rfl | rfl <;> omega
  have k2 : d ≤ 146096 ∧ b - g = c := by
    rcases c0 with rfl | rfl | rfl | rfl <;> rcases s0 with rfl | rfl | rfl | rfl <;> omega
  have k3 : 36500 * c + 1460 * q + 365 * s ≤ d - a + b - g ∧ d - a + b - g < 36500 * c + 1460 * q + 365 * s + 365 := by
    rcases s0 with rfl | rfl | rfl | rfl <;> omega
  exact ⟨by omega, k2.1⟩

theorem month_of {mp d : Int} (m0 : 0 ≤ mp) (m1 : mp ≤ 11) (d0 : 1 ≤ d) (d1 : d ≤ 31) (h30 : mp = 1 ∨ mp = 3 ∨ mp = 6 ∨ mp = 8 → d ≤ 30) (h29 : mp = 11 → d ≤ 29) :
    (5 * ((153 * mp + 2) / 5 + d - 1) + 2) / 153 = mp := by
  have hm : mp = 0 ∨ mp = 1 ∨ mp = 2 ∨ mp = 3 ∨ mp = 4 ∨ mp = 5 ∨ mp = 6 ∨ mp = 7 ∨ mp = 8 ∨ mp = 9 ∨ mp = 10 ∨ mp = 11 := by omega
  rcases hm with rfl | rfl | rfl | rfl | rfl | rfl | rfl | rfl | rfl | rfl | rfl | rfl <;> omega

/-- a day that there is, is the day of its number -/
theorem dateI_daysI {y m d : Int} (m0 : 1 ≤ m) (m1 : m ≤ 12) (d0 : 1 ≤ d) (d1 : d ≤ dimI y m) : dateI (daysI y m d) = (y, m, d) := by
  obtain ⟨y1, hy1⟩ : ∃ y1, (if m ≤ 2 then y - 1 else y) = y1 := ⟨_, rfl⟩
  obtain ⟨mp, hmp⟩ : ∃ mp, (if m ≤ 2 then m + 12 else m) - 3 = mp := ⟨_, rfl⟩
  obtain ⟨E, hE⟩ : ∃ E, y1 / 400 = E := ⟨_, rfl⟩
  obtain ⟨Y, hY⟩ : ∃ Y, y1 - E * 400 = Y := ⟨_, rfl⟩
  obtain ⟨r, hr⟩ : ∃ r, (153 * mp + 2) / 5 + d - 1 = r := ⟨_, rfl⟩
  have hn : daysI y m d = E * 146097 + (365 * Y + Y / 4 - Y / 100 + r) - 719468 := by
    unfold daysI; simp only [hy1, hE, hY]; rw [hmp, ← hr]; omega
  have hd31 := dimI_range y m
  have hmr : 0 ≤ mp ∧ mp ≤ 11 := by split at hmp <;> omega
  have h30 : mp = 1 ∨ mp = 3 ∨ mp = 6 ∨ mp = 8 → d ≤ 30 := by
    intro e
    have : m = 4 ∨ m = 6 ∨ m = 9 ∨ m = 11 := by split at hmp <;> omega
    unfold dimI at d1; rw [if_pos this] at d1; exact d1
  have h29 : mp = 11 → d ≤ 29 ∧ (d = 29 → (y % 4 = 0 ∧ y % 100 ≠ 0) ∨ y % 400 = 0) := by
    intro e
    have : m = 2 := by split at hmp <;> omega
    subst this
    unfold dimI at d1; rw [if_neg (by decide), if_pos rfl] at d1
    split at d1
    · rename_i hl; exact ⟨d1, fun _ => hl⟩
    · exact ⟨by omega, fun e => by omega⟩
  have y0 : 0 ≤ Y := by omega
  have y399 : Y ≤ 399 := by omega
  have r0 : 0 ≤ r := by omega
  have r1 : r ≤ 365 := by
    by_cases e : mp = 11
    · have := (h29 e).1; omega
    · omega
  have hl : r = 365 → ((Y + 1) % 4 = 0 ∧ (Y + 1) % 100 ≠ 0) ∨ Y = 399 := by
    intro e
    have e11 : mp = 11 := by omega
    have h2 := h29 e11
    have hd : d = 29 := by omega
    have hm2 : m ≤ 2 := by split at hmp <;> omega
    rw [if_pos hm2] at hy1
    rcases h2.2 hd with ⟨a, b⟩ | a
    · left; omega
    · right; omega
  obtain ⟨k1, k2⟩ := yoe Y r y0 y399 r0 r1 hl
  obtain ⟨I, hI⟩ : ∃ I, 365 * Y + Y / 4 - Y / 100 + r = I := ⟨_, rfl⟩
  rw [hI] at hn k1 k2
  have i0 : 0 ≤ I := by omega
  have k3 := month_of hmr.1 hmr.2 d0 (by omega) h30 (fun e => (h29 e).1)
  rw [hr] at k3
  rw [hn]
  unfold dateI
  have e1 : (E * 146097 + I - 719468 + 719468) / 146097 = E := by omega
  have e2 : E * 146097 + I - 719468 + 719468 - E * 146097 = I := by omega
  have e3 : I - (365 * Y + Y / 4 - Y / 100) = r := by omega
  simp only [e1, e2, k1, e3, k3]
  by_cases hm2 : m ≤ 2
  · rw [if_pos hm2] at hy1 hmp
    rw [if_pos (by omega), if_pos (by omega)]
    refine Prod.ext (by show Y + E * 400 + 1 = y; omega) (Prod.ext (by show mp + 3 - 12 = m; omega) (by show r - (153 * mp + 2) / 5 + 1 = d; omega))
  · rw [if_neg hm2] at hy1 hmp
    rw [if_neg (by omega), if_neg (by omega)]
    refine Prod.ext (by show Y + E * 400 = y; omega) (Prod.ext (by show mp + 3 = m; omega) (by show r - (153 * mp + 2) / 5 + 1 = d; omega))

/-- every day's number is that of a day that there is -/
theorem carry : ∀ (n : Nat) (y m d : Int), 1 ≤ m → m ≤ 12 → 1 ≤ d → d ≤ n → ∃ y' m' d', 1 ≤ m' ∧ m' ≤ 12 ∧ 1 ≤ d' ∧ d' ≤ dimI y' m' ∧ daysI y m d = daysI y' m' d'
  | 0, _, _, _, _, _, h1, h2 => by omega
  | n + 1, y, m, d, m0, m1, d0, d1 => by
    by_cases h : d ≤ dimI y m
    · exact ⟨y, m, d, m0, m1, d0, h, rfl⟩
    · have hr := dimI_range y m
      by_cases h12 : m = 12
      · subst h12
        have e : dimI y 12 = 31 := by unfold dimI; rw [if_neg (by decide), if_neg (by decide)]
        obtain ⟨y', m', d', k⟩ := carry n (y + 1) 1 (d - 31) (by decide) (by decide) (by omega) (by omega)
        refine ⟨y', m', d', k.1, k.2.1, k.2.2.1, k.2.2.2.1, ?_⟩
        rw [← k.2.2.2.2, daysI_lin y, daysI_lin (y + 1), daysI_year]; omega
      · obtain ⟨y', m', d', k⟩ := carry n y (m + 1) (d - dimI y m) (by omega) (by omega) (by omega) (by omega)
        refine ⟨y', m', d', k.1, k.2.1, k.2.2.1, k.2.2.2.1, ?_⟩
        rw [← k.2.2.2.2, daysI_lin y m d, daysI_lin y (m + 1) (d - dimI y m), daysI_next m0 (by omega)]; omega
/-- is a day one that there is? -/
theorem date_iff {y m d : Int} (m0 : 1 ≤ m) (m1 : m ≤ 12) (d0 : 1 ≤ d) (d1 : d ≤ 99) : dateI (daysI y m d) = (y, m, d) ↔ d ≤ dimI y m := by
  refine ⟨fun h => ?_, fun h => dateI_daysI m0 m1 d0 h⟩
  obtain ⟨y', m', d', k1, k2, k3, k4, k5⟩ := carry 99 y m d m0 m1 d0 (by omega)
  rw [k5, dateI_daysI k1 k2 k3 k4] at h
  injection h with e1 h
  injection h with e2 e3
  subst e1; subst e2; subst e3; exact k4
end Go.Proofs.YtpnnbffhdhbonaaGreatDoor
