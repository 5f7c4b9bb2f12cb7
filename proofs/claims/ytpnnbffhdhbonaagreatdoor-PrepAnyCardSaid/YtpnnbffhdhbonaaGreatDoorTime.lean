/- prep.Time: a text as a moment. -/
import Derived.Test.YtpnnbffhdhbonaaGreatDoorTimeDay
namespace Go.Proofs.YtpnnbffhdhbonaaGreatDoor
open Go Go.RowKit

set_option maxRecDepth 20000 in
set_option maxHeartbeats 4000000 in
theorem time_any (v : ByteArray) (w : World) (hs : v.size ≤ 9223372036854775807) :
    Calls Tryz.prog 17 #[.string v] w fun e w' => e = .returned (ret3 (timeL v.data.toList)) ∧ Below w.heap.size w w' := by
  have HL := Lib.hid (Lib.size_eq v)
  by_cases h1 : v.size < 15
  · have g : (v.size : Int) < 15 := by omega
    have HT := Lib.hid (show timeL v.data.toList = (0, [], false) from if_pos (.inl (by have := HL.out; omega)))
    clear h1
    go_enter Tryz.func17, Tryz.ntmps17
    go_wp2_with fail
    go_ret3
    exact ⟨by rw [HT.out]; rfl, Below.refl _ _⟩
  by_cases h2 : 65536 < v.size
  · have g : ¬ (v.size : Int) < 15 := by omega
    have g2 : (65536 : Int) < v.size := by omega
    have HT := Lib.hid (show timeL v.data.toList = (0, [], false) from if_pos (.inr (.inl (by have := HL.out; omega))))
    clear h1 h2
    go_enter Tryz.func17, Tryz.ntmps17
    go_wp2_with fail
    go_ret3
    exact ⟨by rw [HT.out]; rfl, Below.refl _ _⟩
  have g : ¬ (v.size : Int) < 15 := by omega
  have g2 : ¬ (65536 : Int) < v.size := by omega
  have hx : (v.extract 0 14).data.toList = v.data.toList.take 14 := by rw [Lib.extract_data]; rfl
  have hxs : (v.extract 0 14).size = 14 := by rw [Lib.size_eq, hx, List.length_take]; have := HL.out; omega
  have ho : onlyL (ByteArray.mk #[]).data.toList (v.extract 0 14).data.toList = (v.data.toList.take 14).all dig := by rw [hx]; exact onlyL_nil _
  have HX := Lib.hid (And.intro hxs ho); clear hx hxs ho
  cases hd : (v.data.toList.take 14).all dig with
  | false =>
    have HT := Lib.hid (show timeL v.data.toList = (0, [], false) from if_pos (.inr (.inr (.inl hd))))
    have HD := Lib.hid hd; clear hd h1 h2
    go_enter Tryz.func17, Tryz.ntmps17
    go_wp2_with (first
      | (go_at_call 37; refine (only_any _ _ _ (by have := HX.out; omega)).mono ?_; rintro e w1 ⟨rfl, rfl⟩; rw [HX.out.2, HD.out])
      | fail)
    go_ret3
    exact ⟨by rw [HT.out]; rfl, Below.refl _ _⟩
  | true =>
    have hd' := List.all_eq_true.1 hd
    obtain ⟨a0, b0, x0, t0, l0, u0⟩ := two_ok v 0 (by omega) (by omega) hd'
    obtain ⟨a2, b2, x2, t2, l2, u2⟩ := two_ok v 2 (by omega) (by omega) hd'
    obtain ⟨a4, b4, x4, t4, l4, u4⟩ := two_ok v 4 (by omega) (by omega) hd'
    obtain ⟨a6, b6, x6, t6, l6, u6⟩ := two_ok v 6 (by omega) (by omega) hd'
    obtain ⟨a8, b8, x8, t8, l8, u8⟩ := two_ok v 8 (by omega) (by omega) hd'
    obtain ⟨a10, b10, x10, t10, l10, u10⟩ := two_ok v 10 (by omega) (by omega) hd'
    obtain ⟨a12, b12, x12, t12, l12, u12⟩ := two_ok v 12 (by omega) (by omega) hd'
    simp only [Nat.reduceAdd] at x0 x2 x4 x6 x8 x10 x12
    have HD := Lib.hid hd; clear hd hd'
    have s2 : (2 : Int) ≤ v.size := by omega
    have s4 : (4 : Int) ≤ v.size := by omega
    have s6 : (6 : Int) ≤ v.size := by omega
    have s8 : (8 : Int) ≤ v.size := by omega
    have s10 : (10 : Int) ≤ v.size := by omega
    have s12 : (12 : Int) ≤ v.size := by omega
    have s14 : (14 : Int) ≤ v.size := by omega
    have r2 : 2 ≤ v.size := by omega
    have r4 : 4 ≤ v.size := by omega
    have r6 : 6 ≤ v.size := by omega
    have r8 : 8 ≤ v.size := by omega
    have r10 : 10 ≤ v.size := by omega
    have r12 : 12 ≤ v.size := by omega
    have r14 : 14 ≤ v.size := by omega
    have hy : yearT v.data.toList = two v.data.toList 0 * 100 + two v.data.toList 2 := rfl
    have hT : timeL v.data.toList = timeT (two v.data.toList 0 * 100 + two v.data.toList 2) (two v.data.toList 4) (two v.data.toList 6) (two v.data.toList 8) (two v.data.toList 10) (two v.data.toList 12) (v.data.toList.drop 14) := by
      have hl : ¬ (v.data.toList.length < 15) := by have := HL.out; omega
      have hl2 : ¬ (65536 < v.data.toList.length) := by have := HL.out; omega
      have hh : headT v.data.toList = false ↔ (two v.data.toList 4 < 1 ∨ 12 < two v.data.toList 4 ∨ two v.data.toList 6 < 1 ∨ dateI (daysI (two v.data.toList 0 * 100 + two v.data.toList 2) (two v.data.toList 4) (two v.data.toList 6)) ≠ (two v.data.toList 0 * 100 + two v.data.toList 2, two v.data.toList 4, two v.data.toList 6) ∨ 23 < two v.data.toList 8 ∨ 59 < two v.data.toList 10 ∨ 59 < two v.data.toList 12) := by
        unfold headT
        rw [Bool.not_eq_false', hy]
        simp only [Bool.or_eq_true, decide_eq_true_eq, Bool.not_eq_true', beq_eq_false_iff_ne, ne_eq, or_assoc]
      unfold timeL timeT timeZ secT
      rw [hy]
      by_cases hb : headT v.data.toList = false
      · rw [if_pos (.inr (.inr (.inr hb))), if_pos (hh.1 hb)]
      · rw [if_neg (fun e => by
          rcases e with e | e | e | e
          · exact hl e
          · exact hl2 e
          · rw [HD.out] at e; cases e
          · exact hb e), if_neg (fun e => hb (hh.2 e))]
    have HT := Lib.hid hT; clear hT hy
    generalize two v.data.toList 0 = Y0 at *
    generalize two v.data.toList 2 = Y2 at *
    generalize two v.data.toList 4 = M at *
    generalize two v.data.toList 6 = D at *
    generalize two v.data.toList 8 = h at *
    generalize two v.data.toList 10 = m at *
    generalize two v.data.toList 12 = s at *
    have wy1 : IntKind.i64.wrap (Y0 * 100) = Y0 * 100 := IntWalk.i64_in _ (by omega)
    have wy2 : IntKind.i64.wrap (Y0 * 100 + Y2) = Y0 * 100 + Y2 := IntWalk.i64_in _ (by omega)
    go_enter Tryz.func17, Tryz.ntmps17
    go_wp2_with (first
      | (go_at_call 37; refine (only_any _ _ _ (by have := HX.out; omega)).mono ?_; rintro e w1 ⟨rfl, rfl⟩; rw [HX.out.2, HD.out])
      | fail)
    apply wp_one (R := fun w' => Civ w1 w' w1.heap.size 45 (Y0 * 100 + Y2) M D)
    case hw =>
      have k0 := fun q => (fresh3c w1 q 45 (.int .i64 0) (.int .i64 0) (.int .i64 0)).1
      have k1 := fun q => (fresh3c w1 q 45 (.int .i64 0) (.int .i64 0) (.int .i64 0)).2.1
      have k2 := fun q => (fresh3c w1 q 45 (.int .i64 0) (.int .i64 0) (.int .i64 0)).2.2
      have kf := fun q j => fresh3f w1 q 45 (.int .i64 0) (.int .i64 0) (.int .i64 0) j
      go_region_held3 (fun w' => True)
        (trivial)
        (first
          | (go_at_call 46; refine (pair2 _ _ _).mono ?_; rintro e w5 ⟨rfl, q5, rfl⟩; first | rw [t0] | rw [t2] | rw [t4] | rw [t6])
          | fail)
      all_goals first | exact ⟨rfl, rfl, civ_a _ _ _ _ _ _ _ _ _⟩ | exact ⟨rfl, rfl, civ_b _ _ _ _ _ _ _ _ _ _⟩ | fail
    case hi =>
      intro w2 hC
      obtain ⟨gd, hgd⟩ : ∃ gd, gd = w1.heap.size := ⟨_, rfl⟩
      rw [← hgd] at hC ⊢
      have HC := Lib.hid hC; have HG := Lib.hid hgd; clear hC hgd
      clear x0 x2 x4 x6 t0 t2 t4 t6 wy1 wy2 s2 s4 s6 r2 r4 r6
      go_wp2_with fail
      apply wp_one (R := fun w' => Civ w2 w' w2.heap.size 44 h m s)
      case hw =>
        have k0 := fun q => (fresh3c w2 q 44 (.int .i64 0) (.int .i64 0) (.int .i64 0)).1
        have k1 := fun q => (fresh3c w2 q 44 (.int .i64 0) (.int .i64 0) (.int .i64 0)).2.1
        have k2 := fun q => (fresh3c w2 q 44 (.int .i64 0) (.int .i64 0) (.int .i64 0)).2.2
        have kf := fun q j => fresh3f w2 q 44 (.int .i64 0) (.int .i64 0) (.int .i64 0) j
        go_region_held3 (fun w' => True)
          (trivial)
          (first
            | (go_at_call 46; refine (pair2 _ _ _).mono ?_; rintro e w5 ⟨rfl, q5, rfl⟩; first | rw [t8] | rw [t10] | rw [t12])
            | fail)
        all_goals first | exact ⟨rfl, rfl, civ_a _ _ _ _ _ _ _ _ _⟩ | exact ⟨rfl, rfl, civ_b _ _ _ _ _ _ _ _ _ _⟩ | fail
      case hi =>
        intro w3 hC
        clear x8 x10 x12 t8 t10 t12 s8 s10 s12 r8 r10 r12
        have hD := HC.out.next hC.below
        have hC2 : Civ w1 w3 w2.heap.size 44 h m s := Civ.mk hC.row (Nat.le_trans HC.out.below.size hC.ge) hD.below
        have H2 := Lib.hid hC2; have H1 := Lib.hid hD
        clear HC hD hC hC2
        obtain ⟨c, r, hcr⟩ : ∃ c r, v.data.toList.drop 14 = c :: r := by
          cases hq : v.data.toList.drop 14 with
          | nil => exfalso; have h0 := congrArg List.length hq; rw [List.length_drop] at h0; have h1 := HL.out; simp only [List.length_nil] at h0; omega
          | cons c r => exact ⟨c, r, rfl⟩
        rw [hcr] at HT
        have hlen : v.size = r.length + 15 := by have h0 := congrArg List.length hcr; rw [List.length_drop] at h0; have h1 := HL.out; simp only [List.length_cons] at h0; omega
        have hx : v.extract 14 v.size = ⟨(c :: r).toArray⟩ := by
          rw [Lib.extract_eq, hcr, List.take_of_length_le]
          rw [List.length_cons]; omega
        have := time_day (v := v) H1.out H2.out ⟨by omega, by omega⟩ ⟨l4, u4⟩ ⟨l6, u6⟩ ⟨l8, u8⟩ ⟨l10, u10⟩ ⟨l12, u12⟩ _ rfl hx hlen (by omega)
        simp only [Exit.then]
        go_step
        rw [← HT.out] at this
        apply this
end Go.Proofs.YtpnnbffhdhbonaaGreatDoor
