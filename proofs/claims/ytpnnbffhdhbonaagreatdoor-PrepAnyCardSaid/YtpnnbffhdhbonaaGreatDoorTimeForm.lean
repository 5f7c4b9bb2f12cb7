/- former.time: the key of a moment. -/
import Derived.Test.YtpnnbffhdhbonaaGreatDoorMomentTail
import Derived.Test.YtpnnbffhdhbonaaGreatDoorTime
import Derived.Deep.DeepCutAuto
namespace Go.Proofs.YtpnnbffhdhbonaaGreatDoor
open Go Go.RowKit

theorem timeL_rest (v : List UInt8) : (timeL v).2.1.length ≤ v.length := by
  unfold timeL
  split
  · simp
  · rename_i h
    split
    · simp
    · rename_i rest z e
      split
      · simp
      · show rest.length ≤ v.length
        unfold fracT at e
        split at e
        · cases e; simp
        · rename_i c r hr
          have hrl : r.length ≤ v.length := by have := congrArg List.length hr; rw [List.length_drop, List.length_cons] at this; omega
          split at e
          · split at e
            · cases e
            · injection e with e; injection e with e1 e2
              rw [← e1]
              refine Nat.le_trans (Nat.le_of_eq (List.length_reverse ..)) (Nat.le_trans (List.dropWhile_sublist _).length_le ?_)
              rw [List.length_reverse, List.length_take]; omega
          · injection e with e; injection e with e1 e2
            rw [← e1]; simp
theorem timeL_len (v : List UInt8) (h : (timeL v).2.2 = true) : v.length ≤ 65536 := by
  unfold timeL at h
  split at h
  · cases h
  · rename_i h1; exact Nat.le_of_not_lt fun e => h1 (.inr (.inl e))

set_option maxRecDepth 1000000 in
theorem time_form (v : ByteArray) (w : World) (hE : Env w) (hs : v.size ≤ 140737488355327) :
    Calls Tryz.prog 68 #[.agg #[], .string v] w fun e w' => e = .returned (ret2 (timeFormL v.data.toList)) ∧ Below w.heap.size w w' := by
  have b0 : Below w.heap.size w (w.alloc (.cells #[] 61)) := (Below.refl _ w).alloc (Nat.le_refl _) _
  have HB0 := Lib.hid (And.intro b0 (hE.next b0)); clear b0 hE
  have HT := Lib.hid (fun w => time_any v w (by omega))
  have hR := timeL_range v.data.toList
  have hL := timeL_rest v.data.toList
  have hN := timeL_len v.data.toList
  have hF : timeFormL v.data.toList = if (timeL v.data.toList).2.2 = true then (momentL (timeL v.data.toList).1 (timeL v.data.toList).2.1, true) else ([], false) := rfl
  generalize timeL v.data.toList = T at HT hR hL hN hF
  obtain ⟨n, rest, ok⟩ := T
  simp only [] at hR hL hN hF
  simp only [ret3] at HT
  cases ok with
  | false =>
    have HF := Lib.hid (hF.trans (if_neg (by simp))); clear hF
    go_enter Tryz.func68, Tryz.ntmps68
    go_wp2_with (first
      | (go_at_call 17; refine (HT.out _).mono ?_; rintro e w1 ⟨rfl, hb1⟩; have HB1 := Lib.hid (bnext HB0.out.1 hb1); clear hb1)
      | fail)
    go_ret2
    exact ⟨by rw [HF.out]; rfl, HB1.out⟩
  | true =>
    have HF := Lib.hid (hF.trans (if_pos rfl)); clear hF
    obtain ⟨r0, r1⟩ := hR rfl
    have hN := hN rfl
    have hrl : (⟨rest.toArray⟩ : ByteArray).size ≤ 65536 := by show rest.length ≤ _; omega
    clear hL hN hR
    have HRL := Lib.hid hrl; clear hrl
    obtain ⟨q, hq⟩ : ∃ q, n.tdiv 86400 = q := ⟨_, rfl⟩
    obtain ⟨r, hr⟩ : ∃ r, n.tmod 86400 = r := ⟨_, rfl⟩
    have e1 : q * 86400 + r = n := by rw [← hq, ← hr, Int.mul_comm]; exact Int.mul_tdiv_add_tmod n 86400
    have e2 : -86400 < r := by rw [← hr]; have := Int.lt_tmod_of_pos n (b := 86400) (by omega); omega
    have e3 : r < 86400 := by rw [← hr]; exact Int.tmod_lt_of_pos _ (by omega)
    have v1 : IntKind.i64.wrap (n.tdiv 86400) = q := by rw [hq]; exact IntWalk.i64_in _ (by omega)
    have v2 : IntKind.i64.wrap (q - 1) = q - 1 := IntWalk.i64_in _ (by omega)
    have v3 : IntKind.i64.wrap (r + 86400) = r + 86400 := IntWalk.i64_in _ (by omega)
    go_enter Tryz.func68, Tryz.ntmps68
    go_upto_if 26 with (first
      | (go_at_call 17; refine (HT.out _).mono ?_; rintro e w1 ⟨rfl, hb1⟩; have HB1 := Lib.hid (And.intro (bnext HB0.out.1 hb1) (HB0.out.2.next hb1)); clear hb1)
      | fail)
    clear HB0
    go_cut [9, 10] (fun x y wx => x = .int .i64 (n / 86400) ∧ y = .int .i64 (n % 86400) ∧ wx = w1)
    case first =>
      by_cases hr0 : r < 0
      · have hd : q - 1 = n / 86400 := by omega
        have hm : r + 86400 = n % 86400 := by omega
        rw [hd] at v2; rw [hm] at v3
        go_wp2_with fail
        all_goals (go_meet; exact ⟨rfl, rfl, rfl⟩)
      · have hd : q = n / 86400 := by omega
        have hm : r = n % 86400 := by omega
        go_wp2_with fail
        all_goals (go_meet; exact ⟨by rw [← hd], by rw [← hm], rfl⟩)
    case rest =>
      obtain ⟨rfl, rfl, rfl⟩ := hcut
      have := mom_tail (n / 86400) (n % 86400) ⟨rest.toArray⟩ HRL.out HB1.out.1 HB1.out.2 (by omega) (by omega)
      go_step
      have e : (Value.tuple #[.string ⟨(wideL (dateI (n / 86400)).1.toNat 4 ++ (wideL (dateI (n / 86400)).2.1.toNat 2 ++ (wideL (dateI (n / 86400)).2.2.toNat 2 ++
        (wideL (n % 86400 / 3600).toNat 2 ++ (wideL (n % 86400 / 60 % 60).toNat 2 ++ (wideL (n % 86400 % 60).toNat 2 ++ (ByteArray.mk rest.toArray).data.toList)))))).toArray⟩, .bool true]) = ret2 (timeFormL v.data.toList) := by rw [HF.out]; rfl
      rw [e] at this
      apply this
end Go.Proofs.YtpnnbffhdhbonaaGreatDoor
