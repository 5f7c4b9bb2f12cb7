/- prep.pair and prep.zone: two digits; a zone. -/
import Derived.Test.YtpnnbffhdhbonaaGreatDoorNumeral
import Derived.BigQuiet
import Derived.Deep.RegionHeld3
namespace Go.Proofs.YtpnnbffhdhbonaaGreatDoor
open Go Go.RowKit

/-- two digits as a number; -1: they are none -/
def pairL (l : List UInt8) : Int := match l with
  | [a, b] => if dig a = true ∧ dig b = true then ((a.toNat : Int) - 48) * 10 + ((b.toNat : Int) - 48) else -1
  | _ => -1

theorem dig_iff (b : UInt8) : dig b = true ↔ 48 ≤ b.toNat ∧ b.toNat ≤ 57 := by simp [dig]

theorem pair_any (s : ByteArray) (w : World) (hs : s.size ≤ 140737488355327) :
    Calls Tryz.prog 46 #[.string s] w fun e w' => e = .returned (.int .i64 (pairL s.data.toList)) ∧ ∃ q, w' = w.drewN q := by
  by_cases h2 : s.size = 2
  · obtain ⟨a, b, rfl⟩ : ∃ a b, s = ⟨#[a, b]⟩ := by
      obtain ⟨⟨l⟩⟩ := s
      match l, h2 with
      | [a, b], _ => exact ⟨a, b, rfl⟩
    have g0 : ∀ h, (ByteArray.mk #[a, b])[0]'h = a := fun _ => rfl
    have g1 : ∀ h, (ByteArray.mk #[a, b])[1]'h = b := fun _ => rfl
    have hsz : (ByteArray.mk #[a, b]).size = 2 := rfl
    by_cases hd : dig a = true ∧ dig b = true
    · have ha := (dig_iff a).1 hd.1
      have hb := (dig_iff b).1 hd.2
      have a1 : (48 : Int) ≤ a.toNat := by omega
      have a2 : (a.toNat : Int) ≤ 57 := by omega
      have b1 : (48 : Int) ≤ b.toNat := by omega
      have b2 : (b.toNat : Int) ≤ 57 := by omega
      have ho : onlyL (ByteArray.mk #[]).data.toList (ByteArray.mk #[a, b]).data.toList = true := by rw [onlyL_nil]; show (dig a && (dig b && true)) = true; rw [hd.1, hd.2]; rfl
      have HP := Lib.hid (show pairL [a, b] = ((a.toNat : Int) - 48) * 10 + ((b.toNat : Int) - 48) from if_pos hd)
      clear hd ha hb h2
      go_enter Tryz.func46, Tryz.ntmps46
      go_wp2_with (first
        | (go_at_call 37; refine (only_any _ _ _ (by omega)).mono ?_; rintro e w1 ⟨rfl, rfl⟩; rw [ho])
        | fail)
      go_quiet (fail)
      go_wp2_with fail
      go_ret
      exact ⟨by show _ = Ending.returned (.int .i64 (pairL [a, b])); rw [HP.out]; rfl, _, rfl⟩
    · have ho : onlyL (ByteArray.mk #[]).data.toList (ByteArray.mk #[a, b]).data.toList = false := by
        rw [onlyL_nil]; show (dig a && (dig b && true)) = false
        cases h1 : dig a <;> cases h2 : dig b <;> simp_all
      have HP := Lib.hid (show pairL [a, b] = -1 from if_neg hd)
      clear hd h2
      go_enter Tryz.func46, Tryz.ntmps46
      go_wp2_with (first
        | (go_at_call 37; refine (only_any _ _ _ (by omega)).mono ?_; rintro e w1 ⟨rfl, rfl⟩; rw [ho])
        | fail)
      go_ret
      exact ⟨by show _ = Ending.returned (.int .i64 (pairL [a, b])); rw [HP.out]; rfl, 0, rfl⟩
  · have HP := Lib.hid (show pairL s.data.toList = -1 by
      obtain ⟨⟨l⟩⟩ := s
      show pairL l = -1
      match l, h2 with
      | [], _ => rfl
      | [_], _ => rfl
      | [_, _], h => exact absurd rfl h
      | _ :: _ :: _ :: _, _ => rfl)
    have g : ¬ (s.size : Int) = 2 := by omega
    go_enter Tryz.func46, Tryz.ntmps46
    go_wp2_with fail
    go_ret
    exact ⟨by rw [HP.out]; rfl, 0, rfl⟩

/-- how many minutes a zone is ahead -/
def zoneL (s : List UInt8) : Int × Bool := match s with
  | [90] => (0, true)
  | [p, a, b, c, d] => if p = 43 ∨ p = 45 then
      (if pairL [a, b] < 0 ∨ 23 < pairL [a, b] ∨ pairL [c, d] < 0 ∨ 59 < pairL [c, d] then (0, false)
       else if p = 45 then (- pairL [a, b] * 60 - pairL [c, d], true) else (pairL [a, b] * 60 + pairL [c, d], true)) else (0, false)
  | _ => (0, false)

theorem pair2 (a b : UInt8) (w : World) : Calls Tryz.prog 46 #[.string ⟨#[a, b]⟩] w fun e w' => e = .returned (.int .i64 (pairL [a, b])) ∧ ∃ q, w' = w.drewN q :=
  pair_any ⟨#[a, b]⟩ w (show 2 ≤ 140737488355327 by decide)

theorem quiet_drew {P : Program} {f : FuncId} {args : Array Value} {w : World} {n : Nat} {v : Value}
    (h : Calls P f args (w.drewN n) fun e w' => e = .returned v ∧ ∃ q, w' = (w.drewN n).drewN q) : Calls P f args (w.drewN n) fun e w'' => e = .returned v ∧ ∃ m, w'' = w.drewN m :=
  h.mono fun _ _ ⟨he, q, hm⟩ => ⟨he, n + q, by rw [hm]; simp [World.drewN_drewN]⟩

theorem pairL_range (a b : UInt8) : -1 ≤ pairL [a, b] ∧ pairL [a, b] ≤ 99 := by
  by_cases hd : dig a = true ∧ dig b = true
  · rw [show pairL [a, b] = ((a.toNat : Int) - 48) * 10 + ((b.toNat : Int) - 48) from if_pos hd]
    have ha := (dig_iff a).1 hd.1
    have hb := (dig_iff b).1 hd.2
    omega
  · rw [show pairL [a, b] = -1 from if_neg hd]; omega

set_option maxRecDepth 20000 in
theorem zone_any (s : ByteArray) (w : World) (hs : s.size ≤ 140737488355327) :
    Calls Tryz.prog 51 #[.string s] w fun e w' => e = .returned (.tuple #[.int .i64 (zoneL s.data.toList).1, .bool (zoneL s.data.toList).2]) ∧ ∃ q, w' = w.drewN q := by
  by_cases hz : s = ⟨#[90]⟩
  · subst hz
    go_enter Tryz.func51, Tryz.ntmps51
    go_wp2_with fail
    go_ret2
    exact ⟨rfl, 0, rfl⟩
  have hz2 : (s.toList == [90]) = false := by
    rw [Lib.toList_data]
    have : s.data.toList ≠ [90] := fun e => hz (by rw [← bmk s, e])
    simpa using this
  by_cases h5 : s.size = 5
  · obtain ⟨p, a, b, c, d, rfl⟩ : ∃ p a b c d, s = ⟨#[p, a, b, c, d]⟩ := by
      obtain ⟨⟨l⟩⟩ := s
      match l, h5 with
      | [p, a, b, c, d], _ => exact ⟨p, a, b, c, d, rfl⟩
    have g0 : ∀ h, (ByteArray.mk #[p, a, b, c, d])[0]'h = p := fun _ => rfl
    have hsz : (ByteArray.mk #[p, a, b, c, d]).size = 5 := rfl
    have x1 : (ByteArray.mk #[p, a, b, c, d]).extract 1 3 = ⟨#[a, b]⟩ := by rw [Lib.extract_eq]; rfl
    have x2 : (ByteArray.mk #[p, a, b, c, d]).extract 3 5 = ⟨#[c, d]⟩ := by rw [Lib.extract_eq]; rfl
    clear hz h5 hs
    have hne : ∀ (x y : UInt8), x ≠ y → ¬ (x.toNat : Int) = (y.toNat : Int) := fun x y h e => h (UInt8.toNat_inj.1 (by omega))
    by_cases hp : p = 43 ∨ p = 45
    · obtain ⟨r1, r2⟩ := pairL_range a b
      obtain ⟨r3, r4⟩ := pairL_range c d
      rcases hp with rfl | rfl
      · have HZb := Lib.hid (show (pairL [a, b] < 0 ∨ 23 < pairL [a, b] ∨ pairL [c, d] < 0 ∨ 59 < pairL [c, d]) → zoneL [43, a, b, c, d] = (0, false) from fun h => if_pos h)
        have HZg := Lib.hid (show ¬ (pairL [a, b] < 0 ∨ 23 < pairL [a, b] ∨ pairL [c, d] < 0 ∨ 59 < pairL [c, d]) → zoneL [43, a, b, c, d] = (pairL [a, b] * 60 + pairL [c, d], true) from fun h => if_neg h)
        clear hne
        go_enter Tryz.func51, Tryz.ntmps51
        go_wp2_with fail
        go_quiet ((go_at_call 46; exact quiet_drew (pair2 _ _ _)))
        go_wp2_with fail
        all_goals first
          | (go_ret2; refine ⟨?_, _, rfl⟩; show _ = Ending.returned (.tuple #[.int .i64 (zoneL [43, a, b, c, d]).1, .bool (zoneL [43, a, b, c, d]).2]); rw [HZb.out (by omega)]; rfl)
          | (go_ret2; refine ⟨?_, _, rfl⟩; show _ = Ending.returned (.tuple #[.int .i64 (zoneL [43, a, b, c, d]).1, .bool (zoneL [43, a, b, c, d]).2]); rw [HZg.out (by omega)]; rfl)
          | fail
      · have HZb := Lib.hid (show (pairL [a, b] < 0 ∨ 23 < pairL [a, b] ∨ pairL [c, d] < 0 ∨ 59 < pairL [c, d]) → zoneL [45, a, b, c, d] = (0, false) from fun h => if_pos h)
        have HZg := Lib.hid (show ¬ (pairL [a, b] < 0 ∨ 23 < pairL [a, b] ∨ pairL [c, d] < 0 ∨ 59 < pairL [c, d]) → zoneL [45, a, b, c, d] = (- pairL [a, b] * 60 - pairL [c, d], true) from fun h => if_neg h)
        clear hne
        go_enter Tryz.func51, Tryz.ntmps51
        go_wp2_with fail
        go_quiet ((go_at_call 46; exact quiet_drew (pair2 _ _ _)))
        go_wp2_with fail
        all_goals first
          | (go_ret2; refine ⟨?_, _, rfl⟩; show _ = Ending.returned (.tuple #[.int .i64 (zoneL [45, a, b, c, d]).1, .bool (zoneL [45, a, b, c, d]).2]); rw [HZb.out (by omega)]; rfl)
          | (go_ret2; refine ⟨?_, _, rfl⟩; show _ = Ending.returned (.tuple #[.int .i64 (zoneL [45, a, b, c, d]).1, .bool (zoneL [45, a, b, c, d]).2]); rw [HZg.out (by omega)]; rfl)
          | fail
    · have p1 : ((p.toNat : Int) != 43) = true := by simpa using hne p 43 (fun e => hp (.inl e))
      have p2 : ((p.toNat : Int) != 45) = true := by simpa using hne p 45 (fun e => hp (.inr e))
      have HZ := Lib.hid (show zoneL [p, a, b, c, d] = (0, false) by
        unfold zoneL
        split
        · rename_i e; simp at e
        · rename_i e; simp only [List.cons.injEq] at e; obtain ⟨rfl, _⟩ := e; exact if_neg hp
        · rfl)
      clear hne hp
      go_enter Tryz.func51, Tryz.ntmps51
      go_wp2_with fail
      go_ret2
      refine ⟨?_, 0, rfl⟩
      show _ = Ending.returned (.tuple #[.int .i64 (zoneL [p, a, b, c, d]).1, .bool (zoneL [p, a, b, c, d]).2])
      rw [HZ.out]; rfl
  · have HZ := Lib.hid (show zoneL s.data.toList = (0, false) by
      obtain ⟨⟨l⟩⟩ := s
      show zoneL l = (0, false)
      unfold zoneL
      split
      · exact absurd rfl hz
      · exact absurd rfl h5
      · rfl)
    have g : ¬ (s.size : Int) = 5 := by omega
    clear hz h5
    go_enter Tryz.func51, Tryz.ntmps51
    go_wp2_with fail
    go_ret2
    exact ⟨by rw [HZ.out]; rfl, 0, rfl⟩
end Go.Proofs.YtpnnbffhdhbonaaGreatDoor
