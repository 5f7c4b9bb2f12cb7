/- rosterref03.Add: the sum of two numbers' texts. -/
import Derived.Test.YtpnnbffhdhbonaaGreatDoorRefSum
import Derived.Deep.CutBlock
namespace Go.Proofs.YtpnnbffhdhbonaaGreatDoor
open Go Go.RowKit

set_option maxRecDepth 20000 in
set_option maxHeartbeats 2000000 in
theorem radd_any (a b : ByteArray) (w : World) (ha9 : a.size ≤ 9223372036854775807) (hb9 : b.size ≤ 9223372036854775807) :
    Calls Tryz.prog 16 #[.string a, .string b] w fun e w' => e = .returned (ret2 (addL a.data.toList b.data.toList)) ∧ Below w.heap.size w w' := by
  have hla := Lib.size_eq a
  have hlb := Lib.size_eq b
  have HL := Lib.hid (And.intro hla hlb); clear hla hlb
  by_cases h1 : 65536 < a.size
  · go_enter Tryz.func16, Tryz.ntmps16
    go_wp2_with fail
    go_ret2
    exact ⟨by rw [addL, if_pos (.inl (by have := HL.out; omega))]; rfl, Below.refl _ _⟩
  by_cases h2 : 65536 < b.size
  · go_enter Tryz.func16, Tryz.ntmps16
    go_wp2_with fail
    go_ret2
    exact ⟨by rw [addL, if_pos (.inr (.inl (by have := HL.out; omega)))]; rfl, Below.refl _ _⟩
  have n1 := fun w => rnumbered_any a w (by omega)
  have n2 := fun w => rnumbered_any b w (by omega)
  have hA : addL a.data.toList b.data.toList = if numeralL a.data.toList = false ∨ numeralL b.data.toList = false then ([], false) else if 65536 < (sumS a.data.toList b.data.toList).length then ([], false) else (sumS a.data.toList b.data.toList, true) := by
    have := HL.out
    unfold addL
    by_cases hh : numeralL a.data.toList = false ∨ numeralL b.data.toList = false
    · rw [if_pos (by rcases hh with h | h <;> simp [h]), if_pos hh]
    · rw [if_neg (fun e => by rcases e with e | e | e | e; · omega
                              · omega
                              · exact hh (.inl e)
                              · exact hh (.inr e)), if_neg hh]
  have g1 : ¬ (65536 : Int) < a.size := by omega
  have g2 : ¬ (65536 : Int) < b.size := by omega
  cases h3 : numeralL a.data.toList with
  | false =>
    rw [h3] at n1 hA
    have HN := Lib.hid n1; have HA := Lib.hid (hA.trans (if_pos (.inl rfl))); clear hA n1 n2
    go_enter Tryz.func16, Tryz.ntmps16
    go_wp2_with (first
      | (go_at_call 42; with_reducible refine (HN.out _).mono ?_; rintro e w1 ⟨rfl, rfl⟩)
      | fail)
    go_ret2
    exact ⟨by rw [HA.out]; rfl, Below.refl _ _⟩
  | true =>
    cases h4 : numeralL b.data.toList with
    | false =>
      rw [h3] at n1; rw [h4] at n2 hA
      have HN := Lib.hid n1; have HN2 := Lib.hid n2; have HA := Lib.hid (hA.trans (if_pos (.inr rfl))); clear hA n1 n2
      go_enter Tryz.func16, Tryz.ntmps16
      go_wp2_with (first
        | (go_at_call 42; with_reducible refine (HN.out _).mono ?_; rintro e w1 ⟨rfl, rfl⟩)
        | (go_at_call 42; with_reducible refine (HN2.out _).mono ?_; rintro e w1 ⟨rfl, rfl⟩)
        | fail)
      go_ret2
      exact ⟨by rw [HA.out]; rfl, Below.refl _ _⟩
    | true =>
      obtain ⟨da, na⟩ := bare_digs h3
      obtain ⟨db, nb⟩ := bare_digs h4
      have la := bare_length a.data.toList
      have lb := bare_length b.data.toList
      have la2 : (bare a.data.toList).length ≤ 65536 := by have := HL.out; omega
      have lb2 : (bare b.data.toList).length ≤ 65536 := by have := HL.out; omega
      have s1 := fun w => rsize_any a w (fun e => by rw [e] at h3; cases h3)
      have s2 := fun w => rsize_any b w (fun e => by rw [e] at h4; cases h4)
      rw [h3] at n1 hA; rw [h4] at n2 hA
      rw [if_neg (by simp)] at hA
      have hsu : sumS a.data.toList b.data.toList = if neg a.data.toList = neg b.data.toList then signed (neg a.data.toList) (plusL (bare a.data.toList) (bare b.data.toList) false)
        else if lessL (bare a.data.toList) (bare b.data.toList) = true then signed (neg b.data.toList) (plusL (bare b.data.toList) (bare a.data.toList) true)
        else signed (neg a.data.toList) (plusL (bare a.data.toList) (bare b.data.toList) true) := rfl
      generalize sumS a.data.toList b.data.toList = S at hA hsu
      generalize neg a.data.toList = sa at s1 hsu
      generalize neg b.data.toList = sb at s2 hsu
      generalize bare a.data.toList = X at da la2 s1 hsu
      generalize bare b.data.toList = Y at db lb2 s2 hsu
      have hless : ∀ w, Calls Tryz.prog 45 #[.string ⟨X.toArray⟩, .string ⟨Y.toArray⟩] w fun e w' => e = .returned (.bool (lessL X Y)) ∧ w' = w := fun w => rless_any ⟨X.toArray⟩ ⟨Y.toArray⟩ w
      have p1 : ∀ l w, Calls Tryz.prog 44 #[.string ⟨X.toArray⟩, .string ⟨Y.toArray⟩, .bool l] w fun e w' => e = .returned (.string ⟨(plusL X Y l).toArray⟩) ∧ Below w.heap.size w w' := fun l w => rsum_any ⟨X.toArray⟩ ⟨Y.toArray⟩ l w da db la2 lb2
      have p2 : ∀ l w, Calls Tryz.prog 44 #[.string ⟨Y.toArray⟩, .string ⟨X.toArray⟩, .bool l] w fun e w' => e = .returned (.string ⟨(plusL Y X l).toArray⟩) ∧ Below w.heap.size w w' := fun l w => rsum_any ⟨Y.toArray⟩ ⟨X.toArray⟩ l w db da lb2 la2
      have lp1 := fun l => plusL_length X Y l
      have lp2 := fun l => plusL_length Y X l
      have HN := Lib.hid n1; have HN2 := Lib.hid n2; have HA := Lib.hid hA; have HSU := Lib.hid hsu; have HS1 := Lib.hid s1; have HS2 := Lib.hid s2; have HLS := Lib.hid hless; have HP1 := Lib.hid p1; have HP2 := Lib.hid p2
      have HLP := Lib.hid (And.intro lp1 (And.intro lp2 (And.intro la2 lb2)))
      clear n1 n2 hA hsu s1 s2 hless p1 p2 lp1 lp2 la lb la2 lb2 da db na nb h1 h2 h3 h4
      go_enter Tryz.func16, Tryz.ntmps16
      go_upto_block 0 with (first
        | (go_at_call 42; with_reducible refine (HN.out _).mono ?_; rintro e w1 ⟨rfl, rfl⟩)
        | (go_at_call 42; with_reducible refine (HN2.out _).mono ?_; rintro e w1 ⟨rfl, rfl⟩)
        | (go_at_call 43; with_reducible refine (HS1.out _).mono ?_; rintro e w1 ⟨rfl, rfl⟩)
        | (go_at_call 43; with_reducible refine (HS2.out _).mono ?_; rintro e w1 ⟨rfl, rfl⟩)
        | fail)
      go_cut [7, 10] (fun x y wx => ∃ (nb : Bool) (z : List UInt8), x = .bool nb ∧ y = .string ⟨z.toArray⟩ ∧ z.length ≤ 65537 ∧ signed nb z = S ∧ Below w1.heap.size w1 wx)
      case first =>
        by_cases hsab : sa = sb
        · subst hsab
          have hS := HSU.out
          rw [if_pos rfl] at hS
          have HS := Lib.hid hS; clear hS
          go_wp2_with (first
            | (go_at_call 44; with_reducible refine (HP1.out false _).mono ?_; rintro e w2 ⟨rfl, hb2⟩)
            | fail)
          go_meet
          exact ⟨sa, plusL X Y false, rfl, rfl, by have := HLP.out.1 false; have := HLP.out.2.2; omega, HS.out.symm, hb2⟩
        · have hbb : (sa == sb) = false := by simpa using hsab
          have hS := HSU.out
          rw [if_neg hsab] at hS
          cases hll : lessL X Y with
          | true =>
            rw [hll, if_pos rfl] at hS
            have hl2 := fun w => HLS.out w
            rw [hll] at hl2
            have HS := Lib.hid hS; have HL2 := Lib.hid hl2; clear hS hl2 HLS hll hsab HSU
            go_wp2_with (first
              | (go_at_call 45; with_reducible refine (HL2.out _).mono ?_; rintro e w2 ⟨rfl, rfl⟩)
              | (go_at_call 44; with_reducible refine (HP2.out true _).mono ?_; rintro e w3 ⟨rfl, hb2⟩)
              | fail)
            go_meet
            exact ⟨sb, plusL Y X true, rfl, rfl, by have := HLP.out.2.1 true; have := HLP.out.2.2; omega, HS.out.symm, hb2⟩
          | false =>
            rw [hll, if_neg (by simp)] at hS
            have hl2 := fun w => HLS.out w
            rw [hll] at hl2
            have HS := Lib.hid hS; have HL2 := Lib.hid hl2; clear hS hl2 HLS hll hsab HSU
            go_wp2_with (first
              | (go_at_call 45; with_reducible refine (HL2.out _).mono ?_; rintro e w2 ⟨rfl, rfl⟩)
              | (go_at_call 44; with_reducible refine (HP1.out true _).mono ?_; rintro e w3 ⟨rfl, hb2⟩)
              | fail)
            go_meet
            exact ⟨sa, plusL X Y true, rfl, rfl, by have := HLP.out.1 true; have := HLP.out.2.2; omega, HS.out.symm, hb2⟩
      case rest =>
        obtain ⟨nb, z, rfl, rfl, hz, hS, hb⟩ := hcut
        subst hS
        clear HLS HP1 HP2 HSU HN HN2 HS1 HS2 HLP
        have HB := Lib.hid hb; have HZ := Lib.hid hz; clear hb hz
        cases nb with
        | false =>
          have hsg : signed false z = z := by unfold signed; rw [if_neg (by simp)]
          have HA := Lib.hid (hsg ▸ HA.out); clear hsg
          by_cases hlen : 65536 < z.length
          · have hi : (65536 : Int) < z.length := by omega
            have HLn := Lib.hid hlen; clear hlen
            go_wp2_with fail
            go_ret2
            exact ⟨by rw [HA.out, if_pos HLn.out]; rfl, HB.out⟩
          · have hi : ¬ (65536 : Int) < z.length := by omega
            have HLn := Lib.hid hlen; clear hlen
            go_wp2_with fail
            go_ret2
            exact ⟨by rw [HA.out, if_neg (by have := HLn.out; omega)]; rfl, HB.out⟩
        | true =>
          by_cases hz0 : z = [48]
          · subst hz0
            have hsg : signed true [48] = [48] := by unfold signed; rw [if_neg (by simp)]
            have HA := Lib.hid (hsg ▸ HA.out); clear hsg
            go_wp2_with fail
            go_ret2
            exact ⟨by rw [HA.out, if_neg (by decide)]; rfl, HB.out⟩
          · have hsg : signed true z = 45 :: z := by unfold signed; rw [if_pos ⟨rfl, hz0⟩]
            have HA := Lib.hid (hsg ▸ HA.out); clear hsg
            have hzb : (z == [48]) = false := by simpa using hz0
            have hcat : (ByteArray.mk #[45]) ++ (ByteArray.mk z.toArray) = ⟨(45 :: z).toArray⟩ := bapp [45] z
            have hsz : (ByteArray.mk (45 :: z).toArray).size = z.length + 1 := rfl
            clear hz0
            have hi2 : ¬ 9223372036854775807 < 1 + z.length := by have := HZ.out; omega
            obtain ⟨n, hn⟩ : ∃ n, n = z.length + 1 := ⟨_, rfl⟩
            rw [← hn] at hsz
            have HN := Lib.hid hn; clear hn
            by_cases hlen : 65536 < n
            · have hi : (65536 : Int) < n := by omega
              have HLn := Lib.hid hlen; clear hlen
              go_wp2_with fail
              go_ret2
              exact ⟨by rw [HA.out, if_pos (show 65536 < (45 :: z).length by rw [List.length_cons, ← HN.out]; exact HLn.out)]; rfl, HB.out⟩
            · have hi : ¬ (65536 : Int) < n := by omega
              have HLn := Lib.hid hlen; clear hlen
              go_wp2_with fail
              go_ret2
              exact ⟨by rw [HA.out, if_neg (show ¬ 65536 < (45 :: z).length by rw [List.length_cons, ← HN.out]; have := HLn.out; omega)]; rfl, HB.out⟩
end Go.Proofs.YtpnnbffhdhbonaaGreatDoor
