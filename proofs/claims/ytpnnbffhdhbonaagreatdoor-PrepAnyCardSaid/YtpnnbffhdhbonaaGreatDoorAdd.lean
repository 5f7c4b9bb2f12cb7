/- prep.Add: the sum of two numbers' texts. -/
import Derived.Test.YtpnnbffhdhbonaaGreatDoorPlus
import Derived.Test.YtpnnbffhdhbonaaGreatDoorNumeral
import Derived.BigQuiet
namespace Go.Proofs.YtpnnbffhdhbonaaGreatDoor
open Go Go.RowKit

def neg (v : List UInt8) : Bool := match v with | 45 :: _ => true | _ => false
/-- is a row of digits less than another one (both without noughts ahead)? -/
def lessL (x y : List UInt8) : Bool := decide (x.length < y.length) || (x.length == y.length && Op.bytesLess x y)
def signed (below : Bool) (s : List UInt8) : List UInt8 := if below = true ∧ s ≠ [48] then 45 :: s else s
def sumS (a b : List UInt8) : List UInt8 :=
  if neg a = neg b then signed (neg a) (plusL (bare a) (bare b) false)
  else if lessL (bare a) (bare b) = true then signed (neg b) (plusL (bare b) (bare a) true)
  else signed (neg a) (plusL (bare a) (bare b) true)
def addL (a b : List UInt8) : List UInt8 × Bool :=
  if 65536 < a.length ∨ 65536 < b.length ∨ numeralL a = false ∨ numeralL b = false then ([], false)
  else if 65536 < (sumS a b).length then ([], false) else (sumS a b, true)

theorem bare_length (v : List UInt8) : (bare v).length ≤ v.length := by
  unfold bare; split
  · simp
  · exact Nat.le_refl _
theorem bare_digs {v : List UInt8} (h : numeralL v = true) : digsL (bare v) ∧ bare v ≠ [] := by
  unfold numeralL at h
  rw [Bool.or_eq_true] at h
  rcases h with h | h
  · have e : v = [48] := by simpa using h
    subst e
    refine ⟨fun b hb => ?_, by decide⟩
    have : b = 48 := by simpa [bare] using hb
    subst this; decide
  · cases hv : bare v with
    | nil => rw [hv] at h; cases h
    | cons c l =>
      rw [hv] at h
      have h2 := (Bool.and_eq_true _ _ ▸ h : _ ∧ _).2
      refine ⟨fun b hb => ?_, by simp⟩
      have := List.all_eq_true.1 h2 b hb
      simpa [dig] using this
/-- the first byte of a number -/
theorem num_head (v : ByteArray) (h : numeralL v.data.toList = true) : ∃ (h0 : 0 < v.size) (p : UInt8), v[0]'h0 = p ∧ ((p.toNat : Int) == 45) = neg v.data.toList := by
  obtain ⟨⟨l⟩⟩ := v
  cases l with
  | nil => cases h
  | cons p t =>
    refine ⟨by show 0 < t.length + 1; omega, p, rfl, ?_⟩
    show ((p.toNat : Int) == 45) = neg (p :: t)
    by_cases hp : p = 45
    · subst hp; rfl
    · have h1 : ¬ (p.toNat : Int) = 45 := fun e => hp (UInt8.toNat_inj.1 (by show p.toNat = 45; omega))
      rw [show ((p.toNat : Int) == 45) = false from by simpa using h1]
      unfold neg; split
      · rename_i e; injection e with e1 _; exact absurd e1 hp
      · rfl

theorem plusL_length (a b : List UInt8) (less : Bool) : (plusL a b less).length ≤ max a.length b.length + 1 := by
  have h : (Lib.trimLeftB (sumL a b less (max a.length b.length + 1)) 48).length ≤ max a.length b.length + 1 := by
    unfold Lib.trimLeftB
    refine Nat.le_trans (List.dropWhile_sublist _).length_le ?_
    unfold sumL; simp
  unfold plusL
  split
  · simp
  · exact h

set_option maxRecDepth 20000 in
theorem add_any (a b : ByteArray) (w : World) (ha9 : a.size ≤ 9223372036854775807) (hb9 : b.size ≤ 9223372036854775807) :
    Calls Tryz.prog 15 #[.string a, .string b] w fun e w' => e = .returned (ret2 (addL a.data.toList b.data.toList)) ∧ Below w.heap.size w w' := by
  have hla := Lib.size_eq a
  have hlb := Lib.size_eq b
  have HL := Lib.hid (And.intro hla hlb); clear hla hlb
  by_cases h1 : 65536 < a.size
  · go_enter Tryz.func15, Tryz.ntmps15
    go_wp2_with fail
    go_ret2
    exact ⟨by rw [addL, if_pos (.inl (by have := HL.out; omega))]; rfl, Below.refl _ _⟩
  by_cases h2 : 65536 < b.size
  · go_enter Tryz.func15, Tryz.ntmps15
    go_wp2_with fail
    go_ret2
    exact ⟨by rw [addL, if_pos (.inr (.inl (by have := HL.out; omega)))]; rfl, Below.refl _ _⟩
  cases h3 : numeralL a.data.toList with
  | false =>
    go_enter Tryz.func15, Tryz.ntmps15
    go_wp2_with (first
      | (go_at_call 40; refine (numeral_any _ _ (by omega)).mono ?_; rintro e w1 ⟨rfl, rfl⟩; rw [h3])
      | fail)
    go_ret2
    exact ⟨by rw [addL, if_pos (.inr (.inr (.inl h3)))]; rfl, Below.refl _ _⟩
  | true =>
    cases h4 : numeralL b.data.toList with
    | false =>
      go_enter Tryz.func15, Tryz.ntmps15
      go_wp2_with (first
        | (go_at_call 40; refine (numeral_any _ _ (by omega)).mono ?_; rintro e w1 ⟨rfl, rfl⟩; first | rw [h3] | rw [h4])
        | fail)
      go_ret2
      exact ⟨by rw [addL, if_pos (.inr (.inr (.inr h4)))]; rfl, Below.refl _ _⟩
    | true =>
      have g1 : ¬ (65536 : Int) < a.size := by omega
      have g2 : ¬ (65536 : Int) < b.size := by omega
      obtain ⟨ha0, p, hp, hpn⟩ := num_head a h3
      obtain ⟨hb0, q, hq, hqn⟩ := num_head b h4
      obtain ⟨da, na⟩ := bare_digs h3
      obtain ⟨db, nb⟩ := bare_digs h4
      have la := bare_length a.data.toList
      have lb := bare_length b.data.toList
      have la2 : (bare a.data.toList).length ≤ 65536 := by have := HL.out; omega
      have lb2 : (bare b.data.toList).length ≤ 65536 := by have := HL.out; omega
      have hsp : addL a.data.toList b.data.toList = if 65536 < (sumS a.data.toList b.data.toList).length then ([], false) else (sumS a.data.toList b.data.toList, true) := by
        have := HL.out
        unfold addL; rw [if_neg (by rw [h3, h4]; simp; omega)]
      have hsu : sumS a.data.toList b.data.toList = if neg a.data.toList = neg b.data.toList then signed (neg a.data.toList) (plusL (bare a.data.toList) (bare b.data.toList) false)
        else if lessL (bare a.data.toList) (bare b.data.toList) = true then signed (neg b.data.toList) (plusL (bare b.data.toList) (bare a.data.toList) true)
        else signed (neg a.data.toList) (plusL (bare a.data.toList) (bare b.data.toList) true) := rfl
      have HS := Lib.hid (And.intro hsp hsu); clear hsp hsu la lb
      generalize neg a.data.toList = sa at hpn HS
      generalize neg b.data.toList = sb at hqn HS
      generalize hX : bare a.data.toList = X at da na la2 HS
      generalize hY : bare b.data.toList = Y at db nb lb2 HS
      have HD := Lib.hid (And.intro da (And.intro db (And.intro la2 lb2))); clear da db na nb la2 lb2
      have HX := Lib.hid (And.intro hX hY); clear hX hY
      go_enter Tryz.func15, Tryz.ntmps15
      go_wp2_with (first
        | (go_at_call 40; refine (numeral_any _ _ (by omega)).mono ?_; rintro e w1 ⟨rfl, rfl⟩; first | rw [h3] | rw [h4])
        | (go_at_call 35; refine (Tryz.strings_TrimPrefix _ _ _).mono ?_; rintro e w2 ⟨rfl, rfl⟩
           first
           | rw [show Lib.trimPrefix a.data.toList (ByteArray.mk #[45]).data.toList = X from (trimPrefix_bare _).trans HX.out.1]
           | rw [show Lib.trimPrefix b.data.toList (ByteArray.mk #[45]).data.toList = Y from (trimPrefix_bare _).trans HX.out.2])
        | fail)
      go_quiet (fail)
      rename_i nq
      have B0 : Below w2.heap.size w2 (w2.drewN nq) := bdrewN (Below.refl _ _) nq
      generalize w2.drewN nq = w3 at B0
      have HB0 := Lib.hid B0; clear B0
      clear ha0 hp hpn hb0 hq hqn h1 h2 h3 h4 g1 g2 ha9 hb9
      by_cases hsab : sa = sb
      · subst hsab
        go_wp2_with fail
        go_at_call 41
        refine (plus_any ⟨X.toArray⟩ ⟨Y.toArray⟩ false w3 HD.out.1 HD.out.2.1 HD.out.2.2.1 HD.out.2.2.2).mono ?_
        rintro e w4 ⟨rfl, hb4⟩
        have hpl := plusL_length X Y false
        have hS : sumS a.data.toList b.data.toList = signed sa (plusL X Y false) := by rw [HS.out.2]; simp
        have hA := HS.out.1
        rw [hS] at hA
        clear hS
        rw [show plusL (ByteArray.mk X.toArray).data.toList (ByteArray.mk Y.toArray).data.toList false = plusL X Y false from rfl]
        generalize hz : plusL X Y false = z at hA hpl
        have HZ := Lib.hid (And.intro hz (bnext HB0.out hb4)); have HL2 := Lib.hid (show z.length ≤ 65537 by have := HD.out; omega); have HA := Lib.hid hA; clear hz hb4 hpl hA HS
        cases sa with
        | false =>
          have hsg : signed false z = z := by unfold signed; rw [if_neg (by simp)]
          have HA := Lib.hid (hsg ▸ HA.out); clear hsg
          by_cases hlen : 65536 < z.length
          · have hi : (65536 : Int) < z.length := by omega
            have HLn := Lib.hid hlen; clear hlen
            go_wp2_with fail
            go_ret2
            exact ⟨by rw [HA.out, if_pos HLn.out]; rfl, HZ.out.2⟩
          · have hi : ¬ (65536 : Int) < z.length := by omega
            have HLn := Lib.hid hlen; clear hlen
            go_wp2_with fail
            go_ret2
            exact ⟨by rw [HA.out, if_neg HLn.out]; rfl, HZ.out.2⟩
        | true =>
          by_cases hz0 : z = [48]
          · subst hz0
            have hsg : signed true [48] = [48] := by unfold signed; rw [if_neg (by simp)]
            have HA := Lib.hid (hsg ▸ HA.out); clear hsg
            go_wp2_with fail
            go_ret2
            exact ⟨by rw [HA.out, if_neg (by decide)]; rfl, HZ.out.2⟩
          · have hsg : signed true z = 45 :: z := by unfold signed; rw [if_pos ⟨rfl, hz0⟩]
            have HA := Lib.hid (hsg ▸ HA.out); clear hsg
            have hzb : (z == [48]) = false := by simpa using hz0
            have hcat : (ByteArray.mk #[45]) ++ (ByteArray.mk z.toArray) = ⟨(45 :: z).toArray⟩ := bapp [45] z
            have hsz : (ByteArray.mk (45 :: z).toArray).size = z.length + 1 := rfl
            clear hz0
            have hi2 : ¬ 9223372036854775807 < 1 + z.length := by have := HL2.out; omega
            obtain ⟨n, hn⟩ : ∃ n, n = z.length + 1 := ⟨_, rfl⟩
            rw [← hn] at hsz
            have HN := Lib.hid hn; clear hn
            by_cases hlen : 65536 < n
            · have hi : (65536 : Int) < n := by omega
              have HLn := Lib.hid hlen; clear hlen
              go_wp2_with fail
              go_ret2
              exact ⟨by rw [HA.out, if_pos (show 65536 < (45 :: z).length by rw [List.length_cons, ← HN.out]; exact HLn.out)]; rfl, HZ.out.2⟩
            · have hi : ¬ (65536 : Int) < n := by omega
              have HLn := Lib.hid hlen; clear hlen
              go_wp2_with fail
              go_ret2
              exact ⟨by rw [HA.out, if_neg (show ¬ 65536 < (45 :: z).length by rw [List.length_cons, ← HN.out]; exact HLn.out)]; rfl, HZ.out.2⟩
      · have hbb : (sa == sb) = false := by simpa using hsab
        rcases Nat.lt_trichotomy X.length Y.length with hc | hc | hc
        · have c1 : (X.length : Int) < Y.length := by omega
          have hls : lessL X Y = true := by unfold lessL; simp [hc]
          have hSS : sumS a.data.toList b.data.toList = signed sb (plusL Y X true) := by rw [HS.out.2, if_neg hsab, if_pos hls]
          have HSS := Lib.hid hSS; have HBB := Lib.hid hsab; clear hls hSS hsab
          go_wp2_with fail
          go_at_call 41
          refine (plus_any ⟨Y.toArray⟩ ⟨X.toArray⟩ true w3 HD.out.2.1 HD.out.1 HD.out.2.2.2 HD.out.2.2.1).mono ?_
          rintro e w4 ⟨rfl, hb4⟩
          have hpl := plusL_length Y X true
          have hS : sumS a.data.toList b.data.toList = signed sb (plusL Y X true) := HSS.out
          have hA := HS.out.1
          rw [hS] at hA
          clear hS
          rw [show plusL (ByteArray.mk Y.toArray).data.toList (ByteArray.mk X.toArray).data.toList true = plusL Y X true from rfl]
          generalize hz : plusL Y X true = z at hA hpl
          have HZ := Lib.hid (And.intro hz (bnext HB0.out hb4)); have HL2 := Lib.hid (show z.length ≤ 65537 by have := HD.out; omega); have HA := Lib.hid hA; clear hz hb4 hpl hA HS
          cases sb with
          | false =>
            have hsg : signed false z = z := by unfold signed; rw [if_neg (by simp)]
            have HA := Lib.hid (hsg ▸ HA.out); clear hsg
            by_cases hlen : 65536 < z.length
            · have hi : (65536 : Int) < z.length := by omega
              have HLn := Lib.hid hlen; clear hlen
              go_wp2_with fail
              go_ret2
              exact ⟨by rw [HA.out, if_pos HLn.out]; rfl, HZ.out.2⟩
            · have hi : ¬ (65536 : Int) < z.length := by omega
              have HLn := Lib.hid hlen; clear hlen
              go_wp2_with fail
              go_ret2
              exact ⟨by rw [HA.out, if_neg HLn.out]; rfl, HZ.out.2⟩
          | true =>
            by_cases hz0 : z = [48]
            · subst hz0
              have hsg : signed true [48] = [48] := by unfold signed; rw [if_neg (by simp)]
              have HA := Lib.hid (hsg ▸ HA.out); clear hsg
              go_wp2_with fail
              go_ret2
              exact ⟨by rw [HA.out, if_neg (by decide)]; rfl, HZ.out.2⟩
            · have hsg : signed true z = 45 :: z := by unfold signed; rw [if_pos ⟨rfl, hz0⟩]
              have HA := Lib.hid (hsg ▸ HA.out); clear hsg
              have hzb : (z == [48]) = false := by simpa using hz0
              have hcat : (ByteArray.mk #[45]) ++ (ByteArray.mk z.toArray) = ⟨(45 :: z).toArray⟩ := bapp [45] z
              have hsz : (ByteArray.mk (45 :: z).toArray).size = z.length + 1 := rfl
              clear hz0
              have hi2 : ¬ 9223372036854775807 < 1 + z.length := by have := HL2.out; omega
              obtain ⟨n, hn⟩ : ∃ n, n = z.length + 1 := ⟨_, rfl⟩
              rw [← hn] at hsz
              have HN := Lib.hid hn; clear hn
              by_cases hlen : 65536 < n
              · have hi : (65536 : Int) < n := by omega
                have HLn := Lib.hid hlen; clear hlen
                go_wp2_with fail
                go_ret2
                exact ⟨by rw [HA.out, if_pos (show 65536 < (45 :: z).length by rw [List.length_cons, ← HN.out]; exact HLn.out)]; rfl, HZ.out.2⟩
              · have hi : ¬ (65536 : Int) < n := by omega
                have HLn := Lib.hid hlen; clear hlen
                go_wp2_with fail
                go_ret2
                exact ⟨by rw [HA.out, if_neg (show ¬ 65536 < (45 :: z).length by rw [List.length_cons, ← HN.out]; exact HLn.out)]; rfl, HZ.out.2⟩
        · have c1 : ¬ (X.length : Int) < Y.length := by omega
          have c2 : (X.length : Int) = Y.length := by omega
          cases hl : Op.bytesLess X Y with
          | true =>
            have hls : lessL X Y = true := by unfold lessL; simp [hc, hl]
            have hSS : sumS a.data.toList b.data.toList = signed sb (plusL Y X true) := by rw [HS.out.2, if_neg hsab, if_pos hls]
            have HSS := Lib.hid hSS; have HBB := Lib.hid hsab; clear hls hSS hsab
            go_wp2_with fail
            go_at_call 41
            refine (plus_any ⟨Y.toArray⟩ ⟨X.toArray⟩ true w3 HD.out.2.1 HD.out.1 HD.out.2.2.2 HD.out.2.2.1).mono ?_
            rintro e w4 ⟨rfl, hb4⟩
            have hpl := plusL_length Y X true
            have hS : sumS a.data.toList b.data.toList = signed sb (plusL Y X true) := HSS.out
            have hA := HS.out.1
            rw [hS] at hA
            clear hS
            rw [show plusL (ByteArray.mk Y.toArray).data.toList (ByteArray.mk X.toArray).data.toList true = plusL Y X true from rfl]
            generalize hz : plusL Y X true = z at hA hpl
            have HZ := Lib.hid (And.intro hz (bnext HB0.out hb4)); have HL2 := Lib.hid (show z.length ≤ 65537 by have := HD.out; omega); have HA := Lib.hid hA; clear hz hb4 hpl hA HS
            cases sb with
            | false =>
              have hsg : signed false z = z := by unfold signed; rw [if_neg (by simp)]
              have HA := Lib.hid (hsg ▸ HA.out); clear hsg
              by_cases hlen : 65536 < z.length
              · have hi : (65536 : Int) < z.length := by omega
                have HLn := Lib.hid hlen; clear hlen
                go_wp2_with fail
                go_ret2
                exact ⟨by rw [HA.out, if_pos HLn.out]; rfl, HZ.out.2⟩
              · have hi : ¬ (65536 : Int) < z.length := by omega
                have HLn := Lib.hid hlen; clear hlen
                go_wp2_with fail
                go_ret2
                exact ⟨by rw [HA.out, if_neg HLn.out]; rfl, HZ.out.2⟩
            | true =>
              by_cases hz0 : z = [48]
              · subst hz0
                have hsg : signed true [48] = [48] := by unfold signed; rw [if_neg (by simp)]
                have HA := Lib.hid (hsg ▸ HA.out); clear hsg
                go_wp2_with fail
                go_ret2
                exact ⟨by rw [HA.out, if_neg (by decide)]; rfl, HZ.out.2⟩
              · have hsg : signed true z = 45 :: z := by unfold signed; rw [if_pos ⟨rfl, hz0⟩]
                have HA := Lib.hid (hsg ▸ HA.out); clear hsg
                have hzb : (z == [48]) = false := by simpa using hz0
                have hcat : (ByteArray.mk #[45]) ++ (ByteArray.mk z.toArray) = ⟨(45 :: z).toArray⟩ := bapp [45] z
                have hsz : (ByteArray.mk (45 :: z).toArray).size = z.length + 1 := rfl
                clear hz0
                have hi2 : ¬ 9223372036854775807 < 1 + z.length := by have := HL2.out; omega
                obtain ⟨n, hn⟩ : ∃ n, n = z.length + 1 := ⟨_, rfl⟩
                rw [← hn] at hsz
                have HN := Lib.hid hn; clear hn
                by_cases hlen : 65536 < n
                · have hi : (65536 : Int) < n := by omega
                  have HLn := Lib.hid hlen; clear hlen
                  go_wp2_with fail
                  go_ret2
                  exact ⟨by rw [HA.out, if_pos (show 65536 < (45 :: z).length by rw [List.length_cons, ← HN.out]; exact HLn.out)]; rfl, HZ.out.2⟩
                · have hi : ¬ (65536 : Int) < n := by omega
                  have HLn := Lib.hid hlen; clear hlen
                  go_wp2_with fail
                  go_ret2
                  exact ⟨by rw [HA.out, if_neg (show ¬ 65536 < (45 :: z).length by rw [List.length_cons, ← HN.out]; exact HLn.out)]; rfl, HZ.out.2⟩
          | false =>
            have hls : lessL X Y = false := by unfold lessL; simp [hc, hl]
            have hSS : sumS a.data.toList b.data.toList = signed sa (plusL X Y true) := by rw [HS.out.2, if_neg hsab, if_neg (by rw [hls]; simp)]
            have HSS := Lib.hid hSS; have HBB := Lib.hid hsab; clear hls hSS hsab
            go_wp2_with fail
            go_at_call 41
            refine (plus_any ⟨X.toArray⟩ ⟨Y.toArray⟩ true w3 HD.out.1 HD.out.2.1 HD.out.2.2.1 HD.out.2.2.2).mono ?_
            rintro e w4 ⟨rfl, hb4⟩
            have hpl := plusL_length X Y true
            have hS : sumS a.data.toList b.data.toList = signed sa (plusL X Y true) := HSS.out
            have hA := HS.out.1
            rw [hS] at hA
            clear hS
            rw [show plusL (ByteArray.mk X.toArray).data.toList (ByteArray.mk Y.toArray).data.toList true = plusL X Y true from rfl]
            generalize hz : plusL X Y true = z at hA hpl
            have HZ := Lib.hid (And.intro hz (bnext HB0.out hb4)); have HL2 := Lib.hid (show z.length ≤ 65537 by have := HD.out; omega); have HA := Lib.hid hA; clear hz hb4 hpl hA HS
            cases sa with
            | false =>
              have hsg : signed false z = z := by unfold signed; rw [if_neg (by simp)]
              have HA := Lib.hid (hsg ▸ HA.out); clear hsg
              by_cases hlen : 65536 < z.length
              · have hi : (65536 : Int) < z.length := by omega
                have HLn := Lib.hid hlen; clear hlen
                go_wp2_with fail
                go_ret2
                exact ⟨by rw [HA.out, if_pos HLn.out]; rfl, HZ.out.2⟩
              · have hi : ¬ (65536 : Int) < z.length := by omega
                have HLn := Lib.hid hlen; clear hlen
                go_wp2_with fail
                go_ret2
                exact ⟨by rw [HA.out, if_neg HLn.out]; rfl, HZ.out.2⟩
            | true =>
              by_cases hz0 : z = [48]
              · subst hz0
                have hsg : signed true [48] = [48] := by unfold signed; rw [if_neg (by simp)]
                have HA := Lib.hid (hsg ▸ HA.out); clear hsg
                go_wp2_with fail
                go_ret2
                exact ⟨by rw [HA.out, if_neg (by decide)]; rfl, HZ.out.2⟩
              · have hsg : signed true z = 45 :: z := by unfold signed; rw [if_pos ⟨rfl, hz0⟩]
                have HA := Lib.hid (hsg ▸ HA.out); clear hsg
                have hzb : (z == [48]) = false := by simpa using hz0
                have hcat : (ByteArray.mk #[45]) ++ (ByteArray.mk z.toArray) = ⟨(45 :: z).toArray⟩ := bapp [45] z
                have hsz : (ByteArray.mk (45 :: z).toArray).size = z.length + 1 := rfl
                clear hz0
                have hi2 : ¬ 9223372036854775807 < 1 + z.length := by have := HL2.out; omega
                obtain ⟨n, hn⟩ : ∃ n, n = z.length + 1 := ⟨_, rfl⟩
                rw [← hn] at hsz
                have HN := Lib.hid hn; clear hn
                by_cases hlen : 65536 < n
                · have hi : (65536 : Int) < n := by omega
                  have HLn := Lib.hid hlen; clear hlen
                  go_wp2_with fail
                  go_ret2
                  exact ⟨by rw [HA.out, if_pos (show 65536 < (45 :: z).length by rw [List.length_cons, ← HN.out]; exact HLn.out)]; rfl, HZ.out.2⟩
                · have hi : ¬ (65536 : Int) < n := by omega
                  have HLn := Lib.hid hlen; clear hlen
                  go_wp2_with fail
                  go_ret2
                  exact ⟨by rw [HA.out, if_neg (show ¬ 65536 < (45 :: z).length by rw [List.length_cons, ← HN.out]; exact HLn.out)]; rfl, HZ.out.2⟩
        · have c1 : ¬ (X.length : Int) < Y.length := by omega
          have c2 : ¬ (X.length : Int) = Y.length := by omega
          have hls : lessL X Y = false := by unfold lessL; simp [Nat.lt_asymm hc, Nat.ne_of_gt hc]
          have hSS : sumS a.data.toList b.data.toList = signed sa (plusL X Y true) := by rw [HS.out.2, if_neg hsab, if_neg (by rw [hls]; simp)]
          have HSS := Lib.hid hSS; have HBB := Lib.hid hsab; clear hls hSS hsab
          go_wp2_with fail
          go_at_call 41
          refine (plus_any ⟨X.toArray⟩ ⟨Y.toArray⟩ true w3 HD.out.1 HD.out.2.1 HD.out.2.2.1 HD.out.2.2.2).mono ?_
          rintro e w4 ⟨rfl, hb4⟩
          have hpl := plusL_length X Y true
          have hS : sumS a.data.toList b.data.toList = signed sa (plusL X Y true) := HSS.out
          have hA := HS.out.1
          rw [hS] at hA
          clear hS
          rw [show plusL (ByteArray.mk X.toArray).data.toList (ByteArray.mk Y.toArray).data.toList true = plusL X Y true from rfl]
          generalize hz : plusL X Y true = z at hA hpl
          have HZ := Lib.hid (And.intro hz (bnext HB0.out hb4)); have HL2 := Lib.hid (show z.length ≤ 65537 by have := HD.out; omega); have HA := Lib.hid hA; clear hz hb4 hpl hA HS
          cases sa with
          | false =>
            have hsg : signed false z = z := by unfold signed; rw [if_neg (by simp)]
            have HA := Lib.hid (hsg ▸ HA.out); clear hsg
            by_cases hlen : 65536 < z.length
            · have hi : (65536 : Int) < z.length := by omega
              have HLn := Lib.hid hlen; clear hlen
              go_wp2_with fail
              go_ret2
              exact ⟨by rw [HA.out, if_pos HLn.out]; rfl, HZ.out.2⟩
            · have hi : ¬ (65536 : Int) < z.length := by omega
              have HLn := Lib.hid hlen; clear hlen
              go_wp2_with fail
              go_ret2
              exact ⟨by rw [HA.out, if_neg HLn.out]; rfl, HZ.out.2⟩
          | true =>
            by_cases hz0 : z = [48]
            · subst hz0
              have hsg : signed true [48] = [48] := by unfold signed; rw [if_neg (by simp)]
              have HA := Lib.hid (hsg ▸ HA.out); clear hsg
              go_wp2_with fail
              go_ret2
              exact ⟨by rw [HA.out, if_neg (by decide)]; rfl, HZ.out.2⟩
            · have hsg : signed true z = 45 :: z := by unfold signed; rw [if_pos ⟨rfl, hz0⟩]
              have HA := Lib.hid (hsg ▸ HA.out); clear hsg
              have hzb : (z == [48]) = false := by simpa using hz0
              have hcat : (ByteArray.mk #[45]) ++ (ByteArray.mk z.toArray) = ⟨(45 :: z).toArray⟩ := bapp [45] z
              have hsz : (ByteArray.mk (45 :: z).toArray).size = z.length + 1 := rfl
              clear hz0
              have hi2 : ¬ 9223372036854775807 < 1 + z.length := by have := HL2.out; omega
              obtain ⟨n, hn⟩ : ∃ n, n = z.length + 1 := ⟨_, rfl⟩
              rw [← hn] at hsz
              have HN := Lib.hid hn; clear hn
              by_cases hlen : 65536 < n
              · have hi : (65536 : Int) < n := by omega
                have HLn := Lib.hid hlen; clear hlen
                go_wp2_with fail
                go_ret2
                exact ⟨by rw [HA.out, if_pos (show 65536 < (45 :: z).length by rw [List.length_cons, ← HN.out]; exact HLn.out)]; rfl, HZ.out.2⟩
              · have hi : ¬ (65536 : Int) < n := by omega
                have HLn := Lib.hid hlen; clear hlen
                go_wp2_with fail
                go_ret2
                exact ⟨by rw [HA.out, if_neg (show ¬ 65536 < (45 :: z).length by rw [List.length_cons, ← HN.out]; exact HLn.out)]; rfl, HZ.out.2⟩
end Go.Proofs.YtpnnbffhdhbonaaGreatDoor
