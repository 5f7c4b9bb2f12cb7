/- The reference's bytes, digits, numbers: rosterref03.digit, digits, at, less, size, numbered. -/
import Derived.Test.YtpnnbffhdhbonaaGreatDoorAdd
import Derived.Test.YtpnnbffhdhbonaaGreatDoorPair
namespace Go.Proofs.YtpnnbffhdhbonaaGreatDoor
open Go Go.RowKit

theorem rdigit_any (b : UInt8) (w : World) : Calls Tryz.prog 74 #[.int .u8 (b.toNat : Int)] w fun e w' => e = .returned (.bool (dig b)) ∧ w' = w := by
  cases hd : dig b with
  | true =>
    have h := (dig_iff b).1 hd
    have h1 : (48 : Int) ≤ b.toNat := by omega
    have h2 : (b.toNat : Int) ≤ 57 := by omega
    go_enter Tryz.func74, Tryz.ntmps74
    go_wp2_with fail
    go_ret
    exact ⟨rfl, rfl⟩
  | false =>
    have h : ¬ (48 ≤ b.toNat ∧ b.toNat ≤ 57) := fun h => by rw [(dig_iff b).2 h] at hd; cases hd
    by_cases h1 : (48 : Int) ≤ b.toNat
    · have h2 : ¬ (b.toNat : Int) ≤ 57 := by omega
      go_enter Tryz.func74, Tryz.ntmps74
      go_wp2_with fail
      go_ret
      exact ⟨rfl, rfl⟩
    · go_enter Tryz.func74, Tryz.ntmps74
      go_wp2_with fail
      go_ret
      exact ⟨rfl, rfl⟩

def digitsR (l : List UInt8) : Bool := !l.isEmpty && l.all dig
set_option maxRecDepth 20000 in
theorem rdigits_any (s : ByteArray) (w : World) (hs : s.size ≤ 140737488355327) : Calls Tryz.prog 83 #[.string s] w fun e w' => e = .returned (.bool (digitsR s.data.toList)) ∧ w' = w := by
  have HL := Lib.hid (Lib.size_eq s)
  go_enter Tryz.func83, Tryz.ntmps83
  go_wp2_with fail
  go_loopw [3] (fun iv wr => ∃ i : Nat, iv = .int .i64 i ∧ i ≤ s.size ∧ wr = w ∧ s.data.toList.all dig = (s.data.toList.drop i).all dig) (fun iv _ => s.size - (intOf iv).toNat)
  case atStart => exact ⟨0, rfl, Nat.zero_le _, rfl, rfl⟩
  case round =>
    obtain ⟨i, rfl, hi, rfl, hall⟩ := hrel
    by_cases hlt : i < s.size
    · rw [drop_at s hlt, List.all_cons] at hall
      have HA := Lib.hid hall; clear hall
      generalize hsb : s[i]'hlt = b at HA
      have HC := Lib.hid (fun w => rdigit_any b w)
      cases hb : dig b with
      | true =>
        rw [hb] at HC HA
        go_wp2_with (first
          | (go_at_call 74; with_reducible refine (HC.out _).mono ?_; rintro e w2 ⟨rfl, rfl⟩)
          | fail)
        exact ⟨⟨i + 1, by simp, by omega, trivial, by rw [HA.out]; rfl⟩, by simp [intOf]; omega⟩
      | false =>
        rw [hb] at HC HA
        go_wp2_with (first
          | (go_at_call 74; with_reducible refine (HC.out _).mono ?_; rintro e w2 ⟨rfl, rfl⟩)
          | fail)
        go_ret
        refine ⟨?_, rfl⟩
        unfold digitsR; rw [HA.out]; simp
    · have hd : digitsR s.data.toList = decide (0 < s.size) := by
        unfold digitsR
        rw [hall, drop_end s hlt]
        have := HL.out
        cases hc : s.data.toList with
        | nil => rw [hc] at this; simp at this; simp [this]
        | cons x l => rw [hc] at this; simp at this; simp [this]
      have HD := Lib.hid hd; clear hd hall
      go_wp2_with fail
      go_ret
      exact ⟨by rw [HD.out]; rfl, rfl⟩

theorem rat_any (s : ByteArray) (i : Nat) (w : World) (hs : s.size ≤ 140737488355327) (hi : i ≤ 140737488355327) (hd : digsL s.data.toList) :
    Calls Tryz.prog 84 #[.string s, .int .i64 i] w fun e w' => e = .returned (.int .i64 (dgt s.data.toList i)) ∧ w' = w := by
  rcases dgt_cases s i hd with ⟨h, p, hp, hA, hp1, hp2⟩ | ⟨h, hA⟩
  · have HA := Lib.hid hA; clear hA hd
    go_enter Tryz.func84, Tryz.ntmps84
    go_wp2_with fail
    go_ret
    exact ⟨by rw [HA.out]; rfl, rfl⟩
  · have HA := Lib.hid hA; clear hA hd
    have h2 : ¬ (i : Int) < s.size := by omega
    go_enter Tryz.func84, Tryz.ntmps84
    go_wp2_with fail
    go_ret
    exact ⟨by rw [HA.out]; rfl, rfl⟩

theorem rless_any (a b : ByteArray) (w : World) : Calls Tryz.prog 45 #[.string a, .string b] w fun e w' => e = .returned (.bool (lessL a.data.toList b.data.toList)) ∧ w' = w := by
  have ha := Lib.size_eq a
  have hb := Lib.size_eq b
  by_cases h : a.size = b.size
  · have hl : lessL a.data.toList b.data.toList = Op.bytesLess a.toList b.toList := by
      unfold lessL
      rw [← ha, ← hb, h, Lib.toList_data, Lib.toList_data]; simp
    have HL := Lib.hid hl; clear hl
    have h1 : ((a.size : Int) != b.size) = false := by rw [h]; simp
    clear ha hb
    go_enter Tryz.func45, Tryz.ntmps45
    go_wp2_with fail
    go_ret
    exact ⟨by rw [HL.out]; rfl, rfl⟩
  · have hl : lessL a.data.toList b.data.toList = decide (a.size < b.size) := by
      unfold lessL
      rw [← ha, ← hb, show (a.size == b.size) = false from by simpa using h]; simp
    have HL := Lib.hid hl; clear hl
    have h1 : ((a.size : Int) != b.size) = true := by simp; omega
    clear ha hb
    go_enter Tryz.func45, Tryz.ntmps45
    go_wp2_with fail
    go_ret
    exact ⟨by rw [HL.out]; rfl, rfl⟩

theorem digits1_R (l : List UInt8) : digits1 l = (digitsR l && !(l.headD 0 == 48)) := by
  cases l with
  | nil => rfl
  | cons b t =>
    unfold digits1 digitsR
    simp only [List.isEmpty_cons, Bool.not_false, Bool.true_and, List.headD_cons]
    rw [Bool.and_comm]; rfl

theorem bare_ne {b : UInt8} {t : List UInt8} (h : ¬ b = 45) : bare (b :: t) = b :: t := by
  unfold bare
  split
  · rename_i e; injection e with e1 _; exact absurd e1 h
  · rfl
theorem neg_ne {b : UInt8} {t : List UInt8} (h : ¬ b = 45) : neg (b :: t) = false := by
  unfold neg
  split
  · rename_i e; injection e with e1 _; exact absurd e1 h
  · rfl

theorem ne48 (c : UInt8) : ((c.toNat : Int) != 48) = !(c == 48) := by
  by_cases h : c = 48
  · subst h; rfl
  · rw [show (c == 48) = false from by simpa using h]
    simp; exact fun e => h (UInt8.toNat_inj.1 (by show c.toNat = 48; omega))

set_option maxRecDepth 20000 in
theorem rsize_any (s : ByteArray) (w : World) (hne : s.data.toList ≠ []) :
    Calls Tryz.prog 43 #[.string s] w fun e w' => e = .returned (.tuple #[.string ⟨(bare s.data.toList).toArray⟩, .bool (neg s.data.toList)]) ∧ w' = w := by
  obtain ⟨⟨l⟩⟩ := s
  cases l with
  | nil => exact absurd rfl hne
  | cons b t =>
    have hb : ∀ h, (ByteArray.mk (b :: t).toArray)[0]'h = b := fun _ => rfl
    have hx : (ByteArray.mk (b :: t).toArray).extract 1 (t.length + 1) = ⟨t.toArray⟩ := by rw [Lib.extract_eq]; simp
    by_cases h45 : b = 45
    · subst h45
      have HS := Lib.hid (And.intro (show bare (45 :: t) = t from rfl) (show neg (45 :: t) = true from rfl))
      clear hne
      go_enter Tryz.func43, Tryz.ntmps43
      go_wp2_with fail
      go_ret2
      refine ⟨?_, rfl⟩
      show _ = Ending.returned (.tuple #[.string ⟨(bare (45 :: t)).toArray⟩, .bool (neg (45 :: t))])
      rw [HS.out.1, HS.out.2]; rfl
    · have hbb : bare (b :: t) = b :: t := bare_ne h45
      have hnn : neg (b :: t) = false := neg_ne h45
      have HS := Lib.hid (And.intro hbb hnn)
      have h1 : ((b.toNat : Int) == 45) = false := by
        rw [beq_eq_false_iff_ne]; exact fun e => h45 (UInt8.toNat_inj.1 (by show b.toNat = 45; omega))
      clear hne hbb hnn h45
      go_enter Tryz.func43, Tryz.ntmps43
      go_wp2_with fail
      go_ret2
      refine ⟨?_, rfl⟩
      show _ = Ending.returned (.tuple #[.string ⟨(bare (b :: t)).toArray⟩, .bool (neg (b :: t))])
      rw [HS.out.1, HS.out.2]; rfl

set_option maxRecDepth 20000 in
theorem rnumbered_any (s : ByteArray) (w : World) (hs : s.size ≤ 140737488355327) :
    Calls Tryz.prog 42 #[.string s] w fun e w' => e = .returned (.bool (numeralL s.data.toList)) ∧ w' = w := by
  cases h : (s.toList == [48]) with
  | true =>
    have HN := Lib.hid (show numeralL s.data.toList = true by unfold numeralL; rw [← Lib.toList_data, h]; rfl)
    go_enter Tryz.func42, Tryz.ntmps42
    go_wp2_with fail
    go_ret
    exact ⟨by rw [HN.out]; rfl, rfl⟩
  | false =>
    have hN : numeralL s.data.toList = (digitsR (bare s.data.toList) && !((bare s.data.toList).headD 0 == 48)) := by
      unfold numeralL; rw [← Lib.toList_data, h, Bool.false_or, digits1_R]
    have hsz := Lib.size_eq s
    have h00 : ∀ (q : 0 < s.size), s.data.toList = s[0] :: s.data.toList.drop 1 := fun q => by
      have := drop_at s q
      rwa [List.drop_zero] at this
    have hxx := Lib.extract_eq s 1 s.size
    have hds := fun w => rdigits_any s w hs
    cases hl : s.data.toList with
    | nil =>
      rw [hl] at hsz hN hds
      have hz : s.size = 0 := hsz
      have HN := Lib.hid (hN.trans rfl)
      have HD := Lib.hid hds
      clear hN hds h00 hxx hsz
      have hz2 : ¬ (0 : Int) < s.size := by omega
      go_enter Tryz.func42, Tryz.ntmps42
      go_wp2_with (first
        | (go_at_call 83; refine (HD.out _).mono ?_; rintro e w2 ⟨rfl, rfl⟩)
        | fail)
      go_ret
      exact ⟨rfl, rfl⟩
    | cons b t =>
      rw [hl] at hsz hN hds
      simp only [List.length_cons] at hsz
      have q0 : 0 < s.size := by omega
      have hb : ∀ q, s[0]'q = b := fun q => by have := h00 q; rw [hl] at this; injection this with e1 _; exact e1.symm
      have hx : s.extract 1 s.size = ⟨t.toArray⟩ := by
        rw [hxx, hl, List.drop_succ_cons, List.drop_zero, List.take_of_length_le (by omega)]
      have q1 : (0 : Int) < s.size := by omega
      have q2 : (1 : Int) ≤ s.size := by omega
      have q3 : 1 ≤ s.size := by omega
      have hts : t.length ≤ 140737488355327 := by omega
      clear h00 hxx hsz
      by_cases h45 : b = 45
      · subst h45
        rw [show bare (45 :: t) = t from rfl] at hN
        have hdt := fun w => rdigits_any ⟨t.toArray⟩ w hts
        rw [show digitsR (ByteArray.mk t.toArray).data.toList = digitsR t from rfl] at hdt
        cases hq : digitsR t with
        | false =>
          rw [hq] at hdt hN
          have HN := Lib.hid hN; have HD := Lib.hid hdt; clear hN hdt hds
          go_enter Tryz.func42, Tryz.ntmps42
          go_wp2_with (first
            | (go_at_call 83; with_reducible refine (HD.out _).mono ?_; rintro e w2 ⟨rfl, rfl⟩)
            | fail)
          go_ret
          exact ⟨by rw [HN.out]; rfl, rfl⟩
        | true =>
          cases t with
          | nil => cases hq
          | cons c u =>
            rw [hq] at hdt hN
            have hc : ∀ h, (ByteArray.mk (c :: u).toArray)[0]'h = c := fun _ => rfl
            have hN2 : numeralL (45 :: c :: u) = !(c == 48) := hN
            have HN := Lib.hid (hN2.trans (ne48 c).symm); have HD := Lib.hid hdt; clear hN hN2 hdt hds
            go_enter Tryz.func42, Tryz.ntmps42
            go_wp2_with (first
              | (go_at_call 83; with_reducible refine (HD.out _).mono ?_; rintro e w2 ⟨rfl, rfl⟩)
              | fail)
            go_ret
            exact ⟨by rw [HN.out]; rfl, rfl⟩
      · rw [bare_ne h45] at hN
        have h1 : ((b.toNat : Int) == 45) = false := by
          rw [beq_eq_false_iff_ne]; exact fun e => h45 (UInt8.toNat_inj.1 (by show b.toNat = 45; omega))
        have hN2 : numeralL (b :: t) = (digitsR (b :: t) && ((b.toNat : Int) != 48)) := by rw [hN, ne48]; rfl
        generalize digitsR (b :: t) = D at hds hN2
        have HN := Lib.hid hN2; have HD := Lib.hid hds; clear hN hN2 hds h45
        cases D <;> (
          go_enter Tryz.func42, Tryz.ntmps42
          go_wp2_with (first
            | (go_at_call 83; with_reducible refine (HD.out _).mono ?_; rintro e w2 ⟨rfl, rfl⟩)
            | fail)
          go_ret
          exact ⟨by rw [HN.out]; rfl, rfl⟩)
end Go.Proofs.YtpnnbffhdhbonaaGreatDoor
