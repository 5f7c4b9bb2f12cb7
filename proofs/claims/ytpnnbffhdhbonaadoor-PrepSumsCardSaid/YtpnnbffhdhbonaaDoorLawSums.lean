/- rosterlaw03.PrepSums: true. -/
import Derived.Test.YtpnnbffhdhbonaaDoorSumsV
import Derived.Test.YtpnnbffhdhbonaaDoorAwake
namespace Go.Proofs.YtpnnbffhdhbonaaDoor
open Go Go.RowKit

theorem neg_ne {b : UInt8} (t : List UInt8) (h : ¬ b = 45) : neg (b :: t) = false := by
  unfold neg; split
  · rename_i e; injection e with e _; exact absurd e h
  · rfl

set_option maxRecDepth 20000 in
theorem opp_any (s : ByteArray) (w : World) (hs : s.size ≤ 140737488355327) :
    Calls Tryd.prog 14 #[.string s] w fun e w' => e = .returned (.string ⟨(oppL s.data.toList).toArray⟩) ∧ w' = w := by
  obtain ⟨⟨l⟩⟩ := s
  show Calls _ _ _ _ fun e w' => e = .returned (.string ⟨(oppL l).toArray⟩) ∧ w' = w
  cases l with
  | nil =>
    go_enter Tryd.func14, Tryd.ntmps14
    go_wp2_with fail
    go_ret
    exact ⟨rfl, rfl⟩
  | cons b t =>
    have hts : t.length + 1 ≤ 140737488355327 := hs
    by_cases h0 : b :: t = [48]
    · injection h0 with e1 e2; subst e1; subst e2
      go_enter Tryd.func14, Tryd.ntmps14
      go_wp2_with fail
      go_ret
      exact ⟨rfl, rfl⟩
    · have hb : ∀ h, (ByteArray.mk (b :: t).toArray)[0]'h = b := fun _ => rfl
      have hx : (ByteArray.mk (b :: t).toArray).extract 1 (t.length + 1) = ⟨t.toArray⟩ := by rw [Lib.extract_eq]; simp
      have h0b : ((b :: t) == [48]) = false := by simpa using h0
      by_cases h45 : b = 45
      · subst h45
        have HS := Lib.hid (show oppL (45 :: t) = t by unfold oppL; rw [if_neg (by simp)]; rfl)
        clear hs h0 h0b
        go_enter Tryd.func14, Tryd.ntmps14
        go_wp2_with fail
        go_ret
        exact ⟨by rw [HS.out]; rfl, rfl⟩
      · have HS := Lib.hid (show oppL (b :: t) = 45 :: b :: t by unfold oppL; rw [if_neg (by simp at h0 ⊢; exact h0), neg_ne t h45]; rfl)
        have h1 : ((b.toNat : Int) == 45) = false := by
          rw [beq_eq_false_iff_ne]; exact fun e => h45 (UInt8.toNat_inj.1 (by show b.toNat = 45; omega))
        have hcat : (ByteArray.mk #[45]) ++ (ByteArray.mk (b :: t).toArray) = ⟨(45 :: b :: t).toArray⟩ := bapp [45] (b :: t)
        have hi2 : ¬ 9223372036854775807 < 1 + (t.length + 1) := by omega
        clear hs h0
        go_enter Tryd.func14, Tryd.ntmps14
        go_wp2_with fail
        go_ret
        exact ⟨by rw [HS.out]; rfl, rfl⟩

set_option maxRecDepth 20000 in
set_option maxHeartbeats 8000000 in
theorem law_sums (a : ByteArray) (ha : a.size ≤ maxLen) (b : ByteArray) (hb : b.size ≤ maxLen) (c : ByteArray) (hc : c.size ≤ maxLen) (w : World) (hE : Env w) :
    Calls Tryd.prog 5 #[.string a, .string b, .string c] w fun e w' => e = .returned (.bool true) ∧ Below w.heap.size w w' := by
  unfold maxLen at ha hb hc
  have hla := Lib.size_eq a
  have c1 := fun w => add_any a b w (by omega) (by omega)
  have c2 := fun w => add_any b a w (by omega) (by omega)
  have c3 := fun w => add_any b c w (by omega) (by omega)
  have c0 := fun w => add_any a ⟨#[48]⟩ w (by omega) (by decide)
  rw [addL_comm b.data.toList] at c2
  have HE := Lib.hid hE; have HA := Lib.hid (fun w hE => alive_any w hE); clear hE
  obtain ⟨⟨x, ok⟩, h1⟩ : ∃ r, r = addL a.data.toList b.data.toList := ⟨_, rfl⟩
  obtain ⟨⟨bc, one⟩, h2⟩ : ∃ r, r = addL b.data.toList c.data.toList := ⟨_, rfl⟩
  rw [← h1] at c1 c2
  rw [← h2] at c3
  have hbl : bc.length ≤ 65536 := by
    cases one with
    | true => exact (addL_true h2.symm).2.2.2.2.2.2
    | false => rw [addL_false h2.symm]; simp
  have c5 := fun w => add_any a ⟨bc.toArray⟩ w (by omega) (by show bc.length ≤ _; omega)
  obtain ⟨⟨r, three⟩, h4⟩ : ∃ r, r = addL a.data.toList bc := ⟨_, rfl⟩
  rw [show addL a.data.toList (ByteArray.mk bc.toArray).data.toList = (r, three) from h4.symm] at c5
  cases ok with
  | false =>
    obtain rfl := addL_false h1.symm
    have c4 := fun w => add_any ⟨#[]⟩ c w (by decide) (by omega)
    obtain ⟨⟨l, two⟩, h3⟩ : ∃ r, r = addL [] c.data.toList := ⟨_, rfl⟩
    rw [show addL (ByteArray.mk #[]).data.toList c.data.toList = (l, two) from h3.symm] at c4
    simp only [ret2] at c1 c2 c3 c4 c5
    have C1 := Lib.hid c1; have C2 := Lib.hid c2; have C3 := Lib.hid c3; have C4 := Lib.hid c4; have C5 := Lib.hid c5
    clear c0 c1 c2 c3 c4 c5 h1 h2 h3 h4 hla
    go_enter Tryd.func5, Tryd.ntmps5
    go_wp2_with (first
      | (go_at_call 13; with_reducible refine (C1.out _).mono ?_; rintro e w1 ⟨rfl, hb1⟩; have HB1 := Lib.hid hb1; clear hb1)
      | (go_at_call 13; with_reducible refine (C2.out _).mono ?_; rintro e w2 ⟨rfl, hb2⟩; have HB2 := Lib.hid (bnext HB1.out hb2); clear hb2)
      | (go_at_call 13; with_reducible refine (C3.out _).mono ?_; rintro e w3 ⟨rfl, hb3⟩; have HB3 := Lib.hid (bnext HB2.out hb3); clear hb3)
      | (go_at_call 13; with_reducible refine (C4.out _).mono ?_; rintro e w4 ⟨rfl, hb4⟩; have HB4 := Lib.hid (bnext HB3.out hb4); clear hb4)
      | (go_at_call 13; with_reducible refine (C5.out _).mono ?_; rintro e w5 ⟨rfl, hb5⟩; have HB5 := Lib.hid (bnext HB4.out hb5); clear hb5)
      | (go_at_call 9; with_reducible refine (HA.out _ (HE.out.next HB5.out)).mono ?_; rintro e w6 ⟨rfl, hb6⟩)
      | fail)
    go_ret
    exact ⟨rfl, bnext HB5.out hb6⟩
  | true =>
    have k1 := addL_true h1.symm
    have ha2 : a.size ≤ 65536 := by rw [hla]; exact k1.2.2.2.2.1
    have h0 := addL_nought h1.symm
    rw [show addL a.data.toList (ByteArray.mk #[48]).data.toList = _ from h0] at c0
    have c7 := fun w => opp_any a w (by omega)
    have hol : (oppL a.data.toList).length ≤ 65537 := by
      have := bare_length a.data.toList
      unfold oppL
      split
      · omega
      · split
        · omega
        · simp; omega
    have c8 := fun w => add_any a ⟨(oppL a.data.toList).toArray⟩ w (by omega) (by show (oppL a.data.toList).length ≤ _; omega)
    obtain ⟨⟨n, also⟩, h8⟩ : ∃ r, r = addL a.data.toList (oppL a.data.toList) := ⟨_, rfl⟩
    rw [show addL a.data.toList (ByteArray.mk (oppL a.data.toList).toArray).data.toList = (n, also) from h8.symm] at c8
    have c4 := fun w => add_any ⟨x.toArray⟩ c w (by show x.length ≤ _; omega) (by omega)
    obtain ⟨⟨l, two⟩, h3⟩ : ∃ r, r = addL x c.data.toList := ⟨_, rfl⟩
    rw [show addL (ByteArray.mk x.toArray).data.toList c.data.toList = (l, two) from h3.symm] at c4
    simp only [ret2] at c0 c1 c2 c3 c4 c5 c8
    rw [show (ByteArray.mk a.data.toList.toArray) = a from rfl] at c0
    have hn : also = true → n = [48] := by rintro rfl; exact addL_opp h8.symm
    generalize oppL a.data.toList = o at c7 c8 h8 hol
    have hr : one = true → two = true → three = true → r = l := by
      rintro rfl rfl rfl; exact (addL_assoc h1.symm h2.symm h3.symm h4.symm).symm
    have C0 := Lib.hid c0; have C1 := Lib.hid c1; have C2 := Lib.hid c2; have C3 := Lib.hid c3; have C4 := Lib.hid c4; have C5 := Lib.hid c5; have C7 := Lib.hid c7; have C8 := Lib.hid c8
    clear c0 c1 c2 c3 c4 c5 c7 c8 h0 h1 h2 h3 h4 h8 k1 hla
    cases also <;> cases one <;> cases two <;> cases three <;> (
      first
        | (have e1 := hn rfl; subst e1; clear hn)
        | clear hn
      first
        | (have e2 := hr rfl rfl rfl; subst e2; clear hr)
        | clear hr
      go_enter Tryd.func5, Tryd.ntmps5
      go_wp2_with (first
        | (go_at_call 13; with_reducible refine (C1.out _).mono ?_; rintro e w1 ⟨rfl, hb1⟩; have HB1 := Lib.hid hb1; clear hb1)
        | (go_at_call 13; with_reducible refine (C2.out _).mono ?_; rintro e w2 ⟨rfl, hb2⟩; have HB2 := Lib.hid (bnext HB1.out hb2); clear hb2)
        | (go_at_call 13; with_reducible refine (C0.out _).mono ?_; rintro e w0 ⟨rfl, hb0⟩; have HB0 := Lib.hid (bnext HB2.out hb0); clear hb0)
        | (go_at_call 14; with_reducible refine (C7.out _).mono ?_; rintro e w7 ⟨rfl, rfl⟩)
        | (go_at_call 13; with_reducible refine (C8.out _).mono ?_; rintro e w8 ⟨rfl, hb8⟩; have HB8 := Lib.hid (bnext HB0.out hb8); clear hb8)
        | (go_at_call 13; with_reducible refine (C3.out _).mono ?_; rintro e w3 ⟨rfl, hb3⟩; have HB3 := Lib.hid (bnext HB8.out hb3); clear hb3)
        | (go_at_call 13; with_reducible refine (C4.out _).mono ?_; rintro e w4 ⟨rfl, hb4⟩; have HB4 := Lib.hid (bnext HB3.out hb4); clear hb4)
        | (go_at_call 13; with_reducible refine (C5.out _).mono ?_; rintro e w5 ⟨rfl, hb5⟩; have HB5 := Lib.hid (bnext HB4.out hb5); clear hb5)
        | (go_at_call 9; with_reducible refine (HA.out _ (HE.out.next HB5.out)).mono ?_; rintro e w6 ⟨rfl, hb6⟩)
        | fail)
      go_ret
      exact ⟨rfl, bnext HB5.out hb6⟩)
end Go.Proofs.YtpnnbffhdhbonaaDoor
