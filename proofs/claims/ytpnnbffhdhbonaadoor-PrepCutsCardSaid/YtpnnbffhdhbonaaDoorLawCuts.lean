/- rosterlaw03.PrepCuts: true. -/
import Derived.Test.YtpnnbffhdhbonaaDoorAgainV
import Derived.Test.YtpnnbffhdhbonaaDoorAwake
import Derived.Test.YtpnnbffhdhbonaaDoorUtfV
namespace Go.Proofs.YtpnnbffhdhbonaaDoor
open Go Go.RowKit

set_option maxRecDepth 20000 in
theorem round_any (x n : Int) (w : World) (h1 : 1 ≤ n) (h2 : n ≤ 70000) :
    Calls Tryd.prog 10 #[.int .i64 x, .int .i64 n] w fun e w' => e = .returned (.int .i64 (x % n)) ∧ w' = w := by
  have he : x % n = if x.tmod n < 0 then x.tmod n + n else x.tmod n := by
    rw [Int.tmod_eq_emod]
    have h3 := Int.emod_nonneg x (show n ≠ 0 by omega)
    have h4 := Int.emod_lt_of_pos x (show 0 < n by omega)
    by_cases hd : 0 ≤ x ∨ n ∣ x
    · simp only [if_pos hd]; split <;> omega
    · simp only [if_neg hd]; split <;> omega
  have h5 : - n < x.tmod n ∧ x.tmod n < n := by
    rw [Int.tmod_eq_emod]
    have h3 := Int.emod_nonneg x (show n ≠ 0 by omega)
    have h4 := Int.emod_lt_of_pos x (show 0 < n by omega)
    split <;> omega
  have HE := Lib.hid he; clear he
  have n1 : ¬ n < 1 := by omega
  have n0 : n ≠ 0 := by omega
  obtain ⟨m, hm⟩ : ∃ m, m = x.tmod n := ⟨_, rfl⟩
  rw [← hm] at h5 HE
  have hq : x.tmod n = m := hm.symm
  clear hm
  by_cases hneg : m < 0
  · go_enter Tryd.func10, Tryd.ntmps10
    go_wp2_with fail
    go_ret
    exact ⟨by rw [HE.out, if_pos hneg]; rfl, rfl⟩
  · go_enter Tryd.func10, Tryd.ntmps10
    go_wp2_with fail
    go_ret
    exact ⟨by rw [HE.out, if_neg (by omega)]; rfl, rfl⟩

set_option maxRecDepth 20000 in
theorem law_cuts (v : ByteArray) (hv : v.size ≤ maxLen) (x : Int) (hx : (Lit.int .i64 x).wf = true) (y : Int) (hy : (Lit.int .i64 y).wf = true) (w : World) (hE : Env w) :
    Calls Tryd.prog 4 #[.string v, .int .i64 x, .int .i64 y] w fun e w' => e = .returned (.bool true) ∧ Below w.heap.size w w' := by
  unfold maxLen at hv
  have HL := Lib.hid (Lib.size_eq v)
  have HK := Lib.hid (fun f s w hE => key_any f s w hE); have HA := Lib.hid (fun w hE => alive_any w hE); have HV := Lib.hid (fun s w hs => valid_any s w hs); have HP := Lib.hid (fun f wh s w hE hs => piece_any f wh s w hE hs); have HRO := Lib.hid (fun x n w h1 h2 => round_any x n w h1 h2)
  have HE := Lib.hid hE; clear hE
  go_enter Tryd.func4, Tryd.ntmps4
  go_wp2_with fail
  go_loopw [7] (fun iv wr => ∃ i : Nat, iv = .int .i8 i ∧ i ≤ 4 ∧ Below w.heap.size w wr) (fun iv _ => 4 - (intOf iv).toNat)
  case atStart => exact ⟨0, rfl, by omega, Below.refl _ _⟩
  case round =>
    obtain ⟨i, rfl, hi, hbr⟩ := hrel
    have HB := Lib.hid hbr; clear hbr
    by_cases hlt : i ≤ 3
    · have i1 : (i : Int) ≤ 3 := by omega
      have hf : (i : Int) = 0 ∨ (i : Int) = 1 ∨ (i : Int) = 2 ∨ (i : Int) = 3 := by omega
      obtain ⟨⟨k, ok⟩, hk⟩ : ∃ r, r = keyL i v.data.toList := ⟨_, rfl⟩
      have k1 := fun w hE => HK.out i v w hE
      rw [← hk] at k1
      simp only [ret2] at k1
      have K1 := Lib.hid k1; have HF := Lib.hid hf; clear k1 hf
      cases ok with
      | false =>
        clear hk
        go_wp2_with (first
          | (go_at_call 8; with_reducible refine (K1.out _ (HE.out.next HB.out)).mono ?_; rintro e w2 ⟨rfl, hb2⟩; have HB2 := Lib.hid (bnext HB.out hb2); clear hb2)
          | fail)
        exact ⟨⟨i + 1, rfl, by omega, HB2.out⟩, by simp [intOf]; omega⟩
      | true =>
        have hkl := key_len hk.symm HF.out
        by_cases h32 : k = [32]
        · subst h32
          clear hk
          go_wp2_with (first
            | (go_at_call 8; with_reducible refine (K1.out _ (HE.out.next HB.out)).mono ?_; rintro e w2 ⟨rfl, hb2⟩; have HB2 := Lib.hid (bnext HB.out hb2); clear hb2)
            | fail)
          exact ⟨⟨i + 1, rfl, by omega, HB2.out⟩, by simp [intOf]; omega⟩
        · have k32 : (k == [32]) = false := by simpa using h32
          have hp0 := Int.emod_nonneg x (show (k.length : Int) + 1 ≠ 0 by omega)
          have hp1 := Int.emod_lt_of_pos x (show (0 : Int) < (k.length : Int) + 1 by omega)
          obtain ⟨p, hp⟩ : ∃ p : Nat, (p : Int) = x % ((k.length : Int) + 1) := ⟨(x % ((k.length : Int) + 1)).toNat, by omega⟩
          have r1 := fun w => HRO.out x ((k.length : Int) + 1) w (by omega) (by omega)
          rw [← hp] at r1 hp0 hp1
          have hq0 := Int.emod_nonneg y (show (k.length : Int) - p + 1 ≠ 0 by omega)
          have hq1 := Int.emod_lt_of_pos y (show (0 : Int) < (k.length : Int) - p + 1 by omega)
          obtain ⟨q, hq⟩ : ∃ q : Nat, (q : Int) = y % ((k.length : Int) - p + 1) := ⟨(y % ((k.length : Int) - p + 1)).toNat, by omega⟩
          have r2 := fun w => HRO.out y ((k.length : Int) - p + 1) w (by omega) (by omega)
          rw [← hq] at r2 hq0 hq1
          obtain ⟨a, ha⟩ : ∃ a, a = k.take p := ⟨_, rfl⟩
          obtain ⟨b, hb⟩ : ∃ b, b = (k.drop p).take q := ⟨_, rfl⟩
          obtain ⟨c, hc⟩ : ∃ c, c = k.drop (p + q) := ⟨_, rfl⟩
          have habc : k = a ++ b ++ c := by
            rw [ha, hb, hc, List.append_assoc, ← List.drop_drop, List.take_append_drop, List.take_append_drop]
          have hal : a.length = p := by rw [ha, List.length_take]; omega
          have hbl : b.length = q := by rw [hb, List.length_take, List.length_drop]; omega
          have xa : (ByteArray.mk k.toArray).extract 0 p = ⟨a.toArray⟩ := by rw [Lib.extract_eq, ha]; simp
          have xb : (ByteArray.mk k.toArray).extract p (p + q) = ⟨b.toArray⟩ := by rw [Lib.extract_eq, hb]; simp
          have xc : (ByteArray.mk k.toArray).extract p k.length = ⟨(b ++ c).toArray⟩ := by
            rw [Lib.extract_eq, hb, hc, ← List.drop_drop, List.take_append_drop, List.take_of_length_le (by simp)]
          have p1 : (p : Int) ≤ k.length := by omega
          have p2 : p ≤ k.length := by omega
          have q1 : (p : Int) + q ≤ k.length := by omega
          have q2 : p + q ≤ k.length := by omega
          have q3 : (p : Int) ≤ p + q := by omega
          have va := fun w => HV.out ⟨a.toArray⟩ w (by show a.length ≤ _; omega)
          have vb := fun w => HV.out ⟨b.toArray⟩ w (by show b.length ≤ _; omega)
          have hsz : (ByteArray.mk k.toArray).size = k.length := rfl
          rw [show Lib.validD (ByteArray.mk a.toArray).data.toList = Lib.validD a from rfl] at va
          rw [show Lib.validD (ByteArray.mk b.toArray).data.toList = Lib.validD b from rfl] at vb
          have R1 := Lib.hid r1; have R2 := Lib.hid r2
          clear r1 r2 hp0 hp1 hq0 hq1 hp hq
          cases hva : Lib.validD a with
          | false =>
            rw [hva] at va
            have VA := Lib.hid va; clear va vb hva hk habc ha hb hc
            go_wp2_with (first
              | (go_at_call 8; with_reducible refine (K1.out _ (HE.out.next HB.out)).mono ?_; rintro e w2 ⟨rfl, hb2⟩; have HB2 := Lib.hid (bnext HB.out hb2); clear hb2)
              | (go_at_call 10; with_reducible refine (R1.out _).mono ?_; rintro e w3 ⟨rfl, rfl⟩)
              | (go_at_call 10; with_reducible refine (R2.out _).mono ?_; rintro e w4 ⟨rfl, rfl⟩)
              | (go_at_call 11; with_reducible refine (VA.out _).mono ?_; rintro e w5 ⟨rfl, hb5⟩; have HB5 := Lib.hid (bnext HB2.out hb5); clear hb5)
              | fail)
            exact ⟨⟨i + 1, rfl, by omega, HB5.out⟩, by simp [intOf]; omega⟩
          | true =>
          cases hvb : Lib.validD b with
          | false =>
            rw [hva] at va; rw [hvb] at vb
            have VA := Lib.hid va; have VB := Lib.hid vb; clear va vb hva hvb hk habc ha hb hc
            go_wp2_with (first
              | (go_at_call 8; with_reducible refine (K1.out _ (HE.out.next HB.out)).mono ?_; rintro e w2 ⟨rfl, hb2⟩; have HB2 := Lib.hid (bnext HB.out hb2); clear hb2)
              | (go_at_call 10; with_reducible refine (R1.out _).mono ?_; rintro e w3 ⟨rfl, rfl⟩)
              | (go_at_call 10; with_reducible refine (R2.out _).mono ?_; rintro e w4 ⟨rfl, rfl⟩)
              | (go_at_call 11; with_reducible refine (VA.out _).mono ?_; rintro e w5 ⟨rfl, hb5⟩; have HB5 := Lib.hid (bnext HB2.out hb5); clear hb5)
              | (go_at_call 11; with_reducible refine (VB.out _).mono ?_; rintro e w6 ⟨rfl, hb6⟩; have HB6 := Lib.hid (bnext HB5.out hb6); clear hb6)
              | fail)
            exact ⟨⟨i + 1, rfl, by omega, HB6.out⟩, by simp [intOf]; omega⟩
          | true =>
            rw [hva] at va; rw [hvb] at vb
            obtain ⟨g1, g2, g3⟩ := key_cuts HF.out (habc ▸ hk).symm (habc ▸ h32) hva hvb
            have p1c := fun w hE => HP.out i 1 ⟨b.toArray⟩ w hE (by show b.length ≤ _; omega)
            have p2c := fun w hE => HP.out i 0 ⟨a.toArray⟩ w hE (by show a.length ≤ _; omega)
            have p3c := fun w hE => HP.out i 2 ⟨(b ++ c).toArray⟩ w hE (by show (b ++ c).length ≤ _; have : k.length = _ := congrArg List.length habc; simp only [List.length_append] at this ⊢; omega)
            rw [show pieceL i 1 (ByteArray.mk b.toArray).data.toList = (b, true) from g1] at p1c
            rw [show pieceL i 0 (ByteArray.mk a.toArray).data.toList = (a, true) from g2] at p2c
            rw [show pieceL i 2 (ByteArray.mk (b ++ c).toArray).data.toList = (b ++ c, true) from g3] at p3c
            simp only [ret2] at p1c p2c p3c
            have P1 := Lib.hid p1c; have P2 := Lib.hid p2c; have P3 := Lib.hid p3c
            have VA := Lib.hid va; have VB := Lib.hid vb; clear va vb hva hvb hk habc ha hb hc p1c p2c p3c g1 g2 g3
            go_wp2_with (first
              | (go_at_call 8; with_reducible refine (K1.out _ (HE.out.next HB.out)).mono ?_; rintro e w2 ⟨rfl, hb2⟩; have HB2 := Lib.hid (bnext HB.out hb2); clear hb2)
              | (go_at_call 10; with_reducible refine (R1.out _).mono ?_; rintro e w3 ⟨rfl, rfl⟩)
              | (go_at_call 10; with_reducible refine (R2.out _).mono ?_; rintro e w4 ⟨rfl, rfl⟩)
              | (go_at_call 11; with_reducible refine (VA.out _).mono ?_; rintro e w5 ⟨rfl, hb5⟩; have HB5 := Lib.hid (bnext HB2.out hb5); clear hb5)
              | (go_at_call 11; with_reducible refine (VB.out _).mono ?_; rintro e w6 ⟨rfl, hb6⟩; have HB6 := Lib.hid (bnext HB5.out hb6); clear hb6)
              | (go_at_call 12; with_reducible refine (P1.out _ (HE.out.next HB6.out)).mono ?_; rintro e w7 ⟨rfl, hb7⟩; have HB7 := Lib.hid (bnext HB6.out hb7); clear hb7)
              | (go_at_call 12; with_reducible refine (P2.out _ (HE.out.next HB7.out)).mono ?_; rintro e w8 ⟨rfl, hb8⟩; have HB8 := Lib.hid (bnext HB7.out hb8); clear hb8)
              | (go_at_call 12; with_reducible refine (P3.out _ (HE.out.next HB8.out)).mono ?_; rintro e w9 ⟨rfl, hb9⟩; have HB9 := Lib.hid (bnext HB8.out hb9); clear hb9)
              | fail)
            exact ⟨⟨i + 1, rfl, by omega, HB9.out⟩, by simp [intOf]; omega⟩
    · have i1 : ¬ (i : Int) ≤ 3 := by omega
      go_wp2_with (first
        | (go_at_call 9; with_reducible refine (HA.out _ (HE.out.next HB.out)).mono ?_; rintro e w6 ⟨rfl, hb6⟩)
        | fail)
      go_ret
      exact ⟨rfl, bnext HB.out hb6⟩
end Go.Proofs.YtpnnbffhdhbonaaDoor
