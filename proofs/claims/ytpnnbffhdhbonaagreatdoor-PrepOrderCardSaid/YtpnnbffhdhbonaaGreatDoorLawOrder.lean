/- rosterlaw03.PrepOrder: true. -/
import Derived.Test.YtpnnbffhdhbonaaGreatDoorOrdV
import Derived.Test.YtpnnbffhdhbonaaGreatDoorAwake
import Derived.Deep.CutRange
import Derived.Deep.DeepCutAuto
namespace Go.Proofs.YtpnnbffhdhbonaaGreatDoor
open Go Go.RowKit

theorem neg_no {b : UInt8} (t : List UInt8) (h : ¬ b = 45) : neg (b :: t) = false := by
  unfold neg; split
  · rename_i e; injection e with e _; exact absurd e h
  · rfl

set_option maxRecDepth 20000 in
theorem opp_any (s : ByteArray) (w : World) (hs : s.size ≤ 140737488355327) :
    Calls Tryz.prog 21 #[.string s] w fun e w' => e = .returned (.string ⟨(oppL s.data.toList).toArray⟩) ∧ w' = w := by
  obtain ⟨⟨l⟩⟩ := s
  show Calls _ _ _ _ fun e w' => e = .returned (.string ⟨(oppL l).toArray⟩) ∧ w' = w
  cases l with
  | nil =>
    go_enter Tryz.func21, Tryz.ntmps21
    go_wp2_with fail
    go_ret
    exact ⟨rfl, rfl⟩
  | cons b t =>
    have hts : t.length + 1 ≤ 140737488355327 := hs
    by_cases h0 : b :: t = [48]
    · injection h0 with e1 e2; subst e1; subst e2
      go_enter Tryz.func21, Tryz.ntmps21
      go_wp2_with fail
      go_ret
      exact ⟨rfl, rfl⟩
    · have hb : ∀ h, (ByteArray.mk (b :: t).toArray)[0]'h = b := fun _ => rfl
      have hx : (ByteArray.mk (b :: t).toArray).extract 1 (t.length + 1) = ⟨t.toArray⟩ := by rw [Lib.extract_eq]; simp
      have h0b : ((b :: t) == [48]) = false := by simpa using h0
      by_cases h45 : b = 45
      · subst h45
        have HS := Lib.hid (show oppL (45 :: t) = t by unfold oppL; rw [if_neg (by simp)]; rfl)
        clear hs h0 h0b
        go_enter Tryz.func21, Tryz.ntmps21
        go_wp2_with fail
        go_ret
        exact ⟨by rw [HS.out]; rfl, rfl⟩
      · have HS := Lib.hid (show oppL (b :: t) = 45 :: b :: t by unfold oppL; rw [if_neg (by simp at h0 ⊢; exact h0), neg_no t h45]; rfl)
        have h1 : ((b.toNat : Int) == 45) = false := by
          rw [beq_eq_false_iff_ne]; exact fun e => h45 (UInt8.toNat_inj.1 (by show b.toNat = 45; omega))
        have hcat : (ByteArray.mk #[45]) ++ (ByteArray.mk (b :: t).toArray) = ⟨(45 :: b :: t).toArray⟩ := bapp [45] (b :: t)
        have hi2 : ¬ 9223372036854775807 < 1 + (t.length + 1) := by omega
        clear hs h0
        go_enter Tryz.func21, Tryz.ntmps21
        go_wp2_with fail
        go_ret
        exact ⟨by rw [HS.out]; rfl, rfl⟩

theorem sgn_any (p q : List UInt8) (w : World) : Calls Tryz.prog 22 #[.string ⟨p.toArray⟩, .string ⟨q.toArray⟩] w fun e w' => e = .returned (.int .i64 (sgnB p q)) ∧ w' = w := by
  obtain ⟨P, hP⟩ : ∃ P : ByteArray, P = ⟨p.toArray⟩ := ⟨_, rfl⟩
  obtain ⟨Q, hQ⟩ : ∃ Q : ByteArray, Q = ⟨q.toArray⟩ := ⟨_, rfl⟩
  have hp : P.toList = p := by rw [Lib.toList_data, hP]
  have hq : Q.toList = q := by rw [Lib.toList_data, hQ]
  rw [← hP, ← hQ]
  have hS : sgnB p q = if Op.bytesLess P.toList Q.toList = true then -1 else if Op.bytesLess Q.toList P.toList = true then 1 else 0 := by rw [hp, hq]; rfl
  clear hP hQ hp hq
  cases h1 : Op.bytesLess P.toList Q.toList with
  | true =>
    rw [if_pos h1] at hS
    have HS := Lib.hid hS; clear hS
    go_enter Tryz.func22, Tryz.ntmps22
    go_wp2_with fail
    go_ret
    exact ⟨by rw [HS.out]; rfl, rfl⟩
  | false =>
    rw [if_neg (by rw [h1]; simp)] at hS
    cases h2 : Op.bytesLess Q.toList P.toList with
    | true =>
      rw [if_pos h2] at hS
      have hpq : (P.toList == Q.toList) = false := by
        rw [beq_eq_false_iff_ne]; intro e; rw [e, less_self] at h2; cases h2
      have HS := Lib.hid hS; clear hS
      go_enter Tryz.func22, Tryz.ntmps22
      go_wp2_with fail
      go_ret
      exact ⟨by rw [HS.out]; rfl, rfl⟩
    | false =>
      rw [if_neg (by rw [h2]; simp)] at hS
      have hpq : (P.toList == Q.toList) = true := by rw [less_tri _ _ h1 h2]; simp
      have HS := Lib.hid hS; clear hS
      go_enter Tryz.func22, Tryz.ntmps22
      go_wp2_with fail
      go_ret
      exact ⟨by rw [HS.out]; rfl, rfl⟩

set_option maxRecDepth 100000 in
set_option maxHeartbeats 8000000 in
theorem law_order (a : ByteArray) (ha : a.size ≤ 140737488351232) (b : ByteArray) (hb : b.size ≤ 140737488351232) (w : World) (hE : Env w) :
    Calls Tryz.prog 9 #[.string a, .string b] w fun e w' => e = .returned (.bool true) ∧ Below w.heap.size w w' := by
  have k1 := fun w hE => key_any 4 a w hE
  have k2 := fun w hE => key_any 4 b w hE
  have k3 := fun w => opp_any b w (by omega)
  have hol : (oppL b.data.toList).length ≤ b.data.toList.length + 1 := by
    have := bare_length b.data.toList
    unfold oppL
    split
    · omega
    · split
      · omega
      · simp
  rw [← Lib.size_eq] at hol
  have k4 := fun w => add_any a ⟨(oppL b.data.toList).toArray⟩ w (by omega) (by show (oppL b.data.toList).length ≤ _; omega)
  rw [show (ByteArray.mk (oppL b.data.toList).toArray).data.toList = oppL b.data.toList from rfl] at k4
  have hord : ∀ {x y d : List UInt8}, keyL 4 a.data.toList = (x, true) → keyL 4 b.data.toList = (y, true) → addL a.data.toList (oppL b.data.toList) = (d, true) →
      (sgnB x y = if d = [48] then 0 else if neg d = true then -1 else 1) ∧ (d = [48] ↔ a.data.toList = b.data.toList) := fun h1 h2 h3 => num_order h1 h2 h3
  have hdne : ∀ {d : List UInt8}, addL a.data.toList (oppL b.data.toList) = (d, true) → d ≠ [] := fun h e => by
    have := (addL_true h).2.2.1.1.2.1
    rw [e] at this; exact this rfl
  generalize hx : keyL 4 a.data.toList = X at k1 hord
  generalize hy : keyL 4 b.data.toList = Y at k2 hord
  generalize hd : addL a.data.toList (oppL b.data.toList) = D at k4 hord hdne
  clear hx hy hd hol
  generalize oppL b.data.toList = o at k3 k4
  obtain ⟨x, ok⟩ := X
  obtain ⟨y, yes⟩ := Y
  obtain ⟨d, may⟩ := D
  have t1 := fun w => time_any a w (by omega)
  have t2 := fun w => time_any b w (by omega)
  have k5 := fun w hE => key_any 6 a w hE
  have k6 := fun w hE => key_any 6 b w hE
  have r1 := timeL_range a.data.toList
  have r2 := timeL_range b.data.toList
  rw [key_time] at k5 k6
  generalize timeL a.data.toList = T1 at *
  generalize timeL b.data.toList = T2 at *
  obtain ⟨n, r, ta⟩ := T1
  obtain ⟨m, s, tb⟩ := T2
  simp only [] at r1 r2 k5 k6
  simp only [ret2, ret3] at k1 k2 k4 t1 t2
  have ABQ := Lib.hid (show a.data.toList = b.data.toList → a = b from fun e => by rw [← bmk a, ← bmk b, e])
  have HOR := Lib.hid (fun (e1 : ok = true) (e2 : yes = true) (e3 : may = true) => hord (by rw [e1]) (by rw [e2]) (by rw [e3]))
  have HDN := Lib.hid (fun (e3 : may = true) => hdne (by rw [e3]))
  have K1 := Lib.hid k1; have K2 := Lib.hid k2; have K3 := Lib.hid k3; have K4 := Lib.hid k4; have K5 := Lib.hid k5; have K6 := Lib.hid k6; have T1 := Lib.hid t1; have T2 := Lib.hid t2; have R1 := Lib.hid r1; have R2 := Lib.hid r2
  have SG := Lib.hid (fun p q w => sgn_any p q w)
  have HE := Lib.hid hE; have HA := Lib.hid (fun w hE => alive_any w hE)
  have HB := Lib.hid (Below.refl w.heap.size w)
  clear hord hdne k1 k2 k3 k4 k5 k6 t1 t2 r1 r2 hE ha hb
  go_enter Tryz.func9, Tryz.ntmps9
  go_upto_region 4 with (first
    | (go_at_call 10; (first | with_reducible refine (K1.out _ (HE.out.next HB.out)).mono ?_ | with_reducible refine (K2.out _ (HE.out.next HB.out)).mono ?_); rintro e w1 ⟨rfl, hb1⟩; have HB := Lib.hid (bnext HB.out hb1); clear hb1)
    | (go_at_call 21; with_reducible refine (K3.out _).mono ?_; rintro e w2 ⟨rfl, rfl⟩)
    | (go_at_call 15; with_reducible refine (K4.out _).mono ?_; rintro e w3 ⟨rfl, hb3⟩; have HB := Lib.hid (bnext HB.out hb3); clear hb3)
    | fail)
  clear K1 K2 K3 K4
  obtain ⟨wc, hwc⟩ : ∃ wc : World, wc = w3 := ⟨_, rfl⟩
  rw [← hwc] at HB ⊢
  clear hwc
  obtain ⟨F0, hF0⟩ : ∃ F0, (ok && (yes && may)) = F0 := ⟨_, rfl⟩
  have HF0 := Lib.hid hF0; clear hF0
  go_cut [46] (fun c wx => c = .bool F0 ∧ wc = wx)
  case first =>
    have hF0 := HF0.out
    clear HF0
    cases ok <;> cases yes <;> cases may <;> (
      subst hF0
      go_wp2_with fail
      go_meet
      exact ⟨rfl, rfl⟩)
  case rest =>
    obtain ⟨rfl, rfl⟩ := hcut
    go_upto_if 46 with (fail)
    go_cut [11] (fun _ wx => Below w.heap.size w wx)
    case first =>
      have hF0 := HF0.out
      clear HF0
      cases F0 with
      | false => (clear hF0; go_wp2_with fail; go_meet; exact HB.out)
      | true =>
        rw [Bool.and_eq_true, Bool.and_eq_true] at hF0
        obtain ⟨b1, b2, b3⟩ := hF0
        subst b1; subst b2; subst b3
        obtain ⟨o1, o2⟩ := HOR.out rfl rfl rfl
        have hs := fun w => SG.out x y w
        rw [o1] at hs
        clear HOR SG K5 K6 T1 T2 R1 R2 HA
        by_cases hd0 : d = [48]
        · have hab := ABQ.out (o2.1 hd0)
          rw [if_pos hd0] at hs
          have HS := Lib.hid hs; clear hs o1 o2 ABQ HDN
          subst hd0
          subst hab
          go_wp2_with (first
        | (go_at_call 22; with_reducible refine (HS.out _).mono ?_; rintro e w5 ⟨rfl, rfl⟩)
        | fail)
          go_meet
          exact HB.out
        · have hne := HDN.out rfl
          have eab : (a.toList == b.toList) = false := by
            rw [Lib.toList_data, Lib.toList_data]
            have : ¬ a.data.toList = b.data.toList := fun e => hd0 (o2.2 e)
            simpa using this
          rw [if_neg hd0] at hs
          obtain ⟨c, t, rfl⟩ := List.exists_cons_of_ne_nil hne
          have h0b : ((c :: t) == [48]) = false := by simpa using hd0
          have hcb : ∀ h, (ByteArray.mk (c :: t).toArray)[0]'h = c := fun _ => rfl
          have hct : (ByteArray.mk (c :: t).toArray).size = t.length + 1 := rfl
          clear o1 o2 ABQ HDN hne
          by_cases h45 : c = 45
          · subst h45
            rw [if_pos (show neg (45 :: t) = true from rfl)] at hs
            have HS := Lib.hid hs; clear hs hd0
            go_wp2_with (first
        | (go_at_call 22; with_reducible refine (HS.out _).mono ?_; rintro e w5 ⟨rfl, rfl⟩)
        | fail)
            go_meet
            exact HB.out
          · rw [if_neg (by rw [neg_no t h45]; simp)] at hs
            have e45 : ((c.toNat : Int) == 45) = false := by
              rw [beq_eq_false_iff_ne]; exact fun e => h45 (UInt8.toNat_inj.1 (by show c.toNat = 45; omega))
            have HS := Lib.hid hs; clear hs hd0
            go_wp2_with (first
        | (go_at_call 22; with_reducible refine (HS.out _).mono ?_; rintro e w5 ⟨rfl, rfl⟩)
        | fail)
            go_meet
            exact HB.out
    case rest =>
      have HB := Lib.hid hcut; clear hcut HOR HDN ABQ HF0
      have q5 := K5.out
      have q6 := K6.out
      clear K5 K6
      cases ta with
      | false =>
        simp only [Bool.false_eq_true, if_false, ret2] at q5
        have K5 := Lib.hid q5; clear q5
        cases tb with
        | false =>
          simp only [Bool.false_eq_true, if_false, ret2] at q6
          have K6 := Lib.hid q6; clear q6 SG
          go_wp2_with (first
            | (go_at_call 10; (first | with_reducible refine (K5.out _ (HE.out.next HB.out)).mono ?_ | with_reducible refine (K6.out _ (HE.out.next HB.out)).mono ?_); rintro e w5 ⟨rfl, hb5⟩; have HB := Lib.hid (bnext HB.out hb5); clear hb5)
            | (go_at_call 17; (first | with_reducible refine (T1.out _).mono ?_ | with_reducible refine (T2.out _).mono ?_); rintro e w6 ⟨rfl, hb6⟩; have HB := Lib.hid (bnext HB.out hb6); clear hb6)
            | (go_at_call 12; with_reducible refine (HA.out _ (HE.out.next HB.out)).mono ?_; rintro e w8 ⟨rfl, hb8⟩; have HB := Lib.hid (bnext HB.out hb8); clear hb8)
            | fail)
          go_ret
          exact ⟨rfl, HB.out⟩
        | true =>
          simp only [if_true, ret2] at q6
          have K6 := Lib.hid q6; clear q6 SG
          go_wp2_with (first
            | (go_at_call 10; (first | with_reducible refine (K5.out _ (HE.out.next HB.out)).mono ?_ | with_reducible refine (K6.out _ (HE.out.next HB.out)).mono ?_); rintro e w5 ⟨rfl, hb5⟩; have HB := Lib.hid (bnext HB.out hb5); clear hb5)
            | (go_at_call 17; (first | with_reducible refine (T1.out _).mono ?_ | with_reducible refine (T2.out _).mono ?_); rintro e w6 ⟨rfl, hb6⟩; have HB := Lib.hid (bnext HB.out hb6); clear hb6)
            | (go_at_call 12; with_reducible refine (HA.out _ (HE.out.next HB.out)).mono ?_; rintro e w8 ⟨rfl, hb8⟩; have HB := Lib.hid (bnext HB.out hb8); clear hb8)
            | fail)
          go_ret
          exact ⟨rfl, HB.out⟩
      | true =>
        simp only [if_true, ret2] at q5
        have K5 := Lib.hid q5; clear q5
        cases tb with
        | false =>
          simp only [Bool.false_eq_true, if_false, ret2] at q6
          have K6 := Lib.hid q6; clear q6 SG
          go_wp2_with (first
            | (go_at_call 10; (first | with_reducible refine (K5.out _ (HE.out.next HB.out)).mono ?_ | with_reducible refine (K6.out _ (HE.out.next HB.out)).mono ?_); rintro e w5 ⟨rfl, hb5⟩; have HB := Lib.hid (bnext HB.out hb5); clear hb5)
            | (go_at_call 17; (first | with_reducible refine (T1.out _).mono ?_ | with_reducible refine (T2.out _).mono ?_); rintro e w6 ⟨rfl, hb6⟩; have HB := Lib.hid (bnext HB.out hb6); clear hb6)
            | (go_at_call 12; with_reducible refine (HA.out _ (HE.out.next HB.out)).mono ?_; rintro e w8 ⟨rfl, hb8⟩; have HB := Lib.hid (bnext HB.out hb8); clear hb8)
            | fail)
          go_ret
          exact ⟨rfl, HB.out⟩
        | true =>
          simp only [if_true, ret2] at q6
          obtain ⟨r10, r11⟩ := R1.out rfl
          obtain ⟨r20, r21⟩ := R2.out rfl
          have hmo := moment_order (r := r) (s := s) r10 r11 r20 r21
          have s1 := fun w => SG.out r s w
          have s2 := fun w => SG.out (momentL n r) (momentL m s) w
          rw [hmo] at s2
          generalize sgnB r s = S at s1 s2
          generalize momentL n r = U at K5 s2
          generalize momentL m s = V at q6 s2
          have K6 := Lib.hid q6; have S1 := Lib.hid s1; clear q6 s1 SG hmo R1 R2
          rcases (show n = m ∨ n < m ∨ m < n by omega) with h | h | h
          · subst h
            rw [if_neg (by simp)] at s2
            have S2 := Lib.hid s2; clear s2
            go_wp2_with (first
              | (go_at_call 10; (first | with_reducible refine (K5.out _ (HE.out.next HB.out)).mono ?_ | with_reducible refine (K6.out _ (HE.out.next HB.out)).mono ?_); rintro e w5 ⟨rfl, hb5⟩; have HB := Lib.hid (bnext HB.out hb5); clear hb5)
              | (go_at_call 17; (first | with_reducible refine (T1.out _).mono ?_ | with_reducible refine (T2.out _).mono ?_); rintro e w6 ⟨rfl, hb6⟩; have HB := Lib.hid (bnext HB.out hb6); clear hb6)
              | (go_at_call 22; (first | with_reducible refine (S1.out _).mono ?_ | with_reducible refine (S2.out _).mono ?_); rintro e w7 ⟨rfl, rfl⟩)
              | (go_at_call 12; with_reducible refine (HA.out _ (HE.out.next HB.out)).mono ?_; rintro e w8 ⟨rfl, hb8⟩; have HB := Lib.hid (bnext HB.out hb8); clear hb8)
              | fail)
            go_ret
            exact ⟨rfl, HB.out⟩
          · rw [if_pos (show n ≠ m by omega), if_pos h] at s2
            have S2 := Lib.hid s2; clear s2
            have hne : (n != m) = true := by rw [bne_iff_ne]; omega
            go_wp2_with (first
              | (go_at_call 10; (first | with_reducible refine (K5.out _ (HE.out.next HB.out)).mono ?_ | with_reducible refine (K6.out _ (HE.out.next HB.out)).mono ?_); rintro e w5 ⟨rfl, hb5⟩; have HB := Lib.hid (bnext HB.out hb5); clear hb5)
              | (go_at_call 17; (first | with_reducible refine (T1.out _).mono ?_ | with_reducible refine (T2.out _).mono ?_); rintro e w6 ⟨rfl, hb6⟩; have HB := Lib.hid (bnext HB.out hb6); clear hb6)
              | (go_at_call 22; (first | with_reducible refine (S1.out _).mono ?_ | with_reducible refine (S2.out _).mono ?_); rintro e w7 ⟨rfl, rfl⟩)
              | (go_at_call 12; with_reducible refine (HA.out _ (HE.out.next HB.out)).mono ?_; rintro e w8 ⟨rfl, hb8⟩; have HB := Lib.hid (bnext HB.out hb8); clear hb8)
              | fail)
            go_ret
            exact ⟨rfl, HB.out⟩
          · rw [if_pos (show n ≠ m by omega), if_neg (show ¬ n < m by omega)] at s2
            have S2 := Lib.hid s2; clear s2
            have hne : (n != m) = true := by rw [bne_iff_ne]; omega
            have hnl : ¬ n < m := by omega
            go_wp2_with (first
              | (go_at_call 10; (first | with_reducible refine (K5.out _ (HE.out.next HB.out)).mono ?_ | with_reducible refine (K6.out _ (HE.out.next HB.out)).mono ?_); rintro e w5 ⟨rfl, hb5⟩; have HB := Lib.hid (bnext HB.out hb5); clear hb5)
              | (go_at_call 17; (first | with_reducible refine (T1.out _).mono ?_ | with_reducible refine (T2.out _).mono ?_); rintro e w6 ⟨rfl, hb6⟩; have HB := Lib.hid (bnext HB.out hb6); clear hb6)
              | (go_at_call 22; (first | with_reducible refine (S1.out _).mono ?_ | with_reducible refine (S2.out _).mono ?_); rintro e w7 ⟨rfl, rfl⟩)
              | (go_at_call 12; with_reducible refine (HA.out _ (HE.out.next HB.out)).mono ?_; rintro e w8 ⟨rfl, hb8⟩; have HB := Lib.hid (bnext HB.out hb8); clear hb8)
              | fail)
            go_ret
            exact ⟨rfl, HB.out⟩
end Go.Proofs.YtpnnbffhdhbonaaGreatDoor
