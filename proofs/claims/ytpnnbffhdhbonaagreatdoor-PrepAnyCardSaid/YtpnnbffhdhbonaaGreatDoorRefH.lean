/- rosterref03.behind: what stands behind a second. -/
import Derived.Test.YtpnnbffhdhbonaaGreatDoorRefT
import Derived.Test.YtpnnbffhdhbonaaGreatDoorTimeTail
import Derived.Deep.CutRange
import Derived.Deep.CutBlock
import Derived.Deep.DeepCutAuto
namespace Go.Proofs.YtpnnbffhdhbonaaGreatDoor
open Go Go.RowKit

/-- how many digits stand ahead -/
def digN : List UInt8 → Nat
  | [] => 0
  | b :: l => if dig b = true then digN l + 1 else 0
theorem digN_le : ∀ l, digN l ≤ l.length
  | [] => Nat.le_refl _
  | b :: l => by
    show (if dig b = true then digN l + 1 else 0) ≤ l.length + 1
    have := digN_le l
    split <;> omega
theorem digits10_dig (b : UInt8) : digits10.contains b = dig b := by
  have h : ∀ n, n < 256 → (digits10.contains (UInt8.ofNat n) == dig (UInt8.ofNat n)) = true := by decide +kernel
  have := h b.toNat b.toNat_lt
  rw [UInt8.ofNat_toNat] at this
  simpa using this
theorem trimLeft_digN : ∀ l : List UInt8, Lib.trimLeftS l digits10 = l.drop (digN l)
  | [] => rfl
  | b :: l => by
    have ih := trimLeft_digN l
    show (b :: l).dropWhile (digits10.contains ·) = (b :: l).drop (if dig b = true then digN l + 1 else 0)
    rw [List.dropWhile_cons, digits10_dig]
    cases dig b with
    | true => rw [if_pos rfl, if_pos rfl]; exact ih
    | false => rw [if_neg (by simp), if_neg (by simp)]; rfl
theorem frac_eq (c : UInt8) (r : List UInt8) : fracT (c :: r) = if c = 46 ∨ c = 44 then (if digN r < 1 ∨ 9 < digN r then none else some (Lib.trimRightB (r.take (digN r)) 48, r.drop (digN r))) else some ([], c :: r) := by
  have h : r.length - (Lib.trimLeftS r digits10).length = digN r := by
    have := digN_le r
    rw [trimLeft_digN, List.length_drop]; omega
  show (if c = 46 ∨ c = 44 then (if r.length - (Lib.trimLeftS r digits10).length < 1 ∨ 9 < r.length - (Lib.trimLeftS r digits10).length then none
       else some (Lib.trimRightB (r.take (r.length - (Lib.trimLeftS r digits10).length)) 48, Lib.trimLeftS r digits10)) else some ([], c :: r)) = _
  rw [h, trimLeft_digN]
/-- what is told behind a second -/
def behindL (t : List UInt8) : List UInt8 × Int × Bool := match fracT t with
  | none => ([], 0, false)
  | some (rest, z) => if (zoneL z).2 = true then (rest, (zoneL z).1, true) else ([], 0, false)
def retB (p : List UInt8 × Int × Bool) : Value := .tuple #[.string ⟨p.1.toArray⟩, .int .i64 p.2.1, .bool p.2.2]
theorem trimR_snoc48 (l : List UInt8) : Lib.trimRightB (l ++ [48]) 48 = Lib.trimRightB l 48 := by
  show (Lib.trimLeftB (l ++ [48]).reverse 48).reverse = (Lib.trimLeftB l.reverse 48).reverse
  rw [List.reverse_append]; rfl
theorem trimR_stop (l : List UInt8) (c : UInt8) (h : c ≠ 48) : Lib.trimRightB (l ++ [c]) 48 = l ++ [c] := by
  show (Lib.trimLeftB (l ++ [c]).reverse 48).reverse = _
  rw [List.reverse_append]
  show (List.dropWhile (· == 48) (c :: l.reverse)).reverse = _
  rw [List.dropWhile_cons, if_neg (by simpa using h)]
  simp

theorem zoneL_5 (p a b c d : UInt8) : zoneL [p, a, b, c, d] = if p = 43 ∨ p = 45 then
      (if pairL [a, b] < 0 ∨ 23 < pairL [a, b] ∨ pairL [c, d] < 0 ∨ 59 < pairL [c, d] then (0, false)
       else if p = 45 then (- pairL [a, b] * 60 - pairL [c, d], true) else (pairL [a, b] * 60 + pairL [c, d], true)) else (0, false) := by
  unfold zoneL
  split
  · rename_i e; simp at e
  · rename_i e; simp only [List.cons.injEq] at e; obtain ⟨rfl, rfl, rfl, rfl, rfl, _⟩ := e; rfl
  · rename_i h; exact absurd rfl (h _ _ _ _ _)
def lenS : Value → Nat | .string s => s.size | _ => 0
theorem digN_at (s : ByteArray) {i : Nat} (h : i < s.size) : digN (s.data.toList.drop i) = if dig (s[i]) = true then digN (s.data.toList.drop (i + 1)) + 1 else 0 := by
  rw [drop_at s h]; rfl

set_option maxRecDepth 100000 in
set_option maxHeartbeats 4000000 in
theorem rbehind_any (s : ByteArray) (w : World) (hs : s.size ≤ 65536) :
    Calls Tryz.prog 54 #[.string s] w fun e w' => e = .returned (retB (behindL s.data.toList)) ∧ Below w.heap.size w w' := by
  have hl : s.data.toList.length = s.size := by simp
  obtain ⟨F, hF⟩ : ∃ F, F = behindL s.data.toList := ⟨_, rfl⟩
  rw [← hF]
  have hB : fracT s.data.toList = none → F = ([], 0, false) := fun h => by rw [hF]; unfold behindL; rw [h]
  have hG : ∀ rest z, fracT s.data.toList = some (rest, z) → F = if (zoneL z).2 = true then (rest, (zoneL z).1, true) else ([], 0, false) := fun rest z h => by rw [hF]; unfold behindL; rw [h]
  have hF0 : ∃ F0 : Bool, (F0 = false ∧ fracT s.data.toList = some ([], s.data.toList)) ∨ (F0 = true ∧ ∃ (h : 0 < s.size) (c : UInt8), s[0]'h = c ∧ (c = 46 ∨ c = 44) ∧
      fracT s.data.toList = if digN (s.data.toList.drop 1) < 1 ∨ 9 < digN (s.data.toList.drop 1) then none else some (Lib.trimRightB ((s.data.toList.drop 1).take (digN (s.data.toList.drop 1))) 48, (s.data.toList.drop 1).drop (digN (s.data.toList.drop 1)))) := by
    by_cases h0 : 0 < s.size
    · have hd := drop_at s h0
      rw [List.drop_zero] at hd
      by_cases hc : s[0] = 46 ∨ s[0] = 44
      · refine ⟨true, .inr ⟨rfl, h0, _, rfl, hc, ?_⟩⟩
        rw [hd, frac_eq, if_pos hc]; rfl
      · refine ⟨false, .inl ⟨rfl, ?_⟩⟩
        rw [hd, frac_eq, if_neg hc]
    · refine ⟨false, .inl ⟨rfl, ?_⟩⟩
      have : s.data.toList = [] := by rw [← List.length_eq_zero_iff, hl]; omega
      rw [this]; rfl
  obtain ⟨F0, hF0⟩ := hF0
  have HF0 := Lib.hid hF0; have HBD := Lib.hid hB; have HGD := Lib.hid hG; have HL := Lib.hid hl; clear hF hB hG hl hF0
  go_enter Tryz.func54, Tryz.ntmps54
  go_upto_region 2 with (fail)
  go_cut [21] (fun b wx => b = .bool F0 ∧ w = wx)
  case first =>
    rcases HF0.out with ⟨h1, h2⟩ | ⟨h1, h0, c, hc0, hc, h2⟩
    · subst h1
      by_cases h0 : 0 < s.size
      · have i0 : (0 : Int) < s.size := by omega
        have hn : s[0] ≠ 46 ∧ s[0] ≠ 44 := by
          have hd := drop_at s h0
          rw [List.drop_zero] at hd
          refine ⟨fun e => ?_, fun e => ?_⟩ <;> (
            rw [hd, frac_eq, if_pos (by rw [e]; simp)] at h2
            split at h2
            · cases h2
            · rw [Option.some.injEq, Prod.mk.injEq] at h2
              have h3 := congrArg List.length h2.2
              rw [List.length_drop, List.length_cons] at h3
              omega)
        obtain ⟨n1, n2⟩ := hn
        generalize hb : s[0] = b at n1 n2
        have e1 : ((b.toNat : Int) == 46) = false := by rw [beq_eq_false_iff_ne]; exact fun e => n1 (UInt8.toNat_inj.1 (by show b.toNat = 46; omega))
        have e2 : ((b.toNat : Int) == 44) = false := by rw [beq_eq_false_iff_ne]; exact fun e => n2 (UInt8.toNat_inj.1 (by show b.toNat = 44; omega))
        clear h2 n1 n2
        go_wp2_with fail
        go_meet
        exact ⟨rfl, rfl⟩
      · have i0 : s.size = 0 := by omega
        clear h2
        go_wp2_with fail
        go_meet
        exact ⟨rfl, rfl⟩
    · subst h1
      have i0 : (0 : Int) < s.size := by omega
      clear h2
      rcases hc with rfl | rfl <;> (
        go_wp2_with fail
        go_meet
        exact ⟨rfl, rfl⟩)
  case rest =>
    obtain ⟨rfl, rfl⟩ := hcut
    go_upto_if 21 with (fail)
    go_cut [0, 5] (fun a b wx => ∃ R z : List UInt8, a = .string ⟨z.toArray⟩ ∧ b = .string ⟨R.toArray⟩ ∧ R.length ≤ 65536 ∧ z.length ≤ 65536 ∧ fracT s.data.toList = some (Lib.trimRightB R 48, z) ∧ w = wx)
    case first =>
      rcases HF0.out with ⟨h1, h2⟩ | ⟨h1, h0, c, hc0, hc, h2⟩
      · subst h1
        have H2 := Lib.hid h2; clear h2
        go_wp2_with fail
        go_meet
        exact ⟨[], s.data.toList, by rw [bmk s], rfl, by simp, by rw [HL.out]; omega, H2.out, rfl⟩
      · subst h1
        clear hc0 hc HF0
        have H2 := Lib.hid h2; clear h2
        go_wp2_with fail
        go_loopw [6] (fun nv wx => ∃ i : Nat, nv = .int .i64 i ∧ 1 ≤ i ∧ i ≤ s.size ∧ w = wx ∧ digN (s.data.toList.drop 1) = (i - 1) + digN (s.data.toList.drop i)) (fun nv _ => s.size - (intOf nv).toNat)
        case atStart => exact ⟨1, rfl, Nat.le_refl _, by omega, rfl, by simp⟩
        case round =>
          obtain ⟨i, rfl, hi0, hi1, rfl, hdn⟩ := hrel
          have i1 : ¬ i < 1 := by omega
          by_cases hlt : i < s.size
          · have i2 : (i : Int) < s.size := by omega
            rw [digN_at s hlt] at hdn
            have HD := Lib.hid (fun w => rdigit_any (s[i]'hlt) w)
            generalize hsb : s[i]'hlt = b at hdn HD
            cases hd : dig b with
            | true =>
              rw [hd] at HD; rw [hd, if_pos rfl] at hdn
              have HN := Lib.hid hdn; clear hdn hd
              go_wp2_with (first
                | (go_at_call 74; with_reducible refine (HD.out _).mono ?_; rintro e w2 ⟨rfl, rfl⟩)
                | fail)
              exact ⟨⟨i + 1, rfl, by omega, by omega, trivial, by rw [HN.out]; omega⟩, by simp [intOf]; omega⟩
            | false =>
              rw [hd] at HD; rw [hd, if_neg (by simp), Nat.add_zero] at hdn
              have hcnt := hdn
              clear hdn hd
              have HCN := Lib.hid hcnt; clear hcnt
              by_cases b2 : i < 2
              · have b2i : (i : Int) < 2 := by omega
                have HF := Lib.hid (HBD.out (H2.out.trans (if_pos (by rw [HCN.out]; omega))))
                go_wp2_with (first
                  | (go_at_call 74; with_reducible refine (HD.out _).mono ?_; rintro e w2 ⟨rfl, rfl⟩)
                  | fail)
                go_ret3
                exact ⟨by rw [HF.out]; rfl, Below.refl _ _⟩
              have b2i : ¬ (i : Int) < 2 := by omega
              by_cases b10 : 10 < i
              · have b10i : (10 : Int) < i := by omega
                have HF := Lib.hid (HBD.out (H2.out.trans (if_pos (by rw [HCN.out]; omega))))
                go_wp2_with (first
                  | (go_at_call 74; with_reducible refine (HD.out _).mono ?_; rintro e w2 ⟨rfl, rfl⟩)
                  | fail)
                go_ret3
                exact ⟨by rw [HF.out]; rfl, Below.refl _ _⟩
              have b10i : ¬ (10 : Int) < i := by omega
              have hfr := H2.out.trans (if_neg (by rw [HCN.out]; omega))
              rw [HCN.out, List.drop_drop, show 1 + (i - 1) = i by omega] at hfr
              obtain ⟨R, hR⟩ : ∃ R, R = (s.data.toList.drop 1).take (i - 1) := ⟨_, rfl⟩
              have x1 : s.extract 1 i = ⟨R.toArray⟩ := by rw [hR]; exact Lib.extract_eq _ _ _
              have hRl : R.length ≤ 65536 := by rw [hR, List.length_take]; omega
              rw [← hR] at hfr
              have x2 : s.extract i s.size = ⟨(s.data.toList.drop i).toArray⟩ := by rw [Lib.extract_eq, List.take_of_length_le (by rw [List.length_drop, HL.out]; omega)]
              have hi2 : (i : Int) ≤ s.size := by omega
              have hi3 : (1 : Int) ≤ i := by omega
              have HFR := Lib.hid hfr; clear hfr hR
              go_wp2_with (first
                  | (go_at_call 74; with_reducible refine (HD.out _).mono ?_; rintro e w2 ⟨rfl, rfl⟩)
                  | fail)
              go_meet
              exact ⟨_, _, rfl, rfl, hRl, by rw [List.length_drop, HL.out]; omega, HFR.out, rfl⟩
          · have i2 : ¬ (i : Int) < s.size := by omega
            have hcnt : digN (s.data.toList.drop 1) = i - 1 := by rw [hdn, drop_end s hlt]; rfl
            clear hdn
            have HCN := Lib.hid hcnt; clear hcnt
            by_cases b2 : i < 2
            · have b2i : (i : Int) < 2 := by omega
              have HF := Lib.hid (HBD.out (H2.out.trans (if_pos (by rw [HCN.out]; omega))))
              go_wp2_with fail
              go_ret3
              exact ⟨by rw [HF.out]; rfl, Below.refl _ _⟩
            have b2i : ¬ (i : Int) < 2 := by omega
            by_cases b10 : 10 < i
            · have b10i : (10 : Int) < i := by omega
              have HF := Lib.hid (HBD.out (H2.out.trans (if_pos (by rw [HCN.out]; omega))))
              go_wp2_with fail
              go_ret3
              exact ⟨by rw [HF.out]; rfl, Below.refl _ _⟩
            have b10i : ¬ (10 : Int) < i := by omega
            have hfr := H2.out.trans (if_neg (by rw [HCN.out]; omega))
            rw [HCN.out, List.drop_drop, show 1 + (i - 1) = i by omega] at hfr
            obtain ⟨R, hR⟩ : ∃ R, R = (s.data.toList.drop 1).take (i - 1) := ⟨_, rfl⟩
            have x1 : s.extract 1 i = ⟨R.toArray⟩ := by rw [hR]; exact Lib.extract_eq _ _ _
            have hRl : R.length ≤ 65536 := by rw [hR, List.length_take]; omega
            rw [← hR] at hfr
            have x2 : s.extract i s.size = ⟨(s.data.toList.drop i).toArray⟩ := by rw [Lib.extract_eq, List.take_of_length_le (by rw [List.length_drop, HL.out]; omega)]
            have hi2 : (i : Int) ≤ s.size := by omega
            have hi3 : (1 : Int) ≤ i := by omega
            have HFR := Lib.hid hfr; clear hfr hR
            go_wp2_with fail
            go_meet
            exact ⟨_, _, rfl, rfl, hRl, by rw [List.length_drop, HL.out]; omega, HFR.out, rfl⟩
    case rest =>
      obtain ⟨R, z, rfl, rfl, hR, hz, hfr, rfl⟩ := hcut
      have hFz := HGD.out _ _ hfr
      clear HF0 HBD HGD
      generalize hT : Lib.trimRightB R 48 = T at hfr hFz
      have HT := Lib.hid hT; clear hT
      obtain ⟨Z, hZ⟩ : ∃ Z : ByteArray, Z = ⟨z.toArray⟩ := ⟨_, rfl⟩
      rw [← hZ]
      have HFZ := Lib.hid (And.intro hFz hZ); clear hFz hZ
      go_upto_block 2 with (fail)
      go_cut [5] (fun b wx => b = .string ⟨T.toArray⟩ ∧ w = wx)
      case first =>
        clear HFZ
        go_wp2_with fail
        go_loopw [5] (fun b wx => ∃ q : List UInt8, b = .string ⟨q.toArray⟩ ∧ q.length ≤ 65536 ∧ T = Lib.trimRightB q 48 ∧ w = wx) (fun b _ => lenS b)
        case atStart => exact ⟨R, rfl, hR, HT.out.symm, rfl⟩
        case round =>
          obtain ⟨q, rfl, hq, hTq, rfl⟩ := hrel
          by_cases hn : q = []
          · subst hn
            have HTQ := Lib.hid (show T = [] from hTq); clear hTq
            go_wp2_with fail
            go_meet
            exact ⟨by rw [HTQ.out], rfl⟩
          · obtain ⟨u, d, hu⟩ : ∃ u d, q = u ++ [d] := ⟨q.dropLast, q.getLast hn, (List.dropLast_concat_getLast hn).symm⟩
            obtain ⟨Q, hQ⟩ : ∃ Q : ByteArray, Q = ⟨q.toArray⟩ := ⟨_, rfl⟩
            have hQs : Q.size = u.length + 1 := by rw [hQ, hu]; show (u ++ [d]).length = _; rw [List.length_append]; rfl
            have hul : u.length + 1 ≤ 65536 := by rw [hu, List.length_append] at hq; simpa using hq
            have hQd : ∀ h, Q[u.length]'h = d := by rw [hQ, hu]; intro h; show (u ++ [d])[u.length]'_ = d; simp
            have hQx : Q.extract 0 u.length = ⟨u.toArray⟩ := by rw [hQ, hu, Lib.extract_eq]; simp
            rw [← hQ]
            by_cases h48 : d = 48
            · have e48 : ((d.toNat : Int) == 48) = true := by rw [h48]; rfl
              have HTQ := Lib.hid (show T = Lib.trimRightB u 48 by rw [hTq, hu, h48, trimR_snoc48])
              clear hTq hu hn h48 hQ
              go_wp2_with fail
              exact ⟨⟨u, rfl, by omega, HTQ.out, trivial⟩, by show u.length < Q.size; rw [hQs]; omega⟩
            · have e48 : ((d.toNat : Int) == 48) = false := by rw [beq_eq_false_iff_ne]; exact fun e => h48 (UInt8.toNat_inj.1 (by show d.toNat = 48; omega))
              have HTQ := Lib.hid (show Q = ⟨T.toArray⟩ by rw [hTq, hQ, hu, trimR_stop u d h48])
              clear hTq hu hn h48 hQ
              go_wp2_with fail
              go_meet
              exact ⟨by rw [HTQ.out], rfl⟩
      case rest =>
        obtain ⟨rfl, rfl⟩ := hcut
        obtain ⟨hFz, hZ⟩ := HFZ.out
        clear HFZ HT
        by_cases hz90 : z = [90]
        · have HF := Lib.hid (show F = (T, 0, true) by rw [hFz, hz90]; rfl)
          subst hz90
          clear hFz
          go_wp2_with fail
          go_ret3
          exact ⟨by rw [HF.out]; rfl, Below.refl _ _⟩
        have hzb : (Z.toList == [90]) = false := by
          rw [Lib.toList_data, hZ]
          simpa using hz90
        by_cases h5 : z.length = 5
        · obtain ⟨p, a, b, c, d, hz5⟩ : ∃ p a b c d, z = [p, a, b, c, d] := by
            match z, h5 with
            | [p, a, b, c, d], _ => exact ⟨p, a, b, c, d, rfl⟩
          have hsz : Z.size = 5 := by rw [hZ, hz5]; rfl
          have g0 : ∀ h, Z[0]'h = p := by subst hz5; subst hZ; intro h; rfl
          have x1 : Z.extract 1 3 = ⟨#[a, b]⟩ := by rw [hZ, hz5, Lib.extract_eq]; rfl
          have x2 : Z.extract 3 5 = ⟨#[c, d]⟩ := by rw [hZ, hz5, Lib.extract_eq]; rfl
          have t1 : ∀ w, Calls Tryz.prog 52 #[.string ⟨#[a, b]⟩] w fun e w' => e = .returned (.int .i64 (pairL [a, b])) ∧ Below w.heap.size w w' := fun w => rtwo_any ⟨#[a, b]⟩ w (show 2 ≤ 140737488355327 by decide)
          have t2 : ∀ w, Calls Tryz.prog 52 #[.string ⟨#[c, d]⟩] w fun e w' => e = .returned (.int .i64 (pairL [c, d])) ∧ Below w.heap.size w w' := fun w => rtwo_any ⟨#[c, d]⟩ w (show 2 ≤ 140737488355327 by decide)
          obtain ⟨r1, r2⟩ := pairL_range a b
          obtain ⟨r3, r4⟩ := pairL_range c d
          have hne : ∀ (x y : UInt8), x ≠ y → ¬ (x.toNat : Int) = (y.toNat : Int) := fun x y h e => h (UInt8.toNat_inj.1 (by omega))
          by_cases hp : p = 43 ∨ p = 45
          · have hzb2 : (pairL [a, b] < 0 ∨ 23 < pairL [a, b] ∨ pairL [c, d] < 0 ∨ 59 < pairL [c, d]) → F = ([], 0, false) := fun h => by
              rw [hFz, hz5, zoneL_5, if_pos hp, if_pos h]; rfl
            have hzg : ¬ (pairL [a, b] < 0 ∨ 23 < pairL [a, b] ∨ pairL [c, d] < 0 ∨ 59 < pairL [c, d]) → F = (T, if p = 45 then -60 * pairL [a, b] - pairL [c, d] else 60 * pairL [a, b] + pairL [c, d], true) := fun h => by
              rw [hFz, hz5, zoneL_5, if_pos hp, if_neg h]
              by_cases h45 : p = 45
              · rw [if_pos h45, if_pos h45]; simp only [if_true]; congr 2; omega
              · rw [if_neg h45, if_neg h45]; simp only [if_true]; congr 2; omega
            generalize pairL [a, b] = H at *
            generalize pairL [c, d] = M at *
            have HZb := Lib.hid hzb2; have HZg := Lib.hid hzg; have T1 := Lib.hid t1; have T2 := Lib.hid t2
            clear hzb2 hzg t1 t2 hFz hz90 h5 hz5 hZ hz hne hfr
            rcases hp with rfl | rfl
            · by_cases hbad : H < 0 ∨ 23 < H ∨ M < 0 ∨ 59 < M
              · have HF := Lib.hid (HZb.out hbad)
                rcases (show H < 0 ∨ (0 ≤ H ∧ 23 < H) ∨ (0 ≤ H ∧ H ≤ 23 ∧ M < 0) ∨ (0 ≤ H ∧ H ≤ 23 ∧ 0 ≤ M ∧ 59 < M) by omega) with q | ⟨q1, q2⟩ | ⟨q1, q2, q3⟩ | ⟨q1, q2, q3, q4⟩ <;> (
                  clear hbad HZb HZg
                  go_wp2_with (first
                    | (go_at_call 52; with_reducible refine (T1.out _).mono ?_; rintro e w3 ⟨rfl, hb3⟩; have HB3 := Lib.hid hb3; clear hb3)
                    | (go_at_call 52; with_reducible refine (T2.out _).mono ?_; rintro e w4 ⟨rfl, hb4⟩; have HB4 := Lib.hid (bnext HB3.out hb4); clear hb4)
                    | fail)
                  go_ret3
                  exact ⟨by rw [HF.out]; rfl, HB4.out⟩)
              · have HF := Lib.hid (HZg.out hbad)
                have q1 : 0 ≤ H := by omega
                have q2 : H ≤ 23 := by omega
                have q3 : 0 ≤ M := by omega
                have q4 : M ≤ 59 := by omega
                clear hbad HZb HZg
                go_wp2_with (first
                  | (go_at_call 52; with_reducible refine (T1.out _).mono ?_; rintro e w3 ⟨rfl, hb3⟩; have HB3 := Lib.hid hb3; clear hb3)
                  | (go_at_call 52; with_reducible refine (T2.out _).mono ?_; rintro e w4 ⟨rfl, hb4⟩; have HB4 := Lib.hid (bnext HB3.out hb4); clear hb4)
                  | fail)
                go_ret3
                exact ⟨by rw [HF.out]; rfl, HB4.out⟩
            · by_cases hbad : H < 0 ∨ 23 < H ∨ M < 0 ∨ 59 < M
              · have HF := Lib.hid (HZb.out hbad)
                rcases (show H < 0 ∨ (0 ≤ H ∧ 23 < H) ∨ (0 ≤ H ∧ H ≤ 23 ∧ M < 0) ∨ (0 ≤ H ∧ H ≤ 23 ∧ 0 ≤ M ∧ 59 < M) by omega) with q | ⟨q1, q2⟩ | ⟨q1, q2, q3⟩ | ⟨q1, q2, q3, q4⟩ <;> (
                  clear hbad HZb HZg
                  go_wp2_with (first
                    | (go_at_call 52; with_reducible refine (T1.out _).mono ?_; rintro e w3 ⟨rfl, hb3⟩; have HB3 := Lib.hid hb3; clear hb3)
                    | (go_at_call 52; with_reducible refine (T2.out _).mono ?_; rintro e w4 ⟨rfl, hb4⟩; have HB4 := Lib.hid (bnext HB3.out hb4); clear hb4)
                    | fail)
                  go_ret3
                  exact ⟨by rw [HF.out]; rfl, HB4.out⟩)
              · have HF := Lib.hid (HZg.out hbad)
                have q1 : 0 ≤ H := by omega
                have q2 : H ≤ 23 := by omega
                have q3 : 0 ≤ M := by omega
                have q4 : M ≤ 59 := by omega
                clear hbad HZb HZg
                go_wp2_with (first
                  | (go_at_call 52; with_reducible refine (T1.out _).mono ?_; rintro e w3 ⟨rfl, hb3⟩; have HB3 := Lib.hid hb3; clear hb3)
                  | (go_at_call 52; with_reducible refine (T2.out _).mono ?_; rintro e w4 ⟨rfl, hb4⟩; have HB4 := Lib.hid (bnext HB3.out hb4); clear hb4)
                  | fail)
                go_ret3
                exact ⟨by rw [HF.out]; rfl, HB4.out⟩
          · have p1 : ((p.toNat : Int) != 43) = true := by simpa using hne p 43 (fun e => hp (.inl e))
            have p2 : ((p.toNat : Int) != 45) = true := by simpa using hne p 45 (fun e => hp (.inr e))
            have HF := Lib.hid (show F = ([], 0, false) by
              rw [hFz, hz5, zoneL_5, if_neg hp]; rfl)
            clear hne hp hFz hz90 h5 hz5 hZ hz hfr t1 t2
            go_wp2_with fail
            go_ret3
            exact ⟨by rw [HF.out]; rfl, Below.refl _ _⟩
        · have HF := Lib.hid (show F = ([], 0, false) by
            rw [hFz, show zoneL z = (0, false) by
              unfold zoneL
              split
              · exact absurd rfl hz90
              · exact absurd rfl h5
              · rfl]; rfl)
          have g : ¬ (Z.size : Int) = 5 := by rw [hZ]; show ¬ (z.length : Int) = 5; omega
          have g2 : ((Z.size : Int) != 5) = true := by rw [bne_iff_ne]; exact g
          clear hFz hz90 h5 hZ hz hfr
          go_wp2_with fail
          go_ret3
          exact ⟨by rw [HF.out]; rfl, Below.refl _ _⟩
end Go.Proofs.YtpnnbffhdhbonaaGreatDoor
