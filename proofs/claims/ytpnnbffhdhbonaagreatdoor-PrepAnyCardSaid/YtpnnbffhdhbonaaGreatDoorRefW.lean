/- rosterref03.Word: a type's word. -/
import Derived.Test.YtpnnbffhdhbonaaGreatDoorRefB
import Derived.Test.YtpnnbffhdhbonaaGreatDoorOid
namespace Go.Proofs.YtpnnbffhdhbonaaGreatDoor
open Go Go.RowKit

theorem cutAt_cons (c b : UInt8) (l : List UInt8) : cutAt c (b :: l) = if b = c then [] :: cutAt c l else match cutAt c l with
    | [] => [[b]]
    | r :: rs => (b :: r) :: rs := rfl
theorem cut_mem (c : UInt8) : ∀ (v : List UInt8), ∀ x ∈ v, x = c ∨ ∃ r ∈ cutAt c v, x ∈ r
  | b :: l, x, hx => by
    rw [cutAt_cons]
    by_cases h : b = c
    · rw [if_pos h]
      rcases List.mem_cons.1 hx with rfl | hx
      · exact .inl h
      · rcases cut_mem c l x hx with h1 | ⟨r, h1, h2⟩
        · exact .inl h1
        · exact .inr ⟨r, List.mem_cons_of_mem _ h1, h2⟩
    · rw [if_neg h]
      obtain ⟨r', rs', hc⟩ := cutAt_ne c l
      rw [hc]
      rcases List.mem_cons.1 hx with rfl | hx
      · exact .inr ⟨x :: r', by simp, by simp⟩
      · rcases cut_mem c l x hx with h1 | ⟨r, h1, h2⟩
        · exact .inl h1
        · rw [hc] at h1
          rcases List.mem_cons.1 h1 with rfl | h1
          · exact .inr ⟨b :: r, by simp, List.mem_cons_of_mem _ h2⟩
          · exact .inr ⟨r, List.mem_cons_of_mem _ h1, h2⟩
theorem row_dig {r : List UInt8} (h : rowOk r = true) : ∀ x ∈ r, dig x = true := by
  cases r with
  | nil => cases h
  | cons b l =>
    have h' : ((b :: l).all dig && !(b == 48 && !l.isEmpty)) = true := h
    rw [Bool.and_eq_true] at h'
    exact List.all_eq_true.1 h'.1
theorem low_rows {v : List UInt8} (h : (cutAt 46 v).all rowOk = true) : low v = v := by
  unfold low
  refine (List.map_congr_left fun x hx => ?_).trans (List.map_id _)
  refine if_neg ?_
  rcases cut_mem 46 v x hx with rfl | ⟨r, h1, h2⟩
  · decide
  · have := row_dig (List.all_eq_true.1 h r h1) x h2
    simp [dig] at this; omega

/-- the rows of a text, as they come -/
def wordS (cnt : Nat) (cur : List UInt8) : List UInt8 → Bool
  | [] => rowOk cur && decide (1 < cnt + 1)
  | b :: l => if b = 46 then rowOk cur && wordS (cnt + 1) [] l else wordS cnt (cur ++ [b]) l
theorem wordS_eq : ∀ (l : List UInt8) (cnt : Nat) (cur r : List UInt8) (rs : List (List UInt8)), cutAt 46 l = r :: rs → wordS cnt cur l = (((cur ++ r) :: rs).all rowOk && decide (1 < cnt + (rs.length + 1)))
  | [], cnt, cur, r, rs, h => by
    injection h with h1 h2; subst h1; subst h2
    show (rowOk cur && decide (1 < cnt + 1)) = _
    simp
  | b :: l, cnt, cur, r, rs, h => by
    obtain ⟨r', rs', hc⟩ := cutAt_ne 46 l
    by_cases h46 : b = 46
    · have h' : [] :: cutAt 46 l = r :: rs := by rw [← h, cutAt_cons, if_pos h46]
      injection h' with h1 h2; subst h1
      show (if b = 46 then _ else _) = _
      rw [if_pos h46, wordS_eq l (cnt + 1) [] r' rs' hc, ← h2, hc]
      simp only [List.append_nil, List.nil_append, List.all_cons, List.length_cons, Bool.and_assoc]
      congr 3
      rw [decide_eq_decide]; omega
    · have h' : (b :: r') :: rs' = r :: rs := by rw [← h, cutAt_cons, if_neg h46, hc]
      injection h' with h1 h2; subst h1; subst h2
      show (if b = 46 then _ else _) = _
      rw [if_neg h46, wordS_eq l cnt (cur ++ [b]) r' rs' hc]
      simp
theorem wordS_oid (v : List UInt8) : wordS 0 [] v = ((cutAt 46 v).all rowOk && decide (1 < (cutAt 46 v).length)) := by
  obtain ⟨r, rs, h⟩ := cutAt_ne 46 v
  rw [wordS_eq v 0 [] r rs h, h]; simp
theorem letters_alpha (b : UInt8) : letters.contains b = alpha b := by
  have h : ∀ n, n < 256 → (letters.contains (UInt8.ofNat n) == alpha (UInt8.ofNat n)) = true := by decide +kernel
  have := h b.toNat b.toNat_lt
  rw [UInt8.ofNat_toNat] at this
  simpa using this
theorem word_byte (b : UInt8) : (alpha b || (dig b || b == 45)) = (dig b || (letters ++ [45]).contains b) := by
  have h : ∀ n, n < 256 → ((alpha (UInt8.ofNat n) || (dig (UInt8.ofNat n) || UInt8.ofNat n == 45)) == (dig (UInt8.ofNat n) || (letters ++ [45]).contains (UInt8.ofNat n))) = true := by decide +kernel
  have := h b.toNat b.toNat_lt
  rw [UInt8.ofNat_toNat] at this
  simpa using this
/-- whether a text is a word -/
def wordL (v : List UInt8) : Bool := match v with
  | [] => false
  | b :: l => if alpha b = true then onlyL (letters ++ [45]) (b :: l) else wordS 0 [] (b :: l)
theorem oidL_word (v : List UInt8) : oidL v = if wordL v = true then (low v, true) else ((oidL v).1, false) := by
  cases v with
  | nil => rfl
  | cons b l =>
    have e : oidL (b :: l) = if letters.contains b then (low (b :: l), onlyL (letters ++ [45]) (b :: l))
      else if (cutAt 46 (b :: l)).all rowOk then (b :: l, decide (1 < (cutAt 46 (b :: l)).length)) else ([], false) := rfl
    have ew : wordL (b :: l) = if alpha b = true then onlyL (letters ++ [45]) (b :: l) else wordS 0 [] (b :: l) := rfl
    rw [letters_alpha] at e
    cases ha : alpha b with
    | true =>
      rw [ha, if_pos rfl] at e ew
      rw [ew, e]
      cases onlyL (letters ++ [45]) (b :: l) <;> simp
    | false =>
      rw [ha, if_neg (by simp)] at e ew
      rw [ew, wordS_oid, e]
      cases hall : (cutAt 46 (b :: l)).all rowOk with
      | false => simp
      | true =>
        simp only [if_true, Bool.true_and]
        cases hd : decide (1 < (cutAt 46 (b :: l)).length) with
        | false => simp
        | true =>
          rw [if_pos rfl]
          rw [low_rows hall]

theorem digitsR_cons (c : UInt8) (m : List UInt8) : digitsR (c :: m) = (c :: m).all dig := rfl
/-- what the reference asks of a row -/
theorem row_ref (cur : List UInt8) : (digitsR cur = false ∧ rowOk cur = false) ∨ ∃ c m, cur = c :: m ∧ digitsR cur = true ∧ rowOk cur = !(c == 48 && !m.isEmpty) := by
  cases cur with
  | nil => exact .inl ⟨rfl, rfl⟩
  | cons c m =>
    have e : rowOk (c :: m) = ((c :: m).all dig && !(c == 48 && !m.isEmpty)) := rfl
    rw [digitsR_cons, e]
    cases hd : (c :: m).all dig with
    | false => exact .inl ⟨rfl, rfl⟩
    | true => exact .inr ⟨c, m, rfl, rfl, by simp⟩

set_option maxRecDepth 20000 in
theorem rword_letters (s : ByteArray) (w : World) (hs : s.size ≤ 140737488355327) (h0 : 0 < s.size) (ha : alpha (s[0]'h0) = true) :
    Calls Tryz.prog 77 #[.string s] w fun e w' => e = .returned (.bool (onlyL (letters ++ [45]) s.data.toList)) ∧ w' = w := by
  have hL := fun w => rletter_any (s[0]'h0) w
  rw [ha] at hL
  have HL0 := Lib.hid hL; clear hL ha
  have i0 : (0 : Int) < s.size := by omega
  generalize hb0 : s[0]'h0 = b0 at HL0
  go_enter Tryz.func77, Tryz.ntmps77
  go_wp2_with (first
    | (go_at_call 60; with_reducible refine (HL0.out _).mono ?_; rintro e w2 ⟨rfl, rfl⟩)
    | fail)
  clear HL0 hb0
  go_loopw [3] (fun iv wr => ∃ i : Nat, iv = .int .i64 i ∧ i ≤ s.size ∧ w2 = wr ∧ onlyL (letters ++ [45]) s.data.toList = onlyL (letters ++ [45]) (s.data.toList.drop i)) (fun iv _ => s.size - (intOf iv).toNat)
  case atStart => exact ⟨0, rfl, Nat.zero_le _, rfl, rfl⟩
  case round =>
    obtain ⟨i, rfl, hi, rfl, hall⟩ := hrel
    by_cases hlt : i < s.size
    · rw [drop_at s hlt, onlyL_cons, ← word_byte] at hall
      have HA := Lib.hid hall; clear hall
      generalize hsb : s[i]'hlt = b at HA
      have HL := Lib.hid (fun w => rletter_any b w)
      have HD := Lib.hid (fun w => rdigit_any b w)
      cases hal : alpha b with
      | true =>
        rw [hal] at HL HA
        go_wp2_with (first
          | (go_at_call 60; with_reducible refine (HL.out _).mono ?_; rintro e w2 ⟨rfl, rfl⟩)
          | fail)
        exact ⟨⟨i + 1, rfl, by omega, trivial, by rw [HA.out]; rfl⟩, by simp [intOf]; omega⟩
      | false =>
      cases hd : dig b with
      | true =>
        rw [hal] at HL HA; rw [hd] at HD HA
        go_wp2_with (first
          | (go_at_call 60; with_reducible refine (HL.out _).mono ?_; rintro e w2 ⟨rfl, rfl⟩)
          | (go_at_call 74; with_reducible refine (HD.out _).mono ?_; rintro e w2 ⟨rfl, rfl⟩)
          | fail)
        exact ⟨⟨i + 1, rfl, by omega, trivial, by rw [HA.out]; rfl⟩, by simp [intOf]; omega⟩
      | false =>
        rw [hal] at HL HA; rw [hd] at HD HA
        by_cases h45 : b = 45
        · have e1 : ((b.toNat : Int) != 45) = false := by subst h45; rfl
          have H4 := Lib.hid (show (b == 45) = true by subst h45; rfl); clear h45
          go_wp2_with (first
            | (go_at_call 60; with_reducible refine (HL.out _).mono ?_; rintro e w2 ⟨rfl, rfl⟩)
            | (go_at_call 74; with_reducible refine (HD.out _).mono ?_; rintro e w2 ⟨rfl, rfl⟩)
            | fail)
          exact ⟨⟨i + 1, rfl, by omega, trivial, by rw [HA.out, H4.out]; rfl⟩, by simp [intOf]; omega⟩
        · have e1 : ((b.toNat : Int) != 45) = true := by rw [bne_iff_ne]; exact fun e => h45 (UInt8.toNat_inj.1 (by show b.toNat = 45; omega))
          have H4 := Lib.hid (show (b == 45) = false by simpa using h45); clear h45
          go_wp2_with (first
            | (go_at_call 60; with_reducible refine (HL.out _).mono ?_; rintro e w2 ⟨rfl, rfl⟩)
            | (go_at_call 74; with_reducible refine (HD.out _).mono ?_; rintro e w2 ⟨rfl, rfl⟩)
            | fail)
          go_ret
          exact ⟨by rw [HA.out, H4.out]; rfl, rfl⟩
    · rw [drop_end s hlt] at hall
      have HA := Lib.hid hall; clear hall
      go_wp2_with fail
      go_ret
      exact ⟨by rw [HA.out]; rfl, rfl⟩

set_option maxRecDepth 20000 in
set_option maxHeartbeats 4000000 in
theorem rword_rows (s : ByteArray) (w : World) (hs : s.size ≤ 140737488355327) (h0 : 0 < s.size) (ha : alpha (s[0]'h0) = false) :
    Calls Tryz.prog 77 #[.string s] w fun e w' => e = .returned (.bool (wordS 0 [] s.data.toList)) ∧ w' = w := by
  have hL := fun w => rletter_any (s[0]'h0) w
  rw [ha] at hL
  have HL0 := Lib.hid hL; clear hL ha
  have i0 : (0 : Int) < s.size := by omega
  have hl0 : s.data.toList.length = s.size := by simp
  have HLN := Lib.hid hl0; clear hl0
  generalize hb0 : s[0]'h0 = b0 at HL0
  go_enter Tryz.func77, Tryz.ntmps77
  go_wp2_with (first
    | (go_at_call 60; with_reducible refine (HL0.out _).mono ?_; rintro e w2 ⟨rfl, rfl⟩)
    | fail)
  clear HL0 hb0
  go_loopw [4, 5, 6] (fun rv fv iv wr => ∃ r f i : Nat, rv = .int .i64 r ∧ fv = .int .i64 f ∧ iv = .int .i64 i ∧ r ≤ i ∧ f ≤ i ∧ i ≤ s.size + 1 ∧ w2 = wr ∧
      ((i ≤ s.size ∧ wordS 0 [] s.data.toList = wordS r ((s.data.toList.take i).drop f) (s.data.toList.drop i)) ∨ (i = s.size + 1 ∧ wordS 0 [] s.data.toList = decide (1 < r)))) (fun _ _ iv _ => s.size + 1 - (intOf iv).toNat)
  case atStart => exact ⟨0, 0, 0, rfl, rfl, rfl, Nat.le_refl _, Nat.le_refl _, Nat.zero_le _, rfl, .inl ⟨Nat.zero_le _, rfl⟩⟩
  case round =>
    obtain ⟨r, f, i, rfl, rfl, rfl, hr, hf, hi, rfl, hw⟩ := hrel
    rcases hw with ⟨hi2, hw⟩ | ⟨hi2, hw⟩
    · have i1 : (i : Int) ≤ s.size := by omega
      obtain ⟨R, hR⟩ : ∃ R : ByteArray, R = s.extract f i := ⟨_, rfl⟩
      have hRl : R.data.toList = (s.data.toList.take i).drop f := by
        rw [hR, Lib.extract_data, List.drop_take]
      have hx : s.extract f i = R := hR.symm
      have f1 : (f : Int) ≤ i := by omega
      have f2 : (0 : Int) ≤ f := by omega
      have hRs : R.size = i - f := by rw [Lib.size_eq, hRl, List.length_drop, List.length_take, HLN.out]; omega
      have hD := fun w => rdigits_any R w (by omega)
      have hcase := row_ref R.data.toList
      by_cases hlt : i < s.size
      · have i2 : (i : Int) < s.size := by omega
        rw [drop_at s hlt] at hw
        have htk : (s.data.toList.take (i + 1)).drop f = R.data.toList ++ [s[i]] := by
          rw [hRl, List.take_succ_eq_append_getElem (by rw [HLN.out]; exact hlt), List.drop_append_of_le_length (by rw [List.length_take, HLN.out]; omega)]; rfl
        have hnil : (s.data.toList.take (i + 1)).drop (i + 1) = [] := List.drop_eq_nil_of_le (by rw [List.length_take]; omega)
        rw [← hRl] at hw
        generalize hsb : s[i]'hlt = b at *
        by_cases h46 : b = 46
        · have e46 : ((b.toNat : Int) != 46) = false := by subst h46; rfl
          have hstep : wordS r R.data.toList (b :: s.data.toList.drop (i + 1)) = (rowOk R.data.toList && wordS (r + 1) [] (s.data.toList.drop (i + 1))) := if_pos h46
          rw [hstep] at hw
          rcases hcase with ⟨c1, c2⟩ | ⟨c, m, c1, c2, c3⟩
          · rw [c2, Bool.false_and] at hw
            rw [c1] at hD
            have HW := Lib.hid hw; have HD := Lib.hid hD; clear hw hD c1 c2 hstep h46 htk hnil hRl hR
            go_wp2_with (first
              | (go_at_call 83; with_reducible refine (HD.out _).mono ?_; rintro e w2 ⟨rfl, rfl⟩)
              | fail)
            go_ret
            exact ⟨by rw [HW.out]; rfl, rfl⟩
          · have hRn : R.size = m.length + 1 := by rw [Lib.size_eq, c1]; rfl
            have hRc : ∀ h, R[0]'h = c := by
              clear hx hR hD hRl hRs htk
              obtain ⟨⟨l⟩⟩ := R
              have : l = c :: m := c1
              subst this; intro h; rfl
            rw [c2] at hD
            rw [c3] at hw
            have HD := Lib.hid hD; clear hD c2 c3 hstep h46
            by_cases h48 : c = 48
            · have e48 : ((c.toNat : Int) == 48) = true := by subst h48; rfl
              by_cases hm : m = []
              · rw [hm, show (c == 48 && !([] : List UInt8).isEmpty) = false by simp, Bool.not_false, Bool.true_and] at hw
                have hRm : R.size = 1 := by rw [hRn, hm]; rfl
                conv at hw => rhs; rw [← hnil]
                have HW := Lib.hid hw; clear hw c1 h48 hm htk hnil hRl hR hRn hRs
                go_wp2_with (first
                  | (go_at_call 83; with_reducible refine (HD.out _).mono ?_; rintro e w2 ⟨rfl, rfl⟩)
                  | fail)
                exact ⟨⟨r + 1, i + 1, i + 1, rfl, rfl, rfl, by omega, by omega, by omega, trivial, .inl ⟨by omega, HW.out⟩⟩, by simp [intOf]; omega⟩
              · rw [show (c == 48 && !m.isEmpty) = true by rw [h48]; cases m with | nil => exact absurd rfl hm | cons _ _ => rfl, Bool.not_true, Bool.false_and] at hw
                have hml := List.length_pos_iff.2 hm
                have hRm : (1 : Int) < R.size := by omega
                have HW := Lib.hid hw; clear hw c1 h48 hm htk hnil hRl hR
                go_wp2_with (first
                  | (go_at_call 83; with_reducible refine (HD.out _).mono ?_; rintro e w2 ⟨rfl, rfl⟩)
                  | fail)
                go_ret
                exact ⟨by rw [HW.out]; rfl, rfl⟩
            · have e48 : ((c.toNat : Int) == 48) = false := by rw [beq_eq_false_iff_ne]; exact fun e => h48 (UInt8.toNat_inj.1 (by show c.toNat = 48; omega))
              rw [show (c == 48 && !m.isEmpty) = false by rw [show (c == 48) = false from by simpa using h48]; rfl, Bool.not_false, Bool.true_and] at hw
              conv at hw => rhs; rw [← hnil]
              have HW := Lib.hid hw; clear hw c1 h48 htk hnil hRl hR
              go_wp2_with (first
                | (go_at_call 83; with_reducible refine (HD.out _).mono ?_; rintro e w2 ⟨rfl, rfl⟩)
                | fail)
              exact ⟨⟨r + 1, i + 1, i + 1, rfl, rfl, rfl, by omega, by omega, by omega, trivial, .inl ⟨by omega, HW.out⟩⟩, by simp [intOf]; omega⟩
        · have e46 : ((b.toNat : Int) != 46) = true := by rw [bne_iff_ne]; exact fun e => h46 (UInt8.toNat_inj.1 (by show b.toNat = 46; omega))
          have hstep : wordS r R.data.toList (b :: s.data.toList.drop (i + 1)) = wordS r (R.data.toList ++ [b]) (s.data.toList.drop (i + 1)) := if_neg h46
          rw [hstep, ← htk] at hw
          have HW := Lib.hid hw; clear hw hstep h46 htk hnil hRl hR hx hD hcase
          go_wp2_with fail
          exact ⟨⟨r, f, i + 1, rfl, rfl, rfl, by omega, by omega, by omega, trivial, .inl ⟨by omega, HW.out⟩⟩, by simp [intOf]; omega⟩
      · have i2 : ¬ (i : Int) < s.size := by omega
        rw [drop_end s hlt, ← hRl] at hw
        have hstep : wordS r R.data.toList [] = (rowOk R.data.toList && decide (1 < r + 1)) := rfl
        rw [hstep] at hw
        rcases hcase with ⟨c1, c2⟩ | ⟨c, m, c1, c2, c3⟩
        · rw [c2, Bool.false_and] at hw
          rw [c1] at hD
          have HW := Lib.hid hw; have HD := Lib.hid hD; clear hw hD c1 c2 hstep hRl hR
          go_wp2_with (first
            | (go_at_call 83; with_reducible refine (HD.out _).mono ?_; rintro e w2 ⟨rfl, rfl⟩)
            | fail)
          go_ret
          exact ⟨by rw [HW.out]; rfl, rfl⟩
        · have hRn : R.size = m.length + 1 := by rw [Lib.size_eq, c1]; rfl
          have hRc : ∀ h, R[0]'h = c := by
            clear hx hR hD hRl hRs
            obtain ⟨⟨l⟩⟩ := R
            have : l = c :: m := c1
            subst this; intro h; rfl
          rw [c2] at hD
          rw [c3] at hw
          have HD := Lib.hid hD; clear hD c2 c3 hstep
          by_cases h48 : c = 48
          · have e48 : ((c.toNat : Int) == 48) = true := by subst h48; rfl
            by_cases hm : m = []
            · rw [hm, show (c == 48 && !([] : List UInt8).isEmpty) = false by simp, Bool.not_false, Bool.true_and] at hw
              have hRm : R.size = 1 := by rw [hRn, hm]; rfl
              have HW := Lib.hid hw; clear hw c1 h48 hm hRl hR hRn hRs
              go_wp2_with (first
                | (go_at_call 83; with_reducible refine (HD.out _).mono ?_; rintro e w2 ⟨rfl, rfl⟩)
                | fail)
              exact ⟨⟨r + 1, i + 1, i + 1, rfl, rfl, rfl, by omega, by omega, by omega, trivial, .inr ⟨by omega, HW.out⟩⟩, by simp [intOf]; omega⟩
            · rw [show (c == 48 && !m.isEmpty) = true by rw [h48]; cases m with | nil => exact absurd rfl hm | cons _ _ => rfl, Bool.not_true, Bool.false_and] at hw
              have hml := List.length_pos_iff.2 hm
              have hRm : (1 : Int) < R.size := by omega
              have HW := Lib.hid hw; clear hw c1 h48 hm hRl hR
              go_wp2_with (first
                | (go_at_call 83; with_reducible refine (HD.out _).mono ?_; rintro e w2 ⟨rfl, rfl⟩)
                | fail)
              go_ret
              exact ⟨by rw [HW.out]; rfl, rfl⟩
          · have e48 : ((c.toNat : Int) == 48) = false := by rw [beq_eq_false_iff_ne]; exact fun e => h48 (UInt8.toNat_inj.1 (by show c.toNat = 48; omega))
            rw [show (c == 48 && !m.isEmpty) = false by rw [show (c == 48) = false from by simpa using h48]; rfl, Bool.not_false, Bool.true_and] at hw
            have HW := Lib.hid hw; clear hw c1 h48 hRl hR
            go_wp2_with (first
              | (go_at_call 83; with_reducible refine (HD.out _).mono ?_; rintro e w2 ⟨rfl, rfl⟩)
              | fail)
            exact ⟨⟨r + 1, i + 1, i + 1, rfl, rfl, rfl, by omega, by omega, by omega, trivial, .inr ⟨by omega, HW.out⟩⟩, by simp [intOf]; omega⟩
    · have i1 : ¬ (i : Int) ≤ s.size := by omega
      have HW := Lib.hid hw; clear hw
      by_cases hr1 : 1 < r
      · have r1 : (1 : Int) < r := by omega
        go_wp2_with fail
        go_ret
        exact ⟨by rw [HW.out, decide_eq_true hr1]; rfl, rfl⟩
      · have r1 : ¬ (1 : Int) < r := by omega
        go_wp2_with fail
        go_ret
        exact ⟨by rw [HW.out, decide_eq_false hr1]; rfl, rfl⟩

theorem rword_any (s : ByteArray) (w : World) (hs : s.size ≤ 140737488355327) :
    Calls Tryz.prog 77 #[.string s] w fun e w' => e = .returned (.bool (wordL s.data.toList)) ∧ w' = w := by
  by_cases h0 : 0 < s.size
  · have hc : ∃ l, s.data.toList = s[0] :: l := ⟨_, drop_at s h0⟩
    obtain ⟨l, hl⟩ := hc
    have e : wordL s.data.toList = if alpha (s[0]'h0) = true then onlyL (letters ++ [45]) s.data.toList else wordS 0 [] s.data.toList := by
      rw [hl]; rfl
    cases ha : alpha (s[0]'h0) with
    | true => rw [ha, if_pos rfl] at e; rw [e]; exact rword_letters s w hs h0 ha
    | false => rw [ha, if_neg (by simp)] at e; rw [e]; exact rword_rows s w hs h0 ha
  · obtain rfl : s = ⟨#[]⟩ := empty_of s (by rw [← List.length_eq_zero_iff, ← Lib.size_eq]; omega)
    go_enter Tryz.func77, Tryz.ntmps77
    go_wp2_with fail
    go_ret
    exact ⟨rfl, rfl⟩
end Go.Proofs.YtpnnbffhdhbonaaGreatDoor
