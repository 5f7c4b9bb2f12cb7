/- rosterref03.Key, more: the key of a value under a form. -/
import Derived.Test.YtpnnbffhdhbonaaGreatDoorRefP
import Derived.Test.YtpnnbffhdhbonaaGreatDoorRefW
import Derived.Test.YtpnnbffhdhbonaaGreatDoorRefM
import Derived.Test.YtpnnbffhdhbonaaGreatDoorRefTime
import Derived.Test.YtpnnbffhdhbonaaGreatDoorKey
namespace Go.Proofs.YtpnnbffhdhbonaaGreatDoor
open Go Go.RowKit

theorem trimH_low (st : Bool) (l : List UInt8) : trimH st (low l) = low (trimH st l) := by
  unfold trimH
  by_cases h : st = true ∧ l.head? = some 32
  · rw [if_pos h, if_pos ⟨h.1, (low_head l).2 h.2⟩]; unfold low; rw [List.map_tail]
  · rw [if_neg h, if_neg (fun e => h ⟨e.1, (low_head l).1 e.2⟩)]
theorem trimE_low (en : Bool) (l : List UInt8) : trimE en (low l) = low (trimE en l) := by
  unfold trimE
  by_cases h : en = true ∧ l.getLast? = some 32
  · rw [if_pos h, if_pos ⟨h.1, (low_last l).2 h.2⟩]; unfold low; rw [List.map_dropLast]
  · rw [if_neg h, if_neg (fun e => h ⟨e.1, (low_last l).1 e.2⟩)]
/-- what the reference makes of a text's words -/
def textR (f : Int) (v : List UInt8) : List UInt8 := trimE true (trimH true (sqz false (if f = 0 then low v else v)))
theorem text_rule {f : Int} (hf : f = 0 ∨ f = 1) (v : List UInt8) : ruleL f v = if v = [] ∨ Lib.validD v = false then ([], false) else (if textR f v = [] then [32] else textR f v, true) := by
  have hb : textR 1 v = trimS (sqz false v) := by rw [trim_both (noRun_sqz v false)]; rfl
  have ha : textR 0 v = low (trimS (sqz false v)) := by
    rw [trim_both (noRun_sqz v false), ← trimE_low, ← trimH_low, ← low_sqz]; rfl
  have hx : exactL v = if v = [] ∨ Lib.validD v = false then ([], false) else (if trimS (sqz false v) = [] then [32] else trimS (sqz false v), true) := rfl
  rcases hf with rfl | rfl
  · show foldL v = _
    unfold foldL
    rw [hx]
    by_cases h : v = [] ∨ Lib.validD v = false
    · rw [if_pos h, if_pos h]; rfl
    · rw [if_neg h, if_neg h, ha]
      by_cases h2 : trimS (sqz false v) = []
      · rw [if_pos h2, if_pos (by rw [h2]; rfl)]; rfl
      · rw [if_neg h2, if_neg (by rw [low_ne]; exact h2)]
  · show exactL v = _
    rw [hx, hb]
theorem keyL_of {f : Int} {v : List UInt8} (h : v.length ≤ 65536) : keyL f v = if (ruleL f v).2 = true then ((ruleL f v).1, true) else ([], false) := if_neg (by omega)

set_option maxRecDepth 20000 in
theorem rkey_long (f : Int) (v : ByteArray) (w : World) (h : 65536 < v.size) :
    Calls Tryz.prog 11 #[.int .i8 f, .string v] w fun e w' => e = .returned (ret2 (keyL f v.data.toList)) ∧ Below w.heap.size w w' := by
  have HK := Lib.hid (show keyL f v.data.toList = ([], false) from if_pos (by rw [← Lib.size_eq]; exact h))
  have g1 : (65536 : Int) < v.size := by omega
  go_enter Tryz.func11, Tryz.ntmps11
  go_wp2_with fail
  go_ret2
  exact ⟨by rw [HK.out]; rfl, Below.refl _ _⟩

set_option maxRecDepth 20000 in
set_option maxHeartbeats 4000000 in
theorem rkey_text (f : Int) (v : ByteArray) (w : World) (hs : v.size ≤ 65536) (hf : f = 0 ∨ f = 1) :
    Calls Tryz.prog 11 #[.int .i8 f, .string v] w fun e w' => e = .returned (ret2 (keyL f v.data.toList)) ∧ Below w.heap.size w w' := by
  have hK0 := keyL_of (f := f) (v := v.data.toList) (by rw [← Lib.size_eq]; exact hs)
  have hR0 := text_rule hf v.data.toList
  have g1 : ¬ (65536 : Int) < v.size := by omega
  by_cases hne : v.data.toList = []
  · have HK := Lib.hid (show keyL f v.data.toList = ([], false) by rw [hK0, hR0, if_pos (show v.data.toList = [] ∨ Lib.validD v.data.toList = false from .inl hne)]; rfl)
    clear hK0 hR0
    have hz : v.size = 0 := by rw [Lib.size_eq, hne]; rfl
    clear hne hs
    rcases hf with rfl | rfl <;> (
      go_enter Tryz.func11, Tryz.ntmps11
      go_wp2_with fail
      go_ret2
      exact ⟨by rw [HK.out]; rfl, Below.refl _ _⟩)
  have hz := (nonempty_of v hne).2.2
  have hzi : ((v.size : Int) == 0) = false := by rw [beq_eq_false_iff_ne]; omega
  have hv := fun w => rvalid_any v w (by omega)
  cases hvd : Lib.validD v.data.toList with
  | false =>
    rw [hvd] at hv
    have HK := Lib.hid (show keyL f v.data.toList = ([], false) by rw [hK0, hR0, if_pos (show v.data.toList = [] ∨ Lib.validD v.data.toList = false from .inr hvd)]; rfl)
    have HV := Lib.hid hv; clear hK0 hR0 hv hvd hne hs
    rcases hf with rfl | rfl <;> (
      go_enter Tryz.func11, Tryz.ntmps11
      go_wp2_with (first
        | (go_at_call 24; with_reducible refine (HV.out _).mono ?_; rintro e w1 ⟨rfl, rfl⟩)
        | fail)
      go_ret2
      exact ⟨by rw [HK.out]; rfl, Below.refl _ _⟩)
  | true =>
    rw [hvd] at hv
    have hK : keyL f v.data.toList = (if textR f v.data.toList = [] then [32] else textR f v.data.toList, true) := by
      rw [hK0, hR0, if_neg (show ¬ (v.data.toList = [] ∨ Lib.validD v.data.toList = false) by rw [hvd]; simp [hne])]; rfl
    clear hK0 hR0
    have HV := Lib.hid hv; clear hv hvd hne
    obtain ⟨t, ht⟩ : ∃ t, t = if f = 0 then low v.data.toList else v.data.toList := ⟨_, rfl⟩
    have htl : t.length = v.size := by rw [ht]; split <;> simp [low]
    have hql := sqz_length false t
    have hr := fun w => rruns_any ⟨t.toArray⟩ w (by show t.length ≤ _; omega)
    have hlow := fun w => rlow_any v w (by omega)
    rw [show (ByteArray.mk t.toArray).data.toList = t from rfl] at hr
    have hT : textR f v.data.toList = trimE true (trimH true (sqz false t)) := by rw [ht]; rfl
    rw [hT] at hK
    obtain ⟨q, hq⟩ : ∃ q, q = sqz false t := ⟨_, rfl⟩
    rw [← hq] at hr hK hql
    have ht3 := fun w => rtrim_any ⟨q.toArray⟩ true true w (by show q.length ≤ _; omega)
    rw [show (ByteArray.mk q.toArray).data.toList = q from rfl] at ht3
    generalize trimE true (trimH true q) = k at hK ht3
    have HR := Lib.hid hr; have HT := Lib.hid ht3; clear hr ht3 hq hql htl hT
    by_cases hk : k = []
    · rw [if_pos hk] at hK
      subst hk
      have HK := Lib.hid hK; clear hK
      rcases hf with rfl | rfl
      · rw [if_pos rfl] at ht
        rw [← ht] at hlow
        have HL := Lib.hid hlow; clear hlow ht hs
        go_enter Tryz.func11, Tryz.ntmps11
        go_wp2_with (first
          | (go_at_call 24; with_reducible refine (HV.out _).mono ?_; rintro e w1 ⟨rfl, rfl⟩)
          | (go_at_call 25; with_reducible refine (HL.out _).mono ?_; rintro e w2 ⟨rfl, hb2⟩; have HB2 := Lib.hid hb2; clear hb2)
          | (go_at_call 27; with_reducible refine (HR.out _).mono ?_; rintro e w3 ⟨rfl, hb3⟩; have HB3 := Lib.hid (bnext HB2.out hb3); clear hb3)
          | (go_at_call 26; with_reducible refine (HT.out _).mono ?_; rintro e w4 ⟨rfl, rfl⟩)
          | fail)
        go_ret2
        exact ⟨by rw [HK.out]; rfl, HB3.out⟩
      · rw [if_neg (by decide)] at ht
        have hr2 := HR.out
        rw [ht, bmk v] at hr2
        have HR2 := Lib.hid hr2; clear hr2 hlow ht hs HR
        go_enter Tryz.func11, Tryz.ntmps11
        go_wp2_with (first
          | (go_at_call 24; with_reducible refine (HV.out _).mono ?_; rintro e w1 ⟨rfl, rfl⟩)
          | (go_at_call 27; with_reducible refine (HR2.out _).mono ?_; rintro e w3 ⟨rfl, hb3⟩; have HB3 := Lib.hid hb3; clear hb3)
          | (go_at_call 26; with_reducible refine (HT.out _).mono ?_; rintro e w4 ⟨rfl, rfl⟩)
          | fail)
        go_ret2
        exact ⟨by rw [HK.out]; rfl, HB3.out⟩
    · rw [if_neg hk] at hK
      have kne : (k == []) = false := by simpa using hk
      obtain ⟨K, hKK⟩ : ∃ K : ByteArray, K = ⟨k.toArray⟩ := ⟨_, rfl⟩
      have kl : K.toList.isEmpty = false := by rw [Lib.toList_data, hKK]; cases k with | nil => exact absurd rfl hk | cons a b => rfl
      have kl2 : ¬ K.toList = [] := by rw [Lib.toList_data, hKK]; exact hk
      have hT2 := HT.out
      rw [← hKK] at hT2
      have HT := Lib.hid hT2; clear hT2
      have HK := Lib.hid hK; have HKK := Lib.hid hKK; clear hK hk kne hKK
      rcases hf with rfl | rfl
      · rw [if_pos rfl] at ht
        rw [← ht] at hlow
        have HL := Lib.hid hlow; clear hlow ht hs
        go_enter Tryz.func11, Tryz.ntmps11
        go_wp2_with (first
          | (go_at_call 24; with_reducible refine (HV.out _).mono ?_; rintro e w1 ⟨rfl, rfl⟩)
          | (go_at_call 25; with_reducible refine (HL.out _).mono ?_; rintro e w2 ⟨rfl, hb2⟩; have HB2 := Lib.hid hb2; clear hb2)
          | (go_at_call 27; with_reducible refine (HR.out _).mono ?_; rintro e w3 ⟨rfl, hb3⟩; have HB3 := Lib.hid (bnext HB2.out hb3); clear hb3)
          | (go_at_call 26; with_reducible refine (HT.out _).mono ?_; rintro e w4 ⟨rfl, rfl⟩)
          | fail)
        go_ret2
        exact ⟨by rw [HK.out, HKK.out]; rfl, HB3.out⟩
      · rw [if_neg (by decide)] at ht
        have hr2 := HR.out
        rw [ht, bmk v] at hr2
        have HR2 := Lib.hid hr2; clear hr2 hlow ht hs HR
        go_enter Tryz.func11, Tryz.ntmps11
        go_wp2_with (first
          | (go_at_call 24; with_reducible refine (HV.out _).mono ?_; rintro e w1 ⟨rfl, rfl⟩)
          | (go_at_call 27; with_reducible refine (HR2.out _).mono ?_; rintro e w3 ⟨rfl, hb3⟩; have HB3 := Lib.hid hb3; clear hb3)
          | (go_at_call 26; with_reducible refine (HT.out _).mono ?_; rintro e w4 ⟨rfl, rfl⟩)
          | fail)
        go_ret2
        exact ⟨by rw [HK.out, HKK.out]; rfl, HB3.out⟩

set_option maxRecDepth 20000 in
theorem rkey_digits (v : ByteArray) (w : World) (hs : v.size ≤ 65536) :
    Calls Tryz.prog 11 #[.int .i8 2, .string v] w fun e w' => e = .returned (ret2 (keyL 2 v.data.toList)) ∧ Below w.heap.size w w' := by
  have hK0 := keyL_of (f := 2) (v := v.data.toList) (by rw [← Lib.size_eq]; exact hs)
  obtain ⟨k, hk⟩ : ∃ k, k = zapB 32 v.data.toList := ⟨_, rfl⟩
  obtain ⟨K, hKK⟩ : ∃ K : ByteArray, K = ⟨k.toArray⟩ := ⟨_, rfl⟩
  have hR0 : ruleL 2 v.data.toList = (k, onlyL [32] v.data.toList && !k.isEmpty) := by rw [hk]; rfl
  have g1 : ¬ (65536 : Int) < v.size := by omega
  have hS := fun w => rspaced_any v w (by omega)
  have hW := fun w => rwithout_any v ⟨#[32]⟩ w (by omega) (by decide)
  rw [show lessB (ByteArray.mk #[32]).data.toList v.data.toList = zapB 32 v.data.toList from lessB_one _] at hW
  rw [← hk, ← hKK] at hW
  have hKl : K.toList = k := by rw [Lib.toList_data, hKK]
  have HW := Lib.hid hW; clear hW hs 
  cases ho : onlyL [32] v.data.toList with
  | false =>
    rw [ho] at hS hR0
    have HK := Lib.hid (show keyL 2 v.data.toList = ([], false) by rw [hK0, hR0]; rfl)
    have HS := Lib.hid hS; clear hS ho hK0 hR0 hKl hk
    go_enter Tryz.func11, Tryz.ntmps11
    go_wp2_with (first
      | (go_at_call 28; with_reducible refine (HW.out _).mono ?_; rintro e w2 ⟨rfl, hb2⟩; have HB2 := Lib.hid hb2; clear hb2)

      | (go_at_call 29; with_reducible refine (HS.out _).mono ?_; rintro e w1 ⟨rfl, rfl⟩)
      | fail)
    go_ret2
    exact ⟨by rw [HK.out]; rfl, HB2.out⟩
  | true =>
    rw [ho] at hS hR0
    have HS := Lib.hid hS; clear hS ho
    by_cases hn : k = []
    · have HK := Lib.hid (show keyL 2 v.data.toList = ([], false) by rw [hK0, hR0, hn]; rfl)
      have hKe : K.toList = [] := by rw [hKl, hn]
      have hKb : K.toList.isEmpty = true := by rw [hKe]; rfl
      have hKe2 : K = ⟨#[]⟩ := by rw [hKK, hn]
      subst hKe2
      clear hK0 hR0 hKl hk hKe hKb hn
      go_enter Tryz.func11, Tryz.ntmps11
      go_wp2_with (first
        | (go_at_call 28; with_reducible refine (HW.out _).mono ?_; rintro e w2 ⟨rfl, hb2⟩; have HB2 := Lib.hid hb2; clear hb2)

        | (go_at_call 29; with_reducible refine (HS.out _).mono ?_; rintro e w1 ⟨rfl, rfl⟩)
        | fail)
      go_ret2
      exact ⟨by rw [HK.out]; rfl, HB2.out⟩
    · have HK := Lib.hid (show keyL 2 v.data.toList = (k, true) by
        rw [hK0, hR0]
        cases k with
        | nil => exact absurd rfl hn
        | cons a b => rfl)
      have kl : K.toList.isEmpty = false := by rw [hKl]; cases k with | nil => exact absurd rfl hn | cons a b => rfl
      have kl2 : ¬ K.toList = [] := by rw [hKl]; exact hn
      have HKK := Lib.hid hKK
      clear hK0 hR0 hKl hk hn hKK
      go_enter Tryz.func11, Tryz.ntmps11
      go_wp2_with (first
        | (go_at_call 28; with_reducible refine (HW.out _).mono ?_; rintro e w2 ⟨rfl, hb2⟩; have HB2 := Lib.hid hb2; clear hb2)

        | (go_at_call 29; with_reducible refine (HS.out _).mono ?_; rintro e w1 ⟨rfl, rfl⟩)
        | fail)
      go_ret2
      exact ⟨by rw [HK.out, HKK.out]; rfl, HB2.out⟩

set_option maxRecDepth 20000 in
theorem rkey_phone (v : ByteArray) (w : World) (hs : v.size ≤ 65536) :
    Calls Tryz.prog 11 #[.int .i8 3, .string v] w fun e w' => e = .returned (ret2 (keyL 3 v.data.toList)) ∧ Below w.heap.size w w' := by
  have hK0 := keyL_of (f := 3) (v := v.data.toList) (by rw [← Lib.size_eq]; exact hs)
  obtain ⟨k, hk⟩ : ∃ k, k = dialL v.data.toList := ⟨_, rfl⟩
  obtain ⟨K, hKK⟩ : ∃ K : ByteArray, K = ⟨k.toArray⟩ := ⟨_, rfl⟩
  have hR0 : ruleL 3 v.data.toList = (k, onlyL signs v.data.toList && !k.isEmpty) := by rw [hk]; rfl
  have g1 : ¬ (65536 : Int) < v.size := by omega
  have hS := fun w => rphone_any v w (by omega)
  have hW := fun w => rwithout_any v ⟨#[32, 45]⟩ w (by omega) (by decide)
  rw [show lessB (ByteArray.mk #[32, 45]).data.toList v.data.toList = lessB [32, 45] v.data.toList from rfl] at hW
  have hl2 := lessB_length [32, 45] v.data.toList
  rw [← Lib.size_eq] at hl2
  have hWL := fun w => rlow_any ⟨(lessB [32, 45] v.data.toList).toArray⟩ w (by show (lessB [32, 45] v.data.toList).length ≤ _; omega)
  rw [show (ByteArray.mk (lessB [32, 45] v.data.toList).toArray).data.toList = lessB [32, 45] v.data.toList from rfl] at hWL
  rw [show low (lessB [32, 45] v.data.toList) = dialL v.data.toList by rw [lessB_two]; rfl] at hWL
  rw [← hk, ← hKK] at hWL
  have hKl : K.toList = k := by rw [Lib.toList_data, hKK]
  have HW := Lib.hid hW; have HL := Lib.hid hWL; clear hW hs hWL
  cases ho : onlyL signs v.data.toList with
  | false =>
    rw [ho] at hS hR0
    have HK := Lib.hid (show keyL 3 v.data.toList = ([], false) by rw [hK0, hR0]; rfl)
    have HS := Lib.hid hS; clear hS ho hK0 hR0 hKl hk
    go_enter Tryz.func11, Tryz.ntmps11
    go_wp2_with (first
      | (go_at_call 28; with_reducible refine (HW.out _).mono ?_; rintro e w2 ⟨rfl, hb2⟩; have HB2 := Lib.hid hb2; clear hb2)
      | (go_at_call 25; with_reducible refine (HL.out _).mono ?_; rintro e w3 ⟨rfl, hb3⟩; have HB2 := Lib.hid (bnext HB2.out hb3); clear hb3)
      | (go_at_call 30; with_reducible refine (HS.out _).mono ?_; rintro e w1 ⟨rfl, rfl⟩)
      | fail)
    go_ret2
    exact ⟨by rw [HK.out]; rfl, HB2.out⟩
  | true =>
    rw [ho] at hS hR0
    have HS := Lib.hid hS; clear hS ho
    by_cases hn : k = []
    · have HK := Lib.hid (show keyL 3 v.data.toList = ([], false) by rw [hK0, hR0, hn]; rfl)
      have hKe : K.toList = [] := by rw [hKl, hn]
      have hKb : K.toList.isEmpty = true := by rw [hKe]; rfl
      have hKe2 : K = ⟨#[]⟩ := by rw [hKK, hn]
      subst hKe2
      clear hK0 hR0 hKl hk hKe hKb hn
      go_enter Tryz.func11, Tryz.ntmps11
      go_wp2_with (first
        | (go_at_call 28; with_reducible refine (HW.out _).mono ?_; rintro e w2 ⟨rfl, hb2⟩; have HB2 := Lib.hid hb2; clear hb2)
        | (go_at_call 25; with_reducible refine (HL.out _).mono ?_; rintro e w3 ⟨rfl, hb3⟩; have HB2 := Lib.hid (bnext HB2.out hb3); clear hb3)
        | (go_at_call 30; with_reducible refine (HS.out _).mono ?_; rintro e w1 ⟨rfl, rfl⟩)
        | fail)
      go_ret2
      exact ⟨by rw [HK.out]; rfl, HB2.out⟩
    · have HK := Lib.hid (show keyL 3 v.data.toList = (k, true) by
        rw [hK0, hR0]
        cases k with
        | nil => exact absurd rfl hn
        | cons a b => rfl)
      have kl : K.toList.isEmpty = false := by rw [hKl]; cases k with | nil => exact absurd rfl hn | cons a b => rfl
      have kl2 : ¬ K.toList = [] := by rw [hKl]; exact hn
      have HKK := Lib.hid hKK
      clear hK0 hR0 hKl hk hn hKK
      go_enter Tryz.func11, Tryz.ntmps11
      go_wp2_with (first
        | (go_at_call 28; with_reducible refine (HW.out _).mono ?_; rintro e w2 ⟨rfl, hb2⟩; have HB2 := Lib.hid hb2; clear hb2)
        | (go_at_call 25; with_reducible refine (HL.out _).mono ?_; rintro e w3 ⟨rfl, hb3⟩; have HB2 := Lib.hid (bnext HB2.out hb3); clear hb3)
        | (go_at_call 30; with_reducible refine (HS.out _).mono ?_; rintro e w1 ⟨rfl, rfl⟩)
        | fail)
      go_ret2
      exact ⟨by rw [HK.out, HKK.out]; rfl, HB2.out⟩

/-- the other forms -/
def moreL (f : Int) (v : List UInt8) : List UInt8 × Bool := if (ruleL f v).2 = true then ((ruleL f v).1, true) else ([], false)
theorem rmore_none (f : Int) (v : ByteArray) (w : World) (hf : f < 4 ∨ 8 < f) :
    Calls Tryz.prog 31 #[.int .i8 f, .string v] w fun e w' => e = .returned (ret2 ([], false)) ∧ Below w.heap.size w w' := by
  have e4 : (f == 4) = false := by rw [beq_eq_false_iff_ne]; omega
  have e5 : (f == 5) = false := by rw [beq_eq_false_iff_ne]; omega
  have e6 : (f == 6) = false := by rw [beq_eq_false_iff_ne]; omega
  have e7 : (f == 7) = false := by rw [beq_eq_false_iff_ne]; omega
  have e8 : (f == 8) = false := by rw [beq_eq_false_iff_ne]; omega
  clear hf
  go_enter Tryz.func31, Tryz.ntmps31
  go_wp2_with fail
  go_ret2
  exact ⟨rfl, Below.refl _ _⟩
theorem rmore_number (v : ByteArray) (w : World) (hs : v.size ≤ 65536) :
    Calls Tryz.prog 31 #[.int .i8 4, .string v] w fun e w' => e = .returned (ret2 (moreL 4 v.data.toList)) ∧ Below w.heap.size w w' := by
  have hN := fun w => rnumbered_any v w (by omega)
  have hM : moreL 4 v.data.toList = if (numberL v.data.toList).2 = true then ((numberL v.data.toList).1, true) else ([], false) := rfl
  cases hn : numeralL v.data.toList with
  | false =>
    rw [hn] at hN
    have HM := Lib.hid (show moreL 4 v.data.toList = ([], false) by rw [hM]; unfold numberL; rw [if_pos hn]; rfl)
    have HN := Lib.hid hN; clear hN hM hn
    go_enter Tryz.func31, Tryz.ntmps31
    go_wp2_with (first
      | (go_at_call 42; with_reducible refine (HN.out _).mono ?_; rintro e w1 ⟨rfl, rfl⟩)
      | fail)
    go_ret2
    exact ⟨by rw [HM.out]; rfl, Below.refl _ _⟩
  | true =>
    rw [hn] at hN
    have hK := fun w => rnumber_any v w hs hn
    have h2 : (numberL v.data.toList).2 = true := by
      unfold numberL; rw [if_neg (by rw [hn]; simp)]; split <;> rfl
    have HM := Lib.hid (hM.trans (if_pos h2))
    have HN := Lib.hid hN; have HK := Lib.hid hK; clear hN hM hn h2 hK
    go_enter Tryz.func31, Tryz.ntmps31
    go_wp2_with (first
      | (go_at_call 42; with_reducible refine (HN.out _).mono ?_; rintro e w1 ⟨rfl, rfl⟩)
      | (go_at_call 75; with_reducible refine (HK.out _).mono ?_; rintro e w2 ⟨rfl, hb2⟩; have HB2 := Lib.hid hb2; clear hb2)
      | fail)
    go_ret2
    exact ⟨by rw [HM.out]; rfl, HB2.out⟩
theorem rmore_flag (v : ByteArray) (w : World) (hs : v.size ≤ 65536) :
    Calls Tryz.prog 31 #[.int .i8 5, .string v] w fun e w' => e = .returned (ret2 (moreL 5 v.data.toList)) ∧ Below w.heap.size w w' := by
  have hM : moreL 5 v.data.toList = if (v.data.toList == [84, 82, 85, 69] || v.data.toList == [70, 65, 76, 83, 69]) = true then (v.data.toList, true) else ([], false) := rfl
  have hv : v.toList = v.data.toList := Lib.toList_data v
  cases h1 : (v.data.toList == [84, 82, 85, 69]) with
  | true =>
    have e1 : (v.toList == [84, 82, 85, 69]) = true := by rw [hv]; exact h1
    have HM := Lib.hid (show moreL 5 v.data.toList = (v.data.toList, true) by rw [hM, h1]; rfl)
    clear hM hv h1
    go_enter Tryz.func31, Tryz.ntmps31
    go_wp2_with fail
    go_ret2
    exact ⟨by rw [HM.out]; unfold ret2; rw [bmk v]; rfl, Below.refl _ _⟩
  | false =>
    have e1 : (v.toList == [84, 82, 85, 69]) = false := by rw [hv]; exact h1
    cases h2 : (v.data.toList == [70, 65, 76, 83, 69]) with
    | true =>
      have e2 : (v.toList == [70, 65, 76, 83, 69]) = true := by rw [hv]; exact h2
      have HM := Lib.hid (show moreL 5 v.data.toList = (v.data.toList, true) by rw [hM, h1, h2]; rfl)
      clear hM hv h1 h2
      go_enter Tryz.func31, Tryz.ntmps31
      go_wp2_with fail
      go_ret2
      exact ⟨by rw [HM.out]; unfold ret2; rw [bmk v]; rfl, Below.refl _ _⟩
    | false =>
      have e2 : (v.toList == [70, 65, 76, 83, 69]) = false := by rw [hv]; exact h2
      have HM := Lib.hid (show moreL 5 v.data.toList = ([], false) by rw [hM, h1, h2]; rfl)
      clear hM hv h1 h2
      go_enter Tryz.func31, Tryz.ntmps31
      go_wp2_with fail
      go_ret2
      exact ⟨by rw [HM.out]; rfl, Below.refl _ _⟩
theorem rmore_time (v : ByteArray) (w : World) (hs : v.size ≤ 65536) :
    Calls Tryz.prog 31 #[.int .i8 6, .string v] w fun e w' => e = .returned (ret2 (moreL 6 v.data.toList)) ∧ Below w.heap.size w w' := by
  have hT := fun w => rtime_any v w (by omega)
  have hrg := timeL_range v.data.toList
  have hM : moreL 6 v.data.toList = if (timeFormL v.data.toList).2 = true then ((timeFormL v.data.toList).1, true) else ([], false) := rfl
  have hF : timeFormL v.data.toList = if (timeL v.data.toList).2.2 = true then (momentL (timeL v.data.toList).1 (timeL v.data.toList).2.1, true) else ([], false) := rfl
  have hrl : (timeL v.data.toList).2.1.length ≤ 65536 := by
    have := timeL_rest v.data.toList
    rw [← Lib.size_eq] at this; omega
  generalize timeL v.data.toList = T at *
  obtain ⟨n, rest, ok⟩ := T
  simp only [ret3] at hT hF
  simp only [] at hrg hrl
  cases ok with
  | false =>
    have HM := Lib.hid (show moreL 6 v.data.toList = ([], false) by rw [hM, hF]; rfl)
    have HT := Lib.hid hT; clear hT hF hM hrg
    go_enter Tryz.func31, Tryz.ntmps31
    go_wp2_with (first
      | (go_at_call 18; with_reducible refine (HT.out _).mono ?_; rintro e w1 ⟨rfl, hb1⟩; have HB1 := Lib.hid hb1; clear hb1)
      | fail)
    go_ret2
    exact ⟨by rw [HM.out]; rfl, HB1.out⟩
  | true =>
    obtain ⟨r0, r1⟩ := hrg rfl
    have hK := fun w => rmoment_any n ⟨rest.toArray⟩ w r0 r1 hrl
    rw [show (ByteArray.mk rest.toArray).data.toList = rest from rfl] at hK
    have HM := Lib.hid (show moreL 6 v.data.toList = (momentL n rest, true) by rw [hM, hF]; rfl)
    have HT := Lib.hid hT; have HK := Lib.hid hK; clear hT hF hM hrg hK
    go_enter Tryz.func31, Tryz.ntmps31
    go_wp2_with (first
      | (go_at_call 18; with_reducible refine (HT.out _).mono ?_; rintro e w1 ⟨rfl, hb1⟩; have HB1 := Lib.hid hb1; clear hb1)
      | (go_at_call 76; with_reducible refine (HK.out _).mono ?_; rintro e w2 ⟨rfl, hb2⟩; have HB2 := Lib.hid (bnext HB1.out hb2); clear hb2)
      | fail)
    go_ret2
    exact ⟨by rw [HM.out]; rfl, HB2.out⟩
theorem rmore_bytes (v : ByteArray) (w : World) :
    Calls Tryz.prog 31 #[.int .i8 7, .string v] w fun e w' => e = .returned (ret2 (moreL 7 v.data.toList)) ∧ Below w.heap.size w w' := by
  have HM := Lib.hid (show moreL 7 v.data.toList = (v.data.toList, true) from rfl)
  go_enter Tryz.func31, Tryz.ntmps31
  go_wp2_with fail
  go_ret2
  exact ⟨by rw [HM.out]; unfold ret2; rw [bmk v]; rfl, Below.refl _ _⟩
theorem rmore_oid (v : ByteArray) (w : World) (hs : v.size ≤ 65536) :
    Calls Tryz.prog 31 #[.int .i8 8, .string v] w fun e w' => e = .returned (ret2 (moreL 8 v.data.toList)) ∧ Below w.heap.size w w' := by
  have hW := fun w => rword_any v w (by omega)
  have hL := fun w => rlow_any v w (by omega)
  have hM : moreL 8 v.data.toList = if (oidL v.data.toList).2 = true then ((oidL v.data.toList).1, true) else ([], false) := rfl
  have ho := oidL_word v.data.toList
  cases hw : wordL v.data.toList with
  | false =>
    rw [hw] at ho hW
    have ho2 : (oidL v.data.toList).2 = false := by rw [ho]; rfl
    have HM := Lib.hid (show moreL 8 v.data.toList = ([], false) by rw [hM, ho2]; rfl)
    have HW := Lib.hid hW; clear hW hM ho ho2 hw hL
    go_enter Tryz.func31, Tryz.ntmps31
    go_wp2_with (first
      | (go_at_call 77; with_reducible refine (HW.out _).mono ?_; rintro e w1 ⟨rfl, rfl⟩)
      | fail)
    go_ret2
    exact ⟨by rw [HM.out]; rfl, Below.refl _ _⟩
  | true =>
    rw [hw] at ho hW
    have HM := Lib.hid (show moreL 8 v.data.toList = (low v.data.toList, true) by rw [hM, ho]; rfl)
    have HW := Lib.hid hW; have HL := Lib.hid hL; clear hW hM ho hw hL
    go_enter Tryz.func31, Tryz.ntmps31
    go_wp2_with (first
      | (go_at_call 77; with_reducible refine (HW.out _).mono ?_; rintro e w1 ⟨rfl, rfl⟩)
      | (go_at_call 25; with_reducible refine (HL.out _).mono ?_; rintro e w2 ⟨rfl, hb2⟩; have HB2 := Lib.hid hb2; clear hb2)
      | fail)
    go_ret2
    exact ⟨by rw [HM.out]; rfl, HB2.out⟩
theorem rmore_any (f : Int) (v : ByteArray) (w : World) (hs : v.size ≤ 65536) (hf : f < 0 ∨ 4 ≤ f) :
    Calls Tryz.prog 31 #[.int .i8 f, .string v] w fun e w' => e = .returned (ret2 (moreL f v.data.toList)) ∧ Below w.heap.size w w' := by
  by_cases h : f < 0 ∨ 8 < f
  · have : moreL f v.data.toList = ([], false) := by unfold moreL; rw [ruleL_none f _ h]; rfl
    rw [this]; exact rmore_none f v w (by omega)
  · rcases (show f = 4 ∨ f = 5 ∨ f = 6 ∨ f = 7 ∨ f = 8 by omega) with rfl | rfl | rfl | rfl | rfl
    · exact rmore_number v w hs
    · exact rmore_flag v w hs
    · exact rmore_time v w hs
    · exact rmore_bytes v w
    · exact rmore_oid v w hs
set_option maxRecDepth 20000 in
theorem rkey_more (f : Int) (v : ByteArray) (w : World) (hs : v.size ≤ 65536) (hf : f < 0 ∨ 4 ≤ f) :
    Calls Tryz.prog 11 #[.int .i8 f, .string v] w fun e w' => e = .returned (ret2 (keyL f v.data.toList)) ∧ Below w.heap.size w w' := by
  have hM := fun w => rmore_any f v w hs hf
  have hK : keyL f v.data.toList = moreL f v.data.toList := keyL_of (by rw [← Lib.size_eq]; exact hs)
  generalize moreL f v.data.toList = r at *
  obtain ⟨k, ok⟩ := r
  simp only [ret2] at hM
  have HM := Lib.hid hM; have HK := Lib.hid hK; clear hM hK
  have g1 : ¬ (65536 : Int) < v.size := by omega
  have e0 : (f == 0) = false := by rw [beq_eq_false_iff_ne]; omega
  have e1 : (f == 1) = false := by rw [beq_eq_false_iff_ne]; omega
  have e2 : (f == 2) = false := by rw [beq_eq_false_iff_ne]; omega
  have e3 : (f == 3) = false := by rw [beq_eq_false_iff_ne]; omega
  clear hf hs
  go_enter Tryz.func11, Tryz.ntmps11
  go_wp2_with (first
    | (go_at_call 31; with_reducible refine (HM.out _).mono ?_; rintro e w1 ⟨rfl, hb1⟩; have HB1 := Lib.hid hb1; clear hb1)
    | fail)
  go_ret2
  exact ⟨by rw [HK.out]; rfl, HB1.out⟩
theorem rkey_any (f : Int) (v : ByteArray) (w : World) :
    Calls Tryz.prog 11 #[.int .i8 f, .string v] w fun e w' => e = .returned (ret2 (keyL f v.data.toList)) ∧ Below w.heap.size w w' := by
  by_cases h : 65536 < v.size
  · exact rkey_long f v w h
  have hs : v.size ≤ 65536 := by omega
  rcases (show (f < 0 ∨ 4 ≤ f) ∨ (f = 0 ∨ f = 1) ∨ f = 2 ∨ f = 3 by omega) with hf | hf | rfl | rfl
  · exact rkey_more f v w hs hf
  · exact rkey_text f v w hs hf
  · exact rkey_digits v w hs
  · exact rkey_phone v w hs
end Go.Proofs.YtpnnbffhdhbonaaGreatDoor
