/- Part 2 of the walks and plain laws, joined: Forms, Cal, Numeral, Pair. -/
import Derived.Test.YtlmfbjhokkpjhaaGreatDoorNM01
import Derived.Test.YtlmfbjhokkpjhaaGreatDoorNM00
import Derived.BigQuiet
import Derived.Deep.RegionHeld3
set_option linter.unusedVariables false
set_option linter.unusedSimpArgs false
namespace Go.Proofs.YtlmfbjhokkpjhaaGreatDoor
open Go Go.RowKit
def ret2 (p : List UInt8 × Bool) : Value := .tuple #[.string ⟨p.1.toArray⟩, .bool p.2]
def trimS (l : List UInt8) : List UInt8 := Lib.trimB l 32
def exactL (v : List UInt8) : List UInt8 × Bool :=
 if v = [] ∨ Lib.validD v = false then ([], false) else (if trimS (sqz false v) = [] then [32] else trimS (sqz false v), true)
theorem sqz_length (p : Bool) (l : List UInt8) : (sqz p l).length ≤ l.length := by
 induction l generalizing p with
 | nil => simp [sqz]
 | cons b l ih =>
  rw [sqz_cons]
  split
  ·have := ih true; simp; omega
  ·have := ih (b == 32); simp; omega
theorem exact_any (v : ByteArray) (w : World) (hs : v.size ≤ 140737488355327) :
    Calls Tryz.prog 146 #[.agg #[], .string v] w fun e w' => e = .returned (ret2 (exactL v.data.toList)) ∧ Below w.heap.size w w' := by
  have b0 : Below w.heap.size w (w.alloc (.cells #[] 204)) := (Zl _ w).alloc (Zr _) _
  have HB0 := Zh b0; clear b0
  have hl : v.data.toList.length = v.size := by simp
  have hsl := sqz_length false v.data.toList
  have HL := Zh (Zi hl hsl); clear hl hsl
  go_enter Tryz.func146, Tryz.ntmps146
  by_cases hv : v.data.toList = []
  · obtain rfl := empty_of v hv
    go_wp2_with fail
    go_ret2
    exact ⟨rfl, HB0.out⟩
  · obtain ⟨n1, n2, _⟩ := nonempty_of v hv
    cases hd : Lib.validD v.data.toList with
    | false =>
      go_wp2_with (first
        | (go_at_call 113; refine (valid_any _ _ (by omega)).mono ?_; rintro e w1 ⟨rfl, hb1⟩; have HB1 := Zh (bnext HB0.out hb1); clear hb1)
        | fail)
      go_ret2
      refine ⟨?_, HB1.out⟩
      rw [exactL, if_pos (.inr hd)]; rfl
    | true =>
      go_wp2_with (first
        | (go_at_call 113; refine (valid_any _ _ (by omega)).mono ?_; rintro e w1 ⟨rfl, hb1⟩; have HB1 := Zh (bnext HB0.out hb1); clear hb1)
        | (go_at_call 136; refine (squeeze_any _ _ (by omega)).mono ?_; rintro e w2 ⟨rfl, hb2⟩; have HB2 := Zh (bnext HB1.out hb2); clear hb2)
        | (go_at_call 186; refine (Tryz.strings_Trim_one _ 32 (by decide) _ (by have := HL.out; show (sqz false v.data.toList).length ≤ _; omega)).mono ?_; rintro e w3 ⟨rfl, hb3⟩
           have HB3 : Hid (Below w.heap.size w w3) := by rcases hb3 with rfl | rfl; · exact HB2.out
                                                         · exact HB2.out.drew
           clear hb3)
        | fail)
      · rename_i h
        go_ret2
        refine ⟨?_, HB3.out⟩
        rw [exactL, if_neg (by simp [hv, hd]), if_pos (show trimS (sqz false v.data.toList) = [] from List.isEmpty_iff.1 h)]; rfl
      · rename_i h
        go_ret2
        refine ⟨?_, HB3.out⟩
        rw [exactL, if_neg (by simp [hv, hd]), if_neg (show ¬ trimS (sqz false v.data.toList) = [] from fun e => by have := List.isEmpty_iff.2 e; unfold trimS at this; rw [h] at this; cases this)]; rfl
def foldL (v : List UInt8) : List UInt8 × Bool := (low (exactL v).1, (exactL v).2)
def dialL (l : List UInt8) : List UInt8 := low (zapB 45 (zapB 32 l))
def signs : List UInt8 := [97, 98, 99, 100, 101, 102, 103, 104, 105, 106, 107, 108, 109, 110, 111, 112, 113, 114, 115, 116, 117, 118, 119, 120, 121, 122, 65, 66, 67, 68, 69, 70, 71, 72, 73, 74, 75, 76, 77, 78, 79, 80, 81, 82, 83, 84, 85, 86, 87, 88, 89, 90, 39, 40, 41, 43, 44, 45, 46, 47, 58, 63, 61, 32]
def digitsL (v : List UInt8) : List UInt8 × Bool := (zapB 32 v, onlyL [32] v && !(zapB 32 v).isEmpty)
def phoneL (v : List UInt8) : List UInt8 × Bool := (dialL v, onlyL signs v && !(dialL v).isEmpty)
theorem exactL_length (v : List UInt8) : (exactL v).1.length ≤ v.length := by
 unfold exactL
 split
 ·simp
 ·rename_i h
  have hv : v ≠ [] := fun e => h (.inl e)
  have := List.length_pos_iff.2 hv
  have h2 := sqz_length false v
  have h3 : (trimS (sqz false v)).length ≤ (sqz false v).length := by
   unfold trimS Lib.trimB Lib.trimLeftB Lib.trimRightB
   refine Nat.le_trans (List.dropWhile_sublist _).length_le ?_
   rw [List.length_reverse]
   refine Nat.le_trans (List.dropWhile_sublist _).length_le ?_
   rw [List.length_reverse]; exact Zr _
  dsimp only
  split
  ·simp; omega
  ·omega
theorem fold_any (v : ByteArray) (w : World) (hs : v.size ≤ 140737488355327) :
  Calls Tryz.prog 145 #[.agg #[], .string v] w fun e w' => e = .returned (ret2 (foldL v.data.toList)) ∧ Below w.heap.size w w' := by
 have b0 : Below w.heap.size w (w.alloc (.cells #[] 204)) := (Zl _ w).alloc (Zr _) _
 have HB0 := Zh b0; clear b0
 have HL := Zh (Zi (Lib.size_eq v) (exactL_length v.data.toList))
 go_enter Tryz.func145, Tryz.ntmps145
 go_wp2_with (first
  | (go_at_call 146; refine (exact_any _ _ hs).mono ?_; rintro e w1 ⟨rfl, hb1⟩; have HB1 := Zh (bnext HB0.out hb1); clear hb1; unfold ret2)
  | (go_at_call 104; refine (lower_any _ _ (by have := HL.out; show (exactL v.data.toList).1.length ≤ _; omega)).mono ?_; rintro e w2 ⟨rfl, hb2⟩; have HB2 := Zh (bnext HB1.out hb2); clear hb2)
  | fail)
 go_ret2
 exact ⟨rfl, HB2.out⟩
theorem digits_any (v : ByteArray) (w : World) (E : Env w) (hs : v.size ≤ 4294967280) :
    Calls Tryz.prog 147 #[.agg #[], .string v] w fun e w' => e = .returned (ret2 (digitsL v.data.toList)) ∧ Below w.heap.size w w' := by
  have b0 : Below w.heap.size w (w.alloc (.cells #[] 204)) := (Zl _ w).alloc (Zr _) _
  obtain ⟨m, hm⟩ := (E.next b0).max
  have HB0 := Zh b0; have HM := Zh hm; clear b0 hm E
  go_enter Tryz.func147, Tryz.ntmps147
  go_wp2_with (first
    | (go_at_call 140; refine (Tryz.strings_ReplaceAll v _ _ m _ (by omega) HM.out (by decide) (by show _ + _ * 0 ≤ _; omega)).mono ?_; rintro e w1 ⟨rfl, hb1⟩; have HB1 := Zh (bnext HB0.out hb1); clear hb1
       rw [show Lib.replaceAll v.data.toList (ByteArray.mk #[32]).data.toList (ByteArray.mk #[]).data.toList = zapB 32 v.data.toList from replaceAll_zap 32 _]
       generalize hz : zapB 32 v.data.toList = z; have HZ := Zh hz; clear hz)
    | (go_at_call 139; refine (only_any _ _ _ (by omega)).mono ?_; rintro e w2 ⟨rfl, rfl⟩)
    | fail)
  all_goals rename_i h
  all_goals go_ret2
  all_goals refine ⟨?_, HB1.out⟩
  · rw [digitsL, HZ.out, h]; rfl
  · rw [digitsL, HZ.out, Bool.eq_false_iff.2 h]; rfl
theorem dialled_any (v : ByteArray) (w : World) (E : Env w) (hs : v.size ≤ 4294967280) :
  Calls Tryz.prog 141 #[.string v] w fun e w' => e = .returned (.string ⟨(dialL v.data.toList).toArray⟩) ∧ Below w.heap.size w w' := by
 obtain ⟨m, hm⟩ := E.max
 have hl1 := zapB_length 32 v.data.toList
 have hl2 := zapB_length 45 (zapB 32 v.data.toList)
 have HL := Zh (Zi (Lib.size_eq v) (Zi hl1 hl2)); clear hl1 hl2
 have HM := Zh hm; have HE := Zh E; clear hm E
 go_enter Tryz.func141, Tryz.ntmps141
 go_wp2_with fail
 ·go_at_call 140
  refine (Tryz.strings_ReplaceAll v _ _ m _ (by omega) HM.out (by decide) (by show _ + _ * 0 ≤ _; omega)).mono ?_
  rintro e w1 ⟨rfl, hb1⟩
  have HB1 := Zh hb1; clear hb1
  rw [show Lib.replaceAll v.data.toList (ByteArray.mk #[32]).data.toList (ByteArray.mk #[]).data.toList = zapB 32 v.data.toList from replaceAll_zap 32 _]
  obtain ⟨m2, hm2⟩ := (HE.out.next HB1.out).max
  have HM2 := Zh hm2; clear hm2
  generalize hz : zapB 32 v.data.toList = z at HL
  have HZ := Zh hz; clear hz
  go_wp2_with fail
  go_at_call 140
  refine (Tryz.strings_ReplaceAll _ _ _ m2 _ (by have := HL.out; show z.length < _; omega) HM2.out (by decide) (by have := HL.out; show z.length + _ * 0 ≤ _; omega)).mono ?_
  rintro e w2 ⟨rfl, hb2⟩
  have HB2 := Zh (bnext HB1.out hb2); clear hb2
  rw [show Lib.replaceAll (ByteArray.mk z.toArray).data.toList (ByteArray.mk #[45]).data.toList (ByteArray.mk #[]).data.toList = zapB 45 z from replaceAll_zap 45 _]
  generalize hy : zapB 45 z = y at HL
  have HY := Zh hy; clear hy
  go_wp2_with (first
   | (go_at_call 104; refine (lower_any _ _ (by have := HL.out; show y.length ≤ _; omega)).mono ?_; rintro e w3 ⟨rfl, hb3⟩; have HB3 := Zh (bnext HB2.out hb3); clear hb3)
   | fail)
  go_ret
  refine ⟨?_, HB3.out⟩
  rw [dialL, HZ.out, HY.out]; rfl
theorem dialL_length (l : List UInt8) : (dialL l).length ≤ l.length := by
 have h1 := zapB_length 32 l
 have h2 := zapB_length 45 (zapB 32 l)
 unfold dialL low; rw [List.length_map]; omega
theorem phone_any (v : ByteArray) (w : World) (E : Env w) (hs : v.size ≤ 4294967280) :
    Calls Tryz.prog 148 #[.agg #[], .string v] w fun e w' => e = .returned (ret2 (phoneL v.data.toList)) ∧ Below w.heap.size w w' := by
  have b0 : Below w.heap.size w (w.alloc (.cells #[] 204)) := (Zl _ w).alloc (Zr _) _
  have HE := Zh (E.next b0); clear E
  have HB0 := Zh b0; clear b0
  go_enter Tryz.func148, Tryz.ntmps148
  go_wp2_with (first
    | (go_at_call 141; refine (dialled_any v _ HE.out hs).mono ?_; rintro e w1 ⟨rfl, hb1⟩; have HB1 := Zh (bnext HB0.out hb1); clear hb1
       generalize hz : dialL v.data.toList = z; have HZ := Zh hz; clear hz)
    | (go_at_call 139; refine (only_any _ _ _ (by omega)).mono ?_; rintro e w2 ⟨rfl, rfl⟩
       rw [show onlyL (ByteArray.mk #[97, 98, 99, 100, 101, 102, 103, 104, 105, 106, 107, 108, 109, 110, 111, 112, 113, 114, 115, 116, 117, 118, 119, 120, 121, 122, 65, 66, 67, 68, 69, 70, 71, 72, 73, 74, 75, 76, 77, 78, 79, 80, 81, 82, 83, 84, 85, 86, 87, 88, 89, 90, 39, 40, 41, 43, 44, 45, 46, 47, 58, 63, 61, 32]).data.toList v.data.toList = onlyL signs v.data.toList from rfl])
    | fail)
  all_goals rename_i h
  all_goals go_ret2
  all_goals refine ⟨?_, HB1.out⟩
  · rw [phoneL, HZ.out, h]; rfl
  · rw [phoneL, HZ.out, Bool.eq_false_iff.2 h]; rfl
def flagL (v : List UInt8) : List UInt8 × Bool := (v, v == [84, 82, 85, 69] || v == [70, 65, 76, 83, 69])
theorem flag_any (v : ByteArray) (w : World) :
  Calls Tryz.prog 150 #[.agg #[], .string v] w fun e w' => e = .returned (ret2 (flagL v.data.toList)) ∧ Below w.heap.size w w' := by
 have b0 : Below w.heap.size w (w.alloc (.cells #[] 204)) := (Zl _ w).alloc (Zr _) _
 have HB0 := Zh b0; clear b0
 go_enter Tryz.func150, Tryz.ntmps150
 go_wp2_with fail
 all_goals rename_i h
 all_goals go_ret2
 all_goals refine ⟨?_, HB0.out⟩
 ·rw [Lib.toList_data] at h
  rw [show ret2 (flagL v.data.toList) = .tuple #[.string v, .bool true] by unfold ret2 flagL; dsimp only; rw [bmk, h]; rfl]; rfl
 ·rw [show ret2 (flagL v.data.toList) = .tuple #[.string v, .bool (v.toList == [84, 82, 85, 69] || v.toList == [70, 65, 76, 83, 69])] by unfold ret2 flagL; dsimp only; rw [bmk, Lib.toList_data]]; rfl
theorem bytes_any (v : ByteArray) (w : World) :
  Calls Tryz.prog 152 #[.agg #[], .string v] w fun e w' => e = .returned (ret2 (v.data.toList, true)) ∧ Below w.heap.size w w' := by
 have b0 : Below w.heap.size w (w.alloc (.cells #[] 204)) := (Zl _ w).alloc (Zr _) _
 have HB0 := Zh b0; clear b0
 go_enter Tryz.func152, Tryz.ntmps152
 go_wp2_with fail
 go_ret2
 exact ⟨by rw [show ret2 (v.data.toList, true) = .tuple #[.string v, .bool true] by unfold ret2; dsimp only]; rfl, HB0.out⟩
def daysI (y m d : Int) : Int :=
 let y1 := if m ≤ 2 then y - 1 else y
 let m1 := if m ≤ 2 then m + 12 else m
 let era := y1 / 400
 let inn := y1 - era * 400
 era * 146097 + inn * 365 + inn / 4 - inn / 100 + (153 * (m1 - 3) + 2) / 5 + d - 1 - 719468
set_option maxRecDepth 20000 in
theorem days_any (y m d : Int) (w : World) (hy : 0 ≤ y ∧ y ≤ 99999) (hm : 1 ≤ m ∧ m ≤ 12) (hd : 0 ≤ d ∧ d ≤ 99) :
  Calls Tryz.prog 235 #[.agg #[.int .i64 y, .int .i64 m, .int .i64 d]] w fun e w' => e = .returned (.int .i64 (daysI y m d)) ∧ Below w.heap.size w w' := by
 have b0 : Below w.heap.size w (w.alloc (.cells #[.int .i64 y, .int .i64 m, .int .i64 d] 239)) := (Zl _ w).alloc (Zr _) _
 have HB0 := Zh b0; clear b0
 obtain ⟨hy1, hy2⟩ := hy
 obtain ⟨hm1, hm2⟩ := hm
 obtain ⟨hd1, hd2⟩ := hd
 go_enter Tryz.func235, Tryz.ntmps235
 go_wp2_with fail
 go_quiet (fail)
 by_cases h2 : m ≤ 2
 ·by_cases h0 : y = 0
  ·subst h0
   have hD := Zh (show daysI 0 m d = -366 + (153 * (m + 12 - 3) + 2) / 5 + d - 1 - 719468 by unfold daysI; simp only [if_pos h2]; omega)
   go_wp2_with fail
   go_ret
   exact ⟨by rw [hD.out]; rfl, bdrewN HB0.out _⟩
  ·have h1 : 1 ≤ y := by omega
   have hD := Zh (show daysI y m d = (y - 1) / 400 * 146097 + (y - 1 - (y - 1) / 400 * 400) * 365 + (y - 1 - (y - 1) / 400 * 400) / 4 - (y - 1 - (y - 1) / 400 * 400) / 100 + (153 * (m + 12 - 3) + 2) / 5 + d - 1 - 719468 by unfold daysI; simp only [if_pos h2])
   go_wp2_with fail
   go_ret
   exact ⟨by rw [hD.out]; rfl, bdrewN HB0.out _⟩
 ·have hD := Zh (show daysI y m d = y / 400 * 146097 + (y - y / 400 * 400) * 365 + (y - y / 400 * 400) / 4 - (y - y / 400 * 400) / 100 + (153 * (m - 3) + 2) / 5 + d - 1 - 719468 by unfold daysI; simp only [if_neg h2])
  go_wp2_with fail
  go_ret
  exact ⟨by rw [hD.out]; rfl, bdrewN HB0.out _⟩
def dateI (n0 : Int) : Int × Int × Int :=
 let n := n0 + 719468
 let era := n / 146097
 let inn := n - era * 146097
 let year := (inn - inn / 1460 + inn / 36524 - inn / 146096) / 365
 let of := inn - (365 * year + year / 4 - year / 100)
 let m := (5 * of + 2) / 153
 (if 12 < m + 3 then year + era * 400 + 1 else year + era * 400, if 12 < m + 3 then m + 3 - 12 else m + 3, of - (153 * m + 2) / 5 + 1)
theorem date_lin (I a b g Y c e : Int) (h0 : 0 ≤ I) (h1 : I ≤ 146096) (ha : 1460 * a ≤ I ∧ I < 1460 * a + 1460) (hb : 36524 * b ≤ I ∧ I < 36524 * b + 36524) (hg : 146096 * g ≤ I ∧ I < 146096 * g + 146096)
  (hY : 365 * Y ≤ I - a + b - g ∧ I - a + b - g < 365 * Y + 365) (hc : 4 * c ≤ Y ∧ Y < 4 * c + 4) (he : 100 * e ≤ Y ∧ Y < 100 * e + 100) :
  0 ≤ Y ∧ Y ≤ 399 ∧ 0 ≤ I - (365 * Y + c - e) ∧ I - (365 * Y + c - e) ≤ 366 := by
 have hg2 : g = 0 ∨ g = 1 := by omega
 have hb2 : b = 0 ∨ b = 1 ∨ b = 2 ∨ b = 3 ∨ b = 4 := by omega
 have y0 : 0 ≤ Y := by omega
 have y1 : Y ≤ 399 := by omega
 have k1 : c ≤ a := by omega
 have k2 : b - g ≤ e := by rcases hb2 with rfl | rfl | rfl | rfl | rfl <;> rcases hg2 with rfl | rfl <;> omega
 have k3 : 0 ≤ I - (365 * Y + c - e) := by omega
 have k4 : e ≤ b := by rcases hb2 with rfl | rfl | rfl | rfl | rfl <;> rcases hg2 with rfl | rfl <;> omega
 have k5 : I - (365 * Y + c - e) ≤ 366 := by
  rcases hb2 with rfl | rfl | rfl | rfl | rfl <;> rcases hg2 with rfl | rfl <;> omega
 exact ⟨y0, y1, k3, k5⟩
theorem date_facts (I : Int) (h0 : 0 ≤ I) (h1 : I ≤ 146096) : ∃ Y O M : Int, (I - I / 1460 + I / 36524 - I / 146096) / 365 = Y ∧ 0 ≤ Y ∧ Y ≤ 399 ∧ I - (365 * Y + Y / 4 - Y / 100) = O ∧ 0 ≤ O ∧ O ≤ 366 ∧ (5 * O + 2) / 153 = M ∧ 0 ≤ M ∧ M ≤ 11 := by
 obtain ⟨Y, hY⟩ : ∃ Y, (I - I / 1460 + I / 36524 - I / 146096) / 365 = Y := ⟨_, rfl⟩
 obtain ⟨k1, k2, k3, k4⟩ := date_lin I (I / 1460) (I / 36524) (I / 146096) Y (Y / 4) (Y / 100) h0 h1 (by omega) (by omega) (by omega) (by omega) (by omega) (by omega)
 exact ⟨Y, _, _, hY, k1, k2, rfl, k3, k4, rfl, by omega, by omega⟩
theorem date_heap (w : World) (o1 o2 : Obj) : ((w.alloc o1).alloc o2).heap[w.heap.size]? = some o1 := by
 rw [Below.heap_alloc _ _ _ (by simp)]; exact heap_alloc_new _ _
set_option maxRecDepth 20000 in
theorem date_any (n : Int) (w : World) (hn : -719600 ≤ n ∧ n ≤ 40000000) :
  Calls Tryz.prog 196 #[.int .i64 n] w fun e w' => e = .returned (.agg #[.int .i64 (dateI n).1, .int .i64 (dateI n).2.1, .int .i64 (dateI n).2.2]) ∧ Below w.heap.size w w' := by
 obtain ⟨hn1, hn2⟩ := hn
 obtain ⟨N, hN⟩ : ∃ N, n + 719468 = N := ⟨_, rfl⟩
 obtain ⟨E, hE⟩ : ∃ E, N / 146097 = E := ⟨_, rfl⟩
 obtain ⟨I, hI⟩ : ∃ I, N - E * 146097 = I := ⟨_, rfl⟩
 obtain ⟨Y, O, M, hY, y0, y1, hO, o0, o1, hM, m0, m1⟩ := date_facts I (by omega) (by omega)
 have hD := Zh (show dateI n = (if 12 < M + 3 then Y + E * 400 + 1 else Y + E * 400, if 12 < M + 3 then M + 3 - 12 else M + 3, O - (153 * M + 2) / 5 + 1) by
  unfold dateI; simp only [hN, hE, hI, hY, hO, hM])
 have e0 : -1 ≤ E := by omega
 have e1 : E ≤ 300 := by omega
 have i0 : 0 ≤ I := by omega
 have i1 : I ≤ 146096 := by omega
 have HH := Zh (Zi hN (Zi hE hI))
 by_cases h0 : N < 0
 ·have hq : (N - 146096).tdiv 146097 = -1 := by
   rw [show N - 146096 = -(146096 - N) by omega, Int.neg_tdiv, Int.tdiv_eq_ediv_of_nonneg (by omega)]
   omega
  obtain rfl : E = -1 := by omega
  have hI2 : N + 146097 = I := by omega
  clear hE hI
  go_enter Tryz.func196, Tryz.ntmps196
  go_wp2_with fail
  all_goals rename_i h12
  ·refine bodyPost_ret (results_cell_row rfl _ _ w.heap.size 239 _ (0, 0) (.array 3 3) rfl (date_heap w _ _) Tryz.underlying239 rfl (by kernel_rfl)) rfl ⟨?_, ((Zl _ w).alloc (Zr _) _).alloc (by simp) _⟩
   have e := hD.out
   simp only [if_pos h12] at e
   rw [e]; rw [show Y + -1 * 400 + 1 = Y + -400 + 1 by omega]
  ·have h13 := Int.not_lt.2 h12
   refine bodyPost_ret (results_cell_row rfl _ _ w.heap.size 239 _ (0, 0) (.array 3 3) rfl (date_heap w _ _) Tryz.underlying239 rfl (by kernel_rfl)) rfl ⟨?_, ((Zl _ w).alloc (Zr _) _).alloc (by simp) _⟩
   have e := hD.out
   simp only [if_neg h13] at e
   rw [e]; rw [show Y + -1 * 400 = Y + -400 by omega]
 ·go_enter Tryz.func196, Tryz.ntmps196
  go_wp2_with fail
  ·rename_i h12
   refine bodyPost_ret (results_cell_row rfl _ _ w.heap.size 239 _ (0, 0) (.array 3 3) rfl (date_heap w _ _) Tryz.underlying239 rfl (by kernel_rfl)) rfl ⟨?_, ((Zl _ w).alloc (Zr _) _).alloc (by simp) _⟩
   have e := hD.out
   simp only [if_pos h12] at e
   rw [e]
  ·rename_i h12
   have h13 := Int.not_lt.2 h12
   refine bodyPost_ret (results_cell_row rfl _ _ w.heap.size 239 _ (0, 0) (.array 3 3) rfl (date_heap w _ _) Tryz.underlying239 rfl (by kernel_rfl)) rfl ⟨?_, ((Zl _ w).alloc (Zr _) _).alloc (by simp) _⟩
   have e := hD.out
   simp only [if_neg h13] at e
   rw [e]
def bare (v : List UInt8) : List UInt8 := match v with | 45 :: l => l | l => l
def digits1 (v : List UInt8) : Bool := match v with | [] => false | b :: l => b != 48 && (b :: l).all dig
def numeralL (v : List UInt8) : Bool := v == [48] || digits1 (bare v)
theorem trimPrefix_bare (v : List UInt8) : Lib.trimPrefix v [45] = bare v := by
 cases v with
 | nil => rfl
 | cons b l =>
  by_cases h : b = 45
  ·subst h; rfl
  ·unfold Lib.trimPrefix Lib.hasPrefix
   rw [if_neg (by rw [List.isPrefixOf_cons_cons]; simp; exact fun e => h e.symm)]
   unfold bare
   split
   ·rename_i e; injection e with e1 e2; exact absurd e1 h
   ·rfl
theorem onlyL_nil (l : List UInt8) : onlyL [] l = l.all dig := by
 unfold onlyL; congr 1; funext b; simp
theorem numeral_any (v : ByteArray) (w : World) (hs : v.size ≤ 140737488355327) :
  Calls Tryz.prog 194 #[.string v] w fun e w' => e = .returned (.bool (numeralL v.data.toList)) ∧ w' = w := by
 have hle : (bare v.data.toList).length ≤ v.size := by
  rw [Lib.size_eq]; unfold bare; split
  ·rename_i e; rw [e]; simp
  ·exact Zr _
 have HLE := Zh hle; clear hle
 go_enter Tryz.func194, Tryz.ntmps194
 cases h : (v.toList == [48]) with
 | true =>
  have h' := h
  rw [Lib.toList_data] at h'
  have H := Zh h'; clear h'
  go_wp2_with fail
  go_ret
  exact ⟨by rw [numeralL, H.out]; rfl, rfl⟩
 | false =>
  have h' := h
  rw [Lib.toList_data] at h'
  have H := Zh h'; clear h'
  go_wp2_with fail
  go_at_call 137
  refine (Tryz.strings_TrimPrefix _ _ _).mono ?_
  rintro e w1 ⟨rfl, rfl⟩
  rw [show Lib.trimPrefix v.data.toList (ByteArray.mk #[45]).data.toList = bare v.data.toList from trimPrefix_bare _]
  generalize hz : bare v.data.toList = z at HLE
  have HZ := Zh hz; clear hz
  cases z with
  | nil =>
   go_wp2_with fail
   go_ret
   exact ⟨by rw [numeralL, H.out, HZ.out]; rfl, rfl⟩
  | cons b l =>
   have hb : ∀ h, (ByteArray.mk (b :: l).toArray)[0]'h = b := fun _ => rfl
   have ho : onlyL (ByteArray.mk #[]).data.toList (ByteArray.mk (b :: l).toArray).data.toList = (b :: l).all dig := onlyL_nil _
   have hb2 : b = 48 ↔ (b.toNat : Int) = 48 := ⟨fun e => by rw [e]; rfl, fun e => UInt8.toNat_inj.1 (by show b.toNat = 48; omega)⟩
   have HB := Zh hb2; clear hb2
   go_wp2_with (first
    | (go_at_call 139; refine (only_any _ _ _ (by have := HLE.out; show (b :: l).length ≤ _; omega)).mono ?_; rintro e w2 ⟨rfl, rfl⟩; rw [ho])
    | fail)
   ·rename_i h48
    have e := HB.out.2 h48
    go_ret
    refine ⟨?_, rfl⟩
    rw [numeralL, H.out, HZ.out, e]; rfl
   ·rename_i h48
    go_ret
    refine ⟨?_, rfl⟩
    have e : (b != 48) = true := by simpa using fun e => h48 (HB.out.1 e)
    have e2 : ((b.toNat : Int) != 48) = true := by simpa using h48
    rw [numeralL, H.out, HZ.out]
    show Ending.returned (.bool (((b.toNat : Int) != 48) && (dig b && l.all dig))) = Ending.returned (.bool (false || ((b != 48) && (b :: l).all dig)))
    rw [e, e2]; rfl
def n3 (n : Nat) : List UInt8 := [(n / 65536 % 256).toUInt8, (n / 256 % 256).toUInt8, (n % 256).toUInt8]
def nine (b : UInt8) : UInt8 := 105 - b
def numberL (v : List UInt8) : List UInt8 × Bool :=
 if numeralL v = false then ([], false)
 else match v with
  | 45 :: l => (110 :: n3 (16777215 - l.length) ++ l.map nine, true)
  | l => (112 :: n3 l.length ++ l, true)
theorem conv3 (w : World) {x y z : Int} {a b c : UInt8} (hx : x = (a.toNat : Int)) (hy : y = (b.toNat : Int)) (hz : z = (c.toNat : Int)) (g : Nat) (hg : g = w.heap.size) :
  (convert 115 9 (.slice (some ⟨g, 0, none⟩) 3 3)).run Tryz.prog (w.alloc (.cells #[.int .u8 x, .int .u8 y, .int .u8 z] 5)) = .ok (.string ⟨#[a, b, c]⟩) (w.alloc (.cells #[.int .u8 x, .int .u8 y, .int .u8 z] 5)) := by
 subst hx hy hz hg
 refine run_convert_bytes_back _ 115 9 5 ⟨w.heap.size, 0, none⟩ 3 [a, b, c] Tryz.underlying115 Tryz.underlying5 Tryz.underlying9 ?_
 intro j hj
 have h := news_new w [.int .u8 (a.toNat : Int), .int .u8 (b.toNat : Int), .int .u8 (c.toNat : Int)] #[.int .u8 (a.toNat : Int), .int .u8 (b.toNat : Int), .int .u8 (c.toNat : Int)] 5 rfl ⟨w.heap.size, 0, none⟩ rfl j (.int .u8 ([a, b, c][j].toNat : Int))
 refine h ?_
 simp only [List.length_cons, List.length_nil] at hj
 rcases (by omega : j = 0 ∨ j = 1 ∨ j = 2) with rfl | rfl | rfl <;> rfl
theorem u8_mod (n : Nat) : ((n % 256).toUInt8.toNat : Int) = (n : Int) % 256 := by
 rw [Nat.toUInt8_eq, UInt8.toNat_ofNat']; omega
theorem bapp (a b : List UInt8) : (⟨a.toArray⟩ : ByteArray) ++ ⟨b.toArray⟩ = ⟨(a ++ b).toArray⟩ := by
 apply ByteArray.ext; simp
def mapAt (f : UInt8 → UInt8) (l : List UInt8) (i : Nat) : List UInt8 := (l.take i).map f ++ l.drop i
@[simp] theorem mapAt_length (f : UInt8 → UInt8) (l : List UInt8) (i : Nat) : (mapAt f l i).length = l.length := by simp [mapAt]; omega
theorem mapAt_get (f : UInt8 → UInt8) (l : List UInt8) {i : Nat} (h : i < l.length) : (mapAt f l i)[i]? = some l[i] := by
 unfold mapAt
 rw [List.getElem?_append_right (by rw [List.length_map, List.length_take]; omega), show i - ((l.take i).map f).length = 0 by rw [List.length_map, List.length_take]; omega, List.drop_eq_getElem_cons h]; rfl
theorem mapAt_step (f : UInt8 → UInt8) (l : List UInt8) {i : Nat} (h : i < l.length) : (mapAt f l i).set i (f l[i]) = mapAt f l (i + 1) := by
 have h1 : ((l.take i).map f).length = i := by rw [List.length_map, List.length_take]; omega
 unfold mapAt
 rw [List.set_append_right _ _ (by omega), h1, Nat.sub_self, List.drop_eq_getElem_cons h, Z2, List.take_succ_eq_append_getElem h]
 simp only [List.map_append, List.map_cons, List.map_nil, List.append_assoc, List.cons_append, List.nil_append]
theorem mapAt_zero (f : UInt8 → UInt8) (l : List UInt8) : mapAt f l 0 = l := by simp [mapAt]
theorem mapAt_all (f : UInt8 → UInt8) (l : List UInt8) {i : Nat} (h : l.length ≤ i) : mapAt f l i = l.map f := by
 unfold mapAt; rw [List.take_of_length_le h, List.drop_eq_nil_of_le h, List.append_nil]
theorem nine_nat {b : UInt8} (h : 48 ≤ b.toNat ∧ b.toNat ≤ 57) : ((nine b).toNat : Int) = 105 - (b.toNat : Int) := by
 unfold nine; rw [UInt8.toNat_sub]; simp; omega
set_option maxRecDepth 20000 in
theorem number_any (v : ByteArray) (w : World) (hs : v.size ≤ 65536) :
    Calls Tryz.prog 149 #[.agg #[], .string v] w fun e w' => e = .returned (ret2 (numberL v.data.toList)) ∧ Below w.heap.size w w' := by
  have b0 : Below w.heap.size w (w.alloc (.cells #[] 204)) := (Zl _ w).alloc (Zr _) _
  have HB0 := Zh b0; clear b0
  cases hn : numeralL v.data.toList with
  | false =>
    go_enter Tryz.func149, Tryz.ntmps149
    go_wp2_with (first
      | (go_at_call 194; refine (numeral_any _ _ (by omega)).mono ?_; rintro e w1 ⟨rfl, rfl⟩; rw [hn])
      | fail)
    go_ret2
    exact ⟨by unfold numberL; rw [if_pos hn]; rfl, HB0.out⟩
  | true =>
    obtain ⟨b, l, hv⟩ : ∃ b l, v.data.toList = b :: l := by
      cases hl : v.data.toList with
      | nil => rw [hl] at hn; cases hn
      | cons b l => exact ⟨b, l, rfl⟩
    obtain rfl : v = ⟨(b :: l).toArray⟩ := by rw [← bmk v, hv]
    clear hv
    have hb : ∀ h, (ByteArray.mk (b :: l).toArray)[0]'h = b := fun _ => rfl
    have hsz : (ByteArray.mk (b :: l).toArray).size = l.length + 1 := rfl
    by_cases h45 : b = 45
    · subst h45
      have hd : ∀ (i : Nat) (h : i < l.length), 48 ≤ l[i].toNat ∧ l[i].toNat ≤ 57 := by
        have h1 : numeralL (45 :: l) = true := hn
        unfold numeralL at h1
        rw [show ((45 :: l : List UInt8) == [48]) = false from by simp, Bool.false_or] at h1
        have h2 : l.all dig = true := by
          cases l with
          | nil => rfl
          | cons c m => exact (Bool.and_eq_true _ _ ▸ h1 : _ ∧ _).2
        intro i h
        have := List.all_eq_true.1 h2 l[i] (List.getElem_mem h)
        simpa [dig] using this
      have hx : (ByteArray.mk (45 :: l).toArray).extract 1 (l.length + 1) = ⟨l.toArray⟩ := by
        rw [Lib.extract_eq]; simp
      have hn2 : l.length ≤ 65535 := by have : l.length + 1 ≤ 65536 := by rw [← hsz]; exact hs
                                        omega
      have hz : (ByteArray.mk l.toArray).size = l.length := rfl
      have hcv := Lib.run_convert_string_bytes (P := Tryz.prog) (w.alloc (.cells #[] 204)) 9 115 5 ⟨l.toArray⟩ Tryz.underlying9 Tryz.underlying115 Tryz.underlying5
      rw [hz] at hcv
      have B1 := bnext HB0.out (below_bytes (w.alloc (.cells #[] 204)) 5 ⟨l.toArray⟩)
      have T1 := Bts.conv (w.alloc (.cells #[] 204)) ⟨l.toArray⟩
      generalize Lib.bytesWorld (w.alloc (.cells #[] 204)) 5 ⟨l.toArray⟩ = w1 at hcv B1 T1
      generalize grownCap _ _ _ _ = cap at hcv
      have H1 := Zh (Zi B1 T1); clear B1 T1
      have HN := Zh hn
      have HD := Zh hd; clear hd
      go_enter Tryz.func149, Tryz.ntmps149
      go_wp2_with (first
        | (go_at_call 194; refine (numeral_any _ _ (by omega)).mono ?_; rintro e w1 ⟨rfl, rfl⟩; rw [hn])
        | fail)
      clear hcv hx hz hsz hb hn hs
      generalize hg : (w.alloc (.cells #[] 204)).heap.size = g at H1
      have hg2 : w.heap.size + 1 = g := by rw [← hg]; simp
      try rw [hg2]
      have HG := Zh hg2; clear hg hg2
      go_loopw [39] (fun iv wr => ∃ i : Nat, iv = .int .i64 i ∧ i ≤ l.length ∧ Below w.heap.size w wr ∧ Bts wr g (mapAt nine l i)) (fun iv _ => l.length - (intOf iv).toNat)
      case atStart => exact ⟨0, rfl, Nat.zero_le _, H1.out.1, by rw [mapAt_zero]; exact H1.out.2⟩
      case round =>
        clear H1
        obtain ⟨i, rfl, hi, hb, ht⟩ := hrel
        have HB := Zh hb; clear hb
        have HT := Zh ht; clear ht
        by_cases hlt : i < l.length
        · have hcell := HT.out.cell i _ (mapAt_get nine l hlt)
          have hfr := HT.out.fr i (by simpa using hlt)
          have hset := HT.out.set (i := i) (by simpa using hlt) (nine l[i])
          rw [mapAt_step nine l hlt] at hset
          have hd := HD.out i hlt
          have hni := nine_nat hd
          have HS := Zh (Zi hset hni); clear hset hni
          generalize l[i] = b at hcell hd HS
          have hd1 : (48 : Int) ≤ b.toNat := by omega
          have hd2 : (b.toNat : Int) ≤ 57 := by omega
          go_wp2_with fail
          have h1 := HS.out.1
          rw [HS.out.2, show (105 : Int) - b.toNat = 57 - (b.toNat - 48) by omega] at h1
          exact ⟨⟨i + 1, by simp, by omega, HB.out.setCell (by have := HG.out; show w.heap.size ≤ g; omega) _, h1⟩, by simp [intOf]; omega⟩
        · have hfin := HT.out
          rw [mapAt_all nine l (by omega)] at hfin
          have kc := conv3 wr (x := (16777215 - (l.length : Int)) / 65536) (y := (16777215 - (l.length : Int)) / 256 % 256) (z := (16777215 - (l.length : Int)) % 256) (a := ((16777215 - l.length) / 65536 % 256).toUInt8) (b := ((16777215 - l.length) / 256 % 256).toUInt8) (c := ((16777215 - l.length) % 256).toUInt8) (by rw [u8_mod]; omega) (by rw [u8_mod]; omega) (by rw [u8_mod]; omega) wr.heap.size rfl
          have hbk : ∀ o : Obj, (convert 115 9 (.slice (some ⟨g, 0, none⟩) l.length cap)).run Tryz.prog (wr.alloc o) = .ok (.string ⟨(l.map nine).toArray⟩) (wr.alloc o) := fun o =>
            (hfin.alloc o).back (by simp) cap Tryz.underlying115 Tryz.underlying5 Tryz.underlying9
          clear hfin
          go_wp2_with fail
          go_ret2
          refine ⟨?_, HB.out.alloc HB.out.size _⟩
          rw [show numberL (45 :: l) = (110 :: n3 (16777215 - l.length) ++ l.map nine, true) by
            unfold numberL; rw [if_neg (by rw [HN.out]; simp)]; rfl]
          show Ending.returned (.tuple #[.string ((⟨[110].toArray⟩ : ByteArray) ++ ⟨(n3 (16777215 - l.length)).toArray⟩ ++ ⟨(l.map nine).toArray⟩), .bool true]) = _
          rw [bapp, bapp]; rfl
    · have hb2 : ¬ (b.toNat : Int) = 45 := fun e => h45 (UInt8.toNat_inj.1 (by show b.toNat = 45; omega))
      obtain ⟨n, hnn⟩ : ∃ n, n = l.length + 1 := ⟨_, rfl⟩
      have hn2 : n ≤ 65536 := by rw [hnn, ← hsz]; exact hs
      have hn0 : 0 < n := by omega
      rw [← hnn] at hsz
      have kc := conv3 (w.alloc (.cells #[] 204)) (x := (n : Int) / 65536) (y := (n : Int) / 256 % 256) (z := (n : Int) % 256) (a := (n / 65536 % 256).toUInt8) (b := (n / 256 % 256).toUInt8) (c := (n % 256).toUInt8) (by rw [u8_mod]; omega) (by rw [u8_mod]; omega) (by rw [u8_mod]) (w.heap.size + 1) (by simp)
      have HN := Zh (Zi hnn hn); clear hnn
      go_enter Tryz.func149, Tryz.ntmps149
      go_wp2_with (first
        | (go_at_call 194; refine (numeral_any _ _ (by omega)).mono ?_; rintro e w1 ⟨rfl, rfl⟩; rw [hn])
        | fail)
      go_ret2
      refine ⟨?_, HB0.out.alloc (by simp) _⟩
      rw [show numberL (b :: l) = (112 :: n3 n ++ (b :: l), true) by
        unfold numberL; rw [if_neg (by rw [HN.out.2]; simp)]
        split
        · rename_i e; injection e with e1 e2; exact absurd e1 h45
        · rw [HN.out.1]; rfl]
      show Ending.returned (.tuple #[.string ((⟨[112].toArray⟩ : ByteArray) ++ ⟨(n3 n).toArray⟩ ++ ⟨(b :: l).toArray⟩), .bool true]) = _
      rw [bapp, bapp]; rfl
def pairL (l : List UInt8) : Int := match l with
 | [a, b] => if dig a = true ∧ dig b = true then ((a.toNat : Int) - 48) * 10 + ((b.toNat : Int) - 48) else -1
 | _ => -1
theorem dig_iff (b : UInt8) : dig b = true ↔ 48 ≤ b.toNat ∧ b.toNat ≤ 57 := by simp [dig]
theorem pair_any (s : ByteArray) (w : World) (hs : s.size ≤ 140737488355327) :
  Calls Tryz.prog 234 #[.string s] w fun e w' => e = .returned (.int .i64 (pairL s.data.toList)) ∧ ∃ q, w' = w.drewN q := by
 by_cases h2 : s.size = 2
 ·obtain ⟨a, b, rfl⟩ : ∃ a b, s = ⟨#[a, b]⟩ := by
   obtain ⟨⟨l⟩⟩ := s
   match l, h2 with
   | [a, b], _ => exact ⟨a, b, rfl⟩
  have g0 : ∀ h, (ByteArray.mk #[a, b])[0]'h = a := fun _ => rfl
  have g1 : ∀ h, (ByteArray.mk #[a, b])[1]'h = b := fun _ => rfl
  have hsz : (ByteArray.mk #[a, b]).size = 2 := rfl
  by_cases hd : dig a = true ∧ dig b = true
  ·have ha := (dig_iff a).1 hd.1
   have hb := (dig_iff b).1 hd.2
   have a1 : (48 : Int) ≤ a.toNat := by omega
   have a2 : (a.toNat : Int) ≤ 57 := by omega
   have b1 : (48 : Int) ≤ b.toNat := by omega
   have b2 : (b.toNat : Int) ≤ 57 := by omega
   have ho : onlyL (ByteArray.mk #[]).data.toList (ByteArray.mk #[a, b]).data.toList = true := by rw [onlyL_nil]; show (dig a && (dig b && true)) = true; rw [hd.1, hd.2]; rfl
   have HP := Zh (show pairL [a, b] = ((a.toNat : Int) - 48) * 10 + ((b.toNat : Int) - 48) from if_pos hd)
   clear hd ha hb h2
   go_enter Tryz.func234, Tryz.ntmps234
   go_wp2_with (first
    | (go_at_call 139; refine (only_any _ _ _ (by omega)).mono ?_; rintro e w1 ⟨rfl, rfl⟩; rw [ho])
    | fail)
   go_quiet (fail)
   go_wp2_with fail
   go_ret
   exact ⟨by show _ = Ending.returned (.int .i64 (pairL [a, b])); rw [HP.out]; rfl, _, rfl⟩
  ·have ho : onlyL (ByteArray.mk #[]).data.toList (ByteArray.mk #[a, b]).data.toList = false := by
    rw [onlyL_nil]; show (dig a && (dig b && true)) = false
    cases h1 : dig a <;> cases h2 : dig b <;> simp_all
   have HP := Zh (show pairL [a, b] = -1 from if_neg hd)
   clear hd h2
   go_enter Tryz.func234, Tryz.ntmps234
   go_wp2_with (first
    | (go_at_call 139; refine (only_any _ _ _ (by omega)).mono ?_; rintro e w1 ⟨rfl, rfl⟩; rw [ho])
    | fail)
   go_ret
   exact ⟨by show _ = Ending.returned (.int .i64 (pairL [a, b])); rw [HP.out]; rfl, 0, rfl⟩
 ·have HP := Zh (show pairL s.data.toList = -1 by
   obtain ⟨⟨l⟩⟩ := s
   show pairL l = -1
   match l, h2 with
   | [], _ => rfl
   | [_], _ => rfl
   | [_, _], h => exact absurd rfl h
   | _ :: _ :: _ :: _, _ => rfl)
  have g : ¬ (s.size : Int) = 2 := by omega
  go_enter Tryz.func234, Tryz.ntmps234
  go_wp2_with fail
  go_ret
  exact ⟨by rw [HP.out]; rfl, 0, rfl⟩
def zoneL (s : List UInt8) : Int × Bool := match s with
  | [90] => (0, true)
  | [p, a, b, c, d] => if p = 43 ∨ p = 45 then
      (if pairL [a, b] < 0 ∨ 23 < pairL [a, b] ∨ pairL [c, d] < 0 ∨ 59 < pairL [c, d] then (0, false)
       else if p = 45 then (- pairL [a, b] * 60 - pairL [c, d], true) else (pairL [a, b] * 60 + pairL [c, d], true)) else (0, false)
  | _ => (0, false)
theorem pair2 (a b : UInt8) (w : World) : Calls Tryz.prog 234 #[.string ⟨#[a, b]⟩] w fun e w' => e = .returned (.int .i64 (pairL [a, b])) ∧ ∃ q, w' = w.drewN q :=
 pair_any ⟨#[a, b]⟩ w (show 2 ≤ 140737488355327 by decide)
theorem quiet_drew {P : Program} {f : FuncId} {args : Array Value} {w : World} {n : Nat} {v : Value}
  (h : Calls P f args (w.drewN n) fun e w' => e = .returned v ∧ ∃ q, w' = (w.drewN n).drewN q) : Calls P f args (w.drewN n) fun e w'' => e = .returned v ∧ ∃ m, w'' = w.drewN m :=
 h.mono fun _ _ ⟨he, q, hm⟩ => ⟨he, n + q, by rw [hm]; simp [World.drewN_drewN]⟩
theorem pairL_range (a b : UInt8) : -1 ≤ pairL [a, b] ∧ pairL [a, b] ≤ 99 := by
 by_cases hd : dig a = true ∧ dig b = true
 ·rw [show pairL [a, b] = ((a.toNat : Int) - 48) * 10 + ((b.toNat : Int) - 48) from if_pos hd]
  have ha := (dig_iff a).1 hd.1
  have hb := (dig_iff b).1 hd.2
  omega
 ·rw [show pairL [a, b] = -1 from if_neg hd]; omega
set_option maxRecDepth 20000 in
theorem zone_any (s : ByteArray) (w : World) (hs : s.size ≤ 140737488355327) :
  Calls Tryz.prog 238 #[.string s] w fun e w' => e = .returned (.tuple #[.int .i64 (zoneL s.data.toList).1, .bool (zoneL s.data.toList).2]) ∧ ∃ q, w' = w.drewN q := by
 by_cases hz : s = ⟨#[90]⟩
 ·subst hz
  go_enter Tryz.func238, Tryz.ntmps238
  go_wp2_with fail
  go_ret2
  exact ⟨rfl, 0, rfl⟩
 have hz2 : (s.toList == [90]) = false := by
  rw [Lib.toList_data]
  have : s.data.toList ≠ [90] := fun e => hz (by rw [← bmk s, e])
  simpa using this
 by_cases h5 : s.size = 5
 ·obtain ⟨p, a, b, c, d, rfl⟩ : ∃ p a b c d, s = ⟨#[p, a, b, c, d]⟩ := by
   obtain ⟨⟨l⟩⟩ := s
   match l, h5 with
   | [p, a, b, c, d], _ => exact ⟨p, a, b, c, d, rfl⟩
  have g0 : ∀ h, (ByteArray.mk #[p, a, b, c, d])[0]'h = p := fun _ => rfl
  have hsz : (ByteArray.mk #[p, a, b, c, d]).size = 5 := rfl
  have x1 : (ByteArray.mk #[p, a, b, c, d]).extract 1 3 = ⟨#[a, b]⟩ := by rw [Lib.extract_eq]; rfl
  have x2 : (ByteArray.mk #[p, a, b, c, d]).extract 3 5 = ⟨#[c, d]⟩ := by rw [Lib.extract_eq]; rfl
  clear hz h5 hs
  have hne : ∀ (x y : UInt8), x ≠ y → ¬ (x.toNat : Int) = (y.toNat : Int) := fun x y h e => h (UInt8.toNat_inj.1 (by omega))
  by_cases hp : p = 43 ∨ p = 45
  ·obtain ⟨r1, r2⟩ := pairL_range a b
   obtain ⟨r3, r4⟩ := pairL_range c d
   rcases hp with rfl | rfl
   ·have HZb := Zh (show (pairL [a, b] < 0 ∨ 23 < pairL [a, b] ∨ pairL [c, d] < 0 ∨ 59 < pairL [c, d]) → zoneL [43, a, b, c, d] = (0, false) from fun h => if_pos h)
    have HZg := Zh (show ¬ (pairL [a, b] < 0 ∨ 23 < pairL [a, b] ∨ pairL [c, d] < 0 ∨ 59 < pairL [c, d]) → zoneL [43, a, b, c, d] = (pairL [a, b] * 60 + pairL [c, d], true) from fun h => if_neg h)
    clear hne
    go_enter Tryz.func238, Tryz.ntmps238
    go_wp2_with fail
    go_quiet ((go_at_call 234; exact quiet_drew (pair2 _ _ _)))
    go_wp2_with fail
    all_goals first
     | (go_ret2; refine ⟨?_, _, rfl⟩; show _ = Ending.returned (.tuple #[.int .i64 (zoneL [43, a, b, c, d]).1, .bool (zoneL [43, a, b, c, d]).2]); rw [HZb.out (by omega)]; rfl)
     | (go_ret2; refine ⟨?_, _, rfl⟩; show _ = Ending.returned (.tuple #[.int .i64 (zoneL [43, a, b, c, d]).1, .bool (zoneL [43, a, b, c, d]).2]); rw [HZg.out (by omega)]; rfl)
     | fail
   ·have HZb := Zh (show (pairL [a, b] < 0 ∨ 23 < pairL [a, b] ∨ pairL [c, d] < 0 ∨ 59 < pairL [c, d]) → zoneL [45, a, b, c, d] = (0, false) from fun h => if_pos h)
    have HZg := Zh (show ¬ (pairL [a, b] < 0 ∨ 23 < pairL [a, b] ∨ pairL [c, d] < 0 ∨ 59 < pairL [c, d]) → zoneL [45, a, b, c, d] = (- pairL [a, b] * 60 - pairL [c, d], true) from fun h => if_neg h)
    clear hne
    go_enter Tryz.func238, Tryz.ntmps238
    go_wp2_with fail
    go_quiet ((go_at_call 234; exact quiet_drew (pair2 _ _ _)))
    go_wp2_with fail
    all_goals first
     | (go_ret2; refine ⟨?_, _, rfl⟩; show _ = Ending.returned (.tuple #[.int .i64 (zoneL [45, a, b, c, d]).1, .bool (zoneL [45, a, b, c, d]).2]); rw [HZb.out (by omega)]; rfl)
     | (go_ret2; refine ⟨?_, _, rfl⟩; show _ = Ending.returned (.tuple #[.int .i64 (zoneL [45, a, b, c, d]).1, .bool (zoneL [45, a, b, c, d]).2]); rw [HZg.out (by omega)]; rfl)
     | fail
  ·have p1 : ((p.toNat : Int) != 43) = true := by simpa using hne p 43 (fun e => hp (.inl e))
   have p2 : ((p.toNat : Int) != 45) = true := by simpa using hne p 45 (fun e => hp (.inr e))
   have HZ := Zh (show zoneL [p, a, b, c, d] = (0, false) by
    unfold zoneL
    split
    ·rename_i e; simp at e
    ·rename_i e; simp only [List.cons.injEq] at e; obtain ⟨rfl, _⟩ := e; exact if_neg hp
    ·rfl)
   clear hne hp
   go_enter Tryz.func238, Tryz.ntmps238
   go_wp2_with fail
   go_ret2
   refine ⟨?_, 0, rfl⟩
   show _ = Ending.returned (.tuple #[.int .i64 (zoneL [p, a, b, c, d]).1, .bool (zoneL [p, a, b, c, d]).2])
   rw [HZ.out]; rfl
 ·have HZ := Zh (show zoneL s.data.toList = (0, false) by
   obtain ⟨⟨l⟩⟩ := s
   show zoneL l = (0, false)
   unfold zoneL
   split
   ·exact absurd rfl hz
   ·exact absurd rfl h5
   ·rfl)
  have g : ¬ (s.size : Int) = 5 := by omega
  clear hz h5
  go_enter Tryz.func238, Tryz.ntmps238
  go_wp2_with fail
  go_ret2
  exact ⟨by rw [HZ.out]; rfl, 0, rfl⟩
end Go.Proofs.YtlmfbjhokkpjhaaGreatDoor
