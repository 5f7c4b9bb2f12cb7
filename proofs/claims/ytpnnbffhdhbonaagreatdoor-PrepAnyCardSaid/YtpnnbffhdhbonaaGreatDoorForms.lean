/- prep's forms: exact, fold, digits, dialled, phone, flag, bytes. -/
import Derived.Test.YtpnnbffhdhbonaaGreatDoorOnly
import Derived.Test.YtpnnbffhdhbonaaGreatDoorLower
import Derived.Test.YtpnnbffhdhbonaaGreatDoorUtfV
import Derived.Test.YtpnnbffhdhbonaaGreatDoorSqueeze
import Derived.Test.YtpnnbffhdhbonaaGreatDoorZap
import Derived.Test.YtpnnbffhdhbonaaGreatDoorEnv
namespace Go.Proofs.YtpnnbffhdhbonaaGreatDoor
open Go Go.RowKit

/-- a text and whether there is one -/
def ret2 (p : List UInt8 × Bool) : Value := .tuple #[.string ⟨p.1.toArray⟩, .bool p.2]

def trimS (l : List UInt8) : List UInt8 := Lib.trimB l 32
def exactL (v : List UInt8) : List UInt8 × Bool :=
  if v = [] ∨ Lib.validD v = false then ([], false) else (if trimS (sqz false v) = [] then [32] else trimS (sqz false v), true)

theorem sqz_length (p : Bool) (l : List UInt8) : (sqz p l).length ≤ l.length := by
  induction l generalizing p with
  | nil => simp [sqz]
  | cons b l ih =>
    rw [sqz_cons]
    split
    · have := ih true; simp; omega
    · have := ih (b == 32); simp; omega

theorem exact_any (v : ByteArray) (w : World) (hs : v.size ≤ 140737488355327) :
    Calls Tryz.prog 63 #[.agg #[], .string v] w fun e w' => e = .returned (ret2 (exactL v.data.toList)) ∧ Below w.heap.size w w' := by
  have b0 : Below w.heap.size w (w.alloc (.cells #[] 61)) := (Below.refl _ w).alloc (Nat.le_refl _) _
  have HB0 := Lib.hid b0; clear b0
  have hl : v.data.toList.length = v.size := by simp
  have hsl := sqz_length false v.data.toList
  have HL := Lib.hid (And.intro hl hsl); clear hl hsl
  go_enter Tryz.func63, Tryz.ntmps63
  by_cases hv : v.data.toList = []
  · obtain rfl := empty_of v hv
    go_wp2_with fail
    go_ret2
    exact ⟨rfl, HB0.out⟩
  · obtain ⟨n1, n2, _⟩ := nonempty_of v hv
    cases hd : Lib.validD v.data.toList with
    | false =>
      go_wp2_with (first
        | (go_at_call 32; refine (valid_any _ _ (by omega)).mono ?_; rintro e w1 ⟨rfl, hb1⟩; have HB1 := Lib.hid (bnext HB0.out hb1); clear hb1)
        | fail)
      go_ret2
      refine ⟨?_, HB1.out⟩
      rw [exactL, if_pos (.inr hd)]; rfl
    | true =>
      go_wp2_with (first
        | (go_at_call 32; refine (valid_any _ _ (by omega)).mono ?_; rintro e w1 ⟨rfl, hb1⟩; have HB1 := Lib.hid (bnext HB0.out hb1); clear hb1)
        | (go_at_call 34; refine (squeeze_any _ _ (by omega)).mono ?_; rintro e w2 ⟨rfl, hb2⟩; have HB2 := Lib.hid (bnext HB1.out hb2); clear hb2)
        | (go_at_call 97; refine (Tryz.strings_Trim_one _ 32 (by decide) _ (by have := HL.out; show (sqz false v.data.toList).length ≤ _; omega)).mono ?_; rintro e w3 ⟨rfl, hb3⟩
           have HB3 : Hid (Below w.heap.size w w3) := by rcases hb3 with rfl | rfl; · exact HB2.out
                                                         · exact HB2.out.drew
           clear hb3)
        | fail)
      · rename_i h
        go_ret2
        refine ⟨?_, HB3.out⟩
        rw [exactL, if_neg (by simp [hv, hd]), if_pos (show trimS (sqz false v.data.toList) = [] from List.isEmpty_iff.1 h)]; rfl
      · rename_i h
        go_ret2
        refine ⟨?_, HB3.out⟩
        rw [exactL, if_neg (by simp [hv, hd]), if_neg (show ¬ trimS (sqz false v.data.toList) = [] from fun e => by have := List.isEmpty_iff.2 e; unfold trimS at this; rw [h] at this; cases this)]; rfl

/-- rows of forms that call others -/
def foldL (v : List UInt8) : List UInt8 × Bool := (low (exactL v).1, (exactL v).2)
def dialL (l : List UInt8) : List UInt8 := low (zapB 45 (zapB 32 l))
def signs : List UInt8 := [97, 98, 99, 100, 101, 102, 103, 104, 105, 106, 107, 108, 109, 110, 111, 112, 113, 114, 115, 116, 117, 118, 119, 120, 121, 122, 65, 66, 67, 68, 69, 70, 71, 72, 73, 74, 75, 76, 77, 78, 79, 80, 81, 82, 83, 84, 85, 86, 87, 88, 89, 90, 39, 40, 41, 43, 44, 45, 46, 47, 58, 63, 61, 32]
def digitsL (v : List UInt8) : List UInt8 × Bool := (zapB 32 v, onlyL [32] v && !(zapB 32 v).isEmpty)
def phoneL (v : List UInt8) : List UInt8 × Bool := (dialL v, onlyL signs v && !(dialL v).isEmpty)

theorem exactL_length (v : List UInt8) : (exactL v).1.length ≤ v.length := by
  unfold exactL
  split
  · simp
  · rename_i h
    have hv : v ≠ [] := fun e => h (.inl e)
    have := List.length_pos_iff.2 hv
    have h2 := sqz_length false v
    have h3 : (trimS (sqz false v)).length ≤ (sqz false v).length := by
      unfold trimS Lib.trimB Lib.trimLeftB Lib.trimRightB
      refine Nat.le_trans (List.dropWhile_sublist _).length_le ?_
      rw [List.length_reverse]
      refine Nat.le_trans (List.dropWhile_sublist _).length_le ?_
      rw [List.length_reverse]; exact Nat.le_refl _
    dsimp only
    split
    · simp; omega
    · omega

theorem fold_any (v : ByteArray) (w : World) (hs : v.size ≤ 140737488355327) :
    Calls Tryz.prog 62 #[.agg #[], .string v] w fun e w' => e = .returned (ret2 (foldL v.data.toList)) ∧ Below w.heap.size w w' := by
  have b0 : Below w.heap.size w (w.alloc (.cells #[] 61)) := (Below.refl _ w).alloc (Nat.le_refl _) _
  have HB0 := Lib.hid b0; clear b0
  have HL := Lib.hid (And.intro (Lib.size_eq v) (exactL_length v.data.toList))
  go_enter Tryz.func62, Tryz.ntmps62
  go_wp2_with (first
    | (go_at_call 63; refine (exact_any _ _ hs).mono ?_; rintro e w1 ⟨rfl, hb1⟩; have HB1 := Lib.hid (bnext HB0.out hb1); clear hb1; unfold ret2)
    | (go_at_call 33; refine (lower_any _ _ (by have := HL.out; show (exactL v.data.toList).1.length ≤ _; omega)).mono ?_; rintro e w2 ⟨rfl, hb2⟩; have HB2 := Lib.hid (bnext HB1.out hb2); clear hb2)
    | fail)
  go_ret2
  exact ⟨rfl, HB2.out⟩

theorem digits_any (v : ByteArray) (w : World) (E : Env w) (hs : v.size ≤ 4294967280) :
    Calls Tryz.prog 64 #[.agg #[], .string v] w fun e w' => e = .returned (ret2 (digitsL v.data.toList)) ∧ Below w.heap.size w w' := by
  have b0 : Below w.heap.size w (w.alloc (.cells #[] 61)) := (Below.refl _ w).alloc (Nat.le_refl _) _
  obtain ⟨m, hm⟩ := (E.next b0).max
  have HB0 := Lib.hid b0; have HM := Lib.hid hm; clear b0 hm E
  go_enter Tryz.func64, Tryz.ntmps64
  go_wp2_with (first
    | (go_at_call 38; refine (Tryz.strings_ReplaceAll v _ _ m _ (by omega) HM.out (by decide) (by show _ + _ * 0 ≤ _; omega)).mono ?_; rintro e w1 ⟨rfl, hb1⟩; have HB1 := Lib.hid (bnext HB0.out hb1); clear hb1
       rw [show Lib.replaceAll v.data.toList (ByteArray.mk #[32]).data.toList (ByteArray.mk #[]).data.toList = zapB 32 v.data.toList from replaceAll_zap 32 _]
       generalize hz : zapB 32 v.data.toList = z; have HZ := Lib.hid hz; clear hz)
    | (go_at_call 37; refine (only_any _ _ _ (by omega)).mono ?_; rintro e w2 ⟨rfl, rfl⟩)
    | fail)
  all_goals rename_i h
  all_goals go_ret2
  all_goals refine ⟨?_, HB1.out⟩
  · rw [digitsL, HZ.out, h]; rfl
  · rw [digitsL, HZ.out, Bool.eq_false_iff.2 h]; rfl

theorem dialled_any (v : ByteArray) (w : World) (E : Env w) (hs : v.size ≤ 4294967280) :
    Calls Tryz.prog 39 #[.string v] w fun e w' => e = .returned (.string ⟨(dialL v.data.toList).toArray⟩) ∧ Below w.heap.size w w' := by
  obtain ⟨m, hm⟩ := E.max
  have hl1 := zapB_length 32 v.data.toList
  have hl2 := zapB_length 45 (zapB 32 v.data.toList)
  have HL := Lib.hid (And.intro (Lib.size_eq v) (And.intro hl1 hl2)); clear hl1 hl2
  have HM := Lib.hid hm; have HE := Lib.hid E; clear hm E
  go_enter Tryz.func39, Tryz.ntmps39
  go_wp2_with fail
  · go_at_call 38
    refine (Tryz.strings_ReplaceAll v _ _ m _ (by omega) HM.out (by decide) (by show _ + _ * 0 ≤ _; omega)).mono ?_
    rintro e w1 ⟨rfl, hb1⟩
    have HB1 := Lib.hid hb1; clear hb1
    rw [show Lib.replaceAll v.data.toList (ByteArray.mk #[32]).data.toList (ByteArray.mk #[]).data.toList = zapB 32 v.data.toList from replaceAll_zap 32 _]
    obtain ⟨m2, hm2⟩ := (HE.out.next HB1.out).max
    have HM2 := Lib.hid hm2; clear hm2
    generalize hz : zapB 32 v.data.toList = z at HL
    have HZ := Lib.hid hz; clear hz
    go_wp2_with fail
    go_at_call 38
    refine (Tryz.strings_ReplaceAll _ _ _ m2 _ (by have := HL.out; show z.length < _; omega) HM2.out (by decide) (by have := HL.out; show z.length + _ * 0 ≤ _; omega)).mono ?_
    rintro e w2 ⟨rfl, hb2⟩
    have HB2 := Lib.hid (bnext HB1.out hb2); clear hb2
    rw [show Lib.replaceAll (ByteArray.mk z.toArray).data.toList (ByteArray.mk #[45]).data.toList (ByteArray.mk #[]).data.toList = zapB 45 z from replaceAll_zap 45 _]
    generalize hy : zapB 45 z = y at HL
    have HY := Lib.hid hy; clear hy
    go_wp2_with (first
      | (go_at_call 33; refine (lower_any _ _ (by have := HL.out; show y.length ≤ _; omega)).mono ?_; rintro e w3 ⟨rfl, hb3⟩; have HB3 := Lib.hid (bnext HB2.out hb3); clear hb3)
      | fail)
    go_ret
    refine ⟨?_, HB3.out⟩
    rw [dialL, HZ.out, HY.out]; rfl

theorem dialL_length (l : List UInt8) : (dialL l).length ≤ l.length := by
  have h1 := zapB_length 32 l
  have h2 := zapB_length 45 (zapB 32 l)
  unfold dialL low; rw [List.length_map]; omega

theorem phone_any (v : ByteArray) (w : World) (E : Env w) (hs : v.size ≤ 4294967280) :
    Calls Tryz.prog 65 #[.agg #[], .string v] w fun e w' => e = .returned (ret2 (phoneL v.data.toList)) ∧ Below w.heap.size w w' := by
  have b0 : Below w.heap.size w (w.alloc (.cells #[] 61)) := (Below.refl _ w).alloc (Nat.le_refl _) _
  have HE := Lib.hid (E.next b0); clear E
  have HB0 := Lib.hid b0; clear b0
  go_enter Tryz.func65, Tryz.ntmps65
  go_wp2_with (first
    | (go_at_call 39; refine (dialled_any v _ HE.out hs).mono ?_; rintro e w1 ⟨rfl, hb1⟩; have HB1 := Lib.hid (bnext HB0.out hb1); clear hb1
       generalize hz : dialL v.data.toList = z; have HZ := Lib.hid hz; clear hz)
    | (go_at_call 37; refine (only_any _ _ _ (by omega)).mono ?_; rintro e w2 ⟨rfl, rfl⟩
       rw [show onlyL (ByteArray.mk #[97, 98, 99, 100, 101, 102, 103, 104, 105, 106, 107, 108, 109, 110, 111, 112, 113, 114, 115, 116, 117, 118, 119, 120, 121, 122, 65, 66, 67, 68, 69, 70, 71, 72, 73, 74, 75, 76, 77, 78, 79, 80, 81, 82, 83, 84, 85, 86, 87, 88, 89, 90, 39, 40, 41, 43, 44, 45, 46, 47, 58, 63, 61, 32]).data.toList v.data.toList = onlyL signs v.data.toList from rfl])
    | fail)
  all_goals rename_i h
  all_goals go_ret2
  all_goals refine ⟨?_, HB1.out⟩
  · rw [phoneL, HZ.out, h]; rfl
  · rw [phoneL, HZ.out, Bool.eq_false_iff.2 h]; rfl

def flagL (v : List UInt8) : List UInt8 × Bool := (v, v == [84, 82, 85, 69] || v == [70, 65, 76, 83, 69])

theorem flag_any (v : ByteArray) (w : World) :
    Calls Tryz.prog 67 #[.agg #[], .string v] w fun e w' => e = .returned (ret2 (flagL v.data.toList)) ∧ Below w.heap.size w w' := by
  have b0 : Below w.heap.size w (w.alloc (.cells #[] 61)) := (Below.refl _ w).alloc (Nat.le_refl _) _
  have HB0 := Lib.hid b0; clear b0
  go_enter Tryz.func67, Tryz.ntmps67
  go_wp2_with fail
  all_goals rename_i h
  all_goals go_ret2
  all_goals refine ⟨?_, HB0.out⟩
  · rw [Lib.toList_data] at h
    rw [show ret2 (flagL v.data.toList) = .tuple #[.string v, .bool true] by unfold ret2 flagL; dsimp only; rw [bmk, h]; rfl]; rfl
  · rw [show ret2 (flagL v.data.toList) = .tuple #[.string v, .bool (v.toList == [84, 82, 85, 69] || v.toList == [70, 65, 76, 83, 69])] by unfold ret2 flagL; dsimp only; rw [bmk, Lib.toList_data]]; rfl

theorem bytes_any (v : ByteArray) (w : World) :
    Calls Tryz.prog 69 #[.agg #[], .string v] w fun e w' => e = .returned (ret2 (v.data.toList, true)) ∧ Below w.heap.size w w' := by
  have b0 : Below w.heap.size w (w.alloc (.cells #[] 61)) := (Below.refl _ w).alloc (Nat.le_refl _) _
  have HB0 := Lib.hid b0; clear b0
  go_enter Tryz.func69, Tryz.ntmps69
  go_wp2_with fail
  go_ret2
  exact ⟨by rw [show ret2 (v.data.toList, true) = .tuple #[.string v, .bool true] by unfold ret2; dsimp only]; rfl, HB0.out⟩
end Go.Proofs.YtpnnbffhdhbonaaGreatDoor
