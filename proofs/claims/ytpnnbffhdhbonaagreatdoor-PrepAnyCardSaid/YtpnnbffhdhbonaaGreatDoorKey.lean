/- prep.Key: the key of a value under a form. -/
import Derived.Test.YtpnnbffhdhbonaaGreatDoorTimeForm
import Derived.Test.YtpnnbffhdhbonaaGreatDoorRules
import Derived.Test.YtpnnbffhdhbonaaGreatDoorNumeral
import Derived.Test.YtpnnbffhdhbonaaGreatDoorOid
namespace Go.Proofs.YtpnnbffhdhbonaaGreatDoor
open Go Go.RowKit

def ruleL (form : Int) (v : List UInt8) : List UInt8 × Bool :=
  if form = 0 then foldL v else if form = 1 then exactL v else if form = 2 then digitsL v else if form = 3 then phoneL v else if form = 4 then numberL v
  else if form = 5 then flagL v else if form = 6 then timeFormL v else if form = 7 then (v, true) else if form = 8 then oidL v else ([], false)
def keyL (form : Int) (v : List UInt8) : List UInt8 × Bool :=
  if 65536 < v.length then ([], false) else if (ruleL form v).2 = true then ((ruleL form v).1, true) else ([], false)

theorem ruleL_none (form : Int) (v : List UInt8) (h : form < 0 ∨ 8 < form) : ruleL form v = ([], false) := by
  unfold ruleL
  rw [if_neg (by omega), if_neg (by omega), if_neg (by omega), if_neg (by omega), if_neg (by omega), if_neg (by omega), if_neg (by omega), if_neg (by omega), if_neg (by omega)]

theorem key_none (k : Int) (v : ByteArray) (w : World) (h : k < 0 ∨ 8 < k) :
    Calls Tryz.prog 10 #[.int .i8 k, .string v] w fun e w' => e = .returned (ret2 (keyL k v.data.toList)) ∧ Below w.heap.size w w' := by
  have HK : keyL k v.data.toList = ([], false) := by unfold keyL; rw [ruleL_none k _ h]; simp
  have HK := Lib.hid HK; have HH := Lib.hid h; clear h
  go_enter Tryz.func10, Tryz.ntmps10
  go_wp2_with (first
    | (go_at_call 23; refine (rules_any _).mono ?_; rintro e w1 ⟨r, rfl, hr, hb1⟩; have hl := look_none hr k HH.out; have HB1 := Lib.hid hb1; clear hb1)
    | fail)
  go_ret2
  exact ⟨by rw [HK.out]; rfl, HB1.out⟩

theorem key_long (k : Int) (F : Nat) (v : ByteArray) (w : World) (hs : 65536 < v.size)
    (look : ∀ w r, RulesAt w r → (Instr.lookup 37 (.map (some r)) (.int .i8 k) true).run Tryz.prog w = .ok (.tuple #[.func (.func F) #[.agg #[]] #[], .bool true]) w) :
    Calls Tryz.prog 10 #[.int .i8 k, .string v] w fun e w' => e = .returned (ret2 (keyL k v.data.toList)) ∧ Below w.heap.size w w' := by
  have HK : keyL k v.data.toList = ([], false) := if_pos (by rw [← Lib.size_eq]; exact hs)
  have HK := Lib.hid HK
  have LK := Lib.hid look; clear look
  have hg : (65536 : Int) < v.size := by omega
  go_enter Tryz.func10, Tryz.ntmps10
  go_wp2_with (first
    | (go_at_call 23; refine (rules_any _).mono ?_; rintro e w1 ⟨r, rfl, hr, hb1⟩; have hl := LK.out _ _ hr; have HB1 := Lib.hid hb1; clear hb1)
    | fail)
  go_ret2
  exact ⟨by rw [HK.out]; rfl, HB1.out⟩

set_option maxRecDepth 20000 in
theorem key_at0 (v : ByteArray) (w : World) (hs : v.size ≤ 65536)
    (hC : ∀ w', Below w.heap.size w w' → Calls Tryz.prog 62 #[.agg #[], .string v] w' fun e w'' => e = .returned (ret2 (ruleL 0 v.data.toList)) ∧ Below w'.heap.size w' w'') :
    Calls Tryz.prog 10 #[.int .i8 0, .string v] w fun e w' => e = .returned (ret2 (keyL 0 v.data.toList)) ∧ Below w.heap.size w w' := by
  have HK : keyL 0 v.data.toList = if (ruleL 0 v.data.toList).2 = true then ((ruleL 0 v.data.toList).1, true) else ([], false) := if_neg (by rw [← Lib.size_eq]; omega)
  generalize ruleL 0 v.data.toList = L at HK hC
  obtain ⟨l, ok⟩ := L
  have HK := Lib.hid HK
  have HC := Lib.hid hC; clear hC
  have hg : ¬ (65536 : Int) < v.size := by omega
  cases ok <;> (
    go_enter Tryz.func10, Tryz.ntmps10
    go_wp2_with (first
      | (go_at_call 23; refine (rules_any _).mono ?_; rintro e w1 ⟨r, rfl, hr, hb1⟩; have hl := look0 hr; have HB1 := Lib.hid hb1; clear hb1)
      | (go_at_call 62; refine (HC.out _ HB1.out).mono ?_; rintro e w2 ⟨rfl, hb2⟩; have HB2 := Lib.hid (bnext HB1.out hb2); clear hb2; unfold ret2)
      | fail)
    go_ret2
    exact ⟨by rw [HK.out]; rfl, HB2.out⟩)

set_option maxRecDepth 20000 in
theorem key_at1 (v : ByteArray) (w : World) (hs : v.size ≤ 65536)
    (hC : ∀ w', Below w.heap.size w w' → Calls Tryz.prog 63 #[.agg #[], .string v] w' fun e w'' => e = .returned (ret2 (ruleL 1 v.data.toList)) ∧ Below w'.heap.size w' w'') :
    Calls Tryz.prog 10 #[.int .i8 1, .string v] w fun e w' => e = .returned (ret2 (keyL 1 v.data.toList)) ∧ Below w.heap.size w w' := by
  have HK : keyL 1 v.data.toList = if (ruleL 1 v.data.toList).2 = true then ((ruleL 1 v.data.toList).1, true) else ([], false) := if_neg (by rw [← Lib.size_eq]; omega)
  generalize ruleL 1 v.data.toList = L at HK hC
  obtain ⟨l, ok⟩ := L
  have HK := Lib.hid HK
  have HC := Lib.hid hC; clear hC
  have hg : ¬ (65536 : Int) < v.size := by omega
  cases ok <;> (
    go_enter Tryz.func10, Tryz.ntmps10
    go_wp2_with (first
      | (go_at_call 23; refine (rules_any _).mono ?_; rintro e w1 ⟨r, rfl, hr, hb1⟩; have hl := look1 hr; have HB1 := Lib.hid hb1; clear hb1)
      | (go_at_call 63; refine (HC.out _ HB1.out).mono ?_; rintro e w2 ⟨rfl, hb2⟩; have HB2 := Lib.hid (bnext HB1.out hb2); clear hb2; unfold ret2)
      | fail)
    go_ret2
    exact ⟨by rw [HK.out]; rfl, HB2.out⟩)

set_option maxRecDepth 20000 in
theorem key_at2 (v : ByteArray) (w : World) (hs : v.size ≤ 65536)
    (hC : ∀ w', Below w.heap.size w w' → Calls Tryz.prog 64 #[.agg #[], .string v] w' fun e w'' => e = .returned (ret2 (ruleL 2 v.data.toList)) ∧ Below w'.heap.size w' w'') :
    Calls Tryz.prog 10 #[.int .i8 2, .string v] w fun e w' => e = .returned (ret2 (keyL 2 v.data.toList)) ∧ Below w.heap.size w w' := by
  have HK : keyL 2 v.data.toList = if (ruleL 2 v.data.toList).2 = true then ((ruleL 2 v.data.toList).1, true) else ([], false) := if_neg (by rw [← Lib.size_eq]; omega)
  generalize ruleL 2 v.data.toList = L at HK hC
  obtain ⟨l, ok⟩ := L
  have HK := Lib.hid HK
  have HC := Lib.hid hC; clear hC
  have hg : ¬ (65536 : Int) < v.size := by omega
  cases ok <;> (
    go_enter Tryz.func10, Tryz.ntmps10
    go_wp2_with (first
      | (go_at_call 23; refine (rules_any _).mono ?_; rintro e w1 ⟨r, rfl, hr, hb1⟩; have hl := look2 hr; have HB1 := Lib.hid hb1; clear hb1)
      | (go_at_call 64; refine (HC.out _ HB1.out).mono ?_; rintro e w2 ⟨rfl, hb2⟩; have HB2 := Lib.hid (bnext HB1.out hb2); clear hb2; unfold ret2)
      | fail)
    go_ret2
    exact ⟨by rw [HK.out]; rfl, HB2.out⟩)

set_option maxRecDepth 20000 in
theorem key_at3 (v : ByteArray) (w : World) (hs : v.size ≤ 65536)
    (hC : ∀ w', Below w.heap.size w w' → Calls Tryz.prog 65 #[.agg #[], .string v] w' fun e w'' => e = .returned (ret2 (ruleL 3 v.data.toList)) ∧ Below w'.heap.size w' w'') :
    Calls Tryz.prog 10 #[.int .i8 3, .string v] w fun e w' => e = .returned (ret2 (keyL 3 v.data.toList)) ∧ Below w.heap.size w w' := by
  have HK : keyL 3 v.data.toList = if (ruleL 3 v.data.toList).2 = true then ((ruleL 3 v.data.toList).1, true) else ([], false) := if_neg (by rw [← Lib.size_eq]; omega)
  generalize ruleL 3 v.data.toList = L at HK hC
  obtain ⟨l, ok⟩ := L
  have HK := Lib.hid HK
  have HC := Lib.hid hC; clear hC
  have hg : ¬ (65536 : Int) < v.size := by omega
  cases ok <;> (
    go_enter Tryz.func10, Tryz.ntmps10
    go_wp2_with (first
      | (go_at_call 23; refine (rules_any _).mono ?_; rintro e w1 ⟨r, rfl, hr, hb1⟩; have hl := look3 hr; have HB1 := Lib.hid hb1; clear hb1)
      | (go_at_call 65; refine (HC.out _ HB1.out).mono ?_; rintro e w2 ⟨rfl, hb2⟩; have HB2 := Lib.hid (bnext HB1.out hb2); clear hb2; unfold ret2)
      | fail)
    go_ret2
    exact ⟨by rw [HK.out]; rfl, HB2.out⟩)

set_option maxRecDepth 20000 in
theorem key_at4 (v : ByteArray) (w : World) (hs : v.size ≤ 65536)
    (hC : ∀ w', Below w.heap.size w w' → Calls Tryz.prog 66 #[.agg #[], .string v] w' fun e w'' => e = .returned (ret2 (ruleL 4 v.data.toList)) ∧ Below w'.heap.size w' w'') :
    Calls Tryz.prog 10 #[.int .i8 4, .string v] w fun e w' => e = .returned (ret2 (keyL 4 v.data.toList)) ∧ Below w.heap.size w w' := by
  have HK : keyL 4 v.data.toList = if (ruleL 4 v.data.toList).2 = true then ((ruleL 4 v.data.toList).1, true) else ([], false) := if_neg (by rw [← Lib.size_eq]; omega)
  generalize ruleL 4 v.data.toList = L at HK hC
  obtain ⟨l, ok⟩ := L
  have HK := Lib.hid HK
  have HC := Lib.hid hC; clear hC
  have hg : ¬ (65536 : Int) < v.size := by omega
  cases ok <;> (
    go_enter Tryz.func10, Tryz.ntmps10
    go_wp2_with (first
      | (go_at_call 23; refine (rules_any _).mono ?_; rintro e w1 ⟨r, rfl, hr, hb1⟩; have hl := look4 hr; have HB1 := Lib.hid hb1; clear hb1)
      | (go_at_call 66; refine (HC.out _ HB1.out).mono ?_; rintro e w2 ⟨rfl, hb2⟩; have HB2 := Lib.hid (bnext HB1.out hb2); clear hb2; unfold ret2)
      | fail)
    go_ret2
    exact ⟨by rw [HK.out]; rfl, HB2.out⟩)

set_option maxRecDepth 20000 in
theorem key_at5 (v : ByteArray) (w : World) (hs : v.size ≤ 65536)
    (hC : ∀ w', Below w.heap.size w w' → Calls Tryz.prog 67 #[.agg #[], .string v] w' fun e w'' => e = .returned (ret2 (ruleL 5 v.data.toList)) ∧ Below w'.heap.size w' w'') :
    Calls Tryz.prog 10 #[.int .i8 5, .string v] w fun e w' => e = .returned (ret2 (keyL 5 v.data.toList)) ∧ Below w.heap.size w w' := by
  have HK : keyL 5 v.data.toList = if (ruleL 5 v.data.toList).2 = true then ((ruleL 5 v.data.toList).1, true) else ([], false) := if_neg (by rw [← Lib.size_eq]; omega)
  generalize ruleL 5 v.data.toList = L at HK hC
  obtain ⟨l, ok⟩ := L
  have HK := Lib.hid HK
  have HC := Lib.hid hC; clear hC
  have hg : ¬ (65536 : Int) < v.size := by omega
  cases ok <;> (
    go_enter Tryz.func10, Tryz.ntmps10
    go_wp2_with (first
      | (go_at_call 23; refine (rules_any _).mono ?_; rintro e w1 ⟨r, rfl, hr, hb1⟩; have hl := look5 hr; have HB1 := Lib.hid hb1; clear hb1)
      | (go_at_call 67; refine (HC.out _ HB1.out).mono ?_; rintro e w2 ⟨rfl, hb2⟩; have HB2 := Lib.hid (bnext HB1.out hb2); clear hb2; unfold ret2)
      | fail)
    go_ret2
    exact ⟨by rw [HK.out]; rfl, HB2.out⟩)

set_option maxRecDepth 20000 in
theorem key_at6 (v : ByteArray) (w : World) (hs : v.size ≤ 65536)
    (hC : ∀ w', Below w.heap.size w w' → Calls Tryz.prog 68 #[.agg #[], .string v] w' fun e w'' => e = .returned (ret2 (ruleL 6 v.data.toList)) ∧ Below w'.heap.size w' w'') :
    Calls Tryz.prog 10 #[.int .i8 6, .string v] w fun e w' => e = .returned (ret2 (keyL 6 v.data.toList)) ∧ Below w.heap.size w w' := by
  have HK : keyL 6 v.data.toList = if (ruleL 6 v.data.toList).2 = true then ((ruleL 6 v.data.toList).1, true) else ([], false) := if_neg (by rw [← Lib.size_eq]; omega)
  generalize ruleL 6 v.data.toList = L at HK hC
  obtain ⟨l, ok⟩ := L
  have HK := Lib.hid HK
  have HC := Lib.hid hC; clear hC
  have hg : ¬ (65536 : Int) < v.size := by omega
  cases ok <;> (
    go_enter Tryz.func10, Tryz.ntmps10
    go_wp2_with (first
      | (go_at_call 23; refine (rules_any _).mono ?_; rintro e w1 ⟨r, rfl, hr, hb1⟩; have hl := look6 hr; have HB1 := Lib.hid hb1; clear hb1)
      | (go_at_call 68; refine (HC.out _ HB1.out).mono ?_; rintro e w2 ⟨rfl, hb2⟩; have HB2 := Lib.hid (bnext HB1.out hb2); clear hb2; unfold ret2)
      | fail)
    go_ret2
    exact ⟨by rw [HK.out]; rfl, HB2.out⟩)

set_option maxRecDepth 20000 in
theorem key_at7 (v : ByteArray) (w : World) (hs : v.size ≤ 65536)
    (hC : ∀ w', Below w.heap.size w w' → Calls Tryz.prog 69 #[.agg #[], .string v] w' fun e w'' => e = .returned (ret2 (ruleL 7 v.data.toList)) ∧ Below w'.heap.size w' w'') :
    Calls Tryz.prog 10 #[.int .i8 7, .string v] w fun e w' => e = .returned (ret2 (keyL 7 v.data.toList)) ∧ Below w.heap.size w w' := by
  have HK : keyL 7 v.data.toList = if (ruleL 7 v.data.toList).2 = true then ((ruleL 7 v.data.toList).1, true) else ([], false) := if_neg (by rw [← Lib.size_eq]; omega)
  generalize ruleL 7 v.data.toList = L at HK hC
  obtain ⟨l, ok⟩ := L
  have HK := Lib.hid HK
  have HC := Lib.hid hC; clear hC
  have hg : ¬ (65536 : Int) < v.size := by omega
  cases ok <;> (
    go_enter Tryz.func10, Tryz.ntmps10
    go_wp2_with (first
      | (go_at_call 23; refine (rules_any _).mono ?_; rintro e w1 ⟨r, rfl, hr, hb1⟩; have hl := look7 hr; have HB1 := Lib.hid hb1; clear hb1)
      | (go_at_call 69; refine (HC.out _ HB1.out).mono ?_; rintro e w2 ⟨rfl, hb2⟩; have HB2 := Lib.hid (bnext HB1.out hb2); clear hb2; unfold ret2)
      | fail)
    go_ret2
    exact ⟨by rw [HK.out]; rfl, HB2.out⟩)

set_option maxRecDepth 20000 in
theorem key_at8 (v : ByteArray) (w : World) (hs : v.size ≤ 65536)
    (hC : ∀ w', Below w.heap.size w w' → Calls Tryz.prog 70 #[.agg #[], .string v] w' fun e w'' => e = .returned (ret2 (ruleL 8 v.data.toList)) ∧ Below w'.heap.size w' w'') :
    Calls Tryz.prog 10 #[.int .i8 8, .string v] w fun e w' => e = .returned (ret2 (keyL 8 v.data.toList)) ∧ Below w.heap.size w w' := by
  have HK : keyL 8 v.data.toList = if (ruleL 8 v.data.toList).2 = true then ((ruleL 8 v.data.toList).1, true) else ([], false) := if_neg (by rw [← Lib.size_eq]; omega)
  generalize ruleL 8 v.data.toList = L at HK hC
  obtain ⟨l, ok⟩ := L
  have HK := Lib.hid HK
  have HC := Lib.hid hC; clear hC
  have hg : ¬ (65536 : Int) < v.size := by omega
  cases ok <;> (
    go_enter Tryz.func10, Tryz.ntmps10
    go_wp2_with (first
      | (go_at_call 23; refine (rules_any _).mono ?_; rintro e w1 ⟨r, rfl, hr, hb1⟩; have hl := look8 hr; have HB1 := Lib.hid hb1; clear hb1)
      | (go_at_call 70; refine (HC.out _ HB1.out).mono ?_; rintro e w2 ⟨rfl, hb2⟩; have HB2 := Lib.hid (bnext HB1.out hb2); clear hb2; unfold ret2)
      | fail)
    go_ret2
    exact ⟨by rw [HK.out]; rfl, HB2.out⟩)

/-- prep.Key: the key of a value under a form, or that there is none -/
theorem key_any (k : Int) (v : ByteArray) (w : World) (hE : Env w) :
    Calls Tryz.prog 10 #[.int .i8 k, .string v] w fun e w' => e = .returned (ret2 (keyL k v.data.toList)) ∧ Below w.heap.size w w' := by
  by_cases h : k < 0 ∨ 8 < k
  · exact key_none k v w h
  by_cases hs : 65536 < v.size
  · obtain rfl | rfl | rfl | rfl | rfl | rfl | rfl | rfl | rfl : k = 0 ∨ k = 1 ∨ k = 2 ∨ k = 3 ∨ k = 4 ∨ k = 5 ∨ k = 6 ∨ k = 7 ∨ k = 8 := by omega
    · exact key_long _ _ v w hs fun _ _ R => look0 R
    · exact key_long _ _ v w hs fun _ _ R => look1 R
    · exact key_long _ _ v w hs fun _ _ R => look2 R
    · exact key_long _ _ v w hs fun _ _ R => look3 R
    · exact key_long _ _ v w hs fun _ _ R => look4 R
    · exact key_long _ _ v w hs fun _ _ R => look5 R
    · exact key_long _ _ v w hs fun _ _ R => look6 R
    · exact key_long _ _ v w hs fun _ _ R => look7 R
    · exact key_long _ _ v w hs fun _ _ R => look8 R
  have hs := Nat.le_of_not_lt hs
  obtain rfl | rfl | rfl | rfl | rfl | rfl | rfl | rfl | rfl : k = 0 ∨ k = 1 ∨ k = 2 ∨ k = 3 ∨ k = 4 ∨ k = 5 ∨ k = 6 ∨ k = 7 ∨ k = 8 := by omega
  · exact key_at0 v w hs fun w' hb => fold_any v w' (by omega)
  · exact key_at1 v w hs fun w' hb => exact_any v w' (by omega)
  · exact key_at2 v w hs fun w' hb => digits_any v w' (hE.next hb) (by omega)
  · exact key_at3 v w hs fun w' hb => phone_any v w' (hE.next hb) (by omega)
  · exact key_at4 v w hs fun w' hb => number_any v w' (by omega)
  · exact key_at5 v w hs fun w' hb => flag_any v w'
  · exact key_at6 v w hs fun w' hb => time_form v w' (hE.next hb) (by omega)
  · exact key_at7 v w hs fun w' hb => bytes_any v w'
  · exact key_at8 v w hs fun w' hb => oid_any v w' (hE.next hb) (by omega)
end Go.Proofs.YtpnnbffhdhbonaaGreatDoor
