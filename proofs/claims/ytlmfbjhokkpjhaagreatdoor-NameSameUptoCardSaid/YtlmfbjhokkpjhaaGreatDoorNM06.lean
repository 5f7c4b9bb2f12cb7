/- Part 6 of the walks and plain laws, joined: Key, SchV, EnvS, Of, FormC, MatV, LaidTabS. -/
import Derived.Test.YtlmfbjhokkpjhaaGreatDoorNM05
import Derived.Test.YtlmfbjhokkpjhaaGreatDoorNM02
import Derived.Test.YtlmfbjhokkpjhaaGreatDoorNM00
import Derived.Test.YtlmfbjhokkpjhaaGreatDoorProg
import Derived.Below
import Derived.WalkKit
import Derived.Lib.Hide
import Derived.Lib.LaidTab
import Derived.LaidSub
import Derived.ChangeSame
import Derived.Lib.SmallJoins
set_option linter.unusedVariables false
set_option linter.unusedSimpArgs false
namespace Go.Proofs.YtlmfbjhokkpjhaaGreatDoor
open Go Go.RowKit
def ruleL (form : Int) (v : List UInt8) : List UInt8 × Bool :=
 if form = 0 then foldL v else if form = 1 then exactL v else if form = 2 then digitsL v else if form = 3 then phoneL v else if form = 4 then numberL v
 else if form = 5 then flagL v else if form = 6 then timeFormL v else if form = 7 then (v, true) else if form = 8 then oidL v else ([], false)
def keyL (form : Int) (v : List UInt8) : List UInt8 × Bool :=
 if 65536 < v.length then ([], false) else if (ruleL form v).2 = true then ((ruleL form v).1, true) else ([], false)
theorem ruleL_none (form : Int) (v : List UInt8) (h : form < 0 ∨ 8 < form) : ruleL form v = ([], false) := by
 unfold ruleL
 rw [if_neg (by omega), if_neg (by omega), if_neg (by omega), if_neg (by omega), if_neg (by omega), if_neg (by omega), if_neg (by omega), if_neg (by omega), if_neg (by omega)]
theorem key_none (k : Int) (v : ByteArray) (w : World) (h : k < 0 ∨ 8 < k) :
  Calls Tryz.prog 52 #[.int .i8 k, .string v] w fun e w' => e = .returned (ret2 (keyL k v.data.toList)) ∧ Below w.heap.size w w' := by
 have HK : keyL k v.data.toList = ([], false) := by unfold keyL; rw [ruleL_none k _ h]; simp
 have HK := Zh HK; have HH := Zh h; clear h
 go_enter Tryz.func52, Tryz.ntmps52
 go_wp2_with (first
  | (go_at_call 100; refine (rules_any _).mono ?_; rintro e w1 ⟨r, rfl, hr, hb1⟩; have hl := look_none hr k HH.out; have HB1 := Zh hb1; clear hb1)
  | fail)
 go_ret2
 exact ⟨by rw [HK.out]; rfl, HB1.out⟩
theorem key_long (k : Int) (F : Nat) (v : ByteArray) (w : World) (hs : 65536 < v.size)
  (look : ∀ w r, RulesAt w r → (Instr.lookup 168 (.map (some r)) (.int .i8 k) true).run Tryz.prog w = .ok (.tuple #[.func (.func F) #[.agg #[]] #[], .bool true]) w) :
  Calls Tryz.prog 52 #[.int .i8 k, .string v] w fun e w' => e = .returned (ret2 (keyL k v.data.toList)) ∧ Below w.heap.size w w' := by
 have HK : keyL k v.data.toList = ([], false) := if_pos (by rw [← Lib.size_eq]; exact hs)
 have HK := Zh HK
 have LK := Zh look; clear look
 have hg : (65536 : Int) < v.size := by omega
 go_enter Tryz.func52, Tryz.ntmps52
 go_wp2_with (first
  | (go_at_call 100; refine (rules_any _).mono ?_; rintro e w1 ⟨r, rfl, hr, hb1⟩; have hl := LK.out _ _ hr; have HB1 := Zh hb1; clear hb1)
  | fail)
 go_ret2
 exact ⟨by rw [HK.out]; rfl, HB1.out⟩
set_option maxRecDepth 20000 in
theorem key_at0 (v : ByteArray) (w : World) (hs : v.size ≤ 65536)
  (hC : ∀ w', Below w.heap.size w w' → Calls Tryz.prog 145 #[.agg #[], .string v] w' fun e w'' => e = .returned (ret2 (ruleL 0 v.data.toList)) ∧ Below w'.heap.size w' w'') :
  Calls Tryz.prog 52 #[.int .i8 0, .string v] w fun e w' => e = .returned (ret2 (keyL 0 v.data.toList)) ∧ Below w.heap.size w w' := by
 have HK : keyL 0 v.data.toList = if (ruleL 0 v.data.toList).2 = true then ((ruleL 0 v.data.toList).1, true) else ([], false) := if_neg (by rw [← Lib.size_eq]; omega)
 generalize ruleL 0 v.data.toList = L at HK hC
 obtain ⟨l, ok⟩ := L
 have HK := Zh HK
 have HC := Zh hC; clear hC
 have hg : ¬ (65536 : Int) < v.size := by omega
 cases ok <;> (
  go_enter Tryz.func52, Tryz.ntmps52
  go_wp2_with (first
   | (go_at_call 100; refine (rules_any _).mono ?_; rintro e w1 ⟨r, rfl, hr, hb1⟩; have hl := look0 hr; have HB1 := Zh hb1; clear hb1)
   | (go_at_call 145; refine (HC.out _ HB1.out).mono ?_; rintro e w2 ⟨rfl, hb2⟩; have HB2 := Zh (bnext HB1.out hb2); clear hb2; unfold ret2)
   | fail)
  go_ret2
  exact ⟨by rw [HK.out]; rfl, HB2.out⟩)
set_option maxRecDepth 20000 in
theorem key_at1 (v : ByteArray) (w : World) (hs : v.size ≤ 65536)
  (hC : ∀ w', Below w.heap.size w w' → Calls Tryz.prog 146 #[.agg #[], .string v] w' fun e w'' => e = .returned (ret2 (ruleL 1 v.data.toList)) ∧ Below w'.heap.size w' w'') :
  Calls Tryz.prog 52 #[.int .i8 1, .string v] w fun e w' => e = .returned (ret2 (keyL 1 v.data.toList)) ∧ Below w.heap.size w w' := by
 have HK : keyL 1 v.data.toList = if (ruleL 1 v.data.toList).2 = true then ((ruleL 1 v.data.toList).1, true) else ([], false) := if_neg (by rw [← Lib.size_eq]; omega)
 generalize ruleL 1 v.data.toList = L at HK hC
 obtain ⟨l, ok⟩ := L
 have HK := Zh HK
 have HC := Zh hC; clear hC
 have hg : ¬ (65536 : Int) < v.size := by omega
 cases ok <;> (
  go_enter Tryz.func52, Tryz.ntmps52
  go_wp2_with (first
   | (go_at_call 100; refine (rules_any _).mono ?_; rintro e w1 ⟨r, rfl, hr, hb1⟩; have hl := look1 hr; have HB1 := Zh hb1; clear hb1)
   | (go_at_call 146; refine (HC.out _ HB1.out).mono ?_; rintro e w2 ⟨rfl, hb2⟩; have HB2 := Zh (bnext HB1.out hb2); clear hb2; unfold ret2)
   | fail)
  go_ret2
  exact ⟨by rw [HK.out]; rfl, HB2.out⟩)
set_option maxRecDepth 20000 in
theorem key_at2 (v : ByteArray) (w : World) (hs : v.size ≤ 65536)
  (hC : ∀ w', Below w.heap.size w w' → Calls Tryz.prog 147 #[.agg #[], .string v] w' fun e w'' => e = .returned (ret2 (ruleL 2 v.data.toList)) ∧ Below w'.heap.size w' w'') :
  Calls Tryz.prog 52 #[.int .i8 2, .string v] w fun e w' => e = .returned (ret2 (keyL 2 v.data.toList)) ∧ Below w.heap.size w w' := by
 have HK : keyL 2 v.data.toList = if (ruleL 2 v.data.toList).2 = true then ((ruleL 2 v.data.toList).1, true) else ([], false) := if_neg (by rw [← Lib.size_eq]; omega)
 generalize ruleL 2 v.data.toList = L at HK hC
 obtain ⟨l, ok⟩ := L
 have HK := Zh HK
 have HC := Zh hC; clear hC
 have hg : ¬ (65536 : Int) < v.size := by omega
 cases ok <;> (
  go_enter Tryz.func52, Tryz.ntmps52
  go_wp2_with (first
   | (go_at_call 100; refine (rules_any _).mono ?_; rintro e w1 ⟨r, rfl, hr, hb1⟩; have hl := look2 hr; have HB1 := Zh hb1; clear hb1)
   | (go_at_call 147; refine (HC.out _ HB1.out).mono ?_; rintro e w2 ⟨rfl, hb2⟩; have HB2 := Zh (bnext HB1.out hb2); clear hb2; unfold ret2)
   | fail)
  go_ret2
  exact ⟨by rw [HK.out]; rfl, HB2.out⟩)
set_option maxRecDepth 20000 in
theorem key_at3 (v : ByteArray) (w : World) (hs : v.size ≤ 65536)
  (hC : ∀ w', Below w.heap.size w w' → Calls Tryz.prog 148 #[.agg #[], .string v] w' fun e w'' => e = .returned (ret2 (ruleL 3 v.data.toList)) ∧ Below w'.heap.size w' w'') :
  Calls Tryz.prog 52 #[.int .i8 3, .string v] w fun e w' => e = .returned (ret2 (keyL 3 v.data.toList)) ∧ Below w.heap.size w w' := by
 have HK : keyL 3 v.data.toList = if (ruleL 3 v.data.toList).2 = true then ((ruleL 3 v.data.toList).1, true) else ([], false) := if_neg (by rw [← Lib.size_eq]; omega)
 generalize ruleL 3 v.data.toList = L at HK hC
 obtain ⟨l, ok⟩ := L
 have HK := Zh HK
 have HC := Zh hC; clear hC
 have hg : ¬ (65536 : Int) < v.size := by omega
 cases ok <;> (
  go_enter Tryz.func52, Tryz.ntmps52
  go_wp2_with (first
   | (go_at_call 100; refine (rules_any _).mono ?_; rintro e w1 ⟨r, rfl, hr, hb1⟩; have hl := look3 hr; have HB1 := Zh hb1; clear hb1)
   | (go_at_call 148; refine (HC.out _ HB1.out).mono ?_; rintro e w2 ⟨rfl, hb2⟩; have HB2 := Zh (bnext HB1.out hb2); clear hb2; unfold ret2)
   | fail)
  go_ret2
  exact ⟨by rw [HK.out]; rfl, HB2.out⟩)
set_option maxRecDepth 20000 in
theorem key_at4 (v : ByteArray) (w : World) (hs : v.size ≤ 65536)
  (hC : ∀ w', Below w.heap.size w w' → Calls Tryz.prog 149 #[.agg #[], .string v] w' fun e w'' => e = .returned (ret2 (ruleL 4 v.data.toList)) ∧ Below w'.heap.size w' w'') :
  Calls Tryz.prog 52 #[.int .i8 4, .string v] w fun e w' => e = .returned (ret2 (keyL 4 v.data.toList)) ∧ Below w.heap.size w w' := by
 have HK : keyL 4 v.data.toList = if (ruleL 4 v.data.toList).2 = true then ((ruleL 4 v.data.toList).1, true) else ([], false) := if_neg (by rw [← Lib.size_eq]; omega)
 generalize ruleL 4 v.data.toList = L at HK hC
 obtain ⟨l, ok⟩ := L
 have HK := Zh HK
 have HC := Zh hC; clear hC
 have hg : ¬ (65536 : Int) < v.size := by omega
 cases ok <;> (
  go_enter Tryz.func52, Tryz.ntmps52
  go_wp2_with (first
   | (go_at_call 100; refine (rules_any _).mono ?_; rintro e w1 ⟨r, rfl, hr, hb1⟩; have hl := look4 hr; have HB1 := Zh hb1; clear hb1)
   | (go_at_call 149; refine (HC.out _ HB1.out).mono ?_; rintro e w2 ⟨rfl, hb2⟩; have HB2 := Zh (bnext HB1.out hb2); clear hb2; unfold ret2)
   | fail)
  go_ret2
  exact ⟨by rw [HK.out]; rfl, HB2.out⟩)
set_option maxRecDepth 20000 in
theorem key_at5 (v : ByteArray) (w : World) (hs : v.size ≤ 65536)
  (hC : ∀ w', Below w.heap.size w w' → Calls Tryz.prog 150 #[.agg #[], .string v] w' fun e w'' => e = .returned (ret2 (ruleL 5 v.data.toList)) ∧ Below w'.heap.size w' w'') :
  Calls Tryz.prog 52 #[.int .i8 5, .string v] w fun e w' => e = .returned (ret2 (keyL 5 v.data.toList)) ∧ Below w.heap.size w w' := by
 have HK : keyL 5 v.data.toList = if (ruleL 5 v.data.toList).2 = true then ((ruleL 5 v.data.toList).1, true) else ([], false) := if_neg (by rw [← Lib.size_eq]; omega)
 generalize ruleL 5 v.data.toList = L at HK hC
 obtain ⟨l, ok⟩ := L
 have HK := Zh HK
 have HC := Zh hC; clear hC
 have hg : ¬ (65536 : Int) < v.size := by omega
 cases ok <;> (
  go_enter Tryz.func52, Tryz.ntmps52
  go_wp2_with (first
   | (go_at_call 100; refine (rules_any _).mono ?_; rintro e w1 ⟨r, rfl, hr, hb1⟩; have hl := look5 hr; have HB1 := Zh hb1; clear hb1)
   | (go_at_call 150; refine (HC.out _ HB1.out).mono ?_; rintro e w2 ⟨rfl, hb2⟩; have HB2 := Zh (bnext HB1.out hb2); clear hb2; unfold ret2)
   | fail)
  go_ret2
  exact ⟨by rw [HK.out]; rfl, HB2.out⟩)
set_option maxRecDepth 20000 in
theorem key_at6 (v : ByteArray) (w : World) (hs : v.size ≤ 65536)
  (hC : ∀ w', Below w.heap.size w w' → Calls Tryz.prog 151 #[.agg #[], .string v] w' fun e w'' => e = .returned (ret2 (ruleL 6 v.data.toList)) ∧ Below w'.heap.size w' w'') :
  Calls Tryz.prog 52 #[.int .i8 6, .string v] w fun e w' => e = .returned (ret2 (keyL 6 v.data.toList)) ∧ Below w.heap.size w w' := by
 have HK : keyL 6 v.data.toList = if (ruleL 6 v.data.toList).2 = true then ((ruleL 6 v.data.toList).1, true) else ([], false) := if_neg (by rw [← Lib.size_eq]; omega)
 generalize ruleL 6 v.data.toList = L at HK hC
 obtain ⟨l, ok⟩ := L
 have HK := Zh HK
 have HC := Zh hC; clear hC
 have hg : ¬ (65536 : Int) < v.size := by omega
 cases ok <;> (
  go_enter Tryz.func52, Tryz.ntmps52
  go_wp2_with (first
   | (go_at_call 100; refine (rules_any _).mono ?_; rintro e w1 ⟨r, rfl, hr, hb1⟩; have hl := look6 hr; have HB1 := Zh hb1; clear hb1)
   | (go_at_call 151; refine (HC.out _ HB1.out).mono ?_; rintro e w2 ⟨rfl, hb2⟩; have HB2 := Zh (bnext HB1.out hb2); clear hb2; unfold ret2)
   | fail)
  go_ret2
  exact ⟨by rw [HK.out]; rfl, HB2.out⟩)
set_option maxRecDepth 20000 in
theorem key_at7 (v : ByteArray) (w : World) (hs : v.size ≤ 65536)
  (hC : ∀ w', Below w.heap.size w w' → Calls Tryz.prog 152 #[.agg #[], .string v] w' fun e w'' => e = .returned (ret2 (ruleL 7 v.data.toList)) ∧ Below w'.heap.size w' w'') :
  Calls Tryz.prog 52 #[.int .i8 7, .string v] w fun e w' => e = .returned (ret2 (keyL 7 v.data.toList)) ∧ Below w.heap.size w w' := by
 have HK : keyL 7 v.data.toList = if (ruleL 7 v.data.toList).2 = true then ((ruleL 7 v.data.toList).1, true) else ([], false) := if_neg (by rw [← Lib.size_eq]; omega)
 generalize ruleL 7 v.data.toList = L at HK hC
 obtain ⟨l, ok⟩ := L
 have HK := Zh HK
 have HC := Zh hC; clear hC
 have hg : ¬ (65536 : Int) < v.size := by omega
 cases ok <;> (
  go_enter Tryz.func52, Tryz.ntmps52
  go_wp2_with (first
   | (go_at_call 100; refine (rules_any _).mono ?_; rintro e w1 ⟨r, rfl, hr, hb1⟩; have hl := look7 hr; have HB1 := Zh hb1; clear hb1)
   | (go_at_call 152; refine (HC.out _ HB1.out).mono ?_; rintro e w2 ⟨rfl, hb2⟩; have HB2 := Zh (bnext HB1.out hb2); clear hb2; unfold ret2)
   | fail)
  go_ret2
  exact ⟨by rw [HK.out]; rfl, HB2.out⟩)
set_option maxRecDepth 20000 in
theorem key_at8 (v : ByteArray) (w : World) (hs : v.size ≤ 65536)
  (hC : ∀ w', Below w.heap.size w w' → Calls Tryz.prog 153 #[.agg #[], .string v] w' fun e w'' => e = .returned (ret2 (ruleL 8 v.data.toList)) ∧ Below w'.heap.size w' w'') :
  Calls Tryz.prog 52 #[.int .i8 8, .string v] w fun e w' => e = .returned (ret2 (keyL 8 v.data.toList)) ∧ Below w.heap.size w w' := by
 have HK : keyL 8 v.data.toList = if (ruleL 8 v.data.toList).2 = true then ((ruleL 8 v.data.toList).1, true) else ([], false) := if_neg (by rw [← Lib.size_eq]; omega)
 generalize ruleL 8 v.data.toList = L at HK hC
 obtain ⟨l, ok⟩ := L
 have HK := Zh HK
 have HC := Zh hC; clear hC
 have hg : ¬ (65536 : Int) < v.size := by omega
 cases ok <;> (
  go_enter Tryz.func52, Tryz.ntmps52
  go_wp2_with (first
   | (go_at_call 100; refine (rules_any _).mono ?_; rintro e w1 ⟨r, rfl, hr, hb1⟩; have hl := look8 hr; have HB1 := Zh hb1; clear hb1)
   | (go_at_call 153; refine (HC.out _ HB1.out).mono ?_; rintro e w2 ⟨rfl, hb2⟩; have HB2 := Zh (bnext HB1.out hb2); clear hb2; unfold ret2)
   | fail)
  go_ret2
  exact ⟨by rw [HK.out]; rfl, HB2.out⟩)
theorem key_any (k : Int) (v : ByteArray) (w : World) (hE : Env w) :
  Calls Tryz.prog 52 #[.int .i8 k, .string v] w fun e w' => e = .returned (ret2 (keyL k v.data.toList)) ∧ Below w.heap.size w w' := by
 by_cases h : k < 0 ∨ 8 < k
 ·exact key_none k v w h
 by_cases hs : 65536 < v.size
 ·obtain rfl | rfl | rfl | rfl | rfl | rfl | rfl | rfl | rfl : k = 0 ∨ k = 1 ∨ k = 2 ∨ k = 3 ∨ k = 4 ∨ k = 5 ∨ k = 6 ∨ k = 7 ∨ k = 8 := by omega
  ·exact key_long _ _ v w hs fun _ _ R => look0 R
  ·exact key_long _ _ v w hs fun _ _ R => look1 R
  ·exact key_long _ _ v w hs fun _ _ R => look2 R
  ·exact key_long _ _ v w hs fun _ _ R => look3 R
  ·exact key_long _ _ v w hs fun _ _ R => look4 R
  ·exact key_long _ _ v w hs fun _ _ R => look5 R
  ·exact key_long _ _ v w hs fun _ _ R => look6 R
  ·exact key_long _ _ v w hs fun _ _ R => look7 R
  ·exact key_long _ _ v w hs fun _ _ R => look8 R
 have hs := Nat.le_of_not_lt hs
 obtain rfl | rfl | rfl | rfl | rfl | rfl | rfl | rfl | rfl : k = 0 ∨ k = 1 ∨ k = 2 ∨ k = 3 ∨ k = 4 ∨ k = 5 ∨ k = 6 ∨ k = 7 ∨ k = 8 := by omega
 ·exact key_at0 v w hs fun w' hb => fold_any v w' (by omega)
 ·exact key_at1 v w hs fun w' hb => exact_any v w' (by omega)
 ·exact key_at2 v w hs fun w' hb => digits_any v w' (hE.next hb) (by omega)
 ·exact key_at3 v w hs fun w' hb => phone_any v w' (hE.next hb) (by omega)
 ·exact key_at4 v w hs fun w' hb => number_any v w' (by omega)
 ·exact key_at5 v w hs fun w' hb => flag_any v w'
 ·exact key_at6 v w hs fun w' hb => time_form v w' (hE.next hb) (by omega)
 ·exact key_at7 v w hs fun w' hb => bytes_any v w'
 ·exact key_at8 v w hs fun w' hb => oid_any v w' (hE.next hb) (by omega)
end Go.Proofs.YtlmfbjhokkpjhaaGreatDoor
namespace Go.Proofs.YtlmfbjhokkpjhaaGreatDoor
open Go
abbrev Str := List UInt8
abbrev toL (s : ByteArray) : Str := s.data.toList
structure PType where
 oid : ByteArray
 names : List ByteArray
 sup : ByteArray
 syn : Int
 eq : Int
 ord : Int
 part : Int
 single : Bool
 index : Int
structure PClass where
 oid : ByteArray
 names : List ByteArray
 sups : List ByteArray
 kind : Int
 must : List ByteArray
 may : List ByteArray
structure PSchema where
 types : List PType
 classes : List PClass
def isLet (b : UInt8) : Bool := decide (97 ≤ b.toNat ∧ b.toNat ≤ 122) || decide (65 ≤ b.toNat ∧ b.toNat ≤ 90)
def tailC (b : UInt8) : Bool := isLet b || dig b || b == 45
def tailB (l : Str) : Bool := l.all tailC
def wordB : Str → Bool
 | [] => false
 | b :: l => isLet b && tailB (b :: l)
def oidB (l : Str) : Bool := (cutAt 46 l).all rowOk && decide (1 < (cutAt 46 l).length)
structure Line where
 name : Str
 oid : Str
 syn : Int
 kind : Int
 form : Int
def bytesOf (s : String) : Str := s.toUTF8.data.toList
def tableV : List Line := [
 ⟨[], [], -1, -1, -1⟩,
 ⟨bytesOf "caseIgnoreMatch", bytesOf "2", 0, 0, 0⟩,
 ⟨bytesOf "caseIgnoreOrderingMatch", bytesOf "3", 0, 1, 0⟩,
 ⟨bytesOf "caseIgnoreSubstringsMatch", bytesOf "4", 0, 2, 0⟩,
 ⟨bytesOf "caseExactMatch", bytesOf "5", 0, 0, 1⟩,
 ⟨bytesOf "caseExactOrderingMatch", bytesOf "6", 0, 1, 1⟩,
 ⟨bytesOf "caseExactSubstringsMatch", bytesOf "7", 0, 2, 1⟩,
 ⟨bytesOf "numericStringMatch", bytesOf "8", 1, 0, 2⟩,
 ⟨bytesOf "numericStringOrderingMatch", bytesOf "9", 1, 1, 2⟩,
 ⟨bytesOf "numericStringSubstringsMatch", bytesOf "10", 1, 2, 2⟩,
 ⟨bytesOf "telephoneNumberMatch", bytesOf "20", 2, 0, 3⟩,
 ⟨bytesOf "telephoneNumberSubstringsMatch", bytesOf "21", 2, 2, 3⟩,
 ⟨bytesOf "integerMatch", bytesOf "14", 3, 0, 4⟩,
 ⟨bytesOf "integerOrderingMatch", bytesOf "15", 3, 1, 4⟩,
 ⟨bytesOf "booleanMatch", bytesOf "13", 4, 0, 5⟩,
 ⟨bytesOf "generalizedTimeMatch", bytesOf "27", 5, 0, 6⟩,
 ⟨bytesOf "generalizedTimeOrderingMatch", bytesOf "28", 5, 1, 6⟩,
 ⟨bytesOf "octetStringMatch", bytesOf "17", 6, 0, 7⟩,
 ⟨bytesOf "octetStringOrderingMatch", bytesOf "18", 6, 1, 7⟩,
 ⟨bytesOf "distinguishedNameMatch", bytesOf "1", 7, 0, -1⟩,
 ⟨bytesOf "objectIdentifierMatch", bytesOf "0", 8, 0, 8⟩]
def lineOf (r : Int) : Line := if 0 ≤ r ∧ r < 21 then tableV.getD r.toNat ⟨[], [], -1, -1, -1⟩ else ⟨[], [], -1, -1, -1⟩
def keysT (t : PType) : List Str := (t.oid :: t.names).map fun s => low (toL s)
def keysC (c : PClass) : List Str := (c.oid :: c.names).map fun s => low (toL s)
def placeOf (L : List (List Str)) (k : Str) : Option Nat := L.findIdx? (·.contains k)
def tK (S : PSchema) : List (List Str) := S.types.map keysT
def cK (S : PSchema) : List (List Str) := S.classes.map keysC
def typeAt (S : PSchema) (name : Str) : Option Nat := if name = [] then none else placeOf (tK S) (low name)
def classAt (S : PSchema) (name : Str) : Option Nat := if name = [] then none else placeOf (cK S) (low name)
def namedE (oid : ByteArray) (names : List ByteArray) : Int :=
 if !oidB (toL oid) || decide (65536 < oid.size) || names.isEmpty then 50
 else if names.all fun n => wordB (toL n) && decide (n.size ≤ 65536) then (if 16 < names.length then 3 else 0) else 50
def takenB (f : Str → Option Nat) (place : Nat) : List Str → List Str → Bool
 | [], _ => false
 | k :: ks, seen => decide ((f k).getD 0 < place) || seen.contains k || takenB f place ks (k :: seen)
def zeroT : PType := ⟨⟨#[]⟩, [], ⟨#[]⟩, 0, 0, 0, 0, false, 0⟩
def tyAt (S : PSchema) (t : Nat) : PType := S.types.getD t zeroT
def zeroC : PClass := ⟨⟨#[]⟩, [], [], 0, [], []⟩
def clAt (S : PSchema) (t : Nat) : PClass := S.classes.getD t zeroC
def upT (S : PSchema) (t : Nat) : Option Nat := typeAt S (toL (tyAt S t).sup)
def chainL (S : PSchema) : Nat → List Nat → Nat → List Nat × Bool
 | 0, acc, _ => (acc, false)
 | f + 1, acc, t => if acc.contains t then (acc, false) else match upT S t with
  | none => (acc ++ [t], true)
  | some u => chainL S f (acc ++ [t]) u
def chainOf (S : PSchema) (t : Nat) : List Nat × Bool := chainL S (S.types.length + 1) [] t
def mixT (x y : PType) : PType := { x with eq := if x.eq = 0 then y.eq else x.eq, ord := if x.ord = 0 then y.ord else x.ord, part := if x.part = 0 then y.part else x.part }
def inheritT (S : PSchema) (t : Nat) (up : List Nat) : PType := (up.drop 1).foldl (fun x p => mixT x (tyAt S p)) (tyAt S t)
def fullT (S : PSchema) (t : Nat) : PType := inheritT S t (chainOf S t).1
def rulE (x _f : PType) (bit : Nat) (k : Int) (r fr : Int) : Bool :=
 (r != 0 && ((lineOf r).kind != k || (lineOf r).syn != x.syn)) || (x.index.toNat.testBit bit && fr == 0)
def typeE (S : PSchema) (t : Nat) : Int :=
 let x := tyAt S t
 let e := namedE x.oid x.names
 if e ≠ 0 then e
 else if takenB (placeOf (tK S)) t (keysT x) [] then 52
 else if toL x.sup ≠ [] ∧ upT S t = none then 51
 else if (chainOf S t).2 = false then 53
 else if 17 < (chainOf S t).1.length then 3
 else if x.syn < 0 ∨ 8 < x.syn ∨ (1 < (chainOf S t).1.length ∧ (tyAt S ((chainOf S t).1.getD 1 0)).syn ≠ x.syn) ∨ 15 < x.index then 54
 else if rulE x (fullT S t) 1 0 x.eq (fullT S t).eq || rulE x (fullT S t) 2 1 x.ord (fullT S t).ord || rulE x (fullT S t) 3 2 x.part (fullT S t).part then 54
 else 0
def supsOf (S : PSchema) (c : Nat) : List (Option Nat) := (clAt S c).sups.map fun n => placeOf (cK S) (low (toL n))
def dfs (S : PSchema) : Nat → List Bool → Nat → List Bool
 | 0, s, _ => s
 | f + 1, s, c => (supsOf S c).foldl (fun s p => match p with
  | none => s
  | some p => if s.getD p false then s else dfs S f (s.set p true) p) s
def riseOf (S : PSchema) (c : Nat) : List Bool := dfs S (S.classes.length + 1) (List.replicate S.classes.length false) c
def knowsT (S : PSchema) (n : ByteArray) : Bool := (placeOf (tK S) (low (toL n))).isSome
def classE (S : PSchema) (c : Nat) : Int :=
 let x := clAt S c
 let e := namedE x.oid x.names
 if e = 50 ∨ x.kind < 0 ∨ 2 < x.kind then 50
 else if e ≠ 0 ∨ 16 < x.sups.length then 3
 else if takenB (placeOf (cK S)) c (keysC x) [] then 52
 else if !((supsOf S c).all (·.isSome)) then 51
 else if (riseOf S c).getD c false then 53
 else if 16 < (riseOf S c).count true then 3
 else if !((x.must ++ x.may).all (knowsT S)) then 51
 else 0
def objE (S : PSchema) : Int := match placeOf (tK S) (bytesOf "objectclass") with
 | none => 80
 | some k => if (fullT S k).syn = 8 ∧ (fullT S k).eq = 20 ∧ (fullT S k).single = false then 0 else 80
def firstE (f : Nat → Int) : Nat → Nat → Option (Int × Nat)
 | _, 0 => none
 | i, n + 1 => if f i ≠ 0 then some (f i, i) else firstE f (i + 1) n
def newE (S : PSchema) : Int × Nat :=
 if 1024 < S.types.length ∨ 1024 < S.classes.length then (3, 0)
 else match firstE (typeE S) 0 S.types.length with
  | some p => p
  | none => match firstE (classE S) 0 S.classes.length with
   | some p => (p.1, S.types.length + p.2)
   | none => (objE S, 0)
def belowOf (S : PSchema) (t : Nat) : List Nat := (List.range S.types.length).filter fun i => (chainOf S i).1.contains t
theorem low_size (s : ByteArray) : (ByteArray.mk (low (toL s)).toArray).size = s.size := by
 show (low (toL s)).toArray.size = s.size; simp [low]
end Go.Proofs.YtlmfbjhokkpjhaaGreatDoor
namespace Go.Proofs.YtlmfbjhokkpjhaaGreatDoor
open Go Go.RowKit
def lineCells (r : Line) : List Value := [.string ⟨r.name.toArray⟩, .string ⟨r.oid.toArray⟩, .int .i8 r.syn, .int .i8 r.kind, .int .i8 r.form]
def tableCells : List Value := tableV.flatMap lineCells
structure EnvS (w : World) : Prop where
 max : ∃ m, w.cell? ⟨4, 0, none⟩ = some (.int .i64 m)
 tab : ∀ (j : Nat) (v : Value), tableCells[j]? = some v → w.cell? ⟨2, j, none⟩ = some v
theorem EnvS.next {w w' : World} (h : EnvS w) (k : Below w.heap.size w w') : EnvS w' where
 max := by
  obtain ⟨m, hm⟩ := h.max
  exact ⟨m, by rw [k.cell (Zb w _ hm)]; exact hm⟩
 tab := fun j v hv => by
  have hm := h.tab j v hv
  rw [k.cell (Zb w _ hm)]; exact hm
def lineAgg (r : Line) : Array Value := #[.string ⟨r.name.toArray⟩, .string ⟨r.oid.toArray⟩, .int .i8 r.syn, .int .i8 r.kind, .int .i8 r.form]
theorem table_at : ∀ n : Nat, n < 21 → ∀ k, k < 5 → tableCells[n * 5 + k]? = (lineCells (tableV.getD n ⟨[], [], -1, -1, -1⟩))[k]? := by
 intro n hn k hk
 have hl : tableV.length = 21 := by rfl
 have key : ∀ (l : List Line) (n : Nat), n < l.length → (l.flatMap lineCells)[n * 5 + k]? = (lineCells (l.getD n ⟨[], [], -1, -1, -1⟩))[k]? := by
  intro l
  induction l with
  | nil => intro n h; simp at h
  | cons r l ih =>
   intro n h
   rw [List.flatMap_cons]
   cases n with
   | zero => rw [List.getElem?_append_left (by simp [lineCells]; omega)]; simp
   | succ n =>
    rw [List.getElem?_append_right (by simp [lineCells]; omega)]
    rw [show (n + 1) * 5 + k - (lineCells r).length = n * 5 + k by simp [lineCells]; omega, ih n (by simpa using h)]
    simp
 exact key tableV n (by omega)
set_option maxRecDepth 20000 in
theorem of_any (r : Int) (w : World) (E : EnvS w) (hr : -128 ≤ r ∧ r ≤ 127) :
  Calls Tryz.prog 92 #[.int .i8 r] w fun e w' => e = .returned (.agg (lineAgg (lineOf r))) ∧ Below w.heap.size w w' := by
 have base : ∀ n : Nat, n < 21 → ∀ x, tableV.getD n ⟨[], [], -1, -1, -1⟩ = x → w.cell? ⟨2, n * 5, none⟩ = some (.string ⟨x.name.toArray⟩) ∧ w.cell? ⟨2, n * 5 + 1, none⟩ = some (.string ⟨x.oid.toArray⟩) ∧ w.cell? ⟨2, n * 5 + 2, none⟩ = some (.int .i8 x.syn) ∧ w.cell? ⟨2, n * 5 + 3, none⟩ = some (.int .i8 x.kind) ∧ w.cell? ⟨2, n * 5 + 4, none⟩ = some (.int .i8 x.form) := by
  intro n hn x hx
  refine ⟨E.tab _ _ ?_, E.tab _ _ ?_, E.tab _ _ ?_, E.tab _ _ ?_, E.tab _ _ ?_⟩
  ·have := table_at n hn 0 (by omega); rw [hx] at this; exact this
  ·have := table_at n hn 1 (by omega); rw [hx] at this; exact this
  ·have := table_at n hn 2 (by omega); rw [hx] at this; exact this
  ·have := table_at n hn 3 (by omega); rw [hx] at this; exact this
  ·have := table_at n hn 4 (by omega); rw [hx] at this; exact this
 by_cases h0 : 0 ≤ r ∧ r < 21
 ·obtain ⟨n, rfl⟩ : ∃ n : Nat, r = (n : Int) := ⟨r.toNat, by omega⟩
  have hn : n < 21 := by omega
  obtain ⟨c0, c1, c2, c3, c4⟩ := base n hn _ rfl
  have hx : lineOf (n : Int) = tableV.getD n ⟨[], [], -1, -1, -1⟩ := by unfold lineOf; rw [if_pos h0]; rfl
  rw [hx]
  clear hx
  generalize tableV.getD n ⟨[], [], -1, -1, -1⟩ = x at *
  have hG : 2 < w.heap.size := Zb w _ c0
  have hn2 : (n : Int) < 21 := by omega
  have hn3 : (0 : Int) ≤ n := by omega
  clear base h0 hr E
  go_enter Tryz.func92, Tryz.ntmps92
  go_wp2_with fail
  refine bodyPost_ret (v := .agg (lineAgg x)) (by simp [results, Tryz.results92, go_sem, lineAgg, *]) rfl ?_
  refine ⟨rfl, ?_⟩
  exact (Zl _ w).alloc (Zr _) _
 ·obtain ⟨c0, c1, c2, c3, c4⟩ := base 0 (by omega) ⟨[], [], -1, -1, -1⟩ rfl
  have hx : lineOf r = ⟨[], [], -1, -1, -1⟩ := by unfold lineOf; rw [if_neg h0]
  rw [hx]
  clear hx
  rw [show 0 * 5 = 0 from rfl] at c0 c1 c2 c3 c4
  have hG : 2 < w.heap.size := Zb w _ c0
  obtain ⟨r1, r2⟩ := hr
  clear base E
  by_cases hneg : r < 0
  ·clear h0
   go_enter Tryz.func92, Tryz.ntmps92
   go_wp2_with fail
   refine bodyPost_ret (v := .agg (lineAgg ⟨[], [], -1, -1, -1⟩)) (by simp [results, Tryz.results92, go_sem, lineAgg, *]) rfl ?_
   exact ⟨rfl, (Zl _ w).alloc (Zr _) _⟩
  ·have h21 : 21 ≤ r := by omega
   have hge : 0 ≤ r := by omega
   clear h0 hneg
   go_enter Tryz.func92, Tryz.ntmps92
   go_wp2_with fail
   refine bodyPost_ret (v := .agg (lineAgg ⟨[], [], -1, -1, -1⟩)) (by simp [results, Tryz.results92, go_sem, lineAgg, *]) rfl ?_
   exact ⟨rfl, (Zl _ w).alloc (Zr _) _⟩
theorem line_syn (L : Line) (w : World) : (Instr.field 152 (.agg #[.string ⟨L.name.toArray⟩, .string ⟨L.oid.toArray⟩, .int .i8 L.syn, .int .i8 L.kind, .int .i8 L.form]) 2).run Tryz.prog w = .ok (.int .i8 L.syn) w := by kernel_rfl
theorem line_form (L : Line) (w : World) : (Instr.field 152 (.agg #[.string ⟨L.name.toArray⟩, .string ⟨L.oid.toArray⟩, .int .i8 L.syn, .int .i8 L.kind, .int .i8 L.form]) 4).run Tryz.prog w = .ok (.int .i8 L.form) w := by kernel_rfl
theorem form_any (r : Int) (w : World) (E : EnvS w) (hr : -128 ≤ r ∧ r ≤ 127) :
  Calls Tryz.prog 55 #[.int .i8 r] w fun e w' => e = .returned (.tuple #[.int .i8 (lineOf r).form, .int .i8 (lineOf r).syn]) ∧ Below w.heap.size w w' := by
 have hof := fun w' (hb : Below w.heap.size w w') => of_any r w' (E.next hb) hr
 unfold lineAgg at hof
 generalize lineOf r = L at *
 have HOF := Zh hof; clear hof E hr
 have h1 := line_form L
 have h2 := line_syn L
 go_enter Tryz.func55, Tryz.ntmps55
 go_wp2_with (first
  | (go_at_call 92; refine (HOF.out _ (Zl _ _)).mono ?_; rintro e w1 ⟨rfl, hb1⟩; have HB1 := Zh hb1; clear hb1)
  | (go_at_call 92; refine (HOF.out _ HB1.out).mono ?_; rintro e w2 ⟨rfl, hb2⟩; have HB2 := Zh (bnext HB1.out hb2); clear hb2)
  | fail)
 go_ret2
 exact ⟨rfl, HB2.out⟩
def sortsV : List Int := [0, 1, 2, 3, 1, 2, 3, 1, 2, 3, 1, 3, 1, 2, 1, 1, 2, 1, 2, 1, 1]
def formsV : List Int := [1, 2, 3, 4, 5, 6, 7, 0, 8]
def formV (s : Int) : Int := formsV.getD s.toNat 0
structure EnvM (w : World) : Prop where
 sorts : ∀ (j : Nat) (v : Int), sortsV[j]? = some v → w.cell? ⟨1, j, none⟩ = some (.int .i8 v)
 forms : ∀ (j : Nat) (v : Int), formsV[j]? = some v → w.cell? ⟨0, j, none⟩ = some (.int .i8 v)
theorem EnvM.next {w w' : World} (h : EnvM w) (k : Below w.heap.size w w') : EnvM w' where
 sorts := fun j v hv => by have hm := h.sorts j v hv; rw [k.cell (Zb w _ hm)]; exact hm
 forms := fun j v hv => by have hm := h.forms j v hv; rw [k.cell (Zb w _ hm)]; exact hm
def lineD (r : Line) : DataW Unit := .agg [.lit (.string r.name), .lit (.string r.oid), .lit (.int .i8 r.syn), .lit (.int .i8 r.kind), .lit (.int .i8 r.form)]
theorem fString (t : TypeId) (ht : Tryz.prog.underlying t = some .string) {w : World} {base : Nat} {sp : Nat → Bool} {held : Bool} {enc : TypeId × Value → Unit} {fuel : Nat} {cs : List Value} {l : List UInt8} {p : List MemPlace}
  (h : DataW.trod enc Tryz.prog w base sp held fuel t cs = some (.lit (.string l), p)) : cs = [.string ⟨l.toArray⟩] := by
 obtain ⟨s, hc, hx, _⟩ := DataW.trod_string ht h
 rw [hc]
 have h1 := congrArg Prod.fst hx
 simp only [DataW.lit.injEq, Lit.string.injEq] at h1
 rw [h1]
theorem fInt8 (t : TypeId) (ht : Tryz.prog.underlying t = some (.int .i8)) {w : World} {base : Nat} {sp : Nat → Bool} {held : Bool} {enc : TypeId × Value → Unit} {fuel : Nat} {cs : List Value} {n : Int} {p : List MemPlace}
  (h : DataW.trod enc Tryz.prog w base sp held fuel t cs = some (.lit (.int .i8 n), p)) : cs = [.int .i8 n] := by
 obtain ⟨m, hc, hx, _⟩ := DataW.trod_int ht h
 rw [hc]
 have h1 := congrArg Prod.fst hx
 simp only [DataW.lit.injEq, Lit.int.injEq, true_and] at h1
 rw [h1]
theorem five_split (cs : List Value) (h : cs.length = 5) (a b c d e : Value) (h0 : (cs.drop 0).take 1 = [a]) (h1 : (cs.drop 1).take 1 = [b]) (h2 : (cs.drop 2).take 1 = [c]) (h3 : (cs.drop 3).take 1 = [d]) (h4 : (cs.drop 4).take 1 = [e]) : cs = [a, b, c, d, e] := by
 match cs, h with
 | [x0, x1, x2, x3, x4], _ =>
  simp at h0 h1 h2 h3 h4
  rw [h0, h1, h2, h3, h4]
theorem line_fields : ∃ f0 f1 f2 f3 f4 : Field, Tryz.prog.underlying 152 = some (.struct #[f0, f1, f2, f3, f4]) ∧ (f0.type = 9 ∧ f0.offset = 0) ∧ (f1.type = 9 ∧ f1.offset = 1) ∧ (f2.type = 26 ∧ f2.offset = 2) ∧ (f3.type = 26 ∧ f3.offset = 3) ∧ (f4.type = 26 ∧ f4.offset = 4) :=
 ⟨_, _, _, _, _, Tryz.underlying152, ⟨rfl, rfl⟩, ⟨rfl, rfl⟩, ⟨rfl, rfl⟩, ⟨rfl, rfl⟩, ⟨rfl, rfl⟩⟩
theorem c1s : Tryz.prog.cellsOf 9 = 1 := by kernel_rfl
theorem c1i : Tryz.prog.cellsOf 26 = 1 := by kernel_rfl
theorem cLine : Tryz.prog.cellsOf 152 = 5 := by kernel_rfl
theorem cells_line {w : World} {base : Nat} {sp : Nat → Bool} {held : Bool} {enc : TypeId × Value → Unit} {fuel : Nat} {cs : List Value} {r : Line} {p : List MemPlace}
  (h : DataW.trod enc Tryz.prog w base sp held fuel 152 cs = some (lineD r, p)) : cs = lineCells r := by
 obtain ⟨f0, f1, f2, f3, f4, hu, ⟨a0, b0⟩, ⟨a1, b1⟩, ⟨a2, b2⟩, ⟨a3, b3⟩, ⟨a4, b4⟩⟩ := line_fields
 obtain ⟨xs, n, _, hx, hl, hlen, hf⟩ := DataW.trod_struct hu h
 rw [cLine] at hl
 match xs, hlen with
 | [y0, y1, y2, y3, y4], _ =>
  have g0 := hf 0 f0 rfl
  have g1 := hf 1 f1 rfl
  have g2 := hf 2 f2 rfl
  have g3 := hf 3 f3 rfl
  have g4 := hf 4 f4 rfl
  rw [a0, b0, c1s] at g0
  rw [a1, b1, c1s] at g1
  rw [a2, b2, c1i] at g2
  rw [a3, b3, c1i] at g3
  rw [a4, b4, c1i] at g4
  have hx1 := congrArg Prod.fst hx
  simp only [lineD, List.map_cons, List.map_nil, DataW.agg.injEq, List.cons.injEq, and_true] at hx1
  obtain ⟨e0, e1, e2, e3, e4⟩ := hx1
  obtain ⟨d0, p0⟩ := y0
  obtain ⟨d1, p1⟩ := y1
  obtain ⟨d2, p2⟩ := y2
  obtain ⟨d3, p3⟩ := y3
  obtain ⟨d4, p4⟩ := y4
  simp only at e0 e1 e2 e3 e4
  subst e0; subst e1; subst e2; subst e3; subst e4
  exact five_split cs hl _ _ _ _ _ (fString _ Tryz.underlying9 (by simpa using g0)) (fString _ Tryz.underlying9 (by simpa using g1)) (fInt8 _ Tryz.underlying26 (by simpa using g2)) (fInt8 _ Tryz.underlying26 (by simpa using g3)) (fInt8 _ Tryz.underlying26 (by simpa using g4))
theorem cells_of_lines {w : World} {base : Nat} {sp : Nat → Bool} {held : Bool} {enc : TypeId × Value → Unit} {fuel : Nat} {cs : List Value} {rs : List Line} {p : List MemPlace}
  (h : DataW.trod enc Tryz.prog w base sp held fuel 200 cs = some (.agg (rs.map lineD), p)) : cs = rs.flatMap lineCells := by
 cases fuel with
 | zero => simp [DataW.trod] at h
 | succ fuel =>
  simp only [DataW.trod, Tryz.underlying200, cLine, show Tryz.prog.cellsOf 200 = 105 by kernel_rfl] at h
  split at h
  ·rename_i hl
   obtain ⟨xs, hm, hx⟩ := Option.map_eq_some_iff.1 h
   have hxs : xs.map (·.1) = rs.map lineD := by
    have := congrArg Prod.fst hx
    simpa using this
   have hxl : xs.length = 21 := by simpa using Lib.mapM_length hm
   have hzl : rs.length = 21 := by
    have := congrArg List.length hxs
    simp at this
    omega
   have hel : ∀ i, i < 21 → (cs.drop (i * 5)).take 5 = lineCells (rs.getD i ⟨[], [], 0, 0, 0⟩) := fun i hi => by
    obtain ⟨b, hb, hf⟩ := Lib.mapM_at hm i i (by simp [hi])
    have h2 : (xs.map (·.1))[i]? = some b.1 := by simp [hb]
    rw [hxs] at h2
    have hir : i < rs.length := by omega
    simp only [List.getElem?_map, List.getElem?_eq_getElem hir, Option.map_some, Option.some.injEq] at h2
    obtain ⟨b1, b2⟩ := b
    simp only at h2
    subst h2
    have := cells_line hf
    rw [List.getD_eq_getElem?_getD, List.getElem?_eq_getElem hir]
    exact this
   have key : ∀ (rs : List Line) (cs : List Value), cs.length = rs.length * 5 → (∀ i, i < rs.length → (cs.drop (i * 5)).take 5 = lineCells (rs.getD i ⟨[], [], 0, 0, 0⟩)) → cs = rs.flatMap lineCells := by
    intro rs
    induction rs with
    | nil => intro cs h _; exact List.eq_nil_of_length_eq_zero (by simpa using h)
    | cons r rs ih =>
     intro cs h he
     have h0 := he 0 (by simp)
     simp at h0
     have hr := ih (cs.drop 5) (by simp at h ⊢; omega) fun i hi => by
      have := he (i + 1) (by simpa using hi)
      rw [List.drop_drop]
      rw [show 5 + i * 5 = (i + 1) * 5 by omega]
      simpa using this
     rw [List.flatMap_cons, ← hr, ← h0, List.take_append_drop]
   exact key rs cs (by omega) fun i hi => hel i (by omega)
  ·cases h
theorem gTab : Tryz.prog.globalNamed "roster/schema.table" = some 2 := by kernel_rfl
theorem gTabType : (Tryz.prog.globals[2]?).map (·.type) = some 200 := by kernel_rfl
theorem table_of_head {W : World} {rest : List (String × DataW Unit)} (h : laidMet Tryz.prog (("roster/schema.table", .agg (tableV.map lineD)) :: rest) W) : ∀ (j : Nat) (v : Value), tableCells[j]? = some v → W.cell? ⟨2, j, none⟩ = some v := by
 obtain ⟨ps, ⟨g', t', cs, fuel, p, q, hg', ht', hvar, hd, _, _⟩, _⟩ := h
 obtain rfl := Option.some.inj (gTab.symm.trans hg')
 obtain rfl := Option.some.inj (gTabType.symm.trans ht')
 have hc := cells_of_lines hd
 intro j v hj
 have h1 := World.var?_cell gTab hvar j
 rw [h1, ← Array.getElem?_toList, hc]
 exact hj
end Go.Proofs.YtlmfbjhokkpjhaaGreatDoor
