/- The comparisons of layer 12's statements: what rosterlaw12.texts, rosterlaw12.order's closure, rosterref12.Cmp and sign compute, and that these are orders. -/
import Derived.Test.YtdfkokbpidkokaaSeq
import Derived.Test.YtdfkokbpidkokaaRows
namespace Go.Proofs.Ytdfkokbpidkokaa
open Go.RowKit

theorem ret_int {k : IntKind} {a b : Int} (h : a = b) : Ending.returned (.int k a) = .returned (.int k b) := by rw [h]

def sgn (a b : Int) : Int := if a < b then -1 else if b < a then 1 else 0
theorem sgn_bd (a b : Int) : -1 ≤ sgn a b ∧ sgn a b ≤ 1 := by unfold sgn; repeat' split <;> omega
theorem sgn_lt (a b : Int) : sgn a b < 0 ↔ a < b := by unfold sgn; repeat' split <;> omega
theorem sgn_eq (a b : Int) : sgn a b = 0 ↔ a = b := by unfold sgn; repeat' split <;> omega

set_option maxHeartbeats 1000000 in
theorem sign_any (a b : Int) (w : World) :
    Calls Try.prog 66 #[.int .i64 a, .int .i64 b] w fun e w' => e = .returned (.int .i64 (sgn a b)) ∧ w = w' := by
  go_enter Try.func66, Try.ntmps66
  go_wp2
  all_goals (go_ret; exact ⟨ret_int (by unfold sgn; repeat' split <;> omega), rfl⟩)

def numB (a : Int) : Int := wrap64 (a.tdiv 10)
def numC (a : Int) : Int := bits BinOp.and IntKind.i64 a 3
def cmpI (o a b : Int) : Int :=
  if o.tmod 4 == 1 || o.tmod 4 == -1 then sgn b a
  else if o.tmod 4 == 2 || o.tmod 4 == -2 then 7 * sgn (numB a) (numB b)
  else if o.tmod 4 == 3 || o.tmod 4 == -3 then sgn (numC a) (numC b)
  else sgn a b

set_option maxHeartbeats 1000000 in
theorem cmp_any (o a b : Int) (w : World) :
    Calls Try.prog 52 #[.int .i64 o, .int .i64 a, .int .i64 b] w fun e w' => e = .returned (.int .i64 (cmpI o a b)) ∧ w = w' := by
  have hb := sgn_bd (numB a) (numB b)
  cases H1 : (o.tmod 4 == 1)
  case true =>
    have hf : cmpI o a b = sgn b a := by simp [cmpI, H1]
    have HF := Lib.hid hf; clear hf
    go_enter Try.func52, Try.ntmps52
    go_wp2_with (go_at_call 66; refine (sign_any _ _ _).mono ?_; rintro e w' ⟨rfl, rfl⟩)
    go_ret
    exact ⟨ret_int HF.out.symm, rfl⟩
  case false =>
  cases H2 : (o.tmod 4 == -1)
  case true =>
    have hf : cmpI o a b = sgn b a := by simp [cmpI, H2]
    have HF := Lib.hid hf; clear hf
    go_enter Try.func52, Try.ntmps52
    go_wp2_with (go_at_call 66; refine (sign_any _ _ _).mono ?_; rintro e w' ⟨rfl, rfl⟩)
    go_ret
    exact ⟨ret_int HF.out.symm, rfl⟩
  case false =>
  cases H3 : (o.tmod 4 == 2)
  case true =>
    have hf : cmpI o a b = 7 * sgn (numB a) (numB b) := by simp [cmpI, H1, H2, H3]
    have HF := Lib.hid hf; clear hf
    go_enter Try.func52, Try.ntmps52
    go_wp2_with (go_at_call 66; refine (sign_any _ _ _).mono ?_; rintro e w' ⟨rfl, rfl⟩)
    have e1 : wrap64 (7 * sgn (numB a) (numB b)) = 7 * sgn (numB a) (numB b) := IntWalk.wrap64_in _ ⟨by omega, by omega⟩
    go_ret
    exact ⟨ret_int (by rw [HF.out]; exact e1), rfl⟩
  case false =>
  cases H4 : (o.tmod 4 == -2)
  case true =>
    have hf : cmpI o a b = 7 * sgn (numB a) (numB b) := by simp [cmpI, H1, H2, H4]
    have HF := Lib.hid hf; clear hf
    go_enter Try.func52, Try.ntmps52
    go_wp2_with (go_at_call 66; refine (sign_any _ _ _).mono ?_; rintro e w' ⟨rfl, rfl⟩)
    have e1 : wrap64 (7 * sgn (numB a) (numB b)) = 7 * sgn (numB a) (numB b) := IntWalk.wrap64_in _ ⟨by omega, by omega⟩
    go_ret
    exact ⟨ret_int (by rw [HF.out]; exact e1), rfl⟩
  case false =>
  cases H5 : (o.tmod 4 == 3)
  case true =>
    have hf : cmpI o a b = sgn (numC a) (numC b) := by simp [cmpI, H1, H2, H3, H4, H5]
    have HF := Lib.hid hf; clear hf
    go_enter Try.func52, Try.ntmps52
    go_wp2_with (go_at_call 66; refine (sign_any _ _ _).mono ?_; rintro e w' ⟨rfl, rfl⟩)
    go_ret
    exact ⟨ret_int HF.out.symm, rfl⟩
  case false =>
  cases H6 : (o.tmod 4 == -3)
  case true =>
    have hf : cmpI o a b = sgn (numC a) (numC b) := by simp [cmpI, H1, H2, H3, H4, H6]
    have HF := Lib.hid hf; clear hf
    go_enter Try.func52, Try.ntmps52
    go_wp2_with (go_at_call 66; refine (sign_any _ _ _).mono ?_; rintro e w' ⟨rfl, rfl⟩)
    go_ret
    exact ⟨ret_int HF.out.symm, rfl⟩
  case false =>
  have hf : cmpI o a b = sgn a b := by simp [cmpI, H1, H2, H3, H4, H5, H6]
  have HF := Lib.hid hf; clear hf
  go_enter Try.func52, Try.ntmps52
  go_wp2_with (go_at_call 66; refine (sign_any _ _ _).mono ?_; rintro e w' ⟨rfl, rfl⟩)
  go_ret
  exact ⟨ret_int HF.out.symm, rfl⟩

theorem cmpI_ord (o : Int) : Ord (cmpI o) := by
  by_cases h1 : (o.tmod 4 == 1 || o.tmod 4 == -1) = true
  · refine Ord.of_num (fun a => -a) (fun a b => ?_) (fun a b => ?_)
    · unfold cmpI; rw [if_pos h1, sgn_lt]; omega
    · unfold cmpI; rw [if_pos h1, sgn_eq]; omega
  · by_cases h2 : (o.tmod 4 == 2 || o.tmod 4 == -2) = true
    · refine Ord.of_num numB (fun a b => ?_) (fun a b => ?_)
      · unfold cmpI; rw [if_neg h1, if_pos h2]; have := sgn_lt (numB a) (numB b); omega
      · unfold cmpI; rw [if_neg h1, if_pos h2]; have := sgn_eq (numB a) (numB b); omega
    · by_cases h3 : (o.tmod 4 == 3 || o.tmod 4 == -3) = true
      · refine Ord.of_num numC (fun a b => ?_) (fun a b => ?_)
        · unfold cmpI; rw [if_neg h1, if_neg h2, if_pos h3]; exact sgn_lt _ _
        · unfold cmpI; rw [if_neg h1, if_neg h2, if_pos h3]; exact sgn_eq _ _
      · refine Ord.of_num id (fun a b => ?_) (fun a b => ?_)
        · unfold cmpI; rw [if_neg h1, if_neg h2, if_neg h3]; exact sgn_lt _ _
        · unfold cmpI; rw [if_neg h1, if_neg h2, if_neg h3]; exact sgn_eq _ _

set_option maxHeartbeats 1000000 in
/-- the closure of rosterlaw12.order: its captured number lies in block q -/
theorem order_cmp (q : Nat) (o a b : Int) (w : World) (hq : w.cell? ⟨q, 0, none⟩ = some (.int .i64 o)) :
    Calls Try.prog 51 #[.int .i64 a, .int .i64 b, .pointer (some ⟨q, 0, none⟩)] w fun e w' => e = .returned (.int .i64 (cmpI o a b)) ∧ w = w' := by
  go_enter Try.func51, Try.ntmps51
  go_wp2_with (go_at_call 52; refine (cmp_any _ _ _ _).mono ?_; rintro e w' ⟨rfl, rfl⟩)
  go_ret
  exact ⟨rfl, rfl⟩

set_option maxHeartbeats 1000000 in
/-- order makes the closure; its number lies in a new block -/
theorem order_any (o : Int) (w : World) :
    Calls Try.prog 22 #[.int .i64 o] w fun e w' => e = .returned (.func (.func 51) #[] #[.pointer (some ⟨w.heap.size, 0, none⟩)]) ∧ w.alloc (.cells #[.int .i64 o] 3) = w' := by
  go_enter Try.func22, Try.ntmps22
  go_wp2
  go_ret
  exact ⟨rfl, rfl⟩

def txc (a b : ByteArray) : Int := if Op.bytesLess a.toList b.toList then -1 else if a.toList == b.toList then 0 else 1

set_option maxHeartbeats 1000000 in
theorem texts_any (a b : ByteArray) (w : World) :
    Calls Try.prog 9 #[.string a, .string b] w fun e w' => e = .returned (.int .i64 (txc a b)) ∧ w = w' := by
  cases H1 : Op.bytesLess a.toList b.toList
  case true =>
    have hf : txc a b = -1 := by simp [txc, H1]
    have HF := Lib.hid hf; clear hf
    go_enter Try.func9, Try.ntmps9
    go_wp2
    go_ret
    exact ⟨ret_int HF.out.symm, rfl⟩
  case false =>
  cases H2 : (a.toList == b.toList)
  case true =>
    have hf : txc a b = 0 := by unfold txc; rw [H1, H2]; rfl
    have HF := Lib.hid hf; clear hf
    go_enter Try.func9, Try.ntmps9
    go_wp2
    go_ret
    exact ⟨ret_int HF.out.symm, rfl⟩
  case false =>
    have hf : txc a b = 1 := by unfold txc; rw [H1, H2]; rfl
    have HF := Lib.hid hf; clear hf
    go_enter Try.func9, Try.ntmps9
    go_wp2
    go_ret
    exact ⟨ret_int HF.out.symm, rfl⟩

theorem bl_irr : ∀ a : List UInt8, Op.bytesLess a a = false
  | [] => rfl
  | x :: a => by simp [Op.bytesLess, bl_irr a]

theorem bl_tr : ∀ a b d : List UInt8, Op.bytesLess a b = true → Op.bytesLess b d = true → Op.bytesLess a d = true
  | _, [], _, h, _ => by cases ‹List UInt8› <;> simp [Op.bytesLess] at h
  | _, _ :: _, [], _, h => by simp [Op.bytesLess] at h
  | [], _ :: _, _ :: _, _, _ => rfl
  | x :: a, y :: b, z :: d, h, k => by
    simp only [Op.bytesLess, Bool.or_eq_true, Bool.and_eq_true, decide_eq_true_eq, beq_iff_eq, UInt8.lt_iff_toNat_lt] at h k ⊢
    rcases h with h | ⟨rfl, h⟩ <;> rcases k with k | ⟨rfl, k⟩
    · exact .inl (by omega)
    · exact .inl h
    · exact .inl k
    · exact .inr ⟨rfl, bl_tr a b d h k⟩

theorem bl_tri : ∀ a b : List UInt8, Op.bytesLess a b = false → a ≠ b → Op.bytesLess b a = true
  | [], [], _, h => absurd rfl h
  | [], _ :: _, h, _ => by simp [Op.bytesLess] at h
  | _ :: _, [], _, _ => rfl
  | x :: a, y :: b, h, k => by
    simp only [Op.bytesLess, Bool.or_eq_true, Bool.and_eq_true, decide_eq_true_eq, beq_iff_eq, UInt8.lt_iff_toNat_lt, Bool.or_eq_false_iff, Bool.and_eq_false_imp, decide_eq_false_iff_not] at h ⊢
    obtain ⟨h1, h2⟩ := h
    by_cases he : x = y
    · subst he
      exact .inr ⟨rfl, bl_tri a b (h2 rfl) (fun e => k (by rw [e]))⟩
    · left
      have : x.toNat ≠ y.toNat := fun e => he (UInt8.toNat_inj.1 e)
      omega

theorem txc_lt (a b : ByteArray) : txc a b < 0 ↔ Op.bytesLess a.toList b.toList = true := by
  unfold txc
  cases h : Op.bytesLess a.toList b.toList
  · cases h2 : (a.toList == b.toList) <;> simp
  · simp
theorem txc_eq (a b : ByteArray) : txc a b = 0 ↔ a.toList = b.toList := by
  unfold txc
  by_cases h : a.toList = b.toList
  · rw [h, bl_irr]; simp
  · have h2 : (a.toList == b.toList) = false := by simpa using h
    rw [h2]
    cases Op.bytesLess a.toList b.toList <;> simp [h]
theorem txc_gt (a b : ByteArray) : 0 < txc a b ↔ Op.bytesLess b.toList a.toList = true := by
  constructor
  · intro h
    refine bl_tri _ _ ?_ ?_
    · cases hb : Op.bytesLess a.toList b.toList
      · rfl
      · have := (txc_lt a b).2 hb; omega
    · intro e
      have := (txc_eq a b).2 e; omega
  · intro h
    have h1 : ¬ txc a b < 0 := by
      rw [txc_lt]; intro h2
      have := bl_tr _ _ _ h h2
      rw [bl_irr] at this; cases this
    have h2 : ¬ txc a b = 0 := by
      rw [txc_eq]; intro e
      rw [e, bl_irr] at h; cases h
    omega
theorem txc_ord : Ord txc where
  tr {a b d} x y := by rw [txc_lt] at *; exact bl_tr _ _ _ x y
  gt {a b} x := by rw [txc_gt] at x; rw [txc_lt]; exact x
  lt {a b} x := by rw [txc_lt] at x; rw [txc_gt]; exact x
  eq {a b} x := by rw [txc_eq] at *; exact x.symm
  el {a b d} x y := by rw [txc_lt] at *; rw [txc_eq] at x; rw [x]; exact y
  er {a b d} x y := by rw [txc_lt] at *; rw [txc_eq] at y; rw [← y]; exact x
  ee {a b d} x y := by rw [txc_eq] at *; rw [x]; exact y
  rf a := by rw [txc_eq]
end Go.Proofs.Ytdfkokbpidkokaa
