/- Rows of digits as numbers: what plusL and lessL say of them. -/
import Derived.Test.YtpnnbffhdhbonaaGreatDoorPlus
import Derived.Test.YtpnnbffhdhbonaaGreatDoorAdd
namespace Go.Proofs.YtpnnbffhdhbonaaGreatDoor
open Go Go.RowKit

/-- f 0 + 10 f 1 + .. + 10^(n-1) f (n-1) -/
def dsum (f : Nat → Int) : Nat → Int
  | 0 => 0
  | n + 1 => dsum f n + f n * 10 ^ n
/-- a row of digits as a number -/
def dval (l : List UInt8) : Int := dsum (dgt l) l.length

theorem pow_pos10 (n : Nat) : (0 : Int) < 10 ^ n := Int.pow_pos (by decide)
theorem pow_succ10 (n : Nat) : (10 : Int) ^ (n + 1) = 10 * 10 ^ n := by rw [Int.pow_succ, Int.mul_comm]

theorem dsum_congr {f g : Nat → Int} : ∀ n, (∀ i, i < n → f i = g i) → dsum f n = dsum g n
  | 0, _ => rfl
  | n + 1, h => by
    show dsum f n + f n * 10 ^ n = dsum g n + g n * 10 ^ n
    rw [dsum_congr n fun i hi => h i (by omega), h n (by omega)]
theorem dsum_zero (f : Nat → Int) (m : Nat) (h : ∀ i, m ≤ i → f i = 0) : ∀ n, m ≤ n → dsum f n = dsum f m := by
  intro n hn
  induction n with
  | zero => obtain rfl : m = 0 := by omega
            rfl
  | succ n ih =>
    by_cases e : m = n + 1
    · rw [e]
    · show dsum f n + f n * 10 ^ n = _
      rw [h n (by omega), ih (by omega)]; omega
theorem dsum_range {f : Nat → Int} (h : ∀ i, 0 ≤ f i ∧ f i ≤ 9) : ∀ n, 0 ≤ dsum f n ∧ dsum f n < 10 ^ n
  | 0 => ⟨Int.le_refl _, by show (0 : Int) < 10 ^ 0; decide⟩
  | n + 1 => by
    have ih := dsum_range h n
    have hp := pow_pos10 n
    have hf := h n
    have h1 : 0 ≤ f n * 10 ^ n := Int.mul_nonneg hf.1 (by omega)
    have h2 : f n * 10 ^ n ≤ 9 * 10 ^ n := Int.mul_le_mul_of_nonneg_right hf.2 (by omega)
    show 0 ≤ dsum f n + f n * 10 ^ n ∧ dsum f n + f n * 10 ^ n < 10 ^ (n + 1)
    rw [pow_succ10]
    omega
theorem dsum_low (f : Nat → Int) : ∀ n, dsum f (n + 1) = f 0 + 10 * dsum (fun i => f (i + 1)) n
  | 0 => by show 0 + f 0 * 10 ^ 0 = f 0 + 10 * 0; simp
  | n + 1 => by
    show dsum f (n + 1) + f (n + 1) * 10 ^ (n + 1) = f 0 + 10 * (dsum (fun i => f (i + 1)) n + f (n + 1) * 10 ^ n)
    rw [dsum_low f n, pow_succ10, Int.mul_add]
    rw [show f (n + 1) * (10 * 10 ^ n) = 10 * (f (n + 1) * 10 ^ n) by rw [← Int.mul_assoc, ← Int.mul_assoc, Int.mul_comm (f (n + 1)) 10]]
    omega
theorem dsum_inj : ∀ (n : Nat) (f g : Nat → Int), (∀ i, 0 ≤ f i ∧ f i ≤ 9) → (∀ i, 0 ≤ g i ∧ g i ≤ 9) → dsum f n = dsum g n → ∀ i, i < n → f i = g i
  | 0, _, _, _, _, _, i, hi => absurd hi (Nat.not_lt_zero i)
  | n + 1, f, g, hf, hg, h, i, hi => by
    rw [dsum_low, dsum_low] at h
    have f0 := hf 0
    have g0 := hg 0
    have e0 : f 0 = g 0 := by omega
    have e1 : dsum (fun i => f (i + 1)) n = dsum (fun i => g (i + 1)) n := by omega
    cases i with
    | zero => exact e0
    | succ i => exact dsum_inj n _ _ (fun i => hf (i + 1)) (fun i => hg (i + 1)) e1 i (by omega)

theorem dgt_beyond (l : List UInt8) {i : Nat} (h : l.length ≤ i) : dgt l i = 0 := by
  unfold dgt
  rw [List.getD_eq_getElem?_getD, List.getElem?_eq_none (by rw [List.length_reverse]; exact h)]; rfl
theorem dval_eq (l : List UInt8) (n : Nat) (h : l.length ≤ n) : dsum (dgt l) n = dval l := dsum_zero _ _ (fun _ hi => dgt_beyond l hi) n h
theorem dgt_nought (l : List UInt8) (i : Nat) : dgt (48 :: l) i = dgt l i := by
  unfold dgt
  rw [List.reverse_cons, List.getD_eq_getElem?_getD, List.getD_eq_getElem?_getD]
  rcases Nat.lt_trichotomy i l.reverse.length with h | h | h
  · rw [List.getElem?_append_left h]
  · rw [List.getElem?_append_right (by omega), h, Nat.sub_self, List.getElem?_eq_none (by omega : l.reverse.length ≤ l.reverse.length)]; rfl
  · rw [List.getElem?_eq_none (by simp at h ⊢; omega), List.getElem?_eq_none (by omega)]
theorem dgt_trim (l : List UInt8) (i : Nat) : dgt (Lib.trimLeftB l 48) i = dgt l i := by
  induction l with
  | nil => rfl
  | cons c l ih =>
    unfold Lib.trimLeftB at ih ⊢
    rw [List.dropWhile_cons]
    by_cases h : c = 48
    · subst h
      simp only [beq_self_eq_true, if_true]
      rw [ih, dgt_nought]
    · rw [if_neg (by simpa using h)]

theorem dgt_sumL (a b : List UInt8) (less : Bool) (N : Nat) (ha : digsL a) (hb : digsL b) (i : Nat) : dgt (sumL a b less N) i = if i < N then sdg a b less i else 0 := by
  by_cases h : i < N
  · rw [if_pos h]
    unfold dgt sumL
    rw [List.getD_eq_getElem?_getD, List.map_reverse, List.reverse_reverse, List.getElem?_map, List.getElem?_range h]
    show ((sby a b less i).toNat : Int) - 48 = _
    rw [sby_nat ha hb]; omega
  · rw [if_neg h]
    refine dgt_beyond _ ?_
    unfold sumL; simp; omega

theorem dgt_plusL (a b : List UInt8) (less : Bool) (ha : digsL a) (hb : digsL b) (i : Nat) : dgt (plusL a b less) i = if i < max a.length b.length + 1 then sdg a b less i else 0 := by
  rw [← dgt_sumL a b less _ ha hb, ← dgt_trim (sumL a b less _)]
  unfold plusL
  split
  · rename_i h
    rw [h]
    exact dgt_nought [] i
  · rfl

/-- the carried sum -/
theorem sum_steps (a b : List UInt8) (less : Bool) : ∀ n, dsum (sdg a b less) n + car a b less n * 10 ^ n = dsum (dgt a) n + (if less then - dsum (dgt b) n else dsum (dgt b) n)
  | 0 => by cases less <;> rfl
  | n + 1 => by
    have ih := sum_steps a b less n
    have h1 : sdg a b less n + 10 * car a b less (n + 1) = raw a b less n := by
      rw [car_succ]; unfold sdg
      split
      · omega
      · split <;> omega
    have h2 : raw a b less n = dgt a n + ((if less then - dgt b n else dgt b n) + car a b less n) := rfl
    show dsum (sdg a b less) n + sdg a b less n * 10 ^ n + car a b less (n + 1) * 10 ^ (n + 1) = dsum (dgt a) n + dgt a n * 10 ^ n + (if less then - (dsum (dgt b) n + dgt b n * 10 ^ n) else dsum (dgt b) n + dgt b n * 10 ^ n)
    have h3 : sdg a b less n * 10 ^ n + car a b less (n + 1) * 10 ^ (n + 1) = raw a b less n * 10 ^ n := by
      rw [← h1, Int.add_mul, pow_succ10, ← Int.mul_assoc, Int.mul_comm (car a b less (n + 1)) 10]
    rw [Int.add_assoc, h3, h2]
    cases less
    · simp only [Bool.false_eq_true, if_false] at ih ⊢
      rw [Int.add_mul, Int.add_mul]; omega
    · simp only [if_true] at ih ⊢
      rw [Int.add_mul, Int.add_mul, Int.neg_mul]; omega

theorem dgt_nn {l : List UInt8} (h : digsL l) : ∀ i, 0 ≤ dgt l i ∧ dgt l i ≤ 9 := dgt_range h
theorem dval_range {l : List UInt8} (h : digsL l) : 0 ≤ dval l ∧ dval l < 10 ^ l.length := dsum_range (dgt_range h) _

theorem plusL_val (a b : List UInt8) (less : Bool) (ha : digsL a) (hb : digsL b) (hle : less = true → dval b ≤ dval a) :
    dval (plusL a b less) = dval a + (if less then - dval b else dval b) := by
  have hs := sum_steps a b less (max a.length b.length + 1)
  rw [dval_eq a _ (by omega), dval_eq b _ (by omega)] at hs
  have hr := dsum_range (sdg_range ha hb less) (max a.length b.length + 1)
  have hp := pow_pos10 (max a.length b.length + 1)
  have hc : car a b less (max a.length b.length + 1) = 0 := by
    have hcr := car_range ha hb less (max a.length b.length)
    have hcr2 := car_range ha hb less (max a.length b.length + 1)
    cases less with
    | false =>
      rw [car_succ]
      have h1 : raw a b false (max a.length b.length) = car a b false (max a.length b.length) := by
        unfold raw; rw [dgt_beyond a (by omega), dgt_beyond b (by omega)]; simp
      have h2 := hcr.1 rfl
      rw [h1, if_neg (by omega), if_neg (by omega)]
    | true =>
      have h2 := hcr2.2 rfl
      have h3 := hle rfl
      simp only [if_true] at hs
      rcases (by omega : car a b true (max a.length b.length + 1) = 0 ∨ car a b true (max a.length b.length + 1) = -1) with h | h
      · exact h
      · rw [h] at hs; omega
  rw [hc, Int.zero_mul, Int.add_zero] at hs
  rw [← hs, ← dval_eq (plusL a b less) (max a.length b.length + 1) (plusL_length a b less)]
  exact dsum_congr _ fun i hi => by rw [dgt_plusL a b less ha hb, if_pos hi]

/-- digits, no nought ahead (or nought alone) -/
def canon (l : List UInt8) : Prop := digsL l ∧ l ≠ [] ∧ (l = [48] ∨ l.head? ≠ some 48)
theorem dgt_head (b : UInt8) (l : List UInt8) : dgt (b :: l) l.length = (b.toNat : Int) - 48 := by
  unfold dgt
  rw [List.reverse_cons, List.getD_eq_getElem?_getD, List.getElem?_append_right (by rw [List.length_reverse]; omega), List.length_reverse, Nat.sub_self]; rfl
theorem dgt_tail (b : UInt8) (l : List UInt8) {i : Nat} (h : i < l.length) : dgt (b :: l) i = dgt l i := by
  unfold dgt
  rw [List.reverse_cons, List.getD_eq_getElem?_getD, List.getD_eq_getElem?_getD, List.getElem?_append_left (by rw [List.length_reverse]; exact h)]
theorem dval_cons (b : UInt8) (l : List UInt8) : dval (b :: l) = ((b.toNat : Int) - 48) * 10 ^ l.length + dval l := by
  show dsum (dgt (b :: l)) l.length + dgt (b :: l) l.length * 10 ^ l.length = _
  rw [dgt_head, dsum_congr l.length (fun i hi => dgt_tail b l hi)]
  show dval l + _ = _
  omega
/-- the leading digit of a row without noughts ahead -/
theorem canon_low {l : List UInt8} (h : canon l) (h1 : l ≠ [48]) : (10 : Int) ^ (l.length - 1) ≤ dval l := by
  obtain ⟨hd, hne, hh⟩ := h
  cases l with
  | nil => exact absurd rfl hne
  | cons b t =>
    have hb : b ≠ 48 := fun e => by rcases hh with h | h; · exact h1 h
                                    · exact h (by rw [e]; rfl)
    have hr := hd b (by simp)
    have hn : b.toNat ≠ 48 := fun e => hb (UInt8.toNat_inj.1 e)
    have ht := (dval_range (l := t) fun c hc => hd c (List.mem_cons_of_mem _ hc)).1
    have hp := pow_pos10 t.length
    rw [dval_cons]
    show (10 : Int) ^ t.length ≤ _
    have h2 : 1 * (10 : Int) ^ t.length ≤ ((b.toNat : Int) - 48) * 10 ^ t.length := Int.mul_le_mul_of_nonneg_right (by omega) (by omega)
    omega
theorem pow_mono10 {m n : Nat} (h : m ≤ n) : (10 : Int) ^ m ≤ 10 ^ n := by
  induction n with
  | zero => obtain rfl : m = 0 := by omega
            exact Int.le_refl _
  | succ n ih =>
    by_cases e : m = n + 1
    · rw [e]; exact Int.le_refl _
    · have := ih (by omega)
      have hp := pow_pos10 n
      rw [pow_succ10]; omega
theorem dgt_inj : ∀ (x y : List UInt8), digsL x → digsL y → x.length = y.length → (∀ i, i < x.length → dgt x i = dgt y i) → x = y
  | [], [], _, _, _, _ => rfl
  | [], _ :: _, _, _, h, _ => by simp at h
  | _ :: _, [], _, _, h, _ => by simp at h
  | a :: x, b :: y, hx, hy, hl, h => by
    have hl2 : x.length = y.length := by simpa using hl
    have h1 := h x.length (by simp)
    rw [dgt_head, hl2, dgt_head] at h1
    have e : a = b := UInt8.toNat_inj.1 (by omega)
    rw [e, dgt_inj x y (fun c hc => hx c (List.mem_cons_of_mem _ hc)) (fun c hc => hy c (List.mem_cons_of_mem _ hc)) hl2 fun i hi => by
      have := h i (by simp; omega)
      rwa [dgt_tail a x hi, dgt_tail b y (by omega)] at this]
theorem canon_len {x y : List UInt8} (hx : canon x) (hy : canon y) (h : x.length < y.length) : dval x < dval y := by
  have h1 : y ≠ [48] := fun e => by rw [e] at h; have := hx.2.1; cases x with | nil => exact this rfl | cons a b => simp at h
  have h2 := canon_low hy h1
  have h3 := (dval_range hx.1).2
  have h4 := pow_mono10 (show x.length ≤ y.length - 1 by omega)
  omega
theorem canon_inj {x y : List UInt8} (hx : canon x) (hy : canon y) (h : dval x = dval y) : x = y := by
  rcases Nat.lt_trichotomy x.length y.length with hl | hl | hl
  · have := canon_len hx hy hl; omega
  · have h2 := h
    unfold dval at h2
    rw [hl] at h2
    exact dgt_inj x y hx.1 hy.1 hl fun i hi => dsum_inj y.length _ _ (dgt_range hx.1) (dgt_range hy.1) h2 i (by omega)
  · have := canon_len hy hx hl; omega

theorem bytesLess_val : ∀ (x y : List UInt8), digsL x → digsL y → x.length = y.length → (Op.bytesLess x y = true ↔ dval x < dval y)
  | [], [], _, _, _ => by simp [Op.bytesLess, dval, dsum]
  | [], _ :: _, _, _, h => by simp at h
  | _ :: _, [], _, _, h => by simp at h
  | a :: x, b :: y, hx, hy, hl => by
    have hl2 : x.length = y.length := by simpa using hl
    have hxd : digsL x := fun c hc => hx c (List.mem_cons_of_mem _ hc)
    have hyd : digsL y := fun c hc => hy c (List.mem_cons_of_mem _ hc)
    have ih := bytesLess_val x y hxd hyd hl2
    have rx := dval_range hxd
    have ry := dval_range hyd
    rw [dval_cons, dval_cons, hl2]
    rw [hl2] at rx
    unfold Op.bytesLess
    rw [Bool.or_eq_true, Bool.and_eq_true, decide_eq_true_eq, beq_iff_eq, UInt8.lt_iff_toNat_lt, ih]
    have ha := hx a (by simp)
    have hb := hy b (by simp)
    constructor
    · rintro (h | ⟨rfl, h⟩)
      · have h1 : ((a.toNat : Int) - 48 + 1) * 10 ^ y.length ≤ ((b.toNat : Int) - 48) * 10 ^ y.length := Int.mul_le_mul_of_nonneg_right (by omega) (by have := pow_pos10 y.length; omega)
        rw [Int.add_mul] at h1
        omega
      · omega
    · intro h
      rcases Nat.lt_trichotomy a.toNat b.toNat with h1 | h1 | h1
      · exact .inl h1
      · refine .inr ⟨UInt8.toNat_inj.1 h1, ?_⟩
        rw [h1] at h; omega
      · exfalso
        have h2 : ((b.toNat : Int) - 48 + 1) * 10 ^ y.length ≤ ((a.toNat : Int) - 48) * 10 ^ y.length := Int.mul_le_mul_of_nonneg_right (by omega) (by have := pow_pos10 y.length; omega)
        rw [Int.add_mul] at h2
        omega
theorem lessL_val {x y : List UInt8} (hx : canon x) (hy : canon y) : lessL x y = true ↔ dval x < dval y := by
  unfold lessL
  rw [Bool.or_eq_true, Bool.and_eq_true, decide_eq_true_eq, beq_iff_eq]
  constructor
  · rintro (h | ⟨h1, h2⟩)
    · exact canon_len hx hy h
    · exact (bytesLess_val x y hx.1 hy.1 h1).1 h2
  · intro h
    rcases Nat.lt_trichotomy x.length y.length with hl | hl | hl
    · exact .inl hl
    · exact .inr ⟨hl, (bytesLess_val x y hx.1 hy.1 hl).2 h⟩
    · have := canon_len hy hx hl; omega

theorem plusL_canon (a b : List UInt8) (less : Bool) (ha : digsL a) (hb : digsL b) : canon (plusL a b less) := by
  have hs : digsL (sumL a b less (max a.length b.length + 1)) := by
    intro c hc
    unfold sumL at hc
    obtain ⟨i, _, rfl⟩ := List.mem_map.1 hc
    have h1 := sby_nat ha hb less i
    have h2 := sdg_range ha hb less i
    omega
  unfold plusL
  split
  · refine ⟨fun c hc => ?_, by simp, .inl rfl⟩
    simp at hc; subst hc; decide
  · rename_i h
    refine ⟨fun c hc => hs c ((List.dropWhile_sublist _).subset hc), h, .inr ?_⟩
    intro e
    unfold Lib.trimLeftB at e h
    have := List.head?_dropWhile_not (p := (· == (48 : UInt8))) (l := sumL a b less (max a.length b.length + 1))
    rw [e] at this
    simp at this
end Go.Proofs.YtpnnbffhdhbonaaGreatDoor
