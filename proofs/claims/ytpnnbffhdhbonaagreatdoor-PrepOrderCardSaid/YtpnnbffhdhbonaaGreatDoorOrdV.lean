/- Keys stand in the order of the numbers and moments that are meant (plain: no program in it). -/
import Derived.Test.YtpnnbffhdhbonaaGreatDoorSumsV
import Derived.Test.YtpnnbffhdhbonaaGreatDoorCalV
import Derived.Test.YtpnnbffhdhbonaaGreatDoorKey
namespace Go.Proofs.YtpnnbffhdhbonaaGreatDoor
open Go Go.RowKit

/-! ### texts by their bytes -/
theorem less_cons (a b : UInt8) (x y : List UInt8) : Op.bytesLess (a :: x) (b :: y) = (decide (a < b) || (a == b && Op.bytesLess x y)) := by
  conv => lhs; unfold Op.bytesLess
theorem less_self : ∀ x : List UInt8, Op.bytesLess x x = false
  | [] => by unfold Op.bytesLess; rfl
  | a :: x => by rw [less_cons, less_self x]; simp
theorem less_ahead : ∀ (p x y : List UInt8), Op.bytesLess (p ++ x) (p ++ y) = Op.bytesLess x y
  | [], _, _ => rfl
  | a :: p, x, y => by rw [List.cons_append, List.cons_append, less_cons, less_ahead p x y]; simp
theorem less_parts : ∀ (p q x y : List UInt8), p.length = q.length → p ≠ q → Op.bytesLess (p ++ x) (q ++ y) = Op.bytesLess p q
  | [], [], _, _, _, h => absurd rfl h
  | [], _ :: _, _, _, h, _ => by simp at h
  | _ :: _, [], _, _, h, _ => by simp at h
  | a :: p, b :: q, x, y, h, hn => by
    rw [List.cons_append, List.cons_append, less_cons, less_cons]
    by_cases hab : a = b
    · subst hab
      rw [less_parts p q x y (by simpa using h) (fun e => hn (by rw [e]))]
    · rw [show (a == b) = false by simpa using hab, Bool.false_and, Bool.false_and]
theorem less_tri : ∀ (x y : List UInt8), Op.bytesLess x y = false → Op.bytesLess y x = false → x = y
  | [], [], _, _ => rfl
  | [], _ :: _, h, _ => by unfold Op.bytesLess at h; cases h
  | _ :: _, [], _, h => by unfold Op.bytesLess at h; cases h
  | a :: x, b :: y, h1, h2 => by
    rw [less_cons, Bool.or_eq_false_iff] at h1 h2
    have hab : a = b := by
      have e1 := of_decide_eq_false h1.1
      have e2 := of_decide_eq_false h2.1
      rw [UInt8.lt_iff_toNat_lt] at e1 e2
      exact UInt8.toNat_inj.1 (by omega)
    subst hab
    simp only [BEq.rfl, Bool.true_and] at h1 h2
    rw [less_tri x y h1.2 h2.2]
/-- -1, 0, 1 -/
def sgnB (x y : List UInt8) : Int := if Op.bytesLess x y = true then -1 else if Op.bytesLess y x = true then 1 else 0
def sgnI (p q : Int) : Int := if p < q then -1 else if q < p then 1 else 0
theorem sgn_of {x y : List UInt8} {p q : Int} (h1 : Op.bytesLess x y = true ↔ p < q) (h2 : Op.bytesLess y x = true ↔ q < p) : sgnB x y = sgnI p q := by
  unfold sgnB sgnI
  by_cases a : p < q
  · rw [if_pos (h1.2 a), if_pos a]
  · rw [if_neg (fun e => a (h1.1 e)), if_neg a]
    by_cases b : q < p
    · rw [if_pos (h2.2 b), if_pos b]
    · rw [if_neg (fun e => b (h2.1 e)), if_neg b]

/-! ### numbers -/
theorem n3_less {p q : Nat} (hp : p < 16777216) (hq : q < 16777216) : (n3 p = n3 q → p = q) ∧ (p ≠ q → (Op.bytesLess (n3 p) (n3 q) = true ↔ p < q)) := by
  have t : ∀ n : Nat, (n % 256).toUInt8.toNat = n % 256 := fun n => by have := u8_mod n; omega
  have ta := t (p / 65536); have tb := t (p / 256); have tc := t p
  have sa := t (q / 65536); have sb := t (q / 256); have sc := t q
  have ep : p = 65536 * (p / 65536 % 256) + 256 * (p / 256 % 256) + p % 256 := by omega
  have eq : q = 65536 * (q / 65536 % 256) + 256 * (q / 256 % 256) + q % 256 := by omega
  constructor
  · intro h
    unfold n3 at h
    injection h with h1 h; injection h with h2 h; injection h with h3 _
    have h1 := congrArg UInt8.toNat h1
    have h2 := congrArg UInt8.toNat h2
    have h3 := congrArg UInt8.toNat h3
    rw [ep, eq]; omega
  · intro hne
    unfold n3
    rw [← ta, ← tb, ← tc] at ep
    rw [← sa, ← sb, ← sc] at eq
    clear ta tb tc sa sb sc t
    generalize (p / 65536 % 256).toUInt8 = a at *
    generalize (p / 256 % 256).toUInt8 = b at *
    generalize (p % 256).toUInt8 = c at *
    generalize (q / 65536 % 256).toUInt8 = d at *
    generalize (q / 256 % 256).toUInt8 = e at *
    generalize (q % 256).toUInt8 = f at *
    rw [less_cons, less_cons, less_cons, less_self]
    simp only [Bool.or_eq_true, Bool.and_eq_true, decide_eq_true_eq, beq_iff_eq, UInt8.lt_iff_toNat_lt, ← UInt8.toNat_inj, Bool.and_false, Bool.false_eq_true, or_false]
    have ba := a.toNat_lt; have bb := b.toNat_lt; have bc := c.toNat_lt; have bd := d.toNat_lt; have be := e.toNat_lt; have bf := f.toNat_lt
    omega
theorem n3_length (p : Nat) : (n3 p).length = 3 := rfl
theorem nine_less : ∀ (x y : List UInt8), digsL x → digsL y → x.length = y.length → Op.bytesLess (x.map nine) (y.map nine) = Op.bytesLess y x
  | [], [], _, _, _ => rfl
  | [], _ :: _, _, _, h => by simp at h
  | _ :: _, [], _, _, h => by simp at h
  | a :: x, b :: y, hx, hy, hl => by
    have ih := nine_less x y (fun c hc => hx c (List.mem_cons_of_mem _ hc)) (fun c hc => hy c (List.mem_cons_of_mem _ hc)) (by simpa using hl)
    have ha := hx a (by simp)
    have hb := hy b (by simp)
    have na := nine_nat (b := a) (by omega)
    have nb := nine_nat (b := b) (by omega)
    rw [List.map_cons, List.map_cons, less_cons, less_cons, ih]
    have e1 : (decide (nine a < nine b)) = decide (b < a) := by rw [decide_eq_decide, UInt8.lt_iff_toNat_lt, UInt8.lt_iff_toNat_lt]; omega
    have e2 : (nine a == nine b) = (b == a) := by
      rw [Bool.eq_iff_iff, beq_iff_eq, beq_iff_eq, ← UInt8.toNat_inj, ← UInt8.toNat_inj]; omega
    rw [e1, e2]
/-- a number's key -/
theorem key_num {v : List UInt8} (h : numeralL v = true) : (numberL v).1 = if neg v = true then 110 :: n3 (16777215 - (bare v).length) ++ (bare v).map nine else 112 :: n3 (bare v).length ++ bare v := by
  unfold numberL
  rw [if_neg (by rw [h]; simp)]
  split
  · rfl
  · rename_i hn
    have hneg : neg v = false := by
      unfold neg; split
      · exact (hn _ rfl).elim
      · rfl
    rw [if_neg (by rw [hneg]; simp), bare_of hneg]
theorem num_less {a b : List UInt8} (ha : numeralL a = true) (hb : numeralL b = true) (la : a.length ≤ 65536) (lb : b.length ≤ 65536) :
    Op.bytesLess (numberL a).1 (numberL b).1 = true ↔ ival a < ival b := by
  have na := num_of ha
  have nb := num_of hb
  rw [key_num ha, key_num hb]
  have bla := bare_length a
  have blb := bare_length b
  have ra := dval_range na.1.1
  have rb := dval_range nb.1.1
  have kk : ∀ (t : UInt8) (p q : Nat) (x y : List UInt8), p < 16777216 → q < 16777216 → (p = q → (Op.bytesLess x y = true ↔ ival a < ival b)) → (p < q → ival a < ival b) → (q < p → ival b < ival a) →
      (Op.bytesLess (t :: n3 p ++ x) (t :: n3 q ++ y) = true ↔ ival a < ival b) := by
    intro t p q x y hp hq h1 h2 h3
    obtain ⟨n1, n2⟩ := n3_less hp hq
    show Op.bytesLess ([t] ++ (n3 p ++ x)) ([t] ++ (n3 q ++ y)) = true ↔ _
    rw [less_ahead]
    by_cases e : p = q
    · subst e; rw [less_ahead]; exact h1 rfl
    · rw [less_parts _ _ _ _ (by rw [n3_length, n3_length]) (fun e2 => e (n1 e2)), n2 e]
      refine ⟨h2, fun h => ?_⟩
      rcases Nat.lt_trichotomy p q with h4 | h4 | h4
      · exact h4
      · exact absurd h4 e
      · have := h3 h4; omega
  by_cases sa : neg a = true
  · rw [if_pos sa]
    have ia : ival a = - dval (bare a) := if_pos sa
    have pa := canon_pos na.1 (na.2 sa)
    by_cases sb : neg b = true
    · rw [if_pos sb]
      have ib : ival b = - dval (bare b) := if_pos sb
      refine kk 110 _ _ _ _ (by omega) (by omega) (fun e => ?_) (fun e => ?_) (fun e => ?_)
      · have el : (bare a).length = (bare b).length := by omega
        rw [nine_less _ _ na.1.1 nb.1.1 el, bytesLess_val _ _ nb.1.1 na.1.1 el.symm, ia, ib]; omega
      · have := canon_len nb.1 na.1 (by omega); omega
      · have := canon_len na.1 nb.1 (by omega); omega
    · rw [if_neg sb]
      have ib : ival b = dval (bare b) := if_neg sb
      rw [List.cons_append, List.cons_append, less_cons, ia, ib]
      have e : decide ((110 : UInt8) < 112) = true := by decide
      rw [e, Bool.true_or]
      exact ⟨fun _ => by omega, fun _ => rfl⟩
  · rw [if_neg sa]
    have ia : ival a = dval (bare a) := if_neg sa
    by_cases sb : neg b = true
    · rw [if_pos sb]
      have ib : ival b = - dval (bare b) := if_pos sb
      have pb := canon_pos nb.1 (nb.2 sb)
      rw [List.cons_append, List.cons_append, less_cons, ia, ib]
      have e : (decide ((112 : UInt8) < 110) || ((112 : UInt8) == 110 && Op.bytesLess (n3 (bare a).length ++ bare a) (n3 (16777215 - (bare b).length) ++ (bare b).map nine))) = false := by
        rw [show decide ((112 : UInt8) < 110) = false by decide, show ((112 : UInt8) == 110) = false by decide]; rfl
      rw [e]
      exact ⟨fun h => (by cases h), fun h => by omega⟩
    · rw [if_neg sb]
      have ib : ival b = dval (bare b) := if_neg sb
      refine kk 112 _ _ _ _ (by omega) (by omega) (fun e => ?_) (fun e => ?_) (fun e => ?_)
      · rw [bytesLess_val _ _ na.1.1 nb.1.1 e, ia, ib]
      · have := canon_len na.1 nb.1 e; omega
      · have := canon_len nb.1 na.1 e; omega

/-- what the law wants of two numbers -/
theorem num_order {a b x y d : List UInt8} (hx : keyL 4 a = (x, true)) (hy : keyL 4 b = (y, true)) (hd : addL a (oppL b) = (d, true)) :
    sgnB x y = (if d = [48] then 0 else if neg d = true then -1 else 1) ∧ (d = [48] ↔ a = b) := by
  have key4 : ∀ {v k : List UInt8}, keyL 4 v = (k, true) → numeralL v = true ∧ v.length ≤ 65536 ∧ k = (numberL v).1 := by
    intro v k h
    unfold keyL at h
    split at h
    · injection h with _ h; cases h
    · rename_i hl
      split at h
      · rename_i h2
        injection h with h _
        have h3 : (numberL v).2 = true := h2
        refine ⟨?_, by omega, h.symm⟩
        cases e : numeralL v with
        | true => rfl
        | false => unfold numberL at h3; rw [if_pos e] at h3; cases h3
      · injection h with _ h; cases h
  obtain ⟨na, la, rfl⟩ := key4 hx
  obtain ⟨nb, lb, rfl⟩ := key4 hy
  have k := addL_true hd
  have hob := oppL_num (num_of nb)
  have hv : ival d = ival a - ival b := by rw [k.2.2.2.1, hob.2]; omega
  have hd0 : d = [48] ↔ ival d = 0 := by
    constructor
    · intro e; rw [e]; rfl
    · intro e; exact ival_inj k.2.2.1 num_nought (e.trans rfl)
  have hdn : neg d = true ↔ ival d < 0 := by
    constructor
    · intro e
      have := canon_pos k.2.2.1.1 (k.2.2.1.2 e)
      unfold ival; rw [if_pos e]; omega
    · intro e
      cases hn : neg d with
      | true => rfl
      | false =>
        have := (dval_range k.2.2.1.1.1).1
        unfold ival at e; rw [if_neg (by rw [hn]; simp)] at e; omega
  constructor
  · rw [sgn_of (num_less na nb la lb) (num_less nb na lb la)]
    unfold sgnI
    by_cases e0 : d = [48]
    · rw [if_pos e0]; rw [hd0] at e0
      rw [if_neg (by omega), if_neg (by omega)]
    · rw [if_neg e0]; rw [hd0] at e0
      by_cases e1 : neg d = true
      · rw [if_pos e1]; rw [hdn] at e1; rw [if_pos (by omega)]
      · rw [if_neg e1]; rw [hdn] at e1; rw [if_neg (by omega), if_pos (by omega)]
  · rw [hd0, hv]
    constructor
    · intro e; exact ival_inj (num_of na) (num_of nb) (by omega)
    · rintro rfl; omega

/-! ### moments -/
theorem dgt_snoc0 (a : List UInt8) (x : UInt8) : dgt (a ++ [x]) 0 = (x.toNat : Int) - 48 := by
  unfold dgt; rw [List.reverse_append]; rfl
theorem dgt_snoc (a : List UInt8) (x : UInt8) (i : Nat) : dgt (a ++ [x]) (i + 1) = dgt a i := by
  unfold dgt; rw [List.reverse_append]; rfl
theorem dval_snoc (a : List UInt8) (x : UInt8) : dval (a ++ [x]) = dval a * 10 + ((x.toNat : Int) - 48) := by
  unfold dval
  rw [List.length_append, List.length_singleton, dsum_low, dgt_snoc0, dsum_congr a.length (fun i _ => dgt_snoc a x i)]
  omega
theorem of_dig {k : Nat} (h : k < 10) : (UInt8.ofNat (48 + k)).toNat = 48 + k := by rw [UInt8.toNat_ofNat']; omega
theorem wide_two {x : Nat} (h : x < 100) : wideL x 2 = [UInt8.ofNat (48 + x / 10), UInt8.ofNat (48 + x % 10)] := by
  unfold wideL
  by_cases h1 : x < 10
  · rw [Lib.decDigits_one h1, show x / 10 = 0 by omega, show x % 10 = x by omega]; rfl
  · rw [Lib.decDigits_two h1 h]; rfl
theorem wide_snoc (n k : Nat) (hk : 1 ≤ k) : wideL n (k + 1) = wideL (n / 10) k ++ [UInt8.ofNat (48 + n % 10)] := by
  unfold wideL
  by_cases h : n < 10
  · rw [Lib.decDigits_one h, show n / 10 = 0 by omega, Lib.decDigits_one (show 0 < 10 by decide), show n % 10 = n by omega]
    obtain ⟨j, rfl⟩ : ∃ j, k = j + 1 := ⟨k - 1, by omega⟩
    show List.replicate (j + 1) 48 ++ [UInt8.ofNat (48 + n)] = List.replicate j 48 ++ [48] ++ _
    rw [List.replicate_succ', List.append_assoc]
  · have e : Lib.decDigits n = Lib.decDigits (n / 10) ++ [UInt8.ofNat (48 + n % 10)] := by
      conv => lhs; rw [Lib.decDigits, dif_neg h]
    rw [e, List.length_append, List.length_singleton, Nat.add_sub_add_right, List.append_assoc]
/-- a row of digits of which the value and the length are known -/
def Row10 (l : List UInt8) (n : Nat) (v : Int) : Prop := digsL l ∧ l.length = n ∧ dval l = v
theorem Row10.snoc {l : List UInt8} {n : Nat} {v : Int} (h : Row10 l n v) {k : Nat} (hk : k < 10) : Row10 (l ++ [UInt8.ofNat (48 + k)]) (n + 1) (v * 10 + k) := by
  refine ⟨fun b hb => ?_, by rw [List.length_append, h.2.1]; rfl, by rw [dval_snoc, h.2.2, of_dig hk]; omega⟩
  rcases List.mem_append.1 hb with hb | hb
  · exact h.1 b hb
  · obtain rfl := List.mem_singleton.1 hb
    rw [of_dig hk]; omega
theorem Row10.two {l : List UInt8} {n : Nat} {v : Int} (h : Row10 l n v) {x : Nat} (hx : x < 100) : Row10 (l ++ wideL x 2) (n + 2) (v * 100 + x) := by
  rw [wide_two hx]
  have h1 := (h.snoc (k := x / 10) (by omega)).snoc (k := x % 10) (by omega)
  rw [List.append_assoc] at h1
  refine ⟨h1.1, h1.2.1, ?_⟩
  rw [show l ++ [UInt8.ofNat (48 + x / 10), UInt8.ofNat (48 + x % 10)] = l ++ ([UInt8.ofNat (48 + x / 10)] ++ [UInt8.ofNat (48 + x % 10)]) from rfl, h1.2.2]; omega
theorem row_four {x : Nat} (hx : x < 10000) : Row10 (wideL x 4) 4 x := by
  rw [wide_snoc x 3 (by decide), wide_snoc (x / 10) 2 (by decide)]
  have h0 : Row10 [] 0 0 := ⟨fun _ h => by simp at h, rfl, rfl⟩
  have h1 := h0.two (x := x / 10 / 10) (by omega)
  have h2 := (h1.snoc (k := x / 10 % 10) (by omega)).snoc (k := x % 10) (by omega)
  refine ⟨h2.1, h2.2.1, ?_⟩
  rw [show wideL (x / 10 / 10) 2 ++ [UInt8.ofNat (48 + x / 10 % 10)] ++ [UInt8.ofNat (48 + x % 10)] = ([] ++ wideL (x / 10 / 10) 2) ++ [UInt8.ofNat (48 + x / 10 % 10)] ++ [UInt8.ofNat (48 + x % 10)] from rfl, h2.2.2]; omega

/-- a day's code -/
def codeI (y m d : Int) : Int := (y * 100 + m) * 100 + d
theorem yearLen (y : Int) : daysI (y + 1) 1 1 = daysI y 12 1 + 31 := daysI_year y
theorem days_month {y : Int} : ∀ (k : Nat) (m : Int), 1 ≤ m → m + k ≤ 12 → daysI y m 1 + 28 * k ≤ daysI y (m + k) 1
  | 0, m, _, _ => by simp
  | k + 1, m, h1, h2 => by
    have ih := days_month (y := y) k m h1 (by omega)
    have hn := daysI_next (y := y) (m := m + k) (by omega) (by omega)
    have hr := dimI_range y (m + k)
    rw [show m + ((k + 1 : Nat) : Int) = m + k + 1 by omega, hn]; omega
theorem days_year : ∀ (k : Nat) (y : Int), daysI y 1 1 + 300 * k ≤ daysI (y + k) 1 1
  | 0, y => by simp
  | k + 1, y => by
    have ih := days_year k y
    have h1 := daysI_year (y + k)
    have h2 := days_month (y := y + k) 11 1 (by decide) (by decide)
    rw [show y + ((k + 1 : Nat) : Int) = y + k + 1 by omega, h1]
    rw [show (1 : Int) + (11 : Nat) = 12 from rfl] at h2
    omega
/-- days that come later have greater codes -/
theorem days_less {y m d y' m' d' : Int} (m0 : 1 ≤ m) (m1 : m ≤ 12) (d0 : 1 ≤ d) (d1 : d ≤ dimI y m) (n0 : 1 ≤ m') (n1 : m' ≤ 12) (e0 : 1 ≤ d') (e1 : d' ≤ dimI y' m') (h : daysI y m d < daysI y' m' d') :
    codeI y m d < codeI y' m' d' := by
  have r1 := dimI_range y m
  have r2 := dimI_range y' m'
  rw [daysI_lin y m d, daysI_lin y' m' d'] at h
  -- within its year
  have inyear : ∀ {y m d : Int}, 1 ≤ m → m ≤ 12 → 1 ≤ d → d ≤ dimI y m → daysI y 1 1 ≤ daysI y m 1 + (d - 1) ∧ daysI y m 1 + (d - 1) < daysI (y + 1) 1 1 := by
    intro y m d m0 m1 d0 d1
    obtain ⟨k, hk⟩ : ∃ k : Nat, m = 1 + k := ⟨(m - 1).toNat, by omega⟩
    have a := days_month (y := y) k 1 (by decide) (by omega)
    rw [← hk] at a
    refine ⟨by omega, ?_⟩
    rw [daysI_year]
    by_cases h12 : m = 12
    · subst h12
      have e : dimI y 12 = 31 := rfl
      omega
    · obtain ⟨j, hj⟩ : ∃ j : Nat, m + 1 + j = 12 := ⟨(11 - m).toNat, by omega⟩
      have b := days_month (y := y) j (m + 1) (by omega) (by omega)
      rw [hj, daysI_next m0 (by omega)] at b
      omega
  have i1 := inyear m0 m1 d0 d1
  have i2 := inyear n0 n1 e0 e1
  have ylt : ∀ {p q : Int}, p < q → daysI (p + 1) 1 1 ≤ daysI q 1 1 := by
    intro p q hpq
    obtain ⟨k, hk⟩ : ∃ k : Nat, q = p + 1 + k := ⟨(q - p - 1).toNat, by omega⟩
    have := days_year k (p + 1)
    rw [← hk] at this; omega
  rcases (show y < y' ∨ y = y' ∨ y' < y by omega) with hy | hy | hy
  · unfold codeI; omega
  · subst hy
    rcases (show m < m' ∨ m = m' ∨ m' < m by omega) with hm | hm | hm
    · unfold codeI; omega
    · subst hm; unfold codeI; omega
    · exfalso
      obtain ⟨j, hj⟩ : ∃ j : Nat, m' + 1 + j = m := ⟨(m - m' - 1).toNat, by omega⟩
      have b := days_month (y := y) j (m' + 1) (by omega) (by omega)
      rw [hj, daysI_next n0 (by omega)] at b
      omega
  · exfalso
    have := ylt hy; omega
/-- every day has its date -/
theorem date_of {n : Int} (h : -719528 ≤ n) : ∃ y m d, 1 ≤ m ∧ m ≤ 12 ∧ 1 ≤ d ∧ d ≤ dimI y m ∧ daysI y m d = n ∧ dateI n = (y, m, d) := by
  have h0 : daysI 0 1 (n + 719529) = n := by rw [daysI_lin, show daysI 0 1 1 = -719528 by decide]; omega
  obtain ⟨y, m, d, k1, k2, k3, k4, k5⟩ := carry (n + 719529).toNat 0 1 (n + 719529) (by decide) (by decide) (by omega) (by omega)
  rw [h0] at k5
  exact ⟨y, m, d, k1, k2, k3, k4, k5.symm, by rw [k5]; exact dateI_daysI k1 k2 k3 k4⟩
/-- the digits ahead of the fraction -/
def headM (n : Int) : List UInt8 := wideL (dateI (n / 86400)).1.toNat 4 ++ wideL (dateI (n / 86400)).2.1.toNat 2 ++ wideL (dateI (n / 86400)).2.2.toNat 2 ++
    wideL (n % 86400 / 3600).toNat 2 ++ wideL (n % 86400 / 60 % 60).toNat 2 ++ wideL (n % 86400 % 60).toNat 2
theorem momentL_head (n : Int) (rest : List UInt8) : momentL n rest = headM n ++ rest := by
  unfold momentL headM; simp only [List.append_assoc]
def codeM (n : Int) : Int := ((codeI (dateI (n / 86400)).1 (dateI (n / 86400)).2.1 (dateI (n / 86400)).2.2 * 100 + n % 86400 / 3600) * 100 + n % 86400 / 60 % 60) * 100 + n % 86400 % 60
theorem headM_row {n : Int} (h0 : -62167219200 ≤ n) (h1 : n < 253402300800) : Row10 (headM n) 14 (codeM n) := by
  obtain ⟨⟨y0, y1⟩, ⟨m0, m1⟩, d0, d1⟩ := dateI_range (n / 86400) (by omega) (by omega)
  unfold headM codeM codeI
  generalize (dateI (n / 86400)).1 = Y at *
  generalize (dateI (n / 86400)).2.1 = M at *
  generalize (dateI (n / 86400)).2.2 = D at *
  have a : 0 ≤ n % 86400 ∧ n % 86400 < 86400 := by omega
  generalize n % 86400 = i at *
  have h := (((((row_four (x := Y.toNat) (by omega)).two (x := M.toNat) (by omega)).two (x := D.toNat) (by omega)).two (x := (i / 3600).toNat) (by omega)).two (x := (i / 60 % 60).toNat) (by omega)).two (x := (i % 60).toNat) (by omega)
  refine ⟨h.1, h.2.1, h.2.2.trans ?_⟩
  rw [Int.toNat_of_nonneg y0, Int.toNat_of_nonneg (show 0 ≤ M by omega), Int.toNat_of_nonneg (show 0 ≤ D by omega), Int.toNat_of_nonneg (show 0 ≤ i / 3600 by omega), Int.toNat_of_nonneg (show 0 ≤ i / 60 % 60 by omega), Int.toNat_of_nonneg (show 0 ≤ i % 60 by omega)]
theorem codeM_less {n m : Int} (h0 : -62167219200 ≤ n) (h : n < m) : codeM n < codeM m := by
  have hq : n / 86400 < m / 86400 ∨ (n / 86400 = m / 86400 ∧ n % 86400 < m % 86400) := by omega
  have ri : 0 ≤ n % 86400 ∧ n % 86400 < 86400 := by omega
  have rj : 0 ≤ m % 86400 ∧ m % 86400 < 86400 := by omega
  obtain ⟨y, p, d, k1, k2, k3, k4, k5, k6⟩ := date_of (n := n / 86400) (by omega)
  obtain ⟨y', p', d', l1, l2, l3, l4, l5, l6⟩ := date_of (n := m / 86400) (by omega)
  unfold codeM
  rw [k6, l6]
  simp only []
  generalize n % 86400 = i at *
  generalize m % 86400 = j at *
  rcases hq with hq | ⟨hq, hr⟩
  · have := days_less k1 k2 k3 k4 l1 l2 l3 l4 (by rw [k5, l5]; exact hq)
    generalize codeI y p d = A at *
    generalize codeI y' p' d' = B at *
    have b1 : 0 ≤ i / 3600 ∧ i / 3600 < 24 := by omega
    have b2 : 0 ≤ i / 60 % 60 ∧ i / 60 % 60 < 60 := by omega
    have b3 : 0 ≤ i % 60 ∧ i % 60 < 60 := by omega
    have c1 : 0 ≤ j / 3600 ∧ j / 3600 < 24 := by omega
    have c2 : 0 ≤ j / 60 % 60 ∧ j / 60 % 60 < 60 := by omega
    have c3 : 0 ≤ j % 60 ∧ j % 60 < 60 := by omega
    omega
  · rw [hq, l6] at k6
    injection k6 with e1 e2
    injection e2 with e2 e3
    subst e1; subst e2; subst e3
    generalize codeI _ _ _ = A
    have ei : i = 3600 * (i / 3600) + 60 * (i / 60 % 60) + i % 60 := by omega
    have ej : j = 3600 * (j / 3600) + 60 * (j / 60 % 60) + j % 60 := by omega
    have b2 : 0 ≤ i / 60 % 60 ∧ i / 60 % 60 < 60 := by omega
    have b3 : 0 ≤ i % 60 ∧ i % 60 < 60 := by omega
    have c2 : 0 ≤ j / 60 % 60 ∧ j / 60 % 60 < 60 := by omega
    have c3 : 0 ≤ j % 60 ∧ j % 60 < 60 := by omega
    generalize i / 3600 = i1 at *
    generalize i / 60 % 60 = i2 at *
    generalize i % 60 = i3 at *
    generalize j / 3600 = j1 at *
    generalize j / 60 % 60 = j2 at *
    generalize j % 60 = j3 at *
    omega
/-- what the law wants of two moments -/
theorem moment_order {n m : Int} {r s : List UInt8} (h0 : -62167219200 ≤ n) (h1 : n < 253402300800) (k0 : -62167219200 ≤ m) (k1 : m < 253402300800) :
    sgnB (momentL n r) (momentL m s) = if n ≠ m then (if n < m then -1 else 1) else sgnB r s := by
  rw [momentL_head, momentL_head]
  have hn := headM_row h0 h1
  have hm := headM_row k0 k1
  by_cases e : n = m
  · subst e
    rw [if_neg (by simp)]
    unfold sgnB
    rw [less_ahead, less_ahead]
  · rw [if_pos e]
    have hl : (headM n).length = (headM m).length := by rw [hn.2.1, hm.2.1]
    have lt : ∀ {a b : Int}, Row10 (headM a) 14 (codeM a) → Row10 (headM b) 14 (codeM b) → (Op.bytesLess (headM a) (headM b) = true ↔ codeM a < codeM b) := fun ha hb => by
      rw [bytesLess_val _ _ ha.1 hb.1 (by rw [ha.2.1, hb.2.1]), ha.2.2, hb.2.2]
    have hne : headM n ≠ headM m := fun e2 => by
      have e3 := congrArg dval e2
      rw [hn.2.2, hm.2.2] at e3
      rcases (show n < m ∨ m < n by omega) with h | h
      · have := codeM_less h0 h; omega
      · have := codeM_less k0 h; omega
    unfold sgnB
    rw [less_parts _ _ _ _ hl hne, less_parts _ _ _ _ hl.symm (fun e => hne e.symm)]
    rcases (show n < m ∨ m < n by omega) with h | h
    · rw [if_pos ((lt hn hm).2 (codeM_less h0 h)), if_pos h]
    · have := codeM_less k0 h
      rw [if_neg (fun e => by have := (lt hn hm).1 e; omega), if_pos ((lt hm hn).2 this), if_neg (by omega)]
theorem key_time {v : List UInt8} : keyL 6 v = if (timeL v).2.2 = true then (momentL (timeL v).1 (timeL v).2.1, true) else ([], false) := by
  have hr : ruleL 6 v = timeFormL v := rfl
  unfold keyL
  rw [hr]
  unfold timeFormL
  by_cases h : (timeL v).2.2 = true
  · have hl := timeL_len v h
    rw [if_neg (by omega), if_pos h]; rfl
  · rw [if_neg h]
    split <;> rfl
end Go.Proofs.YtpnnbffhdhbonaaGreatDoor
