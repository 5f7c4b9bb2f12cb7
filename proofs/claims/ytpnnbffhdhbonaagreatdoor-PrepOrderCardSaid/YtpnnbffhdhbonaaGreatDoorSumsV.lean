/- Numbers' texts as numbers: what Add says of them. -/
import Derived.Test.YtpnnbffhdhbonaaGreatDoorDval
namespace Go.Proofs.YtpnnbffhdhbonaaGreatDoor
open Go Go.RowKit

/-- a number's text as a number -/
def ival (v : List UInt8) : Int := if neg v = true then - dval (bare v) else dval (bare v)
def Num (v : List UInt8) : Prop := canon (bare v) ∧ (neg v = true → bare v ≠ [48])

theorem bare_of {v : List UInt8} (h : neg v = false) : bare v = v := by
  unfold bare; split
  · cases h
  · rfl
theorem cons_of {v : List UInt8} (h : neg v = true) : v = 45 :: bare v := by
  unfold neg at h; split at h
  · rfl
  · cases h
theorem num_of {v : List UInt8} (h : numeralL v = true) : Num v := by
  have h0 := bare_digs h
  unfold numeralL at h
  rw [Bool.or_eq_true] at h
  rcases h with h | h
  · have e : v = [48] := by simpa using h
    subst e
    exact ⟨⟨h0.1, h0.2, .inl rfl⟩, fun h => by cases h⟩
  · have h1 : (bare v).head? ≠ some 48 := by
      cases hv : bare v with
      | nil => simp
      | cons c l =>
        rw [hv] at h
        have h2 := (Bool.and_eq_true _ _ ▸ h : _ ∧ _).1
        intro e; simp only [List.head?_cons, Option.some.injEq] at e; subst e; simp at h2
    exact ⟨⟨h0.1, h0.2, .inr h1⟩, fun _ e => h1 (by rw [e]; rfl)⟩
theorem canon_neg {z : List UInt8} (h : canon z) : neg z = false := by
  cases z with
  | nil => rfl
  | cons b l =>
    have := h.1 b (by simp)
    unfold neg; split
    · rename_i e; injection e with e1 _; subst e1; simp at this
    · rfl
theorem num_signed (s : Bool) {z : List UInt8} (h : canon z) : Num (signed s z) ∧ ival (signed s z) = if s = true then - dval z else dval z := by
  have hn := canon_neg h
  unfold signed
  by_cases hs : s = true ∧ z ≠ [48]
  · rw [if_pos hs, if_pos hs.1]
    exact ⟨⟨h, fun _ => hs.2⟩, rfl⟩
  · rw [if_neg hs]
    refine ⟨⟨by rw [bare_of hn]; exact h, fun e => by rw [hn] at e; cases e⟩, ?_⟩
    unfold ival
    rw [if_neg (by rw [hn]; simp), bare_of hn]
    cases s with
    | false => rfl
    | true =>
      have : z = [48] := Classical.byContradiction fun e => hs ⟨rfl, e⟩
      subst this; rfl
theorem num_self {v : List UInt8} (h : Num v) : signed (neg v) (bare v) = v := by
  unfold signed
  by_cases hn : neg v = true
  · rw [if_pos ⟨hn, h.2 hn⟩]; exact (cons_of hn).symm
  · rw [if_neg (fun e => hn e.1)]; exact bare_of (by simpa using hn)
theorem canon_pos {z : List UInt8} (h : canon z) (h1 : z ≠ [48]) : 0 < dval z := by
  have h2 := canon_low h h1
  have h3 := pow_pos10 (z.length - 1)
  omega
theorem ival_inj {u v : List UInt8} (hu : Num u) (hv : Num v) (h : ival u = ival v) : u = v := by
  have ru := (dval_range hu.1.1).1
  have rv := (dval_range hv.1.1).1
  unfold ival at h
  cases eu : neg u <;> cases ev : neg v
  · rw [eu, ev] at h; simp only [Bool.false_eq_true, if_false] at h
    rw [← num_self hu, ← num_self hv, eu, ev, canon_inj hu.1 hv.1 h]
  · rw [eu, ev] at h; simp only [Bool.false_eq_true, if_false, if_true] at h
    have := canon_pos hv.1 (hv.2 ev); omega
  · rw [eu, ev] at h; simp only [Bool.false_eq_true, if_false, if_true] at h
    have := canon_pos hu.1 (hu.2 eu); omega
  · rw [eu, ev] at h; simp only [if_true] at h
    rw [← num_self hu, ← num_self hv, eu, ev, canon_inj hu.1 hv.1 (by omega)]

theorem sumS_val {a b : List UInt8} (ha : Num a) (hb : Num b) : Num (sumS a b) ∧ ival (sumS a b) = ival a + ival b := by
  unfold sumS
  by_cases hs : neg a = neg b
  · rw [if_pos hs]
    have h := num_signed (neg a) (plusL_canon (bare a) (bare b) false ha.1.1 hb.1.1)
    refine ⟨h.1, ?_⟩
    rw [h.2, plusL_val _ _ _ ha.1.1 hb.1.1 (fun h => by cases h)]
    unfold ival
    rw [← hs]
    cases neg a
    · simp
    · simp; omega
  · rw [if_neg hs]
    by_cases hl : lessL (bare a) (bare b) = true
    · rw [if_pos hl]
      have hv := (lessL_val ha.1 hb.1).1 hl
      have h := num_signed (neg b) (plusL_canon (bare b) (bare a) true hb.1.1 ha.1.1)
      refine ⟨h.1, ?_⟩
      rw [h.2, plusL_val _ _ _ hb.1.1 ha.1.1 (fun _ => by omega)]
      unfold ival
      cases ea : neg a <;> cases eb : neg b
      · rw [ea, eb] at hs; exact absurd rfl hs
      · simp; try omega
      · simp; try omega
      · rw [ea, eb] at hs; exact absurd rfl hs
    · rw [if_neg hl]
      have hv : ¬ dval (bare a) < dval (bare b) := fun h => hl ((lessL_val ha.1 hb.1).2 h)
      have h := num_signed (neg a) (plusL_canon (bare a) (bare b) true ha.1.1 hb.1.1)
      refine ⟨h.1, ?_⟩
      rw [h.2, plusL_val _ _ _ ha.1.1 hb.1.1 (fun _ => by omega)]
      unfold ival
      cases ea : neg a <;> cases eb : neg b
      · rw [ea, eb] at hs; exact absurd rfl hs
      · simp; try omega
      · simp; try omega
      · rw [ea, eb] at hs; exact absurd rfl hs

/-- what Add says of two texts, when it says something -/
theorem addL_true {a b x : List UInt8} (h : addL a b = (x, true)) : Num a ∧ Num b ∧ Num x ∧ ival x = ival a + ival b ∧ a.length ≤ 65536 ∧ b.length ≤ 65536 ∧ x.length ≤ 65536 := by
  unfold addL at h
  split at h
  · injection h with _ h; cases h
  · rename_i h1
    split at h
    · injection h with _ h; cases h
    · rename_i h2
      injection h with h _
      subst h
      have ha : numeralL a = true := by cases e : numeralL a with
        | true => rfl
        | false => exact absurd (.inr (.inr (.inl e))) h1
      have hb : numeralL b = true := by cases e : numeralL b with
        | true => rfl
        | false => exact absurd (.inr (.inr (.inr e))) h1
      have hs := sumS_val (num_of ha) (num_of hb)
      exact ⟨num_of ha, num_of hb, hs.1, hs.2, by omega, by omega, by omega⟩
theorem addL_false {a b x : List UInt8} (h : addL a b = (x, false)) : x = [] := by
  unfold addL at h
  split at h
  · injection h with h _; exact h.symm
  · split at h
    · injection h with h _; exact h.symm
    · injection h with _ h; cases h
theorem addL_comm (a b : List UInt8) : addL a b = addL b a := by
  unfold addL
  by_cases h : 65536 < a.length ∨ 65536 < b.length ∨ numeralL a = false ∨ numeralL b = false
  · rw [if_pos h, if_pos (by rcases h with h | h | h | h <;> simp only [h, true_or, or_true])]
  · have h2 : ¬ (65536 < b.length ∨ 65536 < a.length ∨ numeralL b = false ∨ numeralL a = false) := fun h' => h (by rcases h' with h' | h' | h' | h' <;> simp only [h', true_or, or_true])
    rw [if_neg h, if_neg h2]
    have ha : numeralL a = true := by cases e : numeralL a with
      | true => rfl
      | false => exact absurd (.inr (.inr (.inl e))) h
    have hb : numeralL b = true := by cases e : numeralL b with
      | true => rfl
      | false => exact absurd (.inr (.inr (.inr e))) h
    have e : sumS a b = sumS b a := ival_inj (sumS_val (num_of ha) (num_of hb)).1 (sumS_val (num_of hb) (num_of ha)).1 (by
      rw [(sumS_val (num_of ha) (num_of hb)).2, (sumS_val (num_of hb) (num_of ha)).2]; omega)
    rw [e]
theorem num_nought : Num [48] := num_of rfl
theorem addL_nought {a b x : List UInt8} (h : addL a b = (x, true)) : addL a [48] = (a, true) := by
  have h0 := addL_true h
  have ha : numeralL a = true := by
    cases e : numeralL a with
    | true => rfl
    | false => unfold addL at h; rw [if_pos (.inr (.inr (.inl e)))] at h; cases h
  have hs := sumS_val h0.1 num_nought
  have e : sumS a [48] = a := ival_inj hs.1 h0.1 (hs.2.trans (Int.add_zero _))
  unfold addL
  rw [if_neg (by simp [ha]; exact ⟨by omega, by decide⟩), e, if_neg (by omega)]
theorem addL_assoc {a b c x bc l r : List UInt8} (h1 : addL a b = (x, true)) (h2 : addL b c = (bc, true)) (h3 : addL x c = (l, true)) (h4 : addL a bc = (r, true)) : l = r := by
  have k1 := addL_true h1; have k2 := addL_true h2; have k3 := addL_true h3; have k4 := addL_true h4
  exact ival_inj k3.2.2.1 k4.2.2.1 (by rw [k3.2.2.2.1, k4.2.2.2.1, k1.2.2.2.1, k2.2.2.2.1]; omega)

/-- a number's text with the other sign -/
def oppL (v : List UInt8) : List UInt8 := if v = [48] ∨ v = [] then v else if neg v = true then bare v else 45 :: v
theorem oppL_num {v : List UInt8} (h : Num v) : Num (oppL v) ∧ ival (oppL v) = - ival v := by
  unfold oppL
  by_cases h0 : v = [48] ∨ v = []
  · rw [if_pos h0]
    refine ⟨h, ?_⟩
    rcases h0 with rfl | rfl <;> rfl
  · rw [if_neg h0]
    by_cases hn : neg v = true
    · rw [if_pos hn]
      have e := canon_neg h.1
      refine ⟨⟨by rw [bare_of e]; exact h.1, fun e2 => by rw [e] at e2; cases e2⟩, ?_⟩
      unfold ival
      rw [if_neg (by rw [e]; simp), if_pos hn, bare_of e]; omega
    · rw [if_neg hn]
      have e : neg v = false := by simpa using hn
      refine ⟨⟨by show canon v; rw [← bare_of e]; exact h.1, fun _ e2 => h0 (.inl e2)⟩, ?_⟩
      unfold ival
      rw [if_pos (show neg (45 :: v) = true from rfl), if_neg hn, bare_of e]
      rfl
theorem addL_opp {a n : List UInt8} (h : addL a (oppL a) = (n, true)) : n = [48] := by
  have k := addL_true h
  refine ival_inj k.2.2.1 num_nought ?_
  rw [k.2.2.2.1, (oppL_num k.1).2]
  show _ = 0
  omega
end Go.Proofs.YtpnnbffhdhbonaaGreatDoor
