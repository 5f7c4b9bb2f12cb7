/- Rows of nines, as numbers (plain: no program in it). -/
import Derived.Test.YtpnnbffhdhbonaaDoorSumsV
import Derived.Test.YtpnnbffhdhbonaaDoorKey
namespace Go.Proofs.YtpnnbffhdhbonaaDoor
open Go Go.RowKit

def nines (n : Nat) : List UInt8 := List.replicate n 57
def eight (n : Nat) : List UInt8 := nines n ++ [56]
theorem nines_length (n : Nat) : (nines n).length = n := List.length_replicate ..
theorem eight_length (n : Nat) : (eight n).length = n + 1 := by unfold eight; rw [List.length_append, nines_length]; rfl
theorem nines_digs (n : Nat) : digsL (nines n) := fun b hb => by
  obtain rfl := List.eq_of_mem_replicate hb; decide
theorem eight_digs (n : Nat) : digsL (eight n) := fun b hb => by
  rcases List.mem_append.1 hb with h | h
  · exact nines_digs n b h
  · obtain rfl := List.mem_singleton.1 h; decide
theorem nines_val : ∀ n, dval (nines n) = 10 ^ n - 1
  | 0 => rfl
  | n + 1 => by
    show dval (57 :: nines n) = _
    rw [dval_cons, nines_val n, nines_length, pow_succ10, show (((57 : UInt8).toNat : Int) - 48) = 9 from rfl]
    omega
theorem eight_val : ∀ n, dval (eight n) = 10 ^ (n + 1) - 2
  | 0 => rfl
  | n + 1 => by
    show dval (57 :: eight n) = _
    rw [dval_cons, eight_val n, eight_length, pow_succ10 (n + 1), show (((57 : UInt8).toNat : Int) - 48) = 9 from rfl]
    omega
theorem nines_num (n : Nat) : numeralL (nines (n + 1)) = true := by
  have h : digits1 (nines (n + 1)) = true := by
    show ((57 : UInt8) != 48 && (57 :: nines n).all dig) = true
    rw [List.all_eq_true.2 fun b hb => by
      rcases List.mem_cons.1 hb with rfl | hb
      · rfl
      · obtain rfl := List.eq_of_mem_replicate hb; rfl]
    rfl
  unfold numeralL
  rw [show bare (nines (n + 1)) = nines (n + 1) from bare_of rfl, h, Bool.or_true]
theorem nines_ival (n : Nat) : ival (nines (n + 1)) = 10 ^ (n + 1) - 1 := by
  unfold ival
  rw [if_neg (by rw [show neg (nines (n + 1)) = false from rfl]; simp), show bare (nines (n + 1)) = nines (n + 1) from bare_of rfl, nines_val]
theorem eight_canon (n : Nat) : canon (eight n) := by
  refine ⟨eight_digs n, by unfold eight; simp, .inr ?_⟩
  cases n with
  | zero => decide
  | succ n => show some (57 : UInt8) ≠ some 48; decide
theorem eight_num (n : Nat) : Num (eight n) ∧ ival (eight n) = 10 ^ (n + 1) - 2 := by
  have e := canon_neg (eight_canon n)
  refine ⟨⟨by rw [bare_of e]; exact eight_canon n, fun h => by rw [e] at h; cases h⟩, ?_⟩
  unfold ival
  rw [if_neg (by rw [e]; simp), bare_of e, eight_val]

theorem ival_lt {x : List UInt8} (h : Num x) : ival x < 10 ^ x.length := by
  have h1 := dval_range h.1.1
  have h2 := pow_mono10 (bare_length x)
  unfold ival
  split <;> omega
/-- as many nines as a text may have, and one more -/
theorem nines_much {n : Nat} (h : n + 1 = 65536) : addL (nines (n + 1)) [49] = ([], false) := by
  cases e : addL (nines (n + 1)) [49] with
  | mk x ok =>
    cases ok with
    | false => rw [addL_false e]
    | true =>
      have k := addL_true e
      have h1 := ival_lt k.2.2.1
      have h2 := pow_mono10 (show x.length ≤ n + 1 by have := k.2.2.2.2.2.2; omega)
      have h3 := k.2.2.2.1
      rw [nines_ival, show ival [49] = 1 from rfl] at h3
      omega
theorem nines_less {n : Nat} (h : n + 1 = 65536) : addL (nines (n + 1)) [45, 49] = (eight n, true) := by
  have hn := num_of (nines_num n)
  have h1 : numeralL [45, 49] = true := rfl
  have hs := sumS_val hn (num_of h1)
  have e : sumS (nines (n + 1)) [45, 49] = eight n := ival_inj hs.1 (eight_num n).1 (by
    rw [hs.2, (eight_num n).2, nines_ival, show ival [45, 49] = -1 from rfl]; omega)
  unfold addL
  rw [if_neg (by rw [nines_num, h1, nines_length]; simp; omega), e, if_neg (by rw [eight_length]; omega)]
theorem nines_key {n : Nat} (h : n + 1 = 65536) : keyL 4 (nines (n + 1)) = (112 :: n3 (n + 1) ++ nines (n + 1), true) := by
  have e : ruleL 4 (nines (n + 1)) = (112 :: n3 (n + 1) ++ nines (n + 1), true) := by
    show numberL (nines (n + 1)) = _
    unfold numberL
    rw [if_neg (by rw [nines_num]; simp)]
    have hl := nines_length (n + 1)
    show (112 :: n3 (nines (n + 1)).length ++ nines (n + 1), true) = _
    rw [hl]
  unfold keyL
  rw [if_neg (by rw [nines_length]; omega), e]; rfl
theorem nines_made {n i : Nat} (h : ¬ i < n) : mapAt (fun _ => (57 : UInt8)) (List.replicate n 0) i = nines n := by
  rw [mapAt_all _ _ (by rw [List.length_replicate]; omega)]
  unfold nines
  rw [List.map_replicate]
end Go.Proofs.YtpnnbffhdhbonaaDoor
