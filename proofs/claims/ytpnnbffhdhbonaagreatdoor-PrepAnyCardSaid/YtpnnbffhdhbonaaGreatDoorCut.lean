/- Plain: a text cut at each of one byte. -/
import Derived.Test.YtpnnbffhdhbonaaGreatDoorTxt
import Derived.Lib.Split
import Derived.Lib.SplitLaws
import Derived.Lib.IndexBytes
import Derived.Lib.Replace
namespace Go.Proofs.YtpnnbffhdhbonaaGreatDoor
open Go Go.RowKit

def cutAt (c : UInt8) : List UInt8 → List (List UInt8)
  | [] => [[]]
  | b :: l => if b = c then [] :: cutAt c l else match cutAt c l with
    | [] => [[b]]
    | r :: rs => (b :: r) :: rs

theorem cutAt_ne (c : UInt8) (l : List UInt8) : ∃ r rs, cutAt c l = r :: rs := by
  cases l with
  | nil => exact ⟨_, _, rfl⟩
  | cons b l =>
    unfold cutAt
    split
    · exact ⟨_, _, rfl⟩
    · split <;> exact ⟨_, _, rfl⟩

theorem splitK_cut (c : UInt8) : ∀ s : List UInt8, Lib.splitK [c] 0 (Lib.count s [c]) s = cutAt c s
  | [] => by rw [Lib.count_one]; rfl
  | b :: l => by
    have ih := splitK_cut c l
    by_cases h : b = c
    · subst h
      rw [Lib.count_cons_eq, Nat.add_comm]
      have h0 : Lib.index (b :: l) [b] = 0 := by rw [Lib.index_one]; simp [Lib.indexByte]
      unfold Lib.splitK cutAt
      rw [h0, if_neg (by decide), if_pos rfl]
      simpa using ih
    · rw [Lib.count_cons_ne b c l h]
      unfold cutAt
      rw [if_neg h]
      cases hk : Lib.count l [c] with
      | zero => rw [hk] at ih; simp only [Lib.splitK] at ih ⊢; rw [← ih]
      | succ k =>
        rw [hk] at ih
        obtain ⟨i, hi⟩ := Lib.index_of_count (s := l) (old := [c]) (by omega)
        have h1 : Lib.index (b :: l) [c] = (i : Int) + 1 := by
          rw [Lib.index_one] at hi ⊢
          have hb : (b == c) = false := by simpa using h
          unfold Lib.indexByte
          rw [hb, hi]
          simp only [Bool.false_eq_true, if_false]
          rw [if_neg (by simp)]
        unfold Lib.splitK at ih ⊢
        rw [hi, if_neg (by simp)] at ih
        rw [h1, if_neg (by simp; omega), ← ih]
        simp only [List.length_cons, List.length_nil]
        rw [show ((i : Int) + 1).toNat = i + 1 by omega]
        simp

theorem cutAt_le (c : UInt8) : ∀ (l : List UInt8) (r : List UInt8), r ∈ cutAt c l → r.length ≤ l.length
  | [], r, h => by simp [cutAt] at h; subst h; simp
  | b :: l, r, h => by
    have ih := cutAt_le c l
    obtain ⟨r0, rs, hc⟩ := cutAt_ne c l
    unfold cutAt at h
    rw [hc] at h ih
    split at h
    · rcases List.mem_cons.1 h with rfl | h
      · simp
      · have := ih r h; simp; omega
    · rcases List.mem_cons.1 h with rfl | h
      · have := ih r0 (List.mem_cons_self ..); simp; omega
      · have := ih r (List.mem_cons_of_mem _ h); simp; omega

/-- what strings.Split leaves -/
theorem splitB_cut (v : ByteArray) (c : UInt8) (k : Nat) (hk : k = Lib.count v.data.toList [c]) : (Lib.splitB ⟨#[c]⟩ 0 k v).map (·.data.toList) = cutAt c v.data.toList := by
  rw [Lib.splitB_data, hk]; exact splitK_cut c _
end Go.Proofs.YtpnnbffhdhbonaaGreatDoor
