/- Plain: all of one byte replaced by nothing. -/
import Derived.Test.YtpnnbffhdhbonaaGreatDoorTxt
import Derived.Lib.Replace
import Derived.Lib.ReplaceLaws
import Derived.Lib.IndexBytes
namespace Go.Proofs.YtpnnbffhdhbonaaGreatDoor
open Go Go.RowKit

def zapB (c : UInt8) (l : List UInt8) : List UInt8 := l.filter (· != c)

theorem replaceK_zap (c : UInt8) : ∀ s : List UInt8, Lib.replaceK [c] [] (Lib.count s [c]) s = zapB c s
  | [] => by rw [Lib.count_one]; rfl
  | b :: l => by
    have ih := replaceK_zap c l
    by_cases h : b = c
    · subst h
      rw [Lib.count_cons_eq, Nat.add_comm]
      have h0 : Lib.index (b :: l) [b] = ((0 : Nat) : Int) := by rw [Lib.index_one]; simp [Lib.indexByte]
      rw [Lib.replaceK_hit _ _ _ _ _ h0]
      simp [zapB, ih]
    · rw [Lib.count_cons_ne b c l h]
      have hz : zapB c (b :: l) = b :: zapB c l := by simp [zapB, h]
      rw [hz]
      cases hk : Lib.count l [c] with
      | zero => rw [hk] at ih; simp only [Lib.replaceK] at ih ⊢; rw [← ih]
      | succ k =>
        rw [hk] at ih
        obtain ⟨i, hi⟩ := Lib.index_of_count (s := l) (old := [c]) (by omega)
        have h1 : Lib.index (b :: l) [c] = ((i + 1 : Nat) : Int) := by
          rw [Lib.index_one] at hi ⊢
          have hb : (b == c) = false := by simpa using h
          unfold Lib.indexByte
          rw [hb, hi]
          simp only [Bool.false_eq_true, if_false]
          rw [if_neg (by simp)]; omega
        rw [Lib.replaceK_hit _ _ _ _ _ h1]
        rw [Lib.replaceK_hit _ _ _ _ _ hi] at ih
        rw [← ih, show i + 1 + [c].length = (i + [c].length) + 1 by simp]
        simp

theorem replaceAll_zap (c : UInt8) (s : List UInt8) : Lib.replaceAll s [c] [] = zapB c s := by
  unfold Lib.replaceAll Lib.replace
  rw [if_neg (by simp)]
  have : Lib.replaceNum s [c] (-1) = Lib.count s [c] := by unfold Lib.replaceNum; rw [if_pos (.inl (by decide))]
  rw [this, replaceK_zap]

theorem zapB_length (c : UInt8) (l : List UInt8) : (zapB c l).length ≤ l.length := List.length_filter_le _ _
end Go.Proofs.YtpnnbffhdhbonaaGreatDoor
