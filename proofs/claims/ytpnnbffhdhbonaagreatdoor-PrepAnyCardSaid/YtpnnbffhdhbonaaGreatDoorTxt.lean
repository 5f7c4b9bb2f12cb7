/- Plain facts on texts (lists of bytes), with no program in sight. -/
import Derived.Test.YtpnnbffhdhbonaaGreatDoorMem
import Derived.Lib.Strings
import Derived.Lib.Bytealg
namespace Go.Proofs.YtpnnbffhdhbonaaGreatDoor
open Go Go.RowKit

/-- is it a digit? -/
def dig (b : UInt8) : Bool := decide (48 ≤ b.toNat ∧ b.toNat ≤ 57)
/-- a letter's small one -/
def lowB (b : UInt8) : UInt8 := if 65 ≤ b.toNat ∧ b.toNat ≤ 90 then b + 32 else b
def low (l : List UInt8) : List UInt8 := l.map lowB
/-- one blank for each run (p: the byte ahead was a blank) -/
def sqz : Bool → List UInt8 → List UInt8
  | _, [] => []
  | p, b :: l => if b = 32 ∧ p = true then sqz true l else b :: sqz (b == 32) l
/-- digits and the others alone -/
def onlyL (o : List UInt8) (l : List UInt8) : Bool := l.all fun b => dig b || o.contains b

theorem drop_at (s : ByteArray) {i : Nat} (h : i < s.size) : s.data.toList.drop i = s[i] :: s.data.toList.drop (i + 1) := by
  have hl : i < s.data.toList.length := by simpa using h
  rw [List.drop_eq_getElem_cons hl]; rfl

theorem drop_end (s : ByteArray) {i : Nat} (h : ¬ i < s.size) : s.data.toList.drop i = [] :=
  List.drop_eq_nil_of_le (by simpa using Nat.le_of_not_lt h)

theorem u8_of (b : UInt8) : ((b.toNat : Int).toNat).toUInt8 = b := by simp

theorem idx_neg (l : List UInt8) (c : UInt8) : (Lib.indexByte l c < 0) ↔ l.contains c = false := by
  induction l with
  | nil => simp [Lib.indexByte]
  | cons b l ih =>
    have hg := Lib.indexByte_ge l c
    unfold Lib.indexByte
    by_cases h : b = c
    · simp [h]
    · have h' : (b == c) = false := by simpa using h
      have h'' : (c == b) = false := by simpa using fun e => h e.symm
      rw [h', List.contains_cons, h'']
      simp only [Bool.false_eq_true, if_false, Bool.false_or]
      rw [← ih]
      by_cases hn : Lib.indexByte l c = -1
      · rw [hn]; decide
      · have : (Lib.indexByte l c == -1) = false := by simpa using hn
        rw [this]; simp only [Bool.false_eq_true, if_false]; omega

theorem onlyL_cons (o : List UInt8) (b : UInt8) (l : List UInt8) : onlyL o (b :: l) = ((dig b || o.contains b) && onlyL o l) := rfl
/-- what the loops ask of a byte -/
theorem only_test (o : List UInt8) (b : UInt8) : ((dig b || o.contains b) = true ∧ ((48 ≤ (b.toNat : Int) ∧ (b.toNat : Int) ≤ 57) ∨ 0 ≤ Lib.indexByte o b)) ∨ ((dig b || o.contains b) = false ∧ ((b.toNat : Int) < 48 ∨ 57 < (b.toNat : Int)) ∧ Lib.indexByte o b < 0) := by
  have h := idx_neg o b
  by_cases hc : o.contains b = true
  · left
    refine ⟨by rw [hc, Bool.or_true], .inr ?_⟩
    have : ¬ Lib.indexByte o b < 0 := fun e => by rw [h.1 e] at hc; cases hc
    omega
  · have hc' : o.contains b = false := by simpa using hc
    have hn := h.2 hc'
    by_cases hd : 48 ≤ b.toNat ∧ b.toNat ≤ 57
    · left; exact ⟨by simp [dig, hd], .inl (by omega)⟩
    · right
      refine ⟨by rw [hc', Bool.or_false]; simpa [dig] using hd, by omega, hn⟩

theorem bnext {a b c : World} (h : Below a.heap.size a b) (k : Below b.heap.size b c) : Below a.heap.size a c := h.trans (k.mono h.size)
theorem bdrewN {B : Nat} {a w : World} (h : Below B a w) (q : Nat) : Below B a (w.drewN q) := ⟨h.os, h.tape, h.output, h.size, h.block⟩

theorem empty_of (v : ByteArray) (h : v.data.toList = []) : v = ⟨#[]⟩ := by
  obtain ⟨⟨l⟩⟩ := v
  have : l = [] := h
  rw [this]
/-- what a walk asks of a text that is not empty -/
theorem nonempty_of (v : ByteArray) (h : v.data.toList ≠ []) : ¬ v.toList = [] ∧ v.toList.isEmpty = false ∧ 0 < v.size := by
  have e : v.toList = v.data.toList := Lib.toList_data v
  rw [e]
  refine ⟨h, by cases hl : v.data.toList with | nil => exact absurd hl h | cons => rfl, ?_⟩
  rw [Lib.size_eq]; exact List.length_pos_iff.2 h

theorem bmk (s : ByteArray) : (⟨s.data.toList.toArray⟩ : ByteArray) = s := by obtain ⟨⟨l⟩⟩ := s; rfl
theorem bsize (l : List UInt8) : (⟨l.toArray⟩ : ByteArray).size = l.length := rfl

end Go.Proofs.YtpnnbffhdhbonaaGreatDoor
