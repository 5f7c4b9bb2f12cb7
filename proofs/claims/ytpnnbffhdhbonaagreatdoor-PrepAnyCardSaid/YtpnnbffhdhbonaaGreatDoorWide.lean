/- prep.wide: a number in so many digits. -/
import Derived.Test.YtpnnbffhdhbonaaGreatDoorEnv
import Derived.Test.YtpnnbffhdhbonaaGreatDoorBuf
import Derived.Test.YtpnnbffhdhbonaaGreatDoorShelf
import Derived.Lib.AppendIntMem
import Derived.Lib.ItoaLen
namespace Go.Proofs.YtpnnbffhdhbonaaGreatDoor
open Go Go.RowKit

def wideL (n k : Nat) : List UInt8 := List.replicate (k - (Lib.decDigits n).length) 48 ++ Lib.decDigits n
def szOf : Value → Nat
  | .string b => b.size
  | _ => 0

theorem wide_at (R : World → Prop) (n k : Nat) (w : World) (hk : k ≤ 4) (_hn : (Lib.decDigits n).length ≤ 20)
    (hI : Calls Tryz.prog 115 #[.int .i64 n] w fun e w' => e = .returned (.string ⟨(Lib.decDigits n).toArray⟩) ∧ R w') :
    Calls Tryz.prog 98 #[.int .i64 n, .int .i64 k] w fun e w' => e = .returned (.string ⟨(wideL n k).toArray⟩) ∧ R w' := by
  have hw : wideL n k = List.replicate (k - (Lib.decDigits n).length) 48 ++ Lib.decDigits n := rfl
  generalize Lib.decDigits n = d at _hn hI hw
  have HI := Lib.hid hI; clear hI
  have HW := Lib.hid hw; clear hw
  go_enter Tryz.func98, Tryz.ntmps98
  go_wp2_with (first
    | (go_at_call 115; refine HI.out.mono ?_; rintro e w1 ⟨rfl, hr⟩; have HR := Lib.hid hr; clear hr)
    | fail)
  go_loopw [5] (fun sv wr => ∃ (i : Nat) (z : ByteArray), sv = .string z ∧ z.data.toList = List.replicate i 48 ++ d ∧ i ≤ k - d.length ∧ wr = w1) (fun sv _ => k - szOf sv)
  case atStart => exact ⟨0, _, rfl, rfl, Nat.zero_le _, rfl⟩
  case round =>
    obtain ⟨i, z, rfl, hz, hi, rfl⟩ := hrel
    have hzs : z.size = i + d.length := by rw [Lib.size_eq, hz]; simp
    have HZ := Lib.hid hz; have HZS := Lib.hid hzs; clear hz
    by_cases hlt : i + d.length < k
    · have g : (z.size : Int) < k := by omega
      clear hzs
      go_wp2_with fail
      have hz2 : (ByteArray.mk #[48] ++ z).data.toList = List.replicate (i + 1) 48 ++ d := by
        rw [ByteArray.data_append, Array.toList_append, HZ.out]; rfl
      refine ⟨⟨i + 1, _, rfl, hz2, by omega, trivial⟩, ?_⟩
      have h1 := HZS.out
      have h2 : (ByteArray.mk #[48] ++ z).size = z.size + 1 := by rw [Lib.size_eq, Lib.size_eq, hz2, HZ.out]; simp; omega
      show k - (ByteArray.mk #[48] ++ z).size < k - z.size
      omega
    · have g : ¬ (z.size : Int) < k := by omega
      clear hzs
      go_wp2_with fail
      go_ret
      refine ⟨?_, HR.out⟩
      rw [HW.out]
      have hi2 : i = k - d.length := by omega
      rw [← hi2, ← HZ.out]; rfl

/-- up to 99: nothing is written -/
theorem wide_small (n k : Nat) (w : World) (hk : k ≤ 4) (hn : n < 100) :
    Calls Tryz.prog 98 #[.int .i64 n, .int .i64 k] w fun e w' => e = .returned (.string ⟨(wideL n k).toArray⟩) ∧ w' = w := by
  refine wide_at (fun w' => w' = w) n k w hk ?_ (Tryz.strconv_Itoa_small n hn w)
  by_cases h : n < 10
  · rw [Lib.decDigits_one h]; simp
  · rw [Lib.decDigits_two h hn]; simp
theorem wide_any (n k : Nat) (w : World) (hk : k ≤ 4) (hn : n < 10000) (hE : Env w) :
    Calls Tryz.prog 98 #[.int .i64 n, .int .i64 k] w fun e w' => e = .returned (.string ⟨(wideL n k).toArray⟩) ∧ Below w.heap.size w w' := by
  refine wide_at (fun w' => Below w.heap.size w w') n k w hk ?_ ((Tryz.strconv_Itoa n (by omega) (by omega) w hE.pow).mono ?_)
  · rw [Lib.decDigits_length]; exact Lib.nDigits_le20 _ (by omega)
  · rintro e w' ⟨rfl, q, os, rfl⟩
    exact ⟨by rw [Lib.itoa_nonneg], Lib.below_grow _ _ (Nat.le_refl _) _ _⟩
end Go.Proofs.YtpnnbffhdhbonaaGreatDoor
