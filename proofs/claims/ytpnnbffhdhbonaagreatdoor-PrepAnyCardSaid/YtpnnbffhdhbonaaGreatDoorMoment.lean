/- What a moment's key is, plainly; ranges of days and moments. -/
import Derived.Test.YtpnnbffhdhbonaaGreatDoorWide
import Derived.Test.YtpnnbffhdhbonaaGreatDoorTimeKit
namespace Go.Proofs.YtpnnbffhdhbonaaGreatDoor
open Go Go.RowKit

def momentL (n : Int) (rest : List UInt8) : List UInt8 :=
  wideL (dateI (n / 86400)).1.toNat 4 ++ (wideL (dateI (n / 86400)).2.1.toNat 2 ++ (wideL (dateI (n / 86400)).2.2.toNat 2 ++
    (wideL (n % 86400 / 3600).toNat 2 ++ (wideL (n % 86400 / 60 % 60).toNat 2 ++ (wideL (n % 86400 % 60).toNat 2 ++ rest)))))
def timeFormL (v : List UInt8) : List UInt8 × Bool := if (timeL v).2.2 = true then (momentL (timeL v).1 (timeL v).2.1, true) else ([], false)

theorem dateI_range (n : Int) (h0 : -719528 ≤ n) (h1 : n ≤ 2932896) : (0 ≤ (dateI n).1 ∧ (dateI n).1 ≤ 9999) ∧ (1 ≤ (dateI n).2.1 ∧ (dateI n).2.1 ≤ 12) ∧ (1 ≤ (dateI n).2.2 ∧ (dateI n).2.2 ≤ 31) := by
  obtain ⟨N, hN⟩ : ∃ N, n + 719468 = N := ⟨_, rfl⟩
  obtain ⟨E, hE⟩ : ∃ E, N / 146097 = E := ⟨_, rfl⟩
  obtain ⟨I, hI⟩ : ∃ I, N - E * 146097 = I := ⟨_, rfl⟩
  obtain ⟨Y, O, M, hY, y0, y1, hO, o0, o1, hM, m0, m1⟩ := date_facts I (by omega) (by omega)
  have hD : dateI n = (if 12 < M + 3 then Y + E * 400 + 1 else Y + E * 400, if 12 < M + 3 then M + 3 - 12 else M + 3, O - (153 * M + 2) / 5 + 1) := by
    unfold dateI; simp only [hN, hE, hI, hY, hO, hM]
  rw [hD]
  have a1 : E = -1 → Y = 399 ∧ 12 < M + 3 := by
    intro e
    have hI2 : 146037 ≤ I := by omega
    have q1 : I / 1460 = 100 := by omega
    have q2 : I / 36524 = 3 ∨ I / 36524 = 4 := by omega
    have q3 : I / 146096 = 0 ∨ I / 146096 = 1 := by omega
    have q4 : Y = 399 := by omega
    refine ⟨q4, ?_⟩
    subst q4
    omega
  have a2 : E = 24 → Y = 399 → ¬ 12 < M + 3 := by
    intro e hy
    have hI2 : I ≤ 146036 := by omega
    subst hy
    omega
  have e1 : E ≤ 24 := by omega
  have e2 : -1 ≤ E := by omega
  clear hY hE hI hN hD
  by_cases h : 12 < M + 3
  · simp only [if_pos h]; omega
  · simp only [if_neg h]; omega

theorem timeL_range (v : List UInt8) (h : (timeL v).2.2 = true) : -62167219200 ≤ (timeL v).1 ∧ (timeL v).1 < 253402300800 := by
  unfold timeL at h ⊢
  split at h
  · cases h
  · rename_i h1
    rw [if_neg h1] at ⊢
    split at h
    · cases h
    · split at h
      · cases h
      · rename_i h2
        split
        · rename_i e; simp_all
        · rename_i e1 e2
          simp_all

theorem wide_small' (n : Int) (k : Nat) (w : World) (hk : k ≤ 4) (h0 : 0 ≤ n) (h1 : n < 100) :
    Calls Tryz.prog 98 #[.int .i64 n, .int .i64 k] w fun e w' => e = .returned (.string ⟨(wideL n.toNat k).toArray⟩) ∧ w' = w := by
  have := wide_small n.toNat k w hk (by omega)
  rw [Int.toNat_of_nonneg h0] at this
  exact this
theorem wide_any' (n : Int) (k : Nat) (w : World) (hk : k ≤ 4) (h0 : 0 ≤ n) (h1 : n < 10000) (hE : Env w) :
    Calls Tryz.prog 98 #[.int .i64 n, .int .i64 k] w fun e w' => e = .returned (.string ⟨(wideL n.toNat k).toArray⟩) ∧ Below w.heap.size w w' := by
  have := wide_any n.toNat k w hk (by omega) hE
  rw [Int.toNat_of_nonneg h0] at this
  exact this

theorem cat7 (a b c d e f : List UInt8) (r : ByteArray) : (⟨a.toArray⟩ : ByteArray) ++ ⟨b.toArray⟩ ++ ⟨c.toArray⟩ ++ ⟨d.toArray⟩ ++ ⟨e.toArray⟩ ++ ⟨f.toArray⟩ ++ r = ⟨(a ++ (b ++ (c ++ (d ++ (e ++ (f ++ r.data.toList)))))).toArray⟩ := by
  apply ByteArray.ext; apply Array.toList_inj.1; simp [ByteArray.data_append]
end Go.Proofs.YtpnnbffhdhbonaaGreatDoor
