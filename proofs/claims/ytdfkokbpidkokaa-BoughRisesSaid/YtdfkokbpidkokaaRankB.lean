/- bough.Rank at [int, string]. -/
import Derived.Test.YtdfkokbpidkokaaGetB
namespace Go.Proofs.Ytdfkokbpidkokaa
open Go.RowKit

set_option maxRecDepth 20000 in
set_option maxHeartbeats 1000000 in
theorem rank_repB {w : World} {h : Nat} {lo : Option Nat} {cl : Nat} {ls : List (Leaf Int Value)} {o : Int} {q : Nat} (R : RepB w (.func (.func 51) #[] #[.pointer (some ⟨q, 0, none⟩)]) h lo cl ls) (k : Int) (hs : Sorted (cmpI o) (flat ls)) (hsz : (flat ls).length ≤ 4611686018427387903) (hq : w.cell? ⟨q, 0, none⟩ = some (.int .i64 o)) :
    Calls Try.prog 49 #[.pointer (some ⟨h, 0, none⟩), .int .i64 k] w fun e w' => e = .returned (.int .i64 (rk (cmpI o) (flat ls) k)) ∧ ∃ n, w' = w.drewN n := by
  have hS := search_repB R k hs hsz hq
  obtain ⟨s1, s2, s3, s4⟩ := loc_spec ls _ (rk_le (cmpI o) (flat ls) k)
  have hnl := R.nl_le
  have HR := Lib.hid R; clear R
  have HS := Lib.hid hS; clear hS
  have HE := Lib.hid s2; clear s2
  clear s3 s4 hs hq
  generalize hasL (cmpI o) (flat ls) k = fd at *
  generalize (loc ls (rk (cmpI o) (flat ls) k)).1 = A at *
  generalize (loc ls (rk (cmpI o) (flat ls) k)).2 = B at *
  have ho := off_le ls A
  have HO := Lib.hid (fun i : Nat => off_le ls i)
  have hB : B ≤ (flat ls).length := by have := HE.out; have := rk_le (cmpI o) (flat ls) k; omega
  go_enter Try.func49, Try.ntmps49
  go_wp2_with (go_at_call 65; refine HS.out.mono ?_; rintro e w' ⟨rfl, q, rfl⟩)
  go_loopw [6, 19] (fun at_ iv wr => ∃ (i : Nat), iv = .int .i64 i ∧ i ≤ A ∧ at_ = .int .i64 ((B + off ls i : Nat) : Int) ∧ wr = w.drewN q)
    (fun _ iv _ => (A - intOf iv).toNat)
  case atStart => exact ⟨0, rfl, by omega, by rw [off_zero]; rfl, rfl⟩
  case round =>
    obtain ⟨i, rfl, hi, rfl, hwr⟩ := hrel
    by_cases hlt : i < A
    · have hil : i < ls.length := by omega
      obtain ⟨L, rfl⟩ := HR.out.some_of (by omega)
      have hR := HR.out.drewN q
      rw [← hwr] at hR
      have hc1 := hR.c1s
      have hc2 : wr.cell? ⟨L, i, none⟩ = some (.slice (some ⟨(ls[i]).b, 0, none⟩) (ls[i]).ps.length (ls[i]).c) := hR.leaf hil
      have hp := hR.pos hil
      have hos := off_succ hil
      have hol := HO.out (i + 1)
      have HW := Lib.hid hwr; clear hwr hR
      generalize ls[i].b = lb at *
      generalize ls[i].ps.length = ln at *
      generalize ls[i].c = lc at *
      have HOS := Lib.hid hos
      have hol2 : B + off ls i + ln ≤ 9223372036854775807 := by omega
      clear hos hol
      generalize ls.length = nl at *
      go_wp2
      go_roundw
      case rel => exact ⟨i + 1, by go_num, by omega, by rw [HOS.out]; congr 1; omega, HW.out⟩
      case measure => simp [intOf]; omega
    · obtain rfl : i = A := by omega
      go_wp2
      go_ret
      exact ⟨ret_int (by rw [← HE.out]; congr 1; omega), q, rfl⟩
end Go.Proofs.Ytdfkokbpidkokaa
