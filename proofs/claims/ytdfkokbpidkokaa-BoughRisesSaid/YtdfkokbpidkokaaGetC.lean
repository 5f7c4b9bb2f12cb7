/- bough.New, Len, Get at [int, int]. -/
import Derived.Test.YtdfkokbpidkokaaSearchC
import Derived.Laws.EntriesVeiled
namespace Go.Proofs.Ytdfkokbpidkokaa
open Go.RowKit

set_option maxRecDepth 20000 in
set_option maxHeartbeats 1000000 in
theorem len_repC {w : World} {cv : Value} {h : Nat} {lo : Option Nat} {cl : Nat} {ls : List (Leaf Int Value)} (R : RepC w cv h lo cl ls) :
    Calls Try.prog 36 #[.pointer (some ⟨h, 0, none⟩)] w fun e w' => e = .returned (.int .i64 (flat ls).length) ∧ w = w' := by
  have h2 := R.c2
  go_enter Try.func36, Try.ntmps36
  go_wp2
  go_ret
  exact ⟨rfl, rfl⟩

theorem none_of_hasL {K V : Type} {c : K → K → Int} {l : List (K × V)} {k : K} (h : hasL c l k = false) : getL c l k = none := by
  rw [hasL_isSome] at h
  simpa using h

set_option maxRecDepth 20000 in
set_option maxHeartbeats 1000000 in
theorem get_repC {w : World} {h : Nat} {lo : Option Nat} {cl : Nat} {ls : List (Leaf Int Value)} {o : Int} {q : Nat} (R : RepC w (.func (.func 51) #[] #[.pointer (some ⟨q, 0, none⟩)]) h lo cl ls) (k : Int) (hs : Sorted (cmpI o) (flat ls)) (hsz : (flat ls).length ≤ 4611686018427387903) (hq : w.cell? ⟨q, 0, none⟩ = some (.int .i64 o)) :
    Calls Try.prog 42 #[.pointer (some ⟨h, 0, none⟩), .int .i64 k] w fun e w' => e = .returned (.tuple #[(getL (cmpI o) (flat ls) k).getD (.int .i64 0), .bool (hasL (cmpI o) (flat ls) k)]) ∧ Chg (fun _ => False) w w' := by
  have R1 : RepC (w.alloc (.cells #[.int .i64 0] 3)) (.func (.func 51) #[] #[.pointer (some ⟨q, 0, none⟩)]) h lo cl ls := R.chg ((Chg.refl (fun _ => False) w).alloc _) (fun _ _ h => h)
  have hq1 : (w.alloc (.cells #[.int .i64 0] 3)).cell? ⟨q, 0, none⟩ = some (.int .i64 o) := (World.cell?_alloc_lt _ _ _ (World.block_lt_of_cell? w _ hq)).trans hq
  have hS := search_repC R1 k hs hsz hq1
  cases hh : hasL (cmpI o) (flat ls) k
  case true =>
    obtain ⟨L, b, n, cp, v, rfl, hA, hB, hn, c1, c2, hg⟩ := R1.found hh
    have hc1 := R1.c1s
    have hnl := R1.nl_le
    rw [hh] at hS
    have HG := Lib.hid hg; clear hg hh
    have HS := Lib.hid hS; clear hS
    clear hq hq1 hs R
    generalize (loc ls (rk (cmpI o) (flat ls) k)).1 = A at *
    generalize (loc ls (rk (cmpI o) (flat ls) k)).2 = B at *
    generalize ls.length = nl at *
    go_enter Try.func42, Try.ntmps42
    go_wp2_with (go_at_call 62; refine HS.out.mono ?_; rintro e w' ⟨rfl, q, rfl⟩)
    go_ret2
    exact ⟨by rw [HG.out]; rfl, ((Chg.refl _ w).alloc _).drewN q⟩
  case false =>
    have hg := none_of_hasL hh
    rw [hh] at hS
    have HG := Lib.hid hg; clear hg hh
    have HS := Lib.hid hS; clear hS
    clear hq hq1 hs R
    go_enter Try.func42, Try.ntmps42
    go_wp2_with (go_at_call 62; refine HS.out.mono ?_; rintro e w' ⟨rfl, q, rfl⟩)
    go_ret2
    exact ⟨by rw [HG.out]; rfl, ((Chg.refl _ w).alloc _).drewN q⟩

set_option maxRecDepth 20000 in
set_option maxHeartbeats 1000000 in
theorem new_repC (w : World) (q : Nat) :
    Calls Try.prog 30 #[.func (.func 51) #[] #[.pointer (some ⟨q, 0, none⟩)]] w fun e w' => e = .returned (.pointer (some ⟨w.heap.size, 0, none⟩)) ∧ w.alloc (.cells #[.func (.func 51) #[] #[.pointer (some ⟨q, 0, none⟩)], .slice none 0 0, .int .i64 0] 111) = w' := by
  have hne : ∀ w, (binOp .eql 46 (.func (.func 51) #[] #[.pointer (some ⟨q, 0, none⟩)]) .nilFunc).run Try.prog w = .ok (.bool false) w := fun _ => by kernel_rfl
  go_enter Try.func30, Try.ntmps30
  go_wp2
  go_ret
  exact ⟨rfl, rfl⟩
end Go.Proofs.Ytdfkokbpidkokaa
