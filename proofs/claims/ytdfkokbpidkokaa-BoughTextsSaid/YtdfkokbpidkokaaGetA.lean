/- bough.New, Len, Get at [string, []int]. -/
import Derived.Test.YtdfkokbpidkokaaSearchA
import Derived.Laws.EntriesVeiled
namespace Go.Proofs.Ytdfkokbpidkokaa
open Go.RowKit

set_option maxRecDepth 20000 in
set_option maxHeartbeats 1000000 in
theorem len_repA {w : World} {cv : Value} {h : Nat} {lo : Option Nat} {cl : Nat} {ls : List (Leaf ByteArray Value)} (R : RepA w cv h lo cl ls) :
    Calls Try.prog 19 #[.pointer (some ⟨h, 0, none⟩)] w fun e w' => e = .returned (.int .i64 (flat ls).length) ∧ w = w' := by
  have h2 := R.c2
  go_enter Try.func19, Try.ntmps19
  go_wp2
  go_ret
  exact ⟨rfl, rfl⟩

theorem none_of_hasL {K V : Type} {c : K → K → Int} {l : List (K × V)} {k : K} (h : hasL c l k = false) : getL c l k = none := by
  rw [hasL_isSome] at h
  simpa using h

set_option maxRecDepth 20000 in
set_option maxHeartbeats 1000000 in
theorem get_repA {w : World} {h : Nat} {lo : Option Nat} {cl : Nat} {ls : List (Leaf ByteArray Value)}  (R : RepA w (.func (.func 9) #[] #[]) h lo cl ls) (k : ByteArray) (hs : Sorted (txc) (flat ls)) (hsz : (flat ls).length ≤ 4611686018427387903)  :
    Calls Try.prog 14 #[.pointer (some ⟨h, 0, none⟩), .string k] w fun e w' => e = .returned (.tuple #[(getL (txc) (flat ls) k).getD (.slice none 0 0), .bool (hasL (txc) (flat ls) k)]) ∧ Chg (fun _ => False) w w' := by
  have R1 : RepA (w.alloc (.cells #[.slice none 0 0] 25)) (.func (.func 9) #[] #[]) h lo cl ls := R.chg ((Chg.refl (fun _ => False) w).alloc _) (fun _ _ h => h)
  
  have hS := search_repA R1 k hs hsz 
  cases hh : hasL (txc) (flat ls) k
  case true =>
    obtain ⟨L, b, n, cp, v, rfl, hA, hB, hn, c1, c2, hg⟩ := R1.found hh
    have hc1 := R1.c1s
    have hnl := R1.nl_le
    rw [hh] at hS
    have HG := Lib.hid hg; clear hg hh
    have HS := Lib.hid hS; clear hS
    clear  hs R
    generalize (loc ls (rk (txc) (flat ls) k)).1 = A at *
    generalize (loc ls (rk (txc) (flat ls) k)).2 = B at *
    generalize ls.length = nl at *
    go_enter Try.func14, Try.ntmps14
    go_wp2_with (go_at_call 50; refine HS.out.mono ?_; rintro e w' ⟨rfl, q, rfl⟩)
    go_ret2
    exact ⟨by rw [HG.out]; rfl, ((Chg.refl _ w).alloc _).drewN q⟩
  case false =>
    have hg := none_of_hasL hh
    rw [hh] at hS
    have HG := Lib.hid hg; clear hg hh
    have HS := Lib.hid hS; clear hS
    clear  hs R
    go_enter Try.func14, Try.ntmps14
    go_wp2_with (go_at_call 50; refine HS.out.mono ?_; rintro e w' ⟨rfl, q, rfl⟩)
    go_ret2
    exact ⟨by rw [HG.out]; rfl, ((Chg.refl _ w).alloc _).drewN q⟩

set_option maxRecDepth 20000 in
set_option maxHeartbeats 1000000 in
theorem new_repA (w : World)  :
    Calls Try.prog 8 #[.func (.func 9) #[] #[]] w fun e w' => e = .returned (.pointer (some ⟨w.heap.size, 0, none⟩)) ∧ w.alloc (.cells #[.func (.func 9) #[] #[], .slice none 0 0, .int .i64 0] 90) = w' := by
  have hne : ∀ w, (binOp .eql 26 (.func (.func 9) #[] #[]) .nilFunc).run Try.prog w = .ok (.bool false) w := fun _ => by kernel_rfl
  go_enter Try.func8, Try.ntmps8
  go_wp2
  go_ret
  exact ⟨rfl, rfl⟩
end Go.Proofs.Ytdfkokbpidkokaa
