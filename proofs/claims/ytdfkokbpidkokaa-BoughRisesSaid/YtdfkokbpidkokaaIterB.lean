/- bough.over, All, From, Nth at [int, string]. -/
import Derived.Test.YtdfkokbpidkokaaRowB
import Derived.Test.YtdfkokbpidkokaaIt
namespace Go.Proofs.Ytdfkokbpidkokaa
open Go.RowKit

set_option maxRecDepth 20000 in
set_option maxHeartbeats 1000000 in
theorem over_anyB (sa : Option Addr) (n c : Nat) (w : World) :
    Calls Try.prog 60 #[.slice sa n c] w fun e w' => e = .returned (.func (.func 68) #[] #[.pointer (some ⟨w.heap.size, 0, none⟩)]) ∧ w.alloc (.cells #[.slice sa n c] 107) = w' := by
  go_enter Try.func60, Try.ntmps60
  go_wp2
  go_ret
  exact ⟨rfl, rfl⟩

/-- an iterator's value, fresh -/
def GivesIterB (w : World) (ps : List (Int × Value)) (e : Ending) (w' : World) : Prop :=
  ∃ q g, e = .returned (.func (.func 68) #[] #[.pointer (some ⟨q, 0, none⟩)]) ∧ IterAt (.int .i64) w' q g ps ∧ w.heap.size ≤ q ∧ w.heap.size ≤ g ∧ q < w'.heap.size ∧ g < w'.heap.size ∧ Chg (fun _ => False) w w'

set_option maxRecDepth 20000 in
set_option maxHeartbeats 1000000 in
theorem all_repB {w : World} {cv : Value} {h : Nat} {lo : Option Nat} {cl : Nat} {ls : List (Leaf Int Value)} (R : RepB w cv h lo cl ls)
    (hby : 24 * (flat ls).length ≤ 281474976710656) :
    Calls Try.prog 26 #[.pointer (some ⟨h, 0, none⟩)] w (GivesIterB w (flat ls)) := by
  have hr := row_repB R hby
  have HR := Lib.hid hr; clear hr
  go_enter Try.func26, Try.ntmps26
  go_wp2_with fail
  refine HR.out.mono ?_
  rintro e w1 ⟨rfl, hrow, hch⟩
  have HX := Lib.hid (And.intro hrow hch); clear hrow hch
  go_wp2_with fail
  refine (over_anyB _ _ _ _).mono ?_
  rintro e w2 ⟨rfl, rfl⟩
  go_wp2_with fail
  go_ret
  have hlt := HX.out.1.lt
  have hsz := HX.out.2.size
  refine ⟨w1.heap.size, w.heap.size, rfl, ?_, hsz, Nat.le_refl _, by simp, by simp; omega, HX.out.2.alloc _⟩
  have e1 := IterAt.mk (kv := .int .i64) (q := w1.heap.size) (r := 0) (n := (flat ls).length) (c := (flat ls).length) (HX.out.1.alloc (.cells #[.slice (some ⟨w.heap.size, 0, none⟩) (flat ls).length (flat ls).length] 107))
    (by rw [World.cell?_alloc_new]; simp) (Nat.le_refl _)
  rwa [List.drop_zero] at e1

set_option maxRecDepth 20000 in
set_option maxHeartbeats 1000000 in
theorem from_repB {w : World} {h : Nat} {lo : Option Nat} {cl : Nat} {ls : List (Leaf Int Value)} {o : Int} {q : Nat} (R : RepB w (.func (.func 51) #[] #[.pointer (some ⟨q, 0, none⟩)]) h lo cl ls) (k : Int) (hs : Sorted (cmpI o) (flat ls))
    (hby : 24 * (flat ls).length ≤ 281474976710656) (hq : w.cell? ⟨q, 0, none⟩ = some (.int .i64 o)) :
    Calls Try.prog 45 #[.pointer (some ⟨h, 0, none⟩), .int .i64 k] w (GivesIterB w ((flat ls).drop (rk (cmpI o) (flat ls) k))) := by
  have hr := row_repB R hby
  have hrk := rk_le (cmpI o) (flat ls) k
  have HR := Lib.hid hr; clear hr
  have HRR := Lib.hid R; clear R
  have HQ := Lib.hid hq; clear hq
  have HS := Lib.hid hs; clear hs
  go_enter Try.func45, Try.ntmps45
  go_wp2_with fail
  refine HR.out.mono ?_
  rintro e w1 ⟨rfl, hrow, hch⟩
  have hR1 : RepB w1 (.func (.func 51) #[] #[.pointer (some ⟨q, 0, none⟩)]) h lo cl ls := HRR.out.chg hch (fun _ _ h => h)
  have hq1 : w1.cell? ⟨q, 0, none⟩ = some (.int .i64 o) := (World.cell?_of_block (hch.block q (World.block_lt_of_cell? w _ HQ.out) (fun h => h))).trans HQ.out
  have hK := rank_repB hR1 k HS.out (by omega) hq1
  have HX := Lib.hid (And.intro hrow hch); clear hrow hch hR1 hq1
  have HK := Lib.hid hK; clear hK
  generalize hN : (flat ls).length = N at *
  generalize hr : rk (cmpI o) (flat ls) k = r at *
  have HN := Lib.hid hN; clear hN hr
  go_wp2_with fail
  refine HK.out.mono ?_
  rintro e w2 ⟨rfl, qd, rfl⟩
  go_wp2_with fail
  all_goals
    refine (over_anyB _ _ _ _).mono ?_
    rintro e w3 ⟨rfl, rfl⟩
    go_wp2_with fail
    go_ret
    have hlt := HX.out.1.lt
    have hsz := HX.out.2.size
    refine ⟨w1.heap.size, w.heap.size, rfl, ?_, hsz, Nat.le_refl _, by simp, by simp; omega, (HX.out.2.drewN qd).alloc _⟩
    refine IterAt.mk (kv := .int .i64) (q := w1.heap.size) (r := r) (n := N) (c := N - r) ((HX.out.1.drewN qd).alloc _) ?_ (by have := HN.out; omega)
    have hc := World.cell?_alloc_new (w1.drewN qd) #[.slice (if N = r then some ⟨w.heap.size, 0, none⟩ else some ⟨w.heap.size, r * 2, none⟩) (N - r) (N - r)] 107 0
    rw [HN.out]
    simp_all
end Go.Proofs.Ytdfkokbpidkokaa
