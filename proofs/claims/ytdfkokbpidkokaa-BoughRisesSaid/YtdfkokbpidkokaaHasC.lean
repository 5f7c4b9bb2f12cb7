/- A bough at [int, int] by the row of pairs that it holds: what each call does, said of that row. -/
import Derived.Test.YtdfkokbpidkokaaSeq_C
namespace Go.Proofs.Ytdfkokbpidkokaa
open Go.RowKit

/-- at block h lies a bough that holds the pairs fl; F: its blocks -/
def HasC (o : Int) (w : World) (h : Nat) (fl : List (Int × Value)) (p : Nat) (F : List Nat) : Prop :=
  ∃ q lo cl ls, RepC w (.func (.func 51) #[] #[.pointer (some ⟨q, 0, none⟩)]) h lo cl ls ∧ flat ls = fl ∧ pot ls ≤ p ∧ F = q :: blocks h lo ls ∧ w.cell? ⟨q, 0, none⟩ = some (.int .i64 o) ∧ q ∉ blocks h lo ls

section
variable {o : Int} {w : World} {h : Nat} {fl : List (Int × Value)} {p : Nat} {F : List Nat}

theorem HasC.lt (H : HasC o w h fl p F) : ∀ x ∈ F, x < w.heap.size := by
  obtain ⟨q, lo, cl, ls, R, rfl, hp, rfl, hq, hqn⟩ := H
  intro x hx
  rw [List.mem_cons] at hx
  rcases hx with rfl | hx
  · exact World.block_lt_of_cell? w _ hq
  · exact R.lt x hx
theorem HasC.keep {w' : World} (H : HasC o w h fl p F) (hk : ∀ x ∈ F, w'.heap[x]? = w.heap[x]?) : HasC o w' h fl p F := by
  obtain ⟨q, lo, cl, ls, R, rfl, hp, rfl, hq, hqn⟩ := H
  exact ⟨q, lo, cl, ls, BRep.keep R (fun x hx => hk x (List.mem_cons_of_mem _ hx)), rfl, hp, rfl, (World.cell?_of_block (hk q (by simp))).trans hq, hqn⟩
theorem HasC.chg {S : Nat → Prop} {w' : World} (H : HasC o w h fl p F) (hc : Chg S w w') (hn : ∀ x ∈ F, ¬ S x) : HasC o w' h fl p F :=
  H.keep fun x hx => hc.block x (H.lt x hx) (hn x hx)
theorem HasC.len (H : HasC o w h fl p F) : fl.length ≤ 2 * p := by
  obtain ⟨q, lo, cl, ls, R, rfl, hp, rfl, hq, hqn⟩ := H
  have h32 : (flat ls).length ≤ 2 * pot ls := by
    clear R hp hqn
    induction ls with
    | nil => simp
    | cons l ls ih => rw [flat_cons, pot_cons, List.length_append]; omega
  omega
theorem HasC.mono {p' : Nat} (H : HasC o w h fl p F) (hp' : p ≤ p') : HasC o w h fl p' F := by
  obtain ⟨q, lo, cl, ls, R, rfl, hp, rfl, hq, hqn⟩ := H
  exact ⟨q, lo, cl, ls, R, rfl, Nat.le_trans hp hp', rfl, hq, hqn⟩

/-- what a call leaves that may turn the bough -/
def TurnedC (o : Int) (w : World) (h : Nat) (fl : List (Int × Value)) (p : Nat) (F : List Nat) (w' : World) : Prop :=
  ∃ F', HasC o w' h fl p F' ∧ Chg (fun x => x ∈ F) w w' ∧ ∀ x ∈ F', x ∈ F ∨ w.heap.size ≤ x

theorem HasC.turned {q : Nat} {lo : Option Nat} {cl : Nat} {ls : List (Leaf Int Value)} {fl' : List (Int × Value)} {b : Nat} {w' : World} (R : RepC w (.func (.func 51) #[] #[.pointer (some ⟨q, 0, none⟩)]) h lo cl ls)
    (P : Post (.int .i64) 111 112 114 w (.func (.func 51) #[] #[.pointer (some ⟨q, 0, none⟩)]) h lo ls fl' b w') (hq : w.cell? ⟨q, 0, none⟩ = some (.int .i64 o)) (hqn : q ∉ blocks h lo ls) : TurnedC o w h fl' b (q :: blocks h lo ls) w' := by
  obtain ⟨lo', cl', ls', R', e1, e2, e3, e4⟩ := P
  have hql := World.block_lt_of_cell? w _ hq
  refine ⟨_, ⟨q, lo', cl', ls', R', e1, e2, rfl, (World.cell?_of_block (e3.block q hql hqn)).trans hq, fun hm => ?_⟩, e3.mono (fun x _ hx => List.mem_cons_of_mem _ hx), fun x hx => ?_⟩
  · rcases e4 q hm with h1 | h1
    · exact hqn h1
    · exact absurd hql (by simp only; omega)
  · rw [List.mem_cons] at hx
    rcases hx with rfl | hx
    · exact .inl (by simp)
    · rcases e4 x hx with h1 | h1
      · exact .inl (List.mem_cons_of_mem _ h1)
      · exact .inr h1

theorem put_hasC (H : HasC o w h fl p F) (k : Int) (z : Int) (hs : Sorted (cmpI o) fl) (hp : p ≤ 70368744177664) :
    Calls Try.prog 32 #[.pointer (some ⟨h, 0, none⟩), .int .i64 k, .int .i64 z] w fun e w' => e = .returned (.bool (!hasL (cmpI o) fl k)) ∧ TurnedC o w h (putL (cmpI o) fl k (.int .i64 z)) (max 16 (p + 1)) F w' := by
  have hlen := H.len
  obtain ⟨q, lo, cl, ls, R, rfl, hpp, rfl, hq, hqn⟩ := H
  have hnl := pot_len ls
  refine (put_repC R k z hs (by omega) (by omega) hq).mono ?_
  rintro e w' ⟨rfl, P⟩
  exact ⟨rfl, HasC.turned R (P.mono (by omega)) hq hqn⟩

theorem del_hasC (H : HasC o w h fl p F) (k : Int) (hs : Sorted (cmpI o) fl) (hp : p ≤ 70368744177664) :
    Calls Try.prog 31 #[.pointer (some ⟨h, 0, none⟩), .int .i64 k] w fun e w' => e = .returned (.bool (hasL (cmpI o) fl k)) ∧ TurnedC o w h (delL (cmpI o) fl k) p F w' := by
  have hlen := H.len
  obtain ⟨q, lo, cl, ls, R, rfl, hpp, rfl, hq, hqn⟩ := H
  refine (del_repC R k hs (by omega) hq).mono ?_
  rintro e w' ⟨rfl, P⟩
  exact ⟨rfl, HasC.turned R (P.mono hpp) hq hqn⟩

theorem get_hasC (H : HasC o w h fl p F) (k : Int) (hs : Sorted (cmpI o) fl) (hp : p ≤ 70368744177664) :
    Calls Try.prog 42 #[.pointer (some ⟨h, 0, none⟩), .int .i64 k] w fun e w' => e = .returned (.tuple #[(getL (cmpI o) fl k).getD (.int .i64 0), .bool (hasL (cmpI o) fl k)]) ∧ Chg (fun _ => False) w w' := by
  have hlen := H.len
  obtain ⟨q, lo, cl, ls, R, rfl, hpp, rfl, hq, hqn⟩ := H
  exact get_repC R k hs (by omega) hq

theorem rank_hasC (H : HasC o w h fl p F) (k : Int) (hs : Sorted (cmpI o) fl) (hp : p ≤ 70368744177664) :
    Calls Try.prog 37 #[.pointer (some ⟨h, 0, none⟩), .int .i64 k] w fun e w' => e = .returned (.int .i64 (rk (cmpI o) fl k)) ∧ ∃ n, w' = w.drewN n := by
  have hlen := H.len
  obtain ⟨q, lo, cl, ls, R, rfl, hpp, rfl, hq, hqn⟩ := H
  exact rank_repC R k hs (by omega) hq

theorem len_hasC (H : HasC o w h fl p F) :
    Calls Try.prog 36 #[.pointer (some ⟨h, 0, none⟩)] w fun e w' => e = .returned (.int .i64 fl.length) ∧ w = w' := by
  obtain ⟨q, lo, cl, ls, R, rfl, hpp, rfl, hq, hqn⟩ := H
  exact len_repC R

theorem all_hasC (H : HasC o w h fl p F) (hby : 16 * fl.length ≤ 281474976710656) :
    Calls Try.prog 34 #[.pointer (some ⟨h, 0, none⟩)] w (GivesIterC w fl) := by
  obtain ⟨q, lo, cl, ls, R, rfl, hpp, rfl, hq, hqn⟩ := H
  exact all_repC R hby

theorem from_hasC (H : HasC o w h fl p F) (k : Int) (hs : Sorted (cmpI o) fl) (hby : 16 * fl.length ≤ 281474976710656) :
    Calls Try.prog 38 #[.pointer (some ⟨h, 0, none⟩), .int .i64 k] w (GivesIterC w (fl.drop (rk (cmpI o) fl k))) := by
  obtain ⟨q, lo, cl, ls, R, rfl, hpp, rfl, hq, hqn⟩ := H
  exact from_repC R k hs hby hq

end
end Go.Proofs.Ytdfkokbpidkokaa
