/- A bough at [string, []int] by the row of pairs that it holds: what each call does, said of that row. -/
import Derived.Test.YtdfkokbpidkokaaDelA
namespace Go.Proofs.Ytdfkokbpidkokaa
open Go.RowKit

/-- at block h lies a bough that holds the pairs fl; F: its blocks -/
def HasA (w : World) (h : Nat) (fl : List (ByteArray × Value)) (p : Nat) (F : List Nat) : Prop :=
  ∃ lo cl ls, RepA w (.func (.func 9) #[] #[]) h lo cl ls ∧ flat ls = fl ∧ pot ls ≤ p ∧ F = blocks h lo ls

section
variable {w : World} {h : Nat} {fl : List (ByteArray × Value)} {p : Nat} {F : List Nat}

theorem HasA.lt (H : HasA w h fl p F) : ∀ x ∈ F, x < w.heap.size := by
  obtain ⟨lo, cl, ls, R, rfl, hp, rfl⟩ := H
  exact R.lt
theorem HasA.keep {w' : World} (H : HasA w h fl p F) (hk : ∀ x ∈ F, w'.heap[x]? = w.heap[x]?) : HasA w' h fl p F := by
  obtain ⟨lo, cl, ls, R, rfl, hp, rfl⟩ := H
  exact ⟨lo, cl, ls, BRep.keep R hk, rfl, hp, rfl⟩
theorem HasA.chg {S : Nat → Prop} {w' : World} (H : HasA w h fl p F) (hc : Chg S w w') (hn : ∀ x ∈ F, ¬ S x) : HasA w' h fl p F :=
  H.keep fun x hx => hc.block x (H.lt x hx) (hn x hx)
theorem HasA.len (H : HasA w h fl p F) : fl.length ≤ 2 * p := by
  obtain ⟨lo, cl, ls, R, rfl, hp, rfl⟩ := H
  have h32 : (flat ls).length ≤ 2 * pot ls := by
    clear R hp 
    induction ls with
    | nil => simp
    | cons l ls ih => rw [flat_cons, pot_cons, List.length_append]; omega
  omega
theorem HasA.mono {p' : Nat} (H : HasA w h fl p F) (hp' : p ≤ p') : HasA w h fl p' F := by
  obtain ⟨lo, cl, ls, R, rfl, hp, rfl⟩ := H
  exact ⟨lo, cl, ls, R, rfl, Nat.le_trans hp hp', rfl⟩

/-- what a call leaves that may turn the bough -/
def TurnedA (w : World) (h : Nat) (fl : List (ByteArray × Value)) (p : Nat) (F : List Nat) (w' : World) : Prop :=
  ∃ F', HasA w' h fl p F' ∧ Chg (fun x => x ∈ F) w w' ∧ ∀ x ∈ F', x ∈ F ∨ w.heap.size ≤ x

theorem HasA.turned {lo : Option Nat} {cl : Nat} {ls : List (Leaf ByteArray Value)} {fl' : List (ByteArray × Value)} {b : Nat} {w' : World} (_R : RepA w (.func (.func 9) #[] #[]) h lo cl ls)
    (P : Post (.string) 90 94 93 w (.func (.func 9) #[] #[]) h lo ls fl' b w')  : TurnedA w h fl' b (blocks h lo ls) w' := by
  obtain ⟨lo', cl', ls', R', e1, e2, e3, e4⟩ := P
  exact ⟨_, ⟨lo', cl', ls', R', e1, e2, rfl⟩, e3, e4⟩

theorem put_hasA (H : HasA w h fl p F) (k : ByteArray) (va : Option Addr) (vn vc : Nat) (hs : Sorted (txc) fl) (hp : p ≤ 70368744177664) :
    Calls Try.prog 10 #[.pointer (some ⟨h, 0, none⟩), .string k, .slice va vn vc] w fun e w' => e = .returned (.bool (!hasL (txc) fl k)) ∧ TurnedA w h (putL (txc) fl k (.slice va vn vc)) (max 16 (p + 1)) F w' := by
  have hlen := H.len
  obtain ⟨lo, cl, ls, R, rfl, hpp, rfl⟩ := H
  have hnl := pot_len ls
  refine (put_repA R k va vn vc hs (by omega) (by omega) ).mono ?_
  rintro e w' ⟨rfl, P⟩
  exact ⟨rfl, HasA.turned R (P.mono (by omega)) ⟩

theorem del_hasA (H : HasA w h fl p F) (k : ByteArray) (hs : Sorted (txc) fl) (hp : p ≤ 70368744177664) :
    Calls Try.prog 12 #[.pointer (some ⟨h, 0, none⟩), .string k] w fun e w' => e = .returned (.bool (hasL (txc) fl k)) ∧ TurnedA w h (delL (txc) fl k) p F w' := by
  have hlen := H.len
  obtain ⟨lo, cl, ls, R, rfl, hpp, rfl⟩ := H
  refine (del_repA R k hs (by omega) ).mono ?_
  rintro e w' ⟨rfl, P⟩
  exact ⟨rfl, HasA.turned R (P.mono hpp) ⟩

theorem get_hasA (H : HasA w h fl p F) (k : ByteArray) (hs : Sorted (txc) fl) (hp : p ≤ 70368744177664) :
    Calls Try.prog 14 #[.pointer (some ⟨h, 0, none⟩), .string k] w fun e w' => e = .returned (.tuple #[(getL (txc) fl k).getD (.slice none 0 0), .bool (hasL (txc) fl k)]) ∧ Chg (fun _ => False) w w' := by
  have hlen := H.len
  obtain ⟨lo, cl, ls, R, rfl, hpp, rfl⟩ := H
  exact get_repA R k hs (by omega) 

theorem rank_hasA (H : HasA w h fl p F) (k : ByteArray) (hs : Sorted (txc) fl) (hp : p ≤ 70368744177664) :
    Calls Try.prog 17 #[.pointer (some ⟨h, 0, none⟩), .string k] w fun e w' => e = .returned (.int .i64 (rk (txc) fl k)) ∧ ∃ n, w' = w.drewN n := by
  have hlen := H.len
  obtain ⟨lo, cl, ls, R, rfl, hpp, rfl⟩ := H
  exact rank_repA R k hs (by omega) 

theorem len_hasA (H : HasA w h fl p F) :
    Calls Try.prog 19 #[.pointer (some ⟨h, 0, none⟩)] w fun e w' => e = .returned (.int .i64 fl.length) ∧ w = w' := by
  obtain ⟨lo, cl, ls, R, rfl, hpp, rfl⟩ := H
  exact len_repA R


end
end Go.Proofs.Ytdfkokbpidkokaa
