/- A bough at [int, int] that the call made itself, and a set X of blocks that no call on it turns. -/
import Derived.Test.YtdfkokbpidkokaaUpC
import Derived.RangeFuncOwn
namespace Go.Proofs.Ytdfkokbpidkokaa
open Go.RowKit

def KeepC (o : Int) (w0 : World) (X : Nat → Prop) (w : World) (h : Nat) (fl : List (Int × Value)) (p : Nat) : Prop :=
  ∃ F, HasC o w h fl p F ∧ (∀ x ∈ F, w0.heap.size ≤ x ∧ ¬ X x) ∧ (∀ x, X x → x < w.heap.size) ∧ Chg (fun x => w0.heap.size ≤ x) w0 w

section
variable {o : Int} {w0 w : World} {X : Nat → Prop} {h : Nat} {fl : List (Int × Value)} {p : Nat}

theorem KeepC.frame (H : KeepC o w0 X w h fl p) : Chg (fun x => w0.heap.size ≤ x) w0 w := H.elim fun _ h => h.2.2.2
theorem KeepC.lt (H : KeepC o w0 X w h fl p) {x : Nat} (hx : X x) : x < w.heap.size := H.elim fun _ h => h.2.2.1 x hx
theorem KeepC.mono {p' : Nat} (H : KeepC o w0 X w h fl p) (hp' : p ≤ p') : KeepC o w0 X w h fl p' := by
  obtain ⟨F, h1, h2⟩ := H
  exact ⟨F, h1.mono hp', h2⟩
/-- what turns kept blocks alone leaves the bough -/
theorem KeepC.chg {S : Nat → Prop} {w' : World} (H : KeepC o w0 X w h fl p) (hc : Chg S w w') (hS : ∀ x, x < w.heap.size → S x → X x ∧ w0.heap.size ≤ x) : KeepC o w0 X w' h fl p := by
  obtain ⟨F, h1, h2, h3, h4⟩ := H
  refine ⟨F, h1.keep fun x hx => hc.block x (h1.lt x hx) (fun hs => (h2 x hx).2 (hS x (h1.lt x hx) hs).1), h2, fun x hx => Nat.lt_of_lt_of_le (h3 x hx) hc.size, h4.then hc (fun k hk hs => (hS k (Nat.lt_of_lt_of_le hk h4.size) hs).2)⟩
/-- what is new is kept from now on -/
theorem KeepC.more {Y : Nat → Prop} {w' : World} (H : KeepC o w0 X w h fl p) (hc : Chg (fun _ => False) w w') (hY : ∀ x, Y x → X x ∨ w.heap.size ≤ x ∧ x < w'.heap.size) : KeepC o w0 Y w' h fl p := by
  obtain ⟨F, h1, h2, h3, h4⟩ := H
  refine ⟨F, h1.chg hc (fun _ _ h => h), fun x hx => ⟨(h2 x hx).1, fun hy => ?_⟩, fun x hy => ?_, h4.trans (hc.mono fun _ _ h => h.elim)⟩
  · rcases hY x hy with h5 | h5
    · exact (h2 x hx).2 h5
    · have := h1.lt x hx; omega
  · rcases hY x hy with h5 | h5
    · exact Nat.lt_of_lt_of_le (h3 x h5) hc.size
    · exact h5.2
theorem KeepC.same {w' : World} (H : KeepC o w0 X w h fl p) (hc : Chg (fun _ => False) w w') : KeepC o w0 X w' h fl p := H.more hc fun _ h => .inl h
theorem HasC.isCells {F : List Nat} (H : HasC o w h fl p F) : ∀ x ∈ F, ∀ ob : Obj, w.heap[x]? = some ob → ob.isCells = true := by
  obtain ⟨q, lo, cl, ls, R, rfl, hp, rfl, hq, hqn⟩ := H
  have key : ∀ {g e sz cap : Nat} {xs : List Value}, Row w g e sz cap xs → ∀ ob : Obj, w.heap[g]? = some ob → ob.isCells = true := by
    intro g e sz cap xs hr ob ho
    obtain ⟨sp, h3, _⟩ := hr
    rw [ho] at h3
    cases h3
    rfl
  intro x hx ob ho
  simp only [blocks, List.mem_cons, List.mem_append, Option.mem_toList, List.mem_map] at hx
  rcases hx with rfl | rfl | hx | ⟨l, hl, rfl⟩
  · cases ob with
    | cells cs t fr => rfl
    | _ => simp [World.cell?, ho] at hq
  · exact key R.hdr ob ho
  · have h2 := R.lv
    rw [hx] at h2
    exact key h2.row ob ho
  · exact key (R.lf l hl).1 ob ho
theorem KeepC.turned {w' : World} {fl' : List (Int × Value)} {p' : Nat} {F : List Nat} (h2 : ∀ x ∈ F, w0.heap.size ≤ x ∧ ¬ X x) (h3 : ∀ x, X x → x < w.heap.size) (h4 : Chg (fun x => w0.heap.size ≤ x) w0 w) (T : TurnedC o w h fl' p' F w') (hcs : ∀ x ∈ F, ∀ ob : Obj, w.heap[x]? = some ob → ob.isCells = true) :
    KeepC o w0 X w' h fl' p' ∧ Chg (fun x => w0.heap.size ≤ x ∧ ¬ X x) w w' ∧ KeepsOthers w w' := by
  obtain ⟨F', h5, h6, h7⟩ := T
  refine ⟨⟨F', h5, fun x hx => ?_, fun x hx => Nat.lt_of_lt_of_le (h3 x hx) h6.size, h4.then h6 (fun k _ hm => (h2 k hm).1)⟩, h6.mono fun x _ hx => h2 x hx, h6.size, fun k ob hk ho => ?_⟩
  rotate_left
  · exact (h6.block k (Array.getElem?_eq_some_iff.1 hk).1 (fun hm => by have := hcs k hm ob hk; rw [ho] at this; cases this)).trans hk
  rcases h7 x hx with h8 | h8
  · exact h2 x h8
  · exact ⟨by have := h4.size; omega, fun hX => by have := h3 x hX; omega⟩

theorem KeepC.own {row : Option Nat} {w' : World} (H : KeepC o w0 X w h fl p) (hg : w.grownBy w' row) (hr : ∀ r, row = some r → w0.heap.size ≤ r ∧ ∃ ob : Obj, w.heap[r]? = some ob ∧ ob.isCells = false) : KeepC o w0 X w' h fl p := by
  obtain ⟨F, h1, h2, h3, h4⟩ := H
  refine ⟨F, h1.keep fun x hx => hg.block x (h1.lt x hx) (fun e => ?_), h2, fun x hx => Nat.lt_of_lt_of_le (h3 x hx) hg.size, h4.grown hg (fun k e _ => (hr k e).1)⟩
  obtain ⟨_, ob, h5, h6⟩ := hr x e.symm
  have := h1.isCells x hx ob h5
  rw [h6] at this
  cases this

theorem put_keepC (H : KeepC o w0 X w h fl p) (k : Int) (z : Int) (hs : Sorted (cmpI o) fl) (hp : p ≤ 70368744177664) :
    Calls Try.prog 32 #[.pointer (some ⟨h, 0, none⟩), .int .i64 k, .int .i64 z] w fun e w' => e = .returned (.bool (!hasL (cmpI o) fl k)) ∧ KeepC o w0 X w' h (putL (cmpI o) fl k (.int .i64 z)) (max 16 (p + 1)) ∧ Chg (fun x => w0.heap.size ≤ x ∧ ¬ X x) w w' ∧ KeepsOthers w w' := by
  obtain ⟨F, h1, h2, h3, h4⟩ := H
  refine (put_hasC h1 k z hs hp).mono ?_
  rintro e w' ⟨rfl, T⟩
  exact ⟨rfl, KeepC.turned h2 h3 h4 T h1.isCells⟩
theorem del_keepC (H : KeepC o w0 X w h fl p) (k : Int) (hs : Sorted (cmpI o) fl) (hp : p ≤ 70368744177664) :
    Calls Try.prog 31 #[.pointer (some ⟨h, 0, none⟩), .int .i64 k] w fun e w' => e = .returned (.bool (hasL (cmpI o) fl k)) ∧ KeepC o w0 X w' h (delL (cmpI o) fl k) p ∧ Chg (fun x => w0.heap.size ≤ x ∧ ¬ X x) w w' ∧ KeepsOthers w w' := by
  obtain ⟨F, h1, h2, h3, h4⟩ := H
  refine (del_hasC h1 k hs hp).mono ?_
  rintro e w' ⟨rfl, T⟩
  exact ⟨rfl, KeepC.turned h2 h3 h4 T h1.isCells⟩
theorem get_keepC (H : KeepC o w0 X w h fl p) (k : Int) (hs : Sorted (cmpI o) fl) (hp : p ≤ 70368744177664) :
    Calls Try.prog 42 #[.pointer (some ⟨h, 0, none⟩), .int .i64 k] w fun e w' => e = .returned (.tuple #[(getL (cmpI o) fl k).getD (.int .i64 0), .bool (hasL (cmpI o) fl k)]) ∧ Chg (fun _ => False) w w' := by
  obtain ⟨F, h1, h2, h3, h4⟩ := H
  exact get_hasC h1 k hs hp
theorem rank_keepC (H : KeepC o w0 X w h fl p) (k : Int) (hs : Sorted (cmpI o) fl) (hp : p ≤ 70368744177664) :
    Calls Try.prog 37 #[.pointer (some ⟨h, 0, none⟩), .int .i64 k] w fun e w' => e = .returned (.int .i64 (rk (cmpI o) fl k)) ∧ ∃ n, w' = w.drewN n := by
  obtain ⟨F, h1, h2, h3, h4⟩ := H
  exact rank_hasC h1 k hs hp
theorem len_keepC (H : KeepC o w0 X w h fl p) :
    Calls Try.prog 36 #[.pointer (some ⟨h, 0, none⟩)] w fun e w' => e = .returned (.int .i64 fl.length) ∧ w = w' := by
  obtain ⟨F, h1, h2, h3, h4⟩ := H
  exact len_hasC h1
theorem nth_keep_inC (H : KeepC o w0 X w h fl p) (hp : p ≤ 70368744177664) (r : Nat) (hr : r < fl.length) :
    Calls Try.prog 41 #[.pointer (some ⟨h, 0, none⟩), .int .i64 r] w fun e w' => e = .returned (.tuple #[.int .i64 (fl[r]).1, (fl[r]).2, .bool true]) ∧ Chg (fun _ => False) w w' := by
  obtain ⟨F, h1, h2, h3, h4⟩ := H
  exact nth_has_inC h1 hp r hr
theorem nth_keep_outC (H : KeepC o w0 X w h fl p) (i : Int) (hi : i < 0 ∨ fl.length ≤ i) :
    Calls Try.prog 41 #[.pointer (some ⟨h, 0, none⟩), .int .i64 i] w fun e w' => e = .returned (.tuple #[.int .i64 0, .int .i64 0, .bool false]) ∧ Chg (fun _ => False) w w' := by
  obtain ⟨F, h1, h2, h3, h4⟩ := H
  exact nth_has_outC h1 i hi
theorem all_keepC (H : KeepC o w0 X w h fl p) (hby : 16 * fl.length ≤ 281474976710656) :
    Calls Try.prog 34 #[.pointer (some ⟨h, 0, none⟩)] w (GivesIterC w fl) := by
  obtain ⟨F, h1, h2, h3, h4⟩ := H
  exact all_hasC h1 hby
theorem from_keepC (H : KeepC o w0 X w h fl p) (k : Int) (hs : Sorted (cmpI o) fl) (hby : 16 * fl.length ≤ 281474976710656) :
    Calls Try.prog 38 #[.pointer (some ⟨h, 0, none⟩), .int .i64 k] w (GivesIterC w (fl.drop (rk (cmpI o) fl k))) := by
  obtain ⟨F, h1, h2, h3, h4⟩ := H
  exact from_hasC h1 k hs hby
theorem up_keepC (H : KeepC o w0 X w h fl p) (k : Int) (hs : Sorted (cmpI o) fl) (hby : 16 * fl.length ≤ 281474976710656) :
    Calls Try.prog 39 #[.pointer (some ⟨h, 0, none⟩), .int .i64 k] w (GivesIterC w (fl.take (upL (cmpI o) fl k)).reverse) := by
  obtain ⟨F, h1, h2, h3, h4⟩ := H
  exact up_hasC h1 k hs hby
theorem new_keepC (o : Int) (w : World) : KeepC o w (fun _ => False) ((w.alloc (.cells #[.int .i64 o] 3)).alloc (.cells #[.func (.func 51) #[] #[.pointer (some ⟨w.heap.size, 0, none⟩)], .slice none 0 0, .int .i64 0] 111)) (w.heap.size + 1) [] 0 := by
  obtain ⟨F, h1, h2, h3⟩ := new_liveC o w
  exact ⟨F, h1, fun x hx => ⟨h3 x hx, fun h => h⟩, fun _ h => h.elim, h2⟩
end
end Go.Proofs.Ytdfkokbpidkokaa
