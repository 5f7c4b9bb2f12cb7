/- A bough at [int, int] that the call made itself, its order's number in block q, and a set X of blocks (q among them) that no call on it turns. -/
import Derived.Test.YtdfkokbpidkokaaKeepC
import Derived.Test.YtdfkokbpidkokaaSeq2
namespace Go.Proofs.Ytdfkokbpidkokaa
open Go.RowKit

def KeepQ (o : Int) (q : Nat) (w0 : World) (X : Nat → Prop) (w : World) (h : Nat) (fl : List (Int × Value)) (p : Nat) : Prop :=
  ∃ lo cl ls, RepC w (.func (.func 51) #[] #[.pointer (some ⟨q, 0, none⟩)]) h lo cl ls ∧ flat ls = fl ∧ pot ls ≤ p ∧ X q ∧ w.cell? ⟨q, 0, none⟩ = some (.int .i64 o) ∧ (∀ x ∈ blocks h lo ls, w0.heap.size ≤ x ∧ ¬ X x) ∧ (∀ x, X x → x < w.heap.size) ∧ Chg (fun x => w0.heap.size ≤ x) w0 w

section
variable {o : Int} {q : Nat} {w0 w : World} {X : Nat → Prop} {h : Nat} {fl : List (Int × Value)} {p : Nat}

theorem KeepQ.has (H : KeepQ o q w0 X w h fl p) : ∃ F, HasC o w h fl p F := by
  obtain ⟨lo, cl, ls, h1, h2, h3, h4, h5, h6, h7, h8⟩ := H
  exact ⟨_, q, lo, cl, ls, h1, h2, h3, rfl, h5, fun hm => (h6 q hm).2 h4⟩
theorem KeepQ.frame (H : KeepQ o q w0 X w h fl p) : Chg (fun x => w0.heap.size ≤ x) w0 w := by
  obtain ⟨lo, cl, ls, h1, h2, h3, h4, h5, h6, h7, h8⟩ := H
  exact h8
theorem KeepQ.lt (H : KeepQ o q w0 X w h fl p) {x : Nat} (hx : X x) : x < w.heap.size := by
  obtain ⟨lo, cl, ls, h1, h2, h3, h4, h5, h6, h7, h8⟩ := H
  exact h7 x hx
theorem KeepQ.cq (H : KeepQ o q w0 X w h fl p) : w.cell? ⟨q, 0, none⟩ = some (.int .i64 o) := by
  obtain ⟨lo, cl, ls, h1, h2, h3, h4, h5, h6, h7, h8⟩ := H
  exact h5
theorem KeepQ.xq (H : KeepQ o q w0 X w h fl p) : X q := by
  obtain ⟨lo, cl, ls, h1, h2, h3, h4, h5, h6, h7, h8⟩ := H
  exact h4
theorem KeepQ.mono {p' : Nat} (H : KeepQ o q w0 X w h fl p) (hp : p ≤ p') : KeepQ o q w0 X w h fl p' := by
  obtain ⟨lo, cl, ls, h1, h2, h3, h4⟩ := H
  exact ⟨lo, cl, ls, h1, h2, Nat.le_trans h3 hp, h4⟩
/-- some kept blocks but q's are turned, some blocks are new; Y: what is kept from now on -/
theorem KeepQ.chg {S Y : Nat → Prop} {w' : World} (H : KeepQ o q w0 X w h fl p) (hc : Chg S w w') (hS : ∀ x, x < w.heap.size → S x → X x ∧ w0.heap.size ≤ x ∧ x ≠ q) (hq : Y q) (hY : ∀ x, Y x → X x ∨ w.heap.size ≤ x ∧ x < w'.heap.size) : KeepQ o q w0 Y w' h fl p := by
  obtain ⟨lo, cl, ls, h1, h2, h3, h4, h5, h6, h7, h8⟩ := H
  have hlq := h7 q h4
  refine ⟨lo, cl, ls, h1.keep (fun x hx => hc.block x (h1.lt x hx) (fun hs => (h6 x hx).2 (hS x (h1.lt x hx) hs).1)), h2, h3, hq, (World.cell?_of_block (hc.block q hlq (fun hs => (hS q hlq hs).2.2 rfl))).trans h5, fun x hx => ⟨(h6 x hx).1, fun hy => ?_⟩, fun x hy => ?_, h8.then hc (fun x hx hs => (hS x (Nat.lt_of_lt_of_le hx h8.size) hs).2.1)⟩
  · rcases hY x hy with h9 | h9
    · exact (h6 x hx).2 h9
    · have := h1.lt x hx; omega
  · rcases hY x hy with h9 | h9
    · exact Nat.lt_of_lt_of_le (h7 x h9) hc.size
    · exact h9.2
theorem KeepQ.same {w' : World} (H : KeepQ o q w0 X w h fl p) (hc : Chg (fun _ => False) w w') : KeepQ o q w0 X w' h fl p :=
  H.chg hc (fun _ _ h => h.elim) H.xq (fun _ h => .inl h)
theorem KeepQ.post {lo : Option Nat} {cl : Nat} {ls : List (Leaf Int Value)} {fl' : List (Int × Value)} {b : Nat} {w' : World} (_h1 : RepC w (.func (.func 51) #[] #[.pointer (some ⟨q, 0, none⟩)]) h lo cl ls)
    (h4 : X q) (h5 : w.cell? ⟨q, 0, none⟩ = some (.int .i64 o)) (h6 : ∀ x ∈ blocks h lo ls, w0.heap.size ≤ x ∧ ¬ X x) (h7 : ∀ x, X x → x < w.heap.size) (h8 : Chg (fun x => w0.heap.size ≤ x) w0 w)
    (P : Post (.int .i64) 111 112 114 w (.func (.func 51) #[] #[.pointer (some ⟨q, 0, none⟩)]) h lo ls fl' b w') : KeepQ o q w0 X w' h fl' b ∧ Chg (fun x => w0.heap.size ≤ x ∧ ¬ X x) w w' := by
  obtain ⟨lo', cl', ls', R', e1, e2, e3, e4⟩ := P
  have hlq := h7 q h4
  have hs8 := h8.size
  refine ⟨⟨lo', cl', ls', R', e1, e2, h4, (World.cell?_of_block (e3.block q hlq (fun hm => (h6 q hm).2 h4))).trans h5, fun x hx => ?_, fun x hx => Nat.lt_of_lt_of_le (h7 x hx) e3.size, h8.then e3 (fun x _ hm => (h6 x hm).1)⟩, e3.mono fun x _ hm => h6 x hm⟩
  rcases e4 x hx with h9 | h9
  · exact h6 x h9
  · exact ⟨by omega, fun hX => by have := h7 x hX; omega⟩
theorem KeepQ.len (H : KeepQ o q w0 X w h fl p) : fl.length ≤ 2 * p := by
  obtain ⟨F, h1⟩ := H.has
  exact h1.len

theorem put_Q (H : KeepQ o q w0 X w h fl p) (k z : Int) (hs : Sorted (cmpI o) fl) (hp : p ≤ 70368744177664) :
    Calls Try.prog 32 #[.pointer (some ⟨h, 0, none⟩), .int .i64 k, .int .i64 z] w fun e w' => e = .returned (.bool (!hasL (cmpI o) fl k)) ∧ KeepQ o q w0 X w' h (putL (cmpI o) fl k (.int .i64 z)) (max 16 (p + 1)) ∧ Chg (fun x => w0.heap.size ≤ x ∧ ¬ X x) w w' := by
  have hlen := H.len
  obtain ⟨lo, cl, ls, h1, rfl, h3, h4, h5, h6, h7, h8⟩ := H
  have hnl := pot_len ls
  refine (put_repC h1 k z hs (by omega) (by omega) h5).mono ?_
  rintro e w' ⟨rfl, P⟩
  exact ⟨rfl, KeepQ.post h1 h4 h5 h6 h7 h8 (P.mono (by omega))⟩
theorem del_Q (H : KeepQ o q w0 X w h fl p) (k : Int) (hs : Sorted (cmpI o) fl) (hp : p ≤ 70368744177664) :
    Calls Try.prog 31 #[.pointer (some ⟨h, 0, none⟩), .int .i64 k] w fun e w' => e = .returned (.bool (hasL (cmpI o) fl k)) ∧ KeepQ o q w0 X w' h (delL (cmpI o) fl k) p ∧ Chg (fun x => w0.heap.size ≤ x ∧ ¬ X x) w w' := by
  have hlen := H.len
  obtain ⟨lo, cl, ls, h1, rfl, h3, h4, h5, h6, h7, h8⟩ := H
  refine (del_repC h1 k hs (by omega) h5).mono ?_
  rintro e w' ⟨rfl, P⟩
  exact ⟨rfl, KeepQ.post h1 h4 h5 h6 h7 h8 (P.mono h3)⟩
theorem get_Q (H : KeepQ o q w0 X w h fl p) (k : Int) (hs : Sorted (cmpI o) fl) (hp : p ≤ 70368744177664) :
    Calls Try.prog 42 #[.pointer (some ⟨h, 0, none⟩), .int .i64 k] w fun e w' => e = .returned (.tuple #[(getL (cmpI o) fl k).getD (.int .i64 0), .bool (hasL (cmpI o) fl k)]) ∧ Chg (fun _ => False) w w' := by
  obtain ⟨F, h1⟩ := H.has
  exact get_hasC h1 k hs hp
theorem rank_Q (H : KeepQ o q w0 X w h fl p) (k : Int) (hs : Sorted (cmpI o) fl) (hp : p ≤ 70368744177664) :
    Calls Try.prog 37 #[.pointer (some ⟨h, 0, none⟩), .int .i64 k] w fun e w' => e = .returned (.int .i64 (rk (cmpI o) fl k)) ∧ ∃ n, w' = w.drewN n := by
  obtain ⟨F, h1⟩ := H.has
  exact rank_hasC h1 k hs hp
theorem len_Q (H : KeepQ o q w0 X w h fl p) :
    Calls Try.prog 36 #[.pointer (some ⟨h, 0, none⟩)] w fun e w' => e = .returned (.int .i64 fl.length) ∧ w = w' := by
  obtain ⟨F, h1⟩ := H.has
  exact len_hasC h1
theorem nth_in_Q (H : KeepQ o q w0 X w h fl p) (hp : p ≤ 70368744177664) (r : Nat) (hr : r < fl.length) :
    Calls Try.prog 41 #[.pointer (some ⟨h, 0, none⟩), .int .i64 r] w fun e w' => e = .returned (.tuple #[.int .i64 (fl[r]).1, (fl[r]).2, .bool true]) ∧ Chg (fun _ => False) w w' := by
  obtain ⟨F, h1⟩ := H.has
  exact nth_has_inC h1 hp r hr
theorem nth_out_Q (H : KeepQ o q w0 X w h fl p) (i : Int) (hi : i < 0 ∨ fl.length ≤ i) :
    Calls Try.prog 41 #[.pointer (some ⟨h, 0, none⟩), .int .i64 i] w fun e w' => e = .returned (.tuple #[.int .i64 0, .int .i64 0, .bool false]) ∧ Chg (fun _ => False) w w' := by
  obtain ⟨F, h1⟩ := H.has
  exact nth_has_outC h1 i hi
theorem all_Q (H : KeepQ o q w0 X w h fl p) (hby : 16 * fl.length ≤ 281474976710656) :
    Calls Try.prog 34 #[.pointer (some ⟨h, 0, none⟩)] w (GivesIterC w fl) := by
  obtain ⟨F, h1⟩ := H.has
  exact all_hasC h1 hby
theorem from_Q (H : KeepQ o q w0 X w h fl p) (k : Int) (hs : Sorted (cmpI o) fl) (hby : 16 * fl.length ≤ 281474976710656) :
    Calls Try.prog 38 #[.pointer (some ⟨h, 0, none⟩), .int .i64 k] w (GivesIterC w (fl.drop (rk (cmpI o) fl k))) := by
  obtain ⟨F, h1⟩ := H.has
  exact from_hasC h1 k hs hby
theorem up_Q (H : KeepQ o q w0 X w h fl p) (k : Int) (hs : Sorted (cmpI o) fl) (hby : 16 * fl.length ≤ 281474976710656) :
    Calls Try.prog 39 #[.pointer (some ⟨h, 0, none⟩), .int .i64 k] w (GivesIterC w (fl.take (upL (cmpI o) fl k)).reverse) := by
  obtain ⟨F, h1⟩ := H.has
  exact up_hasC h1 k hs hby
theorem new_Q (o : Int) (w : World) : KeepQ o w.heap.size w (fun x => x = w.heap.size) ((w.alloc (.cells #[.int .i64 o] 3)).alloc (.cells #[.func (.func 51) #[] #[.pointer (some ⟨w.heap.size, 0, none⟩)], .slice none 0 0, .int .i64 0] 111)) (w.heap.size + 1) [] 0 := by
  refine ⟨none, 0, [], BRep.new ?_, rfl, by simp [pot], rfl, ?_, by simp [blocks], by simp; omega, ((Chg.refl _ w).alloc _).alloc _⟩
  · have := Row.made (w := w.alloc (.cells #[.int .i64 o] 3)) (e := 111) (sz := 3) (cap := 1) (xs := #[.func (.func 51) #[] #[.pointer (some ⟨w.heap.size, 0, none⟩)], .slice none 0 0, .int .i64 0]) rfl (by decide)
    rw [World.size_alloc] at this
    exact this
  · rw [World.cell?_alloc_past _ _ _ (by simp), World.cell?_alloc_new]; rfl
end
end Go.Proofs.Ytdfkokbpidkokaa
