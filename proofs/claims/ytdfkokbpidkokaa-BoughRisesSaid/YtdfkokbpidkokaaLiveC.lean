/- A bough at [int, int] that the call made itself: it lies in blocks that were not there when the call began (in w0). -/
import Derived.Test.YtdfkokbpidkokaaNthC
namespace Go.Proofs.Ytdfkokbpidkokaa
open Go.RowKit

def LiveC (o : Int) (w0 w : World) (h : Nat) (fl : List (Int × Value)) (p : Nat) : Prop :=
  ∃ F, HasC o w h fl p F ∧ Chg (fun x => w0.heap.size ≤ x) w0 w ∧ ∀ x ∈ F, w0.heap.size ≤ x

section
variable {o : Int} {w0 w : World} {h : Nat} {fl : List (Int × Value)} {p : Nat}

theorem LiveC.frame (H : LiveC o w0 w h fl p) : Chg (fun x => w0.heap.size ≤ x) w0 w := by
  obtain ⟨F, _, h2, _⟩ := H
  exact h2
theorem LiveC.chg {w' : World} (H : LiveC o w0 w h fl p) (hc : Chg (fun _ => False) w w') : LiveC o w0 w' h fl p := by
  obtain ⟨F, h1, h2, h3⟩ := H
  exact ⟨F, h1.chg hc (fun _ _ h => h), h2.trans (hc.mono fun _ _ h => h.elim), h3⟩
theorem LiveC.turned {w' : World} {fl' : List (Int × Value)} {p' : Nat} {F : List Nat} (h2 : Chg (fun x => w0.heap.size ≤ x) w0 w) (h3 : ∀ x ∈ F, w0.heap.size ≤ x) (T : TurnedC o w h fl' p' F w') : LiveC o w0 w' h fl' p' := by
  obtain ⟨F', h4, h5, h6⟩ := T
  refine ⟨F', h4, h2.then h5 (fun k hk hm => h3 k hm), fun x hx => ?_⟩
  rcases h6 x hx with h7 | h7
  · exact h3 x h7
  · have := h2.size; omega
theorem LiveC.mono {p' : Nat} (H : LiveC o w0 w h fl p) (hp' : p ≤ p') : LiveC o w0 w h fl p' := by
  obtain ⟨F, h1, h2, h3⟩ := H
  exact ⟨F, h1.mono hp', h2, h3⟩

theorem put_liveC (H : LiveC o w0 w h fl p) (k : Int) (z : Int) (hs : Sorted (cmpI o) fl) (hp : p ≤ 70368744177664) :
    Calls Try.prog 32 #[.pointer (some ⟨h, 0, none⟩), .int .i64 k, .int .i64 z] w fun e w' => e = .returned (.bool (!hasL (cmpI o) fl k)) ∧ LiveC o w0 w' h (putL (cmpI o) fl k (.int .i64 z)) (max 16 (p + 1)) := by
  obtain ⟨F, h1, h2, h3⟩ := H
  refine (put_hasC h1 k z hs hp).mono ?_
  rintro e w' ⟨rfl, T⟩
  exact ⟨rfl, LiveC.turned h2 h3 T⟩
theorem del_liveC (H : LiveC o w0 w h fl p) (k : Int) (hs : Sorted (cmpI o) fl) (hp : p ≤ 70368744177664) :
    Calls Try.prog 31 #[.pointer (some ⟨h, 0, none⟩), .int .i64 k] w fun e w' => e = .returned (.bool (hasL (cmpI o) fl k)) ∧ LiveC o w0 w' h (delL (cmpI o) fl k) p := by
  obtain ⟨F, h1, h2, h3⟩ := H
  refine (del_hasC h1 k hs hp).mono ?_
  rintro e w' ⟨rfl, T⟩
  exact ⟨rfl, LiveC.turned h2 h3 T⟩
theorem get_liveC (H : LiveC o w0 w h fl p) (k : Int) (hs : Sorted (cmpI o) fl) (hp : p ≤ 70368744177664) :
    Calls Try.prog 42 #[.pointer (some ⟨h, 0, none⟩), .int .i64 k] w fun e w' => e = .returned (.tuple #[(getL (cmpI o) fl k).getD (.int .i64 0), .bool (hasL (cmpI o) fl k)]) ∧ LiveC o w0 w' h fl p := by
  obtain ⟨F, h1, h2, h3⟩ := id H
  refine (get_hasC h1 k hs hp).mono ?_
  rintro e w' ⟨rfl, T⟩
  exact ⟨rfl, H.chg T⟩
theorem rank_liveC (H : LiveC o w0 w h fl p) (k : Int) (hs : Sorted (cmpI o) fl) (hp : p ≤ 70368744177664) :
    Calls Try.prog 37 #[.pointer (some ⟨h, 0, none⟩), .int .i64 k] w fun e w' => e = .returned (.int .i64 (rk (cmpI o) fl k)) ∧ LiveC o w0 w' h fl p := by
  obtain ⟨F, h1, h2, h3⟩ := id H
  refine (rank_hasC h1 k hs hp).mono ?_
  rintro e w' ⟨rfl, n, rfl⟩
  exact ⟨rfl, H.chg ((Chg.refl _ w).drewN n)⟩
theorem len_liveC (H : LiveC o w0 w h fl p) :
    Calls Try.prog 36 #[.pointer (some ⟨h, 0, none⟩)] w fun e w' => e = .returned (.int .i64 fl.length) ∧ LiveC o w0 w' h fl p := by
  obtain ⟨F, h1, h2, h3⟩ := id H
  refine (len_hasC h1).mono ?_
  rintro e w' ⟨rfl, rfl⟩
  exact ⟨rfl, H⟩
theorem nth_live_inC (H : LiveC o w0 w h fl p) (hp : p ≤ 70368744177664) (r : Nat) (hr : r < fl.length) :
    Calls Try.prog 41 #[.pointer (some ⟨h, 0, none⟩), .int .i64 r] w fun e w' => e = .returned (.tuple #[.int .i64 (fl[r]).1, (fl[r]).2, .bool true]) ∧ LiveC o w0 w' h fl p := by
  obtain ⟨F, h1, h2, h3⟩ := id H
  refine (nth_has_inC h1 hp r hr).mono ?_
  rintro e w' ⟨rfl, T⟩
  exact ⟨rfl, H.chg T⟩
theorem nth_live_outC (H : LiveC o w0 w h fl p) (i : Int) (hi : i < 0 ∨ fl.length ≤ i) :
    Calls Try.prog 41 #[.pointer (some ⟨h, 0, none⟩), .int .i64 i] w fun e w' => e = .returned (.tuple #[.int .i64 0, .int .i64 0, .bool false]) ∧ LiveC o w0 w' h fl p := by
  obtain ⟨F, h1, h2, h3⟩ := id H
  refine (nth_has_outC h1 i hi).mono ?_
  rintro e w' ⟨rfl, T⟩
  exact ⟨rfl, H.chg T⟩
theorem all_liveC (H : LiveC o w0 w h fl p) (hby : 16 * fl.length ≤ 281474976710656) :
    Calls Try.prog 34 #[.pointer (some ⟨h, 0, none⟩)] w fun e w' => GivesIterC w fl e w' ∧ LiveC o w0 w' h fl p := by
  obtain ⟨F, h1, h2, h3⟩ := id H
  refine (all_hasC h1 hby).mono ?_
  rintro e w' ⟨q, g, he, r⟩
  exact ⟨⟨q, g, he, r⟩, H.chg r.2.2.2.2.2⟩
theorem from_liveC (H : LiveC o w0 w h fl p) (k : Int) (hs : Sorted (cmpI o) fl) (hby : 16 * fl.length ≤ 281474976710656) :
    Calls Try.prog 38 #[.pointer (some ⟨h, 0, none⟩), .int .i64 k] w fun e w' => GivesIterC w (fl.drop (rk (cmpI o) fl k)) e w' ∧ LiveC o w0 w' h fl p := by
  obtain ⟨F, h1, h2, h3⟩ := id H
  refine (from_hasC h1 k hs hby).mono ?_
  rintro e w' ⟨q, g, he, r⟩
  exact ⟨⟨q, g, he, r⟩, H.chg r.2.2.2.2.2⟩
theorem new_liveC (o : Int) (w : World) : LiveC o w ((w.alloc (.cells #[.int .i64 o] 3)).alloc (.cells #[.func (.func 51) #[] #[.pointer (some ⟨w.heap.size, 0, none⟩)], .slice none 0 0, .int .i64 0] 111)) (w.heap.size + 1) [] 0 :=
  ⟨_, new_hasC o w, ((Chg.refl _ w).alloc _).alloc _, by simp⟩

end
end Go.Proofs.Ytdfkokbpidkokaa
