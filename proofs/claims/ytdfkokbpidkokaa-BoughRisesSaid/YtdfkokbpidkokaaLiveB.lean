/- A bough at [int, string] that the call made itself: it lies in blocks that were not there when the call began (in w0). -/
import Derived.Test.YtdfkokbpidkokaaNthB
namespace Go.Proofs.Ytdfkokbpidkokaa
open Go.RowKit

def LiveB (o : Int) (w0 w : World) (h : Nat) (fl : List (Int × Value)) (p : Nat) : Prop :=
  ∃ F, HasB o w h fl p F ∧ Chg (fun x => w0.heap.size ≤ x) w0 w ∧ ∀ x ∈ F, w0.heap.size ≤ x

section
variable {o : Int} {w0 w : World} {h : Nat} {fl : List (Int × Value)} {p : Nat}

theorem LiveB.frame (H : LiveB o w0 w h fl p) : Chg (fun x => w0.heap.size ≤ x) w0 w := by
  obtain ⟨F, _, h2, _⟩ := H
  exact h2
theorem LiveB.chg {w' : World} (H : LiveB o w0 w h fl p) (hc : Chg (fun _ => False) w w') : LiveB o w0 w' h fl p := by
  obtain ⟨F, h1, h2, h3⟩ := H
  exact ⟨F, h1.chg hc (fun _ _ h => h), h2.trans (hc.mono fun _ _ h => h.elim), h3⟩
theorem LiveB.turned {w' : World} {fl' : List (Int × Value)} {p' : Nat} {F : List Nat} (h2 : Chg (fun x => w0.heap.size ≤ x) w0 w) (h3 : ∀ x ∈ F, w0.heap.size ≤ x) (T : TurnedB o w h fl' p' F w') : LiveB o w0 w' h fl' p' := by
  obtain ⟨F', h4, h5, h6⟩ := T
  refine ⟨F', h4, h2.then h5 (fun k hk hm => h3 k hm), fun x hx => ?_⟩
  rcases h6 x hx with h7 | h7
  · exact h3 x h7
  · have := h2.size; omega
theorem LiveB.mono {p' : Nat} (H : LiveB o w0 w h fl p) (hp' : p ≤ p') : LiveB o w0 w h fl p' := by
  obtain ⟨F, h1, h2, h3⟩ := H
  exact ⟨F, h1.mono hp', h2, h3⟩

theorem put_liveB (H : LiveB o w0 w h fl p) (k : Int) (s : ByteArray) (hs : Sorted (cmpI o) fl) (hp : p ≤ 70368744177664) :
    Calls Try.prog 47 #[.pointer (some ⟨h, 0, none⟩), .int .i64 k, .string s] w fun e w' => e = .returned (.bool (!hasL (cmpI o) fl k)) ∧ LiveB o w0 w' h (putL (cmpI o) fl k (.string s)) (max 16 (p + 1)) := by
  obtain ⟨F, h1, h2, h3⟩ := H
  refine (put_hasB h1 k s hs hp).mono ?_
  rintro e w' ⟨rfl, T⟩
  exact ⟨rfl, LiveB.turned h2 h3 T⟩
theorem del_liveB (H : LiveB o w0 w h fl p) (k : Int) (hs : Sorted (cmpI o) fl) (hp : p ≤ 70368744177664) :
    Calls Try.prog 48 #[.pointer (some ⟨h, 0, none⟩), .int .i64 k] w fun e w' => e = .returned (.bool (hasL (cmpI o) fl k)) ∧ LiveB o w0 w' h (delL (cmpI o) fl k) p := by
  obtain ⟨F, h1, h2, h3⟩ := H
  refine (del_hasB h1 k hs hp).mono ?_
  rintro e w' ⟨rfl, T⟩
  exact ⟨rfl, LiveB.turned h2 h3 T⟩
theorem get_liveB (H : LiveB o w0 w h fl p) (k : Int) (hs : Sorted (cmpI o) fl) (hp : p ≤ 70368744177664) :
    Calls Try.prog 43 #[.pointer (some ⟨h, 0, none⟩), .int .i64 k] w fun e w' => e = .returned (.tuple #[(getL (cmpI o) fl k).getD (.string ByteArray.empty), .bool (hasL (cmpI o) fl k)]) ∧ LiveB o w0 w' h fl p := by
  obtain ⟨F, h1, h2, h3⟩ := id H
  refine (get_hasB h1 k hs hp).mono ?_
  rintro e w' ⟨rfl, T⟩
  exact ⟨rfl, H.chg T⟩
theorem rank_liveB (H : LiveB o w0 w h fl p) (k : Int) (hs : Sorted (cmpI o) fl) (hp : p ≤ 70368744177664) :
    Calls Try.prog 49 #[.pointer (some ⟨h, 0, none⟩), .int .i64 k] w fun e w' => e = .returned (.int .i64 (rk (cmpI o) fl k)) ∧ LiveB o w0 w' h fl p := by
  obtain ⟨F, h1, h2, h3⟩ := id H
  refine (rank_hasB h1 k hs hp).mono ?_
  rintro e w' ⟨rfl, n, rfl⟩
  exact ⟨rfl, H.chg ((Chg.refl _ w).drewN n)⟩
theorem len_liveB (H : LiveB o w0 w h fl p) :
    Calls Try.prog 28 #[.pointer (some ⟨h, 0, none⟩)] w fun e w' => e = .returned (.int .i64 fl.length) ∧ LiveB o w0 w' h fl p := by
  obtain ⟨F, h1, h2, h3⟩ := id H
  refine (len_hasB h1).mono ?_
  rintro e w' ⟨rfl, rfl⟩
  exact ⟨rfl, H⟩
theorem nth_live_inB (H : LiveB o w0 w h fl p) (hp : p ≤ 70368744177664) (r : Nat) (hr : r < fl.length) :
    Calls Try.prog 44 #[.pointer (some ⟨h, 0, none⟩), .int .i64 r] w fun e w' => e = .returned (.tuple #[.int .i64 (fl[r]).1, (fl[r]).2, .bool true]) ∧ LiveB o w0 w' h fl p := by
  obtain ⟨F, h1, h2, h3⟩ := id H
  refine (nth_has_inB h1 hp r hr).mono ?_
  rintro e w' ⟨rfl, T⟩
  exact ⟨rfl, H.chg T⟩
theorem nth_live_outB (H : LiveB o w0 w h fl p) (i : Int) (hi : i < 0 ∨ fl.length ≤ i) :
    Calls Try.prog 44 #[.pointer (some ⟨h, 0, none⟩), .int .i64 i] w fun e w' => e = .returned (.tuple #[.int .i64 0, .string ⟨#[]⟩, .bool false]) ∧ LiveB o w0 w' h fl p := by
  obtain ⟨F, h1, h2, h3⟩ := id H
  refine (nth_has_outB h1 i hi).mono ?_
  rintro e w' ⟨rfl, T⟩
  exact ⟨rfl, H.chg T⟩
theorem all_liveB (H : LiveB o w0 w h fl p) (hby : 24 * fl.length ≤ 281474976710656) :
    Calls Try.prog 26 #[.pointer (some ⟨h, 0, none⟩)] w fun e w' => GivesIterB w fl e w' ∧ LiveB o w0 w' h fl p := by
  obtain ⟨F, h1, h2, h3⟩ := id H
  refine (all_hasB h1 hby).mono ?_
  rintro e w' ⟨q, g, he, r⟩
  exact ⟨⟨q, g, he, r⟩, H.chg r.2.2.2.2.2⟩
theorem from_liveB (H : LiveB o w0 w h fl p) (k : Int) (hs : Sorted (cmpI o) fl) (hby : 24 * fl.length ≤ 281474976710656) :
    Calls Try.prog 45 #[.pointer (some ⟨h, 0, none⟩), .int .i64 k] w fun e w' => GivesIterB w (fl.drop (rk (cmpI o) fl k)) e w' ∧ LiveB o w0 w' h fl p := by
  obtain ⟨F, h1, h2, h3⟩ := id H
  refine (from_hasB h1 k hs hby).mono ?_
  rintro e w' ⟨q, g, he, r⟩
  exact ⟨⟨q, g, he, r⟩, H.chg r.2.2.2.2.2⟩
theorem new_liveB (o : Int) (w : World) : LiveB o w ((w.alloc (.cells #[.int .i64 o] 3)).alloc (.cells #[.func (.func 51) #[] #[.pointer (some ⟨w.heap.size, 0, none⟩)], .slice none 0 0, .int .i64 0] 99)) (w.heap.size + 1) [] 0 :=
  ⟨_, new_hasB o w, ((Chg.refl _ w).alloc _).alloc _, by simp⟩

end
end Go.Proofs.Ytdfkokbpidkokaa
