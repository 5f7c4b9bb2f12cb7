/- A bough at [string, []int] that the call made itself: it lies in blocks that were not there when the call began (in w0). -/
import Derived.Test.YtdfkokbpidkokaaHasA
namespace Go.Proofs.Ytdfkokbpidkokaa
open Go.RowKit

def LiveA (w0 w : World) (h : Nat) (fl : List (ByteArray × Value)) (p : Nat) : Prop :=
  ∃ F, HasA w h fl p F ∧ Chg (fun x => w0.heap.size ≤ x) w0 w ∧ ∀ x ∈ F, w0.heap.size ≤ x

section
variable {w0 w : World} {h : Nat} {fl : List (ByteArray × Value)} {p : Nat}

theorem LiveA.frame (H : LiveA w0 w h fl p) : Chg (fun x => w0.heap.size ≤ x) w0 w := by
  obtain ⟨F, _, h2, _⟩ := H
  exact h2
theorem LiveA.chg {w' : World} (H : LiveA w0 w h fl p) (hc : Chg (fun _ => False) w w') : LiveA w0 w' h fl p := by
  obtain ⟨F, h1, h2, h3⟩ := H
  exact ⟨F, h1.chg hc (fun _ _ h => h), h2.trans (hc.mono fun _ _ h => h.elim), h3⟩
theorem LiveA.turned {w' : World} {fl' : List (ByteArray × Value)} {p' : Nat} {F : List Nat} (h2 : Chg (fun x => w0.heap.size ≤ x) w0 w) (h3 : ∀ x ∈ F, w0.heap.size ≤ x) (T : TurnedA w h fl' p' F w') : LiveA w0 w' h fl' p' := by
  obtain ⟨F', h4, h5, h6⟩ := T
  refine ⟨F', h4, h2.then h5 (fun k hk hm => h3 k hm), fun x hx => ?_⟩
  rcases h6 x hx with h7 | h7
  · exact h3 x h7
  · have := h2.size; omega
theorem LiveA.mono {p' : Nat} (H : LiveA w0 w h fl p) (hp' : p ≤ p') : LiveA w0 w h fl p' := by
  obtain ⟨F, h1, h2, h3⟩ := H
  exact ⟨F, h1.mono hp', h2, h3⟩

theorem put_liveA (H : LiveA w0 w h fl p) (k : ByteArray) (va : Option Addr) (vn vc : Nat) (hs : Sorted (txc) fl) (hp : p ≤ 70368744177664) :
    Calls Try.prog 10 #[.pointer (some ⟨h, 0, none⟩), .string k, .slice va vn vc] w fun e w' => e = .returned (.bool (!hasL (txc) fl k)) ∧ LiveA w0 w' h (putL (txc) fl k (.slice va vn vc)) (max 16 (p + 1)) := by
  obtain ⟨F, h1, h2, h3⟩ := H
  refine (put_hasA h1 k va vn vc hs hp).mono ?_
  rintro e w' ⟨rfl, T⟩
  exact ⟨rfl, LiveA.turned h2 h3 T⟩
theorem del_liveA (H : LiveA w0 w h fl p) (k : ByteArray) (hs : Sorted (txc) fl) (hp : p ≤ 70368744177664) :
    Calls Try.prog 12 #[.pointer (some ⟨h, 0, none⟩), .string k] w fun e w' => e = .returned (.bool (hasL (txc) fl k)) ∧ LiveA w0 w' h (delL (txc) fl k) p := by
  obtain ⟨F, h1, h2, h3⟩ := H
  refine (del_hasA h1 k hs hp).mono ?_
  rintro e w' ⟨rfl, T⟩
  exact ⟨rfl, LiveA.turned h2 h3 T⟩
theorem get_liveA (H : LiveA w0 w h fl p) (k : ByteArray) (hs : Sorted (txc) fl) (hp : p ≤ 70368744177664) :
    Calls Try.prog 14 #[.pointer (some ⟨h, 0, none⟩), .string k] w fun e w' => e = .returned (.tuple #[(getL (txc) fl k).getD (.slice none 0 0), .bool (hasL (txc) fl k)]) ∧ LiveA w0 w' h fl p := by
  obtain ⟨F, h1, h2, h3⟩ := id H
  refine (get_hasA h1 k hs hp).mono ?_
  rintro e w' ⟨rfl, T⟩
  exact ⟨rfl, H.chg T⟩
theorem rank_liveA (H : LiveA w0 w h fl p) (k : ByteArray) (hs : Sorted (txc) fl) (hp : p ≤ 70368744177664) :
    Calls Try.prog 17 #[.pointer (some ⟨h, 0, none⟩), .string k] w fun e w' => e = .returned (.int .i64 (rk (txc) fl k)) ∧ LiveA w0 w' h fl p := by
  obtain ⟨F, h1, h2, h3⟩ := id H
  refine (rank_hasA h1 k hs hp).mono ?_
  rintro e w' ⟨rfl, n, rfl⟩
  exact ⟨rfl, H.chg ((Chg.refl _ w).drewN n)⟩
theorem len_liveA (H : LiveA w0 w h fl p) :
    Calls Try.prog 19 #[.pointer (some ⟨h, 0, none⟩)] w fun e w' => e = .returned (.int .i64 fl.length) ∧ LiveA w0 w' h fl p := by
  obtain ⟨F, h1, h2, h3⟩ := id H
  refine (len_hasA h1).mono ?_
  rintro e w' ⟨rfl, rfl⟩
  exact ⟨rfl, H⟩
theorem new_liveA (w : World) : LiveA w (w.alloc (.cells #[.func (.func 9) #[] #[], .slice none 0 0, .int .i64 0] 90)) w.heap.size [] 0 := by
  refine ⟨[w.heap.size], ⟨none, 0, [], BRep.new ?_, rfl, by simp [pot], rfl⟩, (Chg.refl _ w).alloc _, by simp⟩
  exact Row.made (w := w) (e := 90) (sz := 3) (cap := 1) (xs := #[.func (.func 9) #[] #[], .slice none 0 0, .int .i64 0]) rfl (by decide)

end
end Go.Proofs.Ytdfkokbpidkokaa
