/- bough.Nth at [int, string]. -/
import Derived.Test.YtdfkokbpidkokaaHasB
namespace Go.Proofs.Ytdfkokbpidkokaa
open Go.RowKit

set_option maxRecDepth 20000 in
set_option maxHeartbeats 1000000 in
theorem nth_inB {w : World} {cv : Value} {h : Nat} {lo : Option Nat} {cl : Nat} {ls : List (Leaf Int Value)} (R : RepB w cv h lo cl ls) (r : Nat) (hr : r < (flat ls).length) (hsz : (flat ls).length ≤ 4611686018427387903) :
    Calls Try.prog 44 #[.pointer (some ⟨h, 0, none⟩), .int .i64 r] w fun e w' => e = .returned (.tuple #[.int .i64 ((flat ls)[r]).1, ((flat ls)[r]).2, .bool true]) ∧ Chg (fun _ => False) w w' := by
  have hch : Chg (fun _ => False) w (w.alloc (.cells #[.int .i64 0, .string ⟨#[]⟩] 120)) := (Chg.refl _ w).alloc _
  have R1 : RepB (w.alloc (.cells #[.int .i64 0, .string ⟨#[]⟩] 120)) cv h lo cl ls := R.chg hch (fun _ _ h => h)
  have hnl := R1.nl_le
  have hpos : 0 < ls.length := by
    cases ls with
    | nil => simp at hr
    | cons l ls => simp
  obtain ⟨L, rfl⟩ := R1.some_of hpos
  have hc2 := R1.c2
  have hc1 := R1.c1s
  have HR := Lib.hid R1; clear R1 R
  have HCH := Lib.hid hch; clear hch
  have t1 : decide ((r : Int) < 0) = false := by simp
  have t2 : decide ((flat ls).length ≤ r) = false := by simp; omega
  have HFG : Hid (∀ (j B : Nat) (hj : j < ls.length) (hB : B < (ls[j]).ps.length), r = off ls j + B → (flat ls)[r] = (ls[j]).ps[B]) := by
    intro j B hj hB e
    have := flat_get hj hB
    subst e
    rw [List.getElem?_eq_getElem (by omega)] at this
    exact Option.some.inj this
  have HOL : Hid (∀ j (hj : j < ls.length), off ls (j + 1) = off ls j + (ls[j]'hj).ps.length) := fun j hj => off_succ hj
  have HOA := Lib.hid (off_all ls)
  go_enter Try.func44, Try.ntmps44
  go_wp2
  clear hc1 hc2 t1 t2
  go_loopw [1, 38] (fun iv jv wr => ∃ j : Nat, jv = .int .i64 j ∧ j ≤ ls.length ∧ off ls j ≤ r ∧ iv = .int .i64 ((r - off ls j : Nat) : Int) ∧ wr = w.alloc (.cells #[.int .i64 0, .string ⟨#[]⟩] 120))
    (fun _ jv _ => (ls.length - intOf jv).toNat)
  case atStart => exact ⟨0, rfl, Nat.zero_le _, by rw [off_zero]; omega, by rw [off_zero]; rfl, rfl⟩
  case round =>
    obtain ⟨j, rfl, hj, hoj, rfl, hwr⟩ := hrel
    have hlt : j < ls.length := by
      rcases Nat.lt_or_ge j ls.length with h1 | h1
      · exact h1
      · obtain rfl : j = ls.length := by omega
        have := HOA.out; omega
    have hR : RepB wr cv h (some L) cl ls := by rw [hwr]; exact HR.out
    have hc2 : wr.cell? ⟨L, j, none⟩ = some (.slice (some ⟨(ls[j]).b, 0, none⟩) (ls[j]).ps.length (ls[j]).c) := hR.leaf hlt
    have hos := HOL.out j hlt
    have hpl := hR.pos hlt
    have hol := off_le ls (j + 1)
    have hchr : Chg (fun _ => False) w wr := by rw [hwr]; exact HCH.out
    have HCR := Lib.hid hchr; clear hchr
    have HW := Lib.hid hwr; clear hwr
    by_cases hin : r - off ls j < (ls[j]).ps.length
    · have hk := hR.key hlt hin
      have hv := hR.val hlt hin
      have hfg := HFG.out j (r - off ls j) hlt hin (by omega)
      have HG := Lib.hid hfg; clear hfg
      have b1 : ((r - off ls j : Nat) : Int) < (ls[j]).ps.length := by omega
      have b2 : (0 : Int) ≤ ((r - off ls j : Nat) : Int) := by omega
      clear hR hos hol
      generalize (ls[j]).ps[r - off ls j] = pr at *
      generalize hB : r - off ls j = B at *
      clear hB
      go_wp2
      go_quiet (fail)
      go_wp2
      go_ret3
      exact ⟨by rw [HG.out]; rfl, HCR.out.drewN nq⟩
    · have b3 : (ls[j]).ps.length ≤ r - off ls j := by omega
      have b4 : off ls (j + 1) ≤ r := by omega
      have b5 : r - off ls (j + 1) = r - off ls j - (ls[j]).ps.length := by omega
      have B4 := Lib.hid b4
      have B5 := Lib.hid b5
      clear b4 b5 hR hos hol
      generalize hB : r - off ls j = B at *
      have HB := Lib.hid hB; clear hB
      have hB2 : B ≤ 4611686018427387903 := by have := HB.out; omega
      go_wp2
      go_roundw
      case rel => exact ⟨j + 1, by go_num, hlt, B4.out, by rw [B5.out]; congr 1; omega, HW.out⟩
      case measure => simp [intOf]; omega

set_option maxRecDepth 20000 in
set_option maxHeartbeats 1000000 in
theorem nth_outB {w : World} {cv : Value} {h : Nat} {lo : Option Nat} {cl : Nat} {ls : List (Leaf Int Value)} (R : RepB w cv h lo cl ls) (i : Int) (hi : i < 0 ∨ (flat ls).length ≤ i) :
    Calls Try.prog 44 #[.pointer (some ⟨h, 0, none⟩), .int .i64 i] w fun e w' => e = .returned (.tuple #[.int .i64 0, .string ⟨#[]⟩, .bool false]) ∧ Chg (fun _ => False) w w' := by
  have hch : Chg (fun _ => False) w (w.alloc (.cells #[.int .i64 0, .string ⟨#[]⟩] 120)) := (Chg.refl _ w).alloc _
  have R1 : RepB (w.alloc (.cells #[.int .i64 0, .string ⟨#[]⟩] 120)) cv h lo cl ls := R.chg hch (fun _ _ h => h)
  have hc2 := R1.c2
  have hlt := R.hdr.lt
  have HCH := Lib.hid hch; clear hch
  clear R1 R
  by_cases hn : i < 0
  · have t1 : decide (i < 0) = true := by simpa using hn
    clear hi
    go_enter Try.func44, Try.ntmps44
    go_wp2
    go_quiet (fail)
    go_wp2
    go_ret3
    exact ⟨rfl, HCH.out.drewN nq⟩
  · have t1 : decide (i < 0) = false := by simpa using hn
    have hi2 : (flat ls).length ≤ i := by omega
    have t2 : decide (((flat ls).length : Int) ≤ i) = true := by simpa using hi2
    clear hi
    go_enter Try.func44, Try.ntmps44
    go_wp2
    go_quiet (fail)
    go_wp2
    go_ret3
    exact ⟨rfl, HCH.out.drewN nq⟩

theorem nth_has_inB {o : Int} {w : World} {h : Nat} {fl : List (Int × Value)} {p : Nat} {F : List Nat} (H : HasB o w h fl p F) (hp : p ≤ 70368744177664) (r : Nat) (hr : r < fl.length) :
    Calls Try.prog 44 #[.pointer (some ⟨h, 0, none⟩), .int .i64 r] w fun e w' => e = .returned (.tuple #[.int .i64 (fl[r]).1, (fl[r]).2, .bool true]) ∧ Chg (fun _ => False) w w' := by
  have hlen := H.len
  obtain ⟨q, lo, cl, ls, R, rfl, hpp, rfl, hq, hqn⟩ := H
  exact nth_inB R r hr (by omega)

theorem nth_has_outB {o : Int} {w : World} {h : Nat} {fl : List (Int × Value)} {p : Nat} {F : List Nat} (H : HasB o w h fl p F) (i : Int) (hi : i < 0 ∨ fl.length ≤ i) :
    Calls Try.prog 44 #[.pointer (some ⟨h, 0, none⟩), .int .i64 i] w fun e w' => e = .returned (.tuple #[.int .i64 0, .string ⟨#[]⟩, .bool false]) ∧ Chg (fun _ => False) w w' := by
  obtain ⟨q, lo, cl, ls, R, rfl, hpp, rfl, hq, hqn⟩ := H
  exact nth_outB R i hi

/-- a bough without a pair, just made: its order's number in a block of its own -/
theorem new_hasB (o : Int) (w : World) : HasB o ((w.alloc (.cells #[.int .i64 o] 3)).alloc (.cells #[.func (.func 51) #[] #[.pointer (some ⟨w.heap.size, 0, none⟩)], .slice none 0 0, .int .i64 0] 99)) (w.heap.size + 1) [] 0 [w.heap.size, w.heap.size + 1] := by
  refine ⟨w.heap.size, none, 0, [], BRep.new ?_, rfl, by simp [pot], rfl, ?_, by simp [blocks]⟩
  · have := Row.made (w := w.alloc (.cells #[.int .i64 o] 3)) (e := 99) (sz := 3) (cap := 1) (xs := #[.func (.func 51) #[] #[.pointer (some ⟨w.heap.size, 0, none⟩)], .slice none 0 0, .int .i64 0]) rfl (by decide)
    rw [World.size_alloc] at this
    exact this
  · rw [World.cell?_alloc_past _ _ _ (by simp), World.cell?_alloc_new]; rfl
end Go.Proofs.Ytdfkokbpidkokaa
