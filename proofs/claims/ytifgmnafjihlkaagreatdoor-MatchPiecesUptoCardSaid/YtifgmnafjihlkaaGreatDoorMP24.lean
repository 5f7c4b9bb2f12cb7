/- Part 24 of the walks and plain laws, joined: MatSmall, MatWake, LaidX, JoinMk, FactX, OpenB. -/
import Derived.Test.YtifgmnafjihlkaaGreatDoorMP15
import Derived.Test.YtifgmnafjihlkaaGreatDoorMP20
import Derived.Test.YtifgmnafjihlkaaGreatDoorMP23
import Derived.Test.YtifgmnafjihlkaaGreatDoorRows
import Derived.Test.YtifgmnafjihlkaaGreatDoorMP06
import Derived.Test.YtifgmnafjihlkaaGreatDoorCards
import Derived.Test.YtifgmnafjihlkaaGreatDoorMP07
import Derived.Deep.DeepWitnessRowRef
import Derived.JoinedCond
import Derived.WalkKit
import Derived.SevenTiedAt
import Derived.Deep.Slices
import Derived.Deep.Fields
import Derived.WideShapes
import Derived.ChangeArms
import Derived.Lib.Strings
/- rosterlaw07.small: the schema that wakes makes. -/
namespace Go.Proofs.YtifgmnafjihlkaaGreatDoor
open Go Go.RowKit Go.Maps

def smT0 : PType := ⟨⟨#[50, 46, 53, 46, 52, 46, 48]⟩, [⟨#[111, 98, 106, 101, 99, 116, 67, 108, 97, 115, 115]⟩], ⟨#[]⟩, 8, 20, 0, 0, false, 0⟩
def smT1 : PType := ⟨⟨#[50, 46, 53, 46, 52, 46, 51]⟩, [⟨#[99, 110]⟩], ⟨#[]⟩, 0, 1, 2, 3, false, 0⟩
def smallS : PSchema := ⟨[smT0, smT1], []⟩
theorem small_new : newE smallS = (0, 0) := by decide +kernel
theorem small_syn : (typeI smallS 1).syn = 0 := by decide +kernel
theorem small_eq : (typeI smallS 1).eq = 1 := by decide +kernel
def SmallPost (w : World) (e : Ending) (w' : World) : Prop :=
  ∃ a, e = .returned (.agg #[.slice a 2 2, .slice none 0 0]) ∧ Types w'.heap.size w' a 2 2 smallS.types ∧ Below w.heap.size w w'

theorem one_text {w : World} {b : Nat} {s : ByteArray} (hc : w.cell? ⟨b, 0, none⟩ = some (.string s)) (hs : s.size ≤ 4294967280) : Texts w.heap.size w (some ⟨b, 0, none⟩) 1 1 [s] :=
  ⟨rfl, ⟨Nat.le_refl _, by unfold maxLen; omega, (fun h => by cases h), (fun ad h _ => by cases h; exact World.block_lt_of_cell? w _ hc), (fun ad h _ => by cases h; rfl)⟩, by omega, (fun b' o h i x hx => by
    cases h
    cases i with
    | zero => simp at hx; subst hx; exact hc
    | succ i => simp at hx), (fun x hx => by simp at hx; subst hx; exact hs)⟩

set_option maxRecDepth 20000 in
theorem small_any7 (w : World) : Calls Tryz.prog 76 #[] w (SmallPost w) := by
  go_enter Tryz.func76, Tryz.ntmps76
  go_wp2_with fail
  refine bodyPost_ret (v := .agg #[.slice (some ⟨w.heap.size + 1 + 1 + 1, 0, none⟩) 2 2, .slice none 0 0]) (by simp [results, Tryz.results76, go_sem]) rfl ?_
  have hb1 : Below w.heap.size w (w.alloc (.cells #[.slice (some ⟨w.heap.size + 1 + 1 + 1, 0, none⟩) 2 2, .slice none 0 0] 38)) := (Below.refl _ w).alloc (Nat.le_refl _) _
  have hz1 : (w.alloc (.cells #[.slice (some ⟨w.heap.size + 1 + 1 + 1, 0, none⟩) 2 2, .slice none 0 0] 38)).heap.size = w.heap.size + 1 := by simp
  generalize w.alloc (.cells #[.slice (some ⟨w.heap.size + 1 + 1 + 1, 0, none⟩) 2 2, .slice none 0 0] 38) = w1 at hb1 hz1 ⊢
  have hc1 := World.cell?_alloc_new w1 #[.string ⟨#[111, 98, 106, 101, 99, 116, 67, 108, 97, 115, 115]⟩] 9 0
  have hk2 : Below w1.heap.size w1 (w1.alloc (.cells #[.string ⟨#[111, 98, 106, 101, 99, 116, 67, 108, 97, 115, 115]⟩] 9)) := (Below.refl _ w1).alloc (Nat.le_refl _) _
  have hz2 : (w1.alloc (.cells #[.string ⟨#[111, 98, 106, 101, 99, 116, 67, 108, 97, 115, 115]⟩] 9)).heap.size = w.heap.size + 1 + 1 := by simp [hz1]
  generalize w1.alloc (.cells #[.string ⟨#[111, 98, 106, 101, 99, 116, 67, 108, 97, 115, 115]⟩] 9) = w2 at hc1 hk2 hz2 ⊢
  have hc2 := World.cell?_alloc_new w2 #[.string ⟨#[99, 110]⟩] 9 0
  have hk3 : Below w2.heap.size w2 (w2.alloc (.cells #[.string ⟨#[99, 110]⟩] 9)) := (Below.refl _ w2).alloc (Nat.le_refl _) _
  have hz3 : (w2.alloc (.cells #[.string ⟨#[99, 110]⟩] 9)).heap.size = w.heap.size + 1 + 1 + 1 := by simp [hz2]
  generalize w2.alloc (.cells #[.string ⟨#[99, 110]⟩] 9) = w3 at hc2 hk3 hz3 ⊢
  have hc3 : ∀ j v, (#[.string ⟨#[50, 46, 53, 46, 52, 46, 48]⟩, .slice (some ⟨w.heap.size + 1, 0, none⟩) 1 1, .string ⟨#[]⟩, .int .i8 8, .int .i8 20, .int .i8 0, .int .i8 0, .bool false, .int .u8 0, .string ⟨#[50, 46, 53, 46, 52, 46, 51]⟩, .slice (some ⟨w.heap.size + 1 + 1, 0, none⟩) 1 1, .string ⟨#[]⟩, .int .i8 0, .int .i8 1, .int .i8 2, .int .i8 3, .bool false, .int .u8 0] : Array Value)[j]? = some v → (w3.alloc (.cells #[.string ⟨#[50, 46, 53, 46, 52, 46, 48]⟩, .slice (some ⟨w.heap.size + 1, 0, none⟩) 1 1, .string ⟨#[]⟩, .int .i8 8, .int .i8 20, .int .i8 0, .int .i8 0, .bool false, .int .u8 0, .string ⟨#[50, 46, 53, 46, 52, 46, 51]⟩, .slice (some ⟨w.heap.size + 1 + 1, 0, none⟩) 1 1, .string ⟨#[]⟩, .int .i8 0, .int .i8 1, .int .i8 2, .int .i8 3, .bool false, .int .u8 0] 48)).cell? ⟨w3.heap.size, j, none⟩ = some v := fun j v h => by rw [World.cell?_alloc_new]; exact h
  have hk4 : Below w3.heap.size w3 (w3.alloc (.cells #[.string ⟨#[50, 46, 53, 46, 52, 46, 48]⟩, .slice (some ⟨w.heap.size + 1, 0, none⟩) 1 1, .string ⟨#[]⟩, .int .i8 8, .int .i8 20, .int .i8 0, .int .i8 0, .bool false, .int .u8 0, .string ⟨#[50, 46, 53, 46, 52, 46, 51]⟩, .slice (some ⟨w.heap.size + 1 + 1, 0, none⟩) 1 1, .string ⟨#[]⟩, .int .i8 0, .int .i8 1, .int .i8 2, .int .i8 3, .bool false, .int .u8 0] 48)) := (Below.refl _ w3).alloc (Nat.le_refl _) _
  have hz4 : (w3.alloc (.cells #[.string ⟨#[50, 46, 53, 46, 52, 46, 48]⟩, .slice (some ⟨w.heap.size + 1, 0, none⟩) 1 1, .string ⟨#[]⟩, .int .i8 8, .int .i8 20, .int .i8 0, .int .i8 0, .bool false, .int .u8 0, .string ⟨#[50, 46, 53, 46, 52, 46, 51]⟩, .slice (some ⟨w.heap.size + 1 + 1, 0, none⟩) 1 1, .string ⟨#[]⟩, .int .i8 0, .int .i8 1, .int .i8 2, .int .i8 3, .bool false, .int .u8 0] 48)).heap.size = w.heap.size + 1 + 1 + 1 + 1 := by simp [hz3]
  generalize w3.alloc (.cells #[.string ⟨#[50, 46, 53, 46, 52, 46, 48]⟩, .slice (some ⟨w.heap.size + 1, 0, none⟩) 1 1, .string ⟨#[]⟩, .int .i8 8, .int .i8 20, .int .i8 0, .int .i8 0, .bool false, .int .u8 0, .string ⟨#[50, 46, 53, 46, 52, 46, 51]⟩, .slice (some ⟨w.heap.size + 1 + 1, 0, none⟩) 1 1, .string ⟨#[]⟩, .int .i8 0, .int .i8 1, .int .i8 2, .int .i8 3, .bool false, .int .u8 0] 48) = w4 at hc3 hk4 hz4 ⊢
  rw [hz1] at hc1
  rw [hz2] at hc2
  rw [hz3] at hc3
  have t1 : Texts w4.heap.size w4 (some ⟨w.heap.size + 1, 0, none⟩) 1 1 [⟨#[111, 98, 106, 101, 99, 116, 67, 108, 97, 115, 115]⟩] := ((one_text (b := w.heap.size + 1) hc1 (by decide)).keep hk3 hk3.size).keep hk4 hk4.size
  have t2 : Texts w4.heap.size w4 (some ⟨w.heap.size + 1 + 1, 0, none⟩) 1 1 [⟨#[99, 110]⟩] := (one_text (b := w.heap.size + 1 + 1) hc2 (by decide)).keep hk4 hk4.size
  have hb4 : Below w.heap.size w w4 := bnext (bnext (bnext hb1 hk2) hk3) hk4
  refine ⟨some ⟨w.heap.size + 1 + 1 + 1, 0, none⟩, rfl, ⟨rfl, ⟨Nat.le_refl _, by unfold maxLen; omega, (fun h => by cases h), (fun ad h => by cases h; show w.heap.size + 1 + 1 + 1 < _; omega), (fun ad h _ => by cases h; rfl)⟩, ?_, ?_, (fun ad h => by cases h; rfl)⟩, hb4⟩
  · intro b o h i x hx
    cases h
    match i, hx with
    | 0, hx =>
      cases hx
      exact ⟨hc3 0 _ rfl, ⟨_, _, _, hc3 1 _ rfl, t1⟩, hc3 2 _ rfl, hc3 3 _ rfl, hc3 4 _ rfl, hc3 5 _ rfl, hc3 6 _ rfl, hc3 7 _ rfl, hc3 8 _ rfl⟩
    | 1, hx =>
      cases hx
      exact ⟨hc3 9 _ rfl, ⟨_, _, _, hc3 10 _ rfl, t2⟩, hc3 11 _ rfl, hc3 12 _ rfl, hc3 13 _ rfl, hc3 14 _ rfl, hc3 15 _ rfl, hc3 16 _ rfl, hc3 17 _ rfl⟩
    | n + 2, hx => simp [smallS] at hx
  · intro x hx
    simp only [smallS, List.mem_cons, List.not_mem_nil, or_false] at hx
    rcases hx with rfl | rfl
    · exact ⟨by decide, by decide, by decide, by decide, by decide, by decide, by decide⟩
    · exact ⟨by decide, by decide, by decide, by decide, by decide, by decide, by decide⟩
end Go.Proofs.YtifgmnafjihlkaaGreatDoor
/- rosterlaw07.wakes: true. -/
namespace Go.Proofs.YtifgmnafjihlkaaGreatDoor
open Go Go.RowKit Go.Maps

theorem wk1 : keyM 1 [32, 84, 119, 111, 32, 32, 87, 111, 114, 100, 115, 32] = ([116, 119, 111, 32, 119, 111, 114, 100, 115], true) := by decide +kernel
theorem wk2 : fitsV smallS 1 (fun _ => ([], false)) [120] = true := by decide +kernel
theorem wk3 : fitsV smallS 1 (fun _ => ([], false)) [] = false := by decide +kernel
theorem wk4 : sameV smallS 1 (keyM 1) [65] [97] = true := by decide +kernel
theorem wk5 : askV 1 saysE (keyM 1) 1 [65] [97] = 1 := by decide +kernel
theorem wk6 : askV 1 saysE (keyM 1) 1 [65] [] = 2 := by decide +kernel
theorem wk7 : askV 2 saysF (keyM 13) 13 [49, 48] [57] = 1 := by decide +kernel
theorem wk8 : askV 2 saysU (keyM 13) 13 [49, 48] [57] = 0 := by decide +kernel
theorem wk9 : partV 3 (keyM 3) [66, 97, 114, 98, 97, 114, 97] [98, 97, 114] [65] [[97]] = 1 := by decide +kernel
theorem wk9k : (keyM 3 [66, 97, 114, 98, 97, 114, 97]).1.length < 4294967281 := by decide +kernel
theorem wk10 : likeV smallS 1 (fun _ => ([], false)) (keyM 1) [82, 111, 98, 101, 114, 116] [82, 117, 112, 101, 114, 116] = 1 := by decide +kernel

structure EnvW (w : World) : Prop where
  e : Env w
  s : EnvS w
  m : EnvM w
theorem EnvW.next {w w' : World} (h : EnvW w) (k : Below w.heap.size w w') : EnvW w' := ⟨h.e.next k, h.s.next k, h.m.next k⟩

set_option maxRecDepth 20000 in
set_option maxHeartbeats 4000000 in
theorem wakes_any (w : World) (hE : EnvW w) : Calls Tryz.prog 23 #[] w fun e w' => e = .returned (.bool true) ∧ Below w.heap.size w w' := by
  have hsm := small_any7 w
  unfold SmallPost at hsm
  have hnw : ∀ wq a, Below w.heap.size w wq → Types wq.heap.size wq a 2 2 smallS.types → Calls Tryz.prog 24 #[.agg #[.slice a 2 2, .slice none 0 0]] wq fun e w' => ∃ g, e = .returned (.tuple #[.pointer (some ⟨g, 0, none⟩), .int .i64 0, .int .i64 0]) ∧ Sch w' g smallS ∧ Below wq.heap.size wq w' := fun wq a hb ht =>
    (new_any smallS wq.heap.size a none 2 2 0 0 wq (hE.s.next hb) ht ⟨rfl, ⟨Nat.le_refl _, Nat.zero_le _, fun _ => rfl, (fun ad h => by cases h), (fun ad h => by cases h)⟩, (fun b o h => by cases h), (fun x hx => by cases hx), (fun ad h => by cases h)⟩ (Nat.le_refl _)).mono fun e w' ⟨h1, h2⟩ => by
      rcases h2 with ⟨_, g, h3, h4⟩ | ⟨h3, _⟩
      · exact ⟨g, h3, h4, h1⟩
      · exact absurd (by rw [small_new]) h3
  have HSM := Lib.hid hsm; have HNW := Lib.hid hnw; have HE := Lib.hid hE; clear hsm hnw hE
  go_enter Tryz.func23, Tryz.ntmps23
  go_upto_region 4 with (first
    | (go_at_call 76; refine (HSM.out).mono ?_; rintro e w1 ⟨a, rfl, ht1, hb1⟩; have H1 := Lib.hid (And.intro hb1 ht1); clear hb1 ht1)
    | (go_at_call 24; refine (HNW.out _ _ H1.out.1 H1.out.2).mono ?_; rintro e w2 ⟨g, rfl, hs2, hb2⟩; have H2 := Lib.hid (And.intro (bnext H1.out.1 hb2) hs2); clear hb2 hs2)
    | fail)
  have ks : ∀ (r : Int), -128 ≤ r ∧ r ≤ 127 → r ≠ 19 → r ≠ 20 → ∀ wq, Below w2.heap.size w2 wq → KeyAt wq (some ⟨g, 0, none⟩) r (keyM r) := fun r h1 h2 h3 wq hb =>
    have E := (HE.out.next H2.out.1).next hb
    keyAt_form ⟨g, 0, none⟩ r wq E.e E.s E.m h1 h2 h3
  have c1 : ∀ wq, Below w2.heap.size w2 wq → Calls Tryz.prog 15 #[.pointer (some ⟨g, 0, none⟩), .int .i8 1, .string ⟨#[32, 84, 119, 111, 32, 32, 87, 111, 114, 100, 115, 32]⟩] wq fun e w' => e = .returned (.tuple #[.string ⟨#[116, 119, 111, 32, 119, 111, 114, 100, 115]⟩, .bool true]) ∧ Below wq.heap.size wq w' := fun wq hb => by
    have h := ks 1 (by decide) (by decide) (by decide) wq hb wq ⟨#[32, 84, 119, 111, 32, 32, 87, 111, 114, 100, 115, 32]⟩ (Below.refl _ _)
    rw [show keyM 1 _ = _ from wk1] at h; exact h
  have c2 : ∀ wq, Below w2.heap.size w2 wq → Calls Tryz.prog 16 #[.pointer (some ⟨g, 0, none⟩), .int .i64 1, .string ⟨#[120]⟩] wq fun e w' => e = .returned (.bool true) ∧ Below wq.heap.size wq w' := fun wq hb => by
    have E := (HE.out.next H2.out.1).next hb
    have h := fits_any smallS g 1 (fun _ => ([], false)) ⟨#[120]⟩ wq (H2.out.2.keep hb) E.e E.m (fun _ h => by rw [small_syn] at h; cases h)
    rw [show fitsV smallS 1 _ _ = _ from wk2] at h; exact h
  have c3 : ∀ wq, Below w2.heap.size w2 wq → Calls Tryz.prog 16 #[.pointer (some ⟨g, 0, none⟩), .int .i64 1, .string ⟨#[]⟩] wq fun e w' => e = .returned (.bool false) ∧ Below wq.heap.size wq w' := fun wq hb => by
    have E := (HE.out.next H2.out.1).next hb
    have h := fits_any smallS g 1 (fun _ => ([], false)) ⟨#[]⟩ wq (H2.out.2.keep hb) E.e E.m (fun _ h => by rw [small_syn] at h; cases h)
    rw [show fitsV smallS 1 _ _ = _ from wk3] at h; exact h
  have c4 : ∀ wq, Below w2.heap.size w2 wq → Calls Tryz.prog 17 #[.pointer (some ⟨g, 0, none⟩), .int .i64 1, .string ⟨#[65]⟩, .string ⟨#[97]⟩] wq fun e w' => e = .returned (.bool true) ∧ Below wq.heap.size wq w' := fun wq hb => by
    have h := same_any smallS g 1 (keyM 1) ⟨#[65]⟩ ⟨#[97]⟩ wq (H2.out.2.keep hb) (fun _ => by rw [small_eq]; exact ks 1 (by decide) (by decide) (by decide) wq hb)
    rw [show sameV smallS 1 _ _ _ = _ from wk4] at h; exact h
  have c5 : ∀ wq, Below w2.heap.size w2 wq → Calls Tryz.prog 18 #[.pointer (some ⟨g, 0, none⟩), .int .i8 1, .string ⟨#[65]⟩, .string ⟨#[97]⟩] wq fun e w' => e = .returned (.int .i8 1) ∧ Below wq.heap.size wq w' := fun wq hb => by
    have h := ask_anyE (some ⟨g, 0, none⟩) 1 (keyM 1) ⟨#[65]⟩ ⟨#[97]⟩ wq ((HE.out.next H2.out.1).next hb).m (by decide) (ks 1 (by decide) (by decide) (by decide) wq hb)
    rw [show askV 1 saysE _ 1 _ _ = _ from wk5] at h; exact h
  have c6 : ∀ wq, Below w2.heap.size w2 wq → Calls Tryz.prog 18 #[.pointer (some ⟨g, 0, none⟩), .int .i8 1, .string ⟨#[65]⟩, .string ⟨#[]⟩] wq fun e w' => e = .returned (.int .i8 2) ∧ Below wq.heap.size wq w' := fun wq hb => by
    have h := ask_anyE (some ⟨g, 0, none⟩) 1 (keyM 1) ⟨#[65]⟩ ⟨#[]⟩ wq ((HE.out.next H2.out.1).next hb).m (by decide) (ks 1 (by decide) (by decide) (by decide) wq hb)
    rw [show askV 1 saysE _ 1 _ _ = _ from wk6] at h; exact h
  have c7 : ∀ wq, Below w2.heap.size w2 wq → Calls Tryz.prog 19 #[.pointer (some ⟨g, 0, none⟩), .int .i8 13, .string ⟨#[49, 48]⟩, .string ⟨#[57]⟩] wq fun e w' => e = .returned (.int .i8 1) ∧ Below wq.heap.size wq w' := fun wq hb => by
    have h := ask_anyF (some ⟨g, 0, none⟩) 13 (keyM 13) ⟨#[49, 48]⟩ ⟨#[57]⟩ wq ((HE.out.next H2.out.1).next hb).m (by decide) (ks 13 (by decide) (by decide) (by decide) wq hb)
    rw [show askV 2 saysF _ 13 _ _ = _ from wk7] at h; exact h
  have c8 : ∀ wq, Below w2.heap.size w2 wq → Calls Tryz.prog 20 #[.pointer (some ⟨g, 0, none⟩), .int .i8 13, .string ⟨#[49, 48]⟩, .string ⟨#[57]⟩] wq fun e w' => e = .returned (.int .i8 0) ∧ Below wq.heap.size wq w' := fun wq hb => by
    have h := ask_anyU (some ⟨g, 0, none⟩) 13 (keyM 13) ⟨#[49, 48]⟩ ⟨#[57]⟩ wq ((HE.out.next H2.out.1).next hb).m (by decide) (ks 13 (by decide) (by decide) (by decide) wq hb)
    rw [show askV 2 saysU _ 13 _ _ = _ from wk8] at h; exact h
  have c9 : ∀ wq b, Below w2.heap.size w2 wq → wq.cell? ⟨b, 0, none⟩ = some (.string ⟨#[97]⟩) → Calls Tryz.prog 21 #[.pointer (some ⟨g, 0, none⟩), .int .i8 3, .string ⟨#[66, 97, 114, 98, 97, 114, 97]⟩, .string ⟨#[98, 97, 114]⟩, .slice (some ⟨b, 0, none⟩) 1 1, .string ⟨#[65]⟩] wq fun e w' => e = .returned (.int .i8 1) ∧ Below wq.heap.size wq w' := fun wq b hb hc => by
    have E := (HE.out.next H2.out.1).next hb
    have h := mpart_any ⟨g, 0, none⟩ 3 (keyM 3) ⟨#[66, 97, 114, 98, 97, 114, 97]⟩ ⟨#[98, 97, 114]⟩ ⟨#[65]⟩ wq.heap.size (some ⟨b, 0, none⟩) 1 1 [⟨#[97]⟩] wq E.e E.s E.m (by decide) (by decide) (one_text hc (by decide)) (Nat.le_refl _) (ks 3 (by decide) (by decide) (by decide) wq hb) (by decide) (by decide) wk9k
    rw [show partV 3 (keyM 3) (toL ⟨#[66, 97, 114, 98, 97, 114, 97]⟩) (toL ⟨#[98, 97, 114]⟩) (toL ⟨#[65]⟩) (List.map toL [⟨#[97]⟩]) = 1 from wk9] at h; exact h
  have c10 : ∀ wq, Below w2.heap.size w2 wq → Calls Tryz.prog 22 #[.pointer (some ⟨g, 0, none⟩), .int .i64 1, .string ⟨#[82, 111, 98, 101, 114, 116]⟩, .string ⟨#[82, 117, 112, 101, 114, 116]⟩] wq fun e w' => e = .returned (.int .i8 1) ∧ Below wq.heap.size wq w' := fun wq hb => by
    have E := (HE.out.next H2.out.1).next hb
    have h := like_any smallS g 1 (fun _ => ([], false)) (keyM 1) ⟨#[82, 111, 98, 101, 114, 116]⟩ ⟨#[82, 117, 112, 101, 114, 116]⟩ wq (H2.out.2.keep hb) E.e E.m (fun _ h => by rw [small_syn] at h; cases h) (fun _ => by rw [small_eq]; exact ⟨by decide, ks 1 (by decide) (by decide) (by decide) wq hb⟩) (by decide) (by decide)
    rw [show likeV smallS 1 _ _ _ _ = _ from wk10] at h; exact h
  have C1 := Lib.hid c1; have C2 := Lib.hid c2; have C3 := Lib.hid c3; have C4 := Lib.hid c4; have C5 := Lib.hid c5; have C6 := Lib.hid c6; have C7 := Lib.hid c7; have C8 := Lib.hid c8; have C9 := Lib.hid c9; have C10 := Lib.hid c10
  clear c1 c2 c3 c4 c5 c6 c7 c8 c9 c10 ks
  go_wp2_with (first
    | (go_at_call 15; (with_reducible refine (C1.out _ (Below.refl _ _)).mono ?_); rintro e x1 ⟨rfl, hb⟩; have B1 := Lib.hid hb; clear hb)
    | (go_at_call 16; (with_reducible refine (C2.out _ B1.out).mono ?_); rintro e x2 ⟨rfl, hb⟩; have B2 := Lib.hid (bnext B1.out hb); clear hb)
    | (go_at_call 16; (with_reducible refine (C3.out _ B2.out).mono ?_); rintro e x3 ⟨rfl, hb⟩; have B3 := Lib.hid (bnext B2.out hb); clear hb)
    | (go_at_call 17; (with_reducible refine (C4.out _ B3.out).mono ?_); rintro e x4 ⟨rfl, hb⟩; have B4 := Lib.hid (bnext B3.out hb); clear hb)
    | (go_at_call 18; (with_reducible refine (C5.out _ B4.out).mono ?_); rintro e x5 ⟨rfl, hb⟩; have B5 := Lib.hid (bnext B4.out hb); clear hb)
    | (go_at_call 18; (with_reducible refine (C6.out _ B5.out).mono ?_); rintro e x6 ⟨rfl, hb⟩; have B6 := Lib.hid (bnext B5.out hb); clear hb)
    | (go_at_call 19; (with_reducible refine (C7.out _ B6.out).mono ?_); rintro e x7 ⟨rfl, hb⟩; have B7 := Lib.hid (bnext B6.out hb); clear hb)
    | (go_at_call 20; (with_reducible refine (C8.out _ B7.out).mono ?_); rintro e x8 ⟨rfl, hb⟩; have B8 := Lib.hid (bnext B7.out hb); have hn := World.cell?_alloc_new x8 #[.string ⟨#[97]⟩] 9 0; have HN := Lib.hid hn; clear hb hn)
    | (go_at_call 21; refine (C9.out _ _ (B8.out.alloc B8.out.size _) HN.out).mono ?_; rintro e x9 ⟨rfl, hb⟩; have B9 := Lib.hid (bnext (B8.out.alloc B8.out.size _) hb); clear hb)
    | (go_at_call 22; (with_reducible refine (C10.out _ B9.out).mono ?_); rintro e x10 ⟨rfl, hb⟩; have B10 := Lib.hid (bnext B9.out hb); clear hb)
    | fail)
  go_ret
  exact ⟨rfl, bnext H2.out.1 B10.out⟩
end Go.Proofs.YtifgmnafjihlkaaGreatDoor
/- A world in which the listed variables lie as the program's text lays them; what the row's list gives: the walks' environment. -/
namespace Go.Proofs.YtifgmnafjihlkaaGreatDoor
open Go Go.RowKit

/-- the cells of a listed table -/
def litV : DataW Unit → List Value
  | .lit (.int k n) => [.int k n]
  | .lit (.string l) => [.string ⟨l.toArray⟩]
  | _ => []
def litW : DataW Unit → List Value
  | .lit (.int k n) => [.int k n]
  | .lit (.string l) => [.string ⟨l.toArray⟩]
  | .agg l => l.flatMap litV
  | _ => []
def cellsD : DataW Unit → Array Value
  | .agg l => (l.flatMap litW).toArray
  | _ => #[]
def setC (h : Array Obj) (g : Nat) (cs : Array Value) : Array Obj := h.modify g fun
  | .cells _ t fz => .cells cs t fz
  | o => o
def setD (h : Array Obj) (g : Nat) (d : DataW Unit) : Array Obj := setC h g (cellsD d)
/-- a variable that holds an error of a text, which lies behind the heap -/
def setE (h : Array Obj) (g : Nat) (text : List UInt8) : Array Obj := (setC h g #[.iface 349 (.pointer (some ⟨h.size, 0, none⟩))]).push (.cells #[.string ⟨text.toArray⟩] 351)

noncomputable def laidHeap (h : Array Obj) : Array Obj :=
  setE (setE (setD (setD (setD (setD (setD (setD (setD (setD h 8 Rows.laid_unicode_utf8_first) 9 Rows.laid_unicode_utf8_acceptRanges)
    7 Rows.laid_internal_strconv_uint64pow10) 10 Rows.laid_math_bits_deBruijn32tab) 11 Rows.laid_math_bits_deBruijn64tab)
    2 Rows.laid_roster_schema_table) 1 Rows.laid_roster_match_sorts) 0 Rows.laid_roster_match_forms)
    6 [118, 97, 108, 117, 101, 32, 111, 117, 116, 32, 111, 102, 32, 114, 97, 110, 103, 101]) 5 [105, 110, 118, 97, 108, 105, 100, 32, 115, 121, 110, 116, 97, 120]
noncomputable def laidWorld (os : Os) : World :=
  { World.holding Tryz.prog os ⟨#[], #[], []⟩ with heap := laidHeap (World.holding Tryz.prog os ⟨#[], #[], []⟩).heap }

theorem gPow : Tryz.prog.globalNamed "internal/strconv.uint64pow10" = some 7 := by kernel_rfl
theorem gPowType : (Tryz.prog.globals[7]?).map (·.type) = some 340 := by kernel_rfl
theorem cellsPow : Tryz.prog.cellsOf 340 = 20 := by kernel_rfl
theorem cellsU64 : Tryz.prog.cellsOf 54 = 1 := by kernel_rfl
theorem gSorts : Tryz.prog.globalNamed "roster/match.sorts" = some 1 := by kernel_rfl
theorem gSortsType : (Tryz.prog.globals[1]?).map (·.type) = some 180 := by kernel_rfl
theorem cellsSorts : Tryz.prog.cellsOf 180 = 21 := by kernel_rfl
theorem gForms : Tryz.prog.globalNamed "roster/match.forms" = some 0 := by kernel_rfl
theorem gFormsType : (Tryz.prog.globals[0]?).map (·.type) = some 114 := by kernel_rfl
theorem cellsForms : Tryz.prog.cellsOf 114 = 9 := by kernel_rfl

theorem laidMetH_filter {l : List (String × DataW Unit)} {W : World} (h : laidMetH Tryz.prog l W) (n : String) {d : DataW Unit} (hf : (l.filter fun x => x.2.handleName?.isNone).filter (fun x => x.1 == n) = [(n, d)]) : laidMet Tryz.prog [(n, d)] W := by
  have := (laidMetH_iff.1 h).1.filter fun x => x.1 == n
  rw [hf] at this
  exact this

theorem env_e {l : List (String × DataW Unit)} {W : World} (hL : laidMetH Tryz.prog l W) (hsh : W.ShapedOpen Tryz.prog) (h1 : (l.filter fun x => x.2.handleName?.isNone).filter (fun x => x.1 == "internal/strconv.uint64pow10") = [("internal/strconv.uint64pow10", Lib.tabData .u64 Lib.pow10Tab)]) : Env W where
  max := Tryz.laysM143.s1_3 W hsh
  pow := Lib.tabIs_of_head gPow gPowType Tryz.underlying340 Tryz.underlying54 cellsU64 cellsPow (laidMetH_filter hL _ h1)
theorem env_s {l : List (String × DataW Unit)} {W : World} (hL : laidMetH Tryz.prog l W) (hsh : W.ShapedOpen Tryz.prog) (h1 : (l.filter fun x => x.2.handleName?.isNone).filter (fun x => x.1 == "roster/schema.table") = [("roster/schema.table", .agg (tableV.map lineD))]) : EnvS W where
  max := Tryz.laysM143.s1_3 W hsh
  tab := table_of_head (laidMetH_filter hL _ h1)
theorem env_m {l : List (String × DataW Unit)} {W : World} (hL : laidMetH Tryz.prog l W) (h1 : (l.filter fun x => x.2.handleName?.isNone).filter (fun x => x.1 == "roster/match.sorts") = [("roster/match.sorts", Lib.tabData .i8 sortsV)])
    (h2 : (l.filter fun x => x.2.handleName?.isNone).filter (fun x => x.1 == "roster/match.forms") = [("roster/match.forms", Lib.tabData .i8 formsV)]) : EnvM W where
  sorts := fun j v hj => by
    have h := Lib.tabIs_of_head gSorts gSortsType Tryz.underlying180 Tryz.underlying22 c1i cellsSorts (laidMetH_filter hL _ h1)
    have hlt := (List.getElem?_eq_some_iff.1 hj).1
    have := h.cell gSorts j hlt
    rw [this, List.getD_eq_getElem?_getD, hj]; rfl
  forms := fun j v hj => by
    have h := Lib.tabIs_of_head gForms gFormsType Tryz.underlying114 Tryz.underlying22 c1i cellsForms (laidMetH_filter hL _ h2)
    have hlt := (List.getElem?_eq_some_iff.1 hj).1
    have := h.cell gForms j hlt
    rw [this, List.getD_eq_getElem?_getD, hj]; rfl
end Go.Proofs.YtifgmnafjihlkaaGreatDoor
/- The closed facts of a row, one by one: a law of my own that joins them, so that each is checked by itself. -/
namespace Go.Proofs.YtifgmnafjihlkaaGreatDoor
open Go

theorem band {a b : Bool} (ha : a = true) (hb : b = true) : (a && b) = true := by rw [ha, hb]; rfl
theorem joined_mk {P : Program} {f : FuncId} {fn : Func} {s : ChangeSpec} {c : OpenClaim}
    (h0 : (c.wf (OpenSpec.ofChange s)) = true)
    (h1 : (laidOutB P) = true)
    (h2 : (mapsRowed P) = true)
    (h3 : (fn.params.all (P.readableRec ·)) = true)
    (h4 : (namedTie P c.named s.vars) = true)
    (h5 : ((c.stops == [])) = true)
    (h6 : ((P.stops == [])) = true)
    (h7 : ((c.knobs == [])) = true)
    (h8 : ((P.stopKnobs == [])) = true)
    (h9 : ((c.inPlace == P.inPlace f)) = true)
    (h10 : ((c.unfollowed == P.unfollowed f)) = true)
    (h11 : ((c.recurses == P.recurses f)) = true)
    (h12 : ((c.named == P.varsNamed f)) = true)
    (h13 : ((c.maps == (fn.params.toList ++ s.plain.varTypes P).any (P.mapsRec ·))) = true)
    (h14 : ((c.ifaces == (fn.params.toList ++ s.plain.varTypes P).any (P.ifacesRec ·))) = true)
    (h15 : ((c.mapsOut == P.mapsAmong fn.resultTypes.toList)) = true)
    (h16 : ((c.loops == (fn.params.toList ++ s.plain.varTypes P).any (P.loopsFrom ·))) = true)
    (h17 : ((c.wideKeys == (fn.params.toList ++ s.plain.varTypes P ++ fn.resultTypes.toList).any (P.wideKeysFrom ·))) = true)
    (h18 : (s.vars.all (P.varReadable ·)) = true)
    (h19 : (fn.resultTypes.all (fun t => P.readableRec t && decide (t < P.types.size))) = true)
    (h20 : ((c.ifacesOut == fn.resultTypes.toList.any (P.ifacesRec ·))) = true)
    (h21 : ((c.loopsOut == fn.resultTypes.toList.any (P.loopsFrom ·))) = true)
    (h22 : ((c.plainKeys == P.plainKeys)) = true)
    (h23 : (c.shortTexts.isNone) = true)
    (h24 : (P.stopsHeard) = true)
    (h25 : (P.mayEnter) = true)
    (h26 : ((c.lifted == P.liftsFinal)) = true)
    (h27 : ((P.make == some c.make)) = true)
    (h28 : ((c.kinds == (if c.domain.isEmpty then [] else fn.params.toList.map fun t => match P.underlying t with | some (.int k) => some k | _ => none))) = true)
    (h29 : ((c.pinned == c.pinnedBy)) = true)
    (h30 : ((c.veiled == (fn.params.toList ++ s.plain.varTypes P ++ fn.resultTypes.toList).any (P.veiledRec ·))) = true)
    (h31 : (c.veiledFits P fn.params.toList (fn.params.toList ++ s.plain.varTypes P ++ fn.resultTypes.toList)) = true) : joinedFacts P f fn s c = true := by
  unfold joinedFacts
  exact band (band (band (band (band (band (band (band (band (band (band (band (band (band (band (band (band (band (band (band (band (band (band (band (band (band (band (band (band (band (band h0 h1) h2) h3) h4) h5) h6) h7) h8) h9) h10) h11) h12) h13) h14) h15) h16) h17) h18) h19) h20) h21) h22) h23) h24) h25) h26) h27) h28) h29) h30) h31
end Go.Proofs.YtifgmnafjihlkaaGreatDoor
/- Closed facts on the program, each checked by itself. -/
namespace Go.Proofs.YtifgmnafjihlkaaGreatDoor
open Go

theorem fp1 : laidOutB Tryz.prog = true := by kernel_rfl
theorem fp2 : mapsRowed Tryz.prog = true := by kernel_rfl
theorem fp6 : (Tryz.prog.stops == []) = true := by kernel_rfl
theorem fp8 : (Tryz.prog.stopKnobs == []) = true := by kernel_rfl
theorem fp24 : Tryz.prog.stopsHeard = true := by kernel_rfl
theorem fp25 : Tryz.prog.mayEnter = true := by kernel_rfl
theorem mainT : Tryz.pinned.checked.prog.mainIs = some (true, "a77f927dddbc31e12364b77d8bd0f2ef79e01c71771819b72c31a58587f7f438".toList) := by kernel_rfl
theorem looksT : true = Tryz.pinned.checked.prog.looks [] := by kernel_rfl
end Go.Proofs.YtifgmnafjihlkaaGreatDoor
/- Readings of bounded bulk, opened: slices, structs of one-cell fields, texts. No walk. -/
namespace Go.Proofs.YtifgmnafjihlkaaGreatDoor
open Go Go.RowKit Go.ChangeShapes Go.WideShapes Go.Deep

abbrev bulk {H : Type} (d : DataW H) : Nat := Rows.uptoBulk d
theorem bulk_pos {H : Type} (d : DataW H) : 1 ≤ bulk d := by
  unfold bulk
  cases d with
  | lit l => cases l <;> simp [Rows.uptoBulk]
  | _ => simp [Rows.uptoBulk]
theorem bulk_mem {H : Type} {l : List (DataW H)} {d : DataW H} (h : d ∈ l) : bulk d ≤ Rows.uptoBulkAll l := by
  induction l with
  | nil => cases h
  | cons x l ih =>
    simp only [Rows.uptoBulkAll]
    rcases List.mem_cons.1 h with rfl | h
    · exact Nat.le_add_right _ _
    · have := ih h; omega
theorem bulk_len {H : Type} (l : List (DataW H)) : l.length ≤ Rows.uptoBulkAll l := by
  induction l with
  | nil => exact Nat.le_refl _
  | cons x l ih => simp only [Rows.uptoBulkAll, List.length_cons]; have := bulk_pos x; unfold bulk at this; omega

section
variable {H : Type} {enc : TypeId × Value → H} {P : Program} {w : World} {base : Nat} {held : Bool}

theorem open_sl {t e : TypeId} {m N : Nat} {v : Value} {x : DataW H × List MemPlace} (ht : P.underlying t = some (.slice e)) (hpos : 0 < P.cellsOf e) (h : DataW.trod enc P w base (fun _ => true) held m t [v] = some x) (hb : bulk x.1 ≤ N) :
    ∃ a n c, v = .slice a n c ∧ LiesW w.heap.size a n c ∧ n ≤ N ∧ ∀ b o, a = some ⟨b, o, none⟩ → ∀ i, i < n →
      ∃ cs k y, cs.length = P.cellsOf e ∧ (∀ j, j < P.cellsOf e → w.cell? ⟨b, o + i * P.cellsOf e + j, none⟩ = cs[j]?) ∧ DataW.trod enc P w base (fun _ => true) held k e cs = some y ∧ bulk y.1 ≤ N := by
  rcases open_slice ht h with ⟨hcs, _⟩ | ⟨a, len, cap, mm, n, D, Pl, hcs, _, hl, hm, hmm, hx, hi⟩
  · simp at hcs
    exact ⟨none, 0, 0, hcs, ⟨Nat.le_refl _, Nat.zero_le _, fun _ => rfl, (fun ad h _ => by cases h), (fun ad h _ => by cases h)⟩, Nat.zero_le _, fun b o h => by cases h⟩
  · have hmc : mm = cap := by simpa using hmm
    simp at hcs
    have hN : bulk (DataW.slice ((List.range len).map D) ((List.range (mm - len)).map fun j => D (len + j))) ≤ N := by rw [hx] at hb; exact hb
    unfold bulk at hN
    simp only [Rows.uptoBulk] at hN
    have key : ∀ i, i < len → ∃ cs', cs'.length = P.cellsOf e ∧ (∀ j, j < P.cellsOf e → w.cell? ((a.add (i * P.cellsOf e)).add j) = cs'[j]?) ∧ ∃ k y, DataW.trod enc P w base (fun _ => true) held k e cs' = some y ∧ bulk y.1 ≤ N := fun i hil => by
      obtain ⟨cs', h1, h2⟩ := hi i (by omega)
      obtain ⟨_, h3, h4⟩ := World.cells?_some h1
      refine ⟨cs', h3, h4, n, _, h2, ?_⟩
      have h5 := bulk_mem (l := (List.range len).map D) (d := D i) (List.mem_map.2 ⟨i, List.mem_range.2 hil, rfl⟩)
      show bulk (D i) ≤ N
      omega
    have hln : len ≤ N := by have := bulk_len ((List.range len).map D); simp at this; omega
    have hfst : ∀ (h0 : 0 < len), a.spot = none ∧ a.block < w.heap.size := fun h0 => by
      obtain ⟨cs', h1, h2, _⟩ := key 0 h0
      have h3 := h2 0 hpos
      rw [List.getElem?_eq_getElem (by omega)] at h3
      refine ⟨?_, ?_⟩
      · have := World.cell?_spot h3
        simpa [Addr.add] using this
      · have := World.block_lt_of_cell? w _ h3
        rwa [block_add, block_add] at this
    refine ⟨some a, len, cap, hcs, ⟨hl, hm, (fun h => by cases h), fun ad h h0 => by cases h; exact (hfst h0).2, fun ad h h0 => by cases h; exact (hfst h0).1⟩, hln, ?_⟩
    intro b o hab i hil
    cases hab
    obtain ⟨cs', h1, h2, k, y, h3, h4⟩ := key i hil
    refine ⟨cs', k, y, h1, fun j hj => ?_, h3, h4⟩
    have h5 := h2 j hj
    rwa [Addr.add_lit, Addr.add_lit] at h5

theorem open_field {e : TypeId} {fs : Array Field} {m : Nat} {cs : List Value} {x : DataW H × List MemPlace} (he : P.underlying e = some (.struct fs)) (hone : oneCellFields P fs = true) (hC : P.cellsOf e = fs.size) (h : DataW.trod enc P w base (fun _ => true) held m e cs = some x) :
    cs.length = fs.size ∧ ∀ (j : Nat) (f : Field), fs[j]? = some f → ∃ v k y, cs[j]? = some v ∧ DataW.trod enc P w base (fun _ => true) held k f.type [v] = some y ∧ bulk y.1 ≤ bulk x.1 := by
  obtain ⟨xs, n, _, hx, hl, hlen, hff⟩ := DataW.trod_struct he h
  rw [hC] at hl
  refine ⟨hl, fun j f hj => ?_⟩
  have hjl : j < fs.size := (Array.getElem?_eq_some_iff.1 hj).1
  obtain ⟨ho, hk⟩ := hone_of hone j f hj
  have h5 := hff j f hj
  rw [ho, hk] at h5
  have h6 : (cs.drop j).take 1 = [cs[j]'(by omega)] := by
    rw [List.drop_eq_getElem_cons (by omega)]
    rfl
  rw [h6, List.getElem?_eq_getElem (by omega)] at h5
  refine ⟨cs[j]'(by omega), n, xs[j]'(by omega), List.getElem?_eq_getElem (by omega), h5, ?_⟩
  rw [hx]
  have := bulk_mem (l := xs.map (·.1)) (d := (xs[j]'(by omega)).1) (List.mem_map.2 ⟨_, List.getElem_mem _, rfl⟩)
  show bulk _ ≤ Rows.uptoBulk (DataW.agg _)
  simp only [Rows.uptoBulk]
  omega

theorem open_str {t : TypeId} {m : Nat} {v : Value} {x : DataW H × List MemPlace} (ht : P.underlying t = some .string) (h : DataW.trod enc P w base (fun _ => true) held m t [v] = some x) : ∃ s : ByteArray, v = .string s ∧ s.size ≤ bulk x.1 := by
  obtain ⟨s, h1, h2, _⟩ := DataW.trod_string ht h
  refine ⟨s, by simpa using h1, ?_⟩
  rw [h2]
  show s.size ≤ Rows.uptoBulk (DataW.lit (.string s.data.toList))
  simp only [Rows.uptoBulk]
  have := Lib.size_eq s
  omega
theorem open_i {k : IntKind} {t : TypeId} {m : Nat} {v : Value} {x : DataW H × List MemPlace} (ht : P.underlying t = some (.int k)) (h : DataW.trod enc P w base (fun _ => true) held m t [v] = some x) : ∃ n : Int, v = .int k n ∧ (Lit.int k n).wf = true := by
  obtain ⟨s, h1, _, h3⟩ := DataW.trod_int ht h
  exact ⟨s, by simpa using h1, h3⟩
theorem open_b {t : TypeId} {m : Nat} {v : Value} {x : DataW H × List MemPlace} (ht : P.underlying t = some .bool) (h : DataW.trod enc P w base (fun _ => true) held m t [v] = some x) : ∃ b : Bool, v = .bool b := by
  obtain ⟨s, h1, _⟩ := DataW.trod_bool ht h
  exact ⟨s, by simpa using h1⟩

/-- a list out of what stands at each place -/
theorem list_of {α : Type} {n : Nat} {p : Nat → α → Prop} (h : ∀ i, i < n → ∃ x, p i x) : ∃ l : List α, l.length = n ∧ ∀ i x, l[i]? = some x → p i x := by
  classical
  by_cases h0 : n = 0
  · subst h0; exact ⟨[], rfl, fun i x hx => by simp at hx⟩
  · haveI : Inhabited α := ⟨Classical.choose (h 0 (by omega))⟩
    obtain ⟨f, hf⟩ := choose_lt h
    refine ⟨(List.range n).map f, by simp, fun i x hx => ?_⟩
    rw [List.getElem?_map] at hx
    obtain ⟨j, hj, rfl⟩ := Option.map_eq_some_iff.1 hx
    obtain ⟨h1, h2⟩ := List.getElem?_eq_some_iff.1 hj
    simp at h1 h2
    subst h2
    exact hf _ h1

theorem open_texts {t e : TypeId} {m N : Nat} {v : Value} {x : DataW H × List MemPlace} (ht : P.underlying t = some (.slice e)) (he : P.underlying e = some .string) (hc : P.cellsOf e = 1) (h : DataW.trod enc P w base (fun _ => true) held m t [v] = some x) (hb : bulk x.1 ≤ N) (hN : N ≤ 4294967280) :
    ∃ a n c l, v = .slice a n c ∧ Texts w.heap.size w a n c l ∧ n ≤ N ∧ ∀ s ∈ l, s.size ≤ N := by
  obtain ⟨a, n, c, rfl, hl, hn, hi⟩ := open_sl ht (by omega) h hb
  by_cases h0 : n = 0
  · subst h0
    exact ⟨a, 0, c, [], rfl, ⟨rfl, hl, Nat.zero_le _, (fun b o _ i s hs => by simp at hs), (fun s h => by cases h)⟩, Nat.zero_le _, fun s h => by cases h⟩
  · obtain ⟨b, o, rfl, hbl⟩ := hl.ptr (by omega)
    obtain ⟨l, hln, hll⟩ := list_of (n := n) (p := fun i (s : ByteArray) => w.cell? ⟨b, o + i, none⟩ = some (.string s) ∧ s.size ≤ N) fun i hil => by
      obtain ⟨cs, k, y, h1, h2, h3, h4⟩ := hi b o rfl i hil
      rw [hc] at h1 h2
      match cs, h1 with
      | [u], _ =>
        obtain ⟨s, rfl, h5⟩ := open_str he h3
        have h6 := h2 0 (by omega)
        rw [Nat.mul_one, Nat.add_zero] at h6
        exact ⟨s, h6, by omega⟩
    have hsz : ∀ s ∈ l, s.size ≤ N := fun s hs => by
      obtain ⟨i, hi2, rfl⟩ := List.getElem_of_mem hs
      exact (hll i _ (List.getElem?_eq_getElem hi2)).2
    exact ⟨_, n, c, l, rfl, ⟨hln.symm, hl, by omega, fun b2 o2 e2 i s hs => by cases e2; exact (hll i s hs).1, fun s hs => by have := hsz s hs; omega⟩, hn, hsz⟩
end
end Go.Proofs.YtifgmnafjihlkaaGreatDoor
