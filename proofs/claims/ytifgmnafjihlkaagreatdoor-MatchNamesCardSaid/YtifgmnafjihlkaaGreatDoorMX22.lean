/- Part 22 of the walks and plain laws, joined: MatSmall, MatWake, LaidX, JoinMk, FactX, LawMat, OpenAsk. -/
import Derived.Test.YtifgmnafjihlkaaGreatDoorMX15
import Derived.Test.YtifgmnafjihlkaaGreatDoorMX20
import Derived.Test.YtifgmnafjihlkaaGreatDoorMX21
import Derived.Test.YtifgmnafjihlkaaGreatDoorRows
import Derived.Test.YtifgmnafjihlkaaGreatDoorMX06
import Derived.Test.YtifgmnafjihlkaaGreatDoorCards
import Derived.Deep.DeepWitnessRowRef
import Derived.JoinedCond
import Derived.WalkKit
import Derived.SevenTiedAt
import Derived.WideShapes
import Derived.ChangeMaps5
/- rosterlaw07.small: the schema that wakes makes. -/
namespace Go.Proofs.YtifgmnafjihlkaaGreatDoor
open Go Go.RowKit Go.Maps

def smT0 : PType := ⟨⟨#[50, 46, 53, 46, 52, 46, 48]⟩, [⟨#[111, 98, 106, 101, 99, 116, 67, 108, 97, 115, 115]⟩], ⟨#[]⟩, 8, 20, 0, 0, false, 0⟩
def smT1 : PType := ⟨⟨#[50, 46, 53, 46, 52, 46, 51]⟩, [⟨#[99, 110]⟩], ⟨#[]⟩, 0, 1, 2, 3, false, 0⟩
def smallS : PSchema := ⟨[smT0, smT1], []⟩
theorem small_new : newE smallS = (0, 0) := by decide +kernel
theorem small_syn : (typeI smallS 1).syn = 0 := by decide +kernel
theorem small_eq : (typeI smallS 1).eq = 1 := by decide +kernel
def SmallPost (w : World) (e : Ending) (w' : World) : Prop :=
  ∃ a, e = .returned (.agg #[.slice a 2 2, .slice none 0 0]) ∧ Types w'.heap.size w' a 2 2 smallS.types ∧ Below w.heap.size w w'

theorem one_text {w : World} {b : Nat} {s : ByteArray} (hc : w.cell? ⟨b, 0, none⟩ = some (.string s)) (hs : s.size ≤ 4294967280) : Texts w.heap.size w (some ⟨b, 0, none⟩) 1 1 [s] :=
  ⟨rfl, ⟨Nat.le_refl _, by unfold maxLen; omega, (fun h => by cases h), (fun ad h => by cases h; exact World.block_lt_of_cell? w _ hc), (fun ad h _ => by cases h; rfl)⟩, by omega, (fun b' o h i x hx => by
    cases h
    cases i with
    | zero => simp at hx; subst hx; exact hc
    | succ i => simp at hx), (fun x hx => by simp at hx; subst hx; exact hs)⟩

set_option maxRecDepth 20000 in
theorem small_any7 (w : World) : Calls Tryz.prog 76 #[] w (SmallPost w) := by
  go_enter Tryz.func76, Tryz.ntmps76
  go_wp2_with fail
  refine bodyPost_ret (v := .agg #[.slice (some ⟨w.heap.size + 1 + 1 + 1, 0, none⟩) 2 2, .slice none 0 0]) (by simp [results, Tryz.results76, go_sem]) rfl ?_
  have hb1 : Below w.heap.size w (w.alloc (.cells #[.slice (some ⟨w.heap.size + 1 + 1 + 1, 0, none⟩) 2 2, .slice none 0 0] 38)) := (Below.refl _ w).alloc (Nat.le_refl _) _
  have hz1 : (w.alloc (.cells #[.slice (some ⟨w.heap.size + 1 + 1 + 1, 0, none⟩) 2 2, .slice none 0 0] 38)).heap.size = w.heap.size + 1 := by simp
  generalize w.alloc (.cells #[.slice (some ⟨w.heap.size + 1 + 1 + 1, 0, none⟩) 2 2, .slice none 0 0] 38) = w1 at hb1 hz1 ⊢
  have hc1 := World.cell?_alloc_new w1 #[.string ⟨#[111, 98, 106, 101, 99, 116, 67, 108, 97, 115, 115]⟩] 9 0
  have hk2 : Below w1.heap.size w1 (w1.alloc (.cells #[.string ⟨#[111, 98, 106, 101, 99, 116, 67, 108, 97, 115, 115]⟩] 9)) := (Below.refl _ w1).alloc (Nat.le_refl _) _
  have hz2 : (w1.alloc (.cells #[.string ⟨#[111, 98, 106, 101, 99, 116, 67, 108, 97, 115, 115]⟩] 9)).heap.size = w.heap.size + 1 + 1 := by simp [hz1]
  generalize w1.alloc (.cells #[.string ⟨#[111, 98, 106, 101, 99, 116, 67, 108, 97, 115, 115]⟩] 9) = w2 at hc1 hk2 hz2 ⊢
  have hc2 := World.cell?_alloc_new w2 #[.string ⟨#[99, 110]⟩] 9 0
  have hk3 : Below w2.heap.size w2 (w2.alloc (.cells #[.string ⟨#[99, 110]⟩] 9)) := (Below.refl _ w2).alloc (Nat.le_refl _) _
  have hz3 : (w2.alloc (.cells #[.string ⟨#[99, 110]⟩] 9)).heap.size = w.heap.size + 1 + 1 + 1 := by simp [hz2]
  generalize w2.alloc (.cells #[.string ⟨#[99, 110]⟩] 9) = w3 at hc2 hk3 hz3 ⊢
  have hc3 : ∀ j v, (#[.string ⟨#[50, 46, 53, 46, 52, 46, 48]⟩, .slice (some ⟨w.heap.size + 1, 0, none⟩) 1 1, .string ⟨#[]⟩, .int .i8 8, .int .i8 20, .int .i8 0, .int .i8 0, .bool false, .int .u8 0, .string ⟨#[50, 46, 53, 46, 52, 46, 51]⟩, .slice (some ⟨w.heap.size + 1 + 1, 0, none⟩) 1 1, .string ⟨#[]⟩, .int .i8 0, .int .i8 1, .int .i8 2, .int .i8 3, .bool false, .int .u8 0] : Array Value)[j]? = some v → (w3.alloc (.cells #[.string ⟨#[50, 46, 53, 46, 52, 46, 48]⟩, .slice (some ⟨w.heap.size + 1, 0, none⟩) 1 1, .string ⟨#[]⟩, .int .i8 8, .int .i8 20, .int .i8 0, .int .i8 0, .bool false, .int .u8 0, .string ⟨#[50, 46, 53, 46, 52, 46, 51]⟩, .slice (some ⟨w.heap.size + 1 + 1, 0, none⟩) 1 1, .string ⟨#[]⟩, .int .i8 0, .int .i8 1, .int .i8 2, .int .i8 3, .bool false, .int .u8 0] 48)).cell? ⟨w3.heap.size, j, none⟩ = some v := fun j v h => by rw [World.cell?_alloc_new]; exact h
  have hk4 : Below w3.heap.size w3 (w3.alloc (.cells #[.string ⟨#[50, 46, 53, 46, 52, 46, 48]⟩, .slice (some ⟨w.heap.size + 1, 0, none⟩) 1 1, .string ⟨#[]⟩, .int .i8 8, .int .i8 20, .int .i8 0, .int .i8 0, .bool false, .int .u8 0, .string ⟨#[50, 46, 53, 46, 52, 46, 51]⟩, .slice (some ⟨w.heap.size + 1 + 1, 0, none⟩) 1 1, .string ⟨#[]⟩, .int .i8 0, .int .i8 1, .int .i8 2, .int .i8 3, .bool false, .int .u8 0] 48)) := (Below.refl _ w3).alloc (Nat.le_refl _) _
  have hz4 : (w3.alloc (.cells #[.string ⟨#[50, 46, 53, 46, 52, 46, 48]⟩, .slice (some ⟨w.heap.size + 1, 0, none⟩) 1 1, .string ⟨#[]⟩, .int .i8 8, .int .i8 20, .int .i8 0, .int .i8 0, .bool false, .int .u8 0, .string ⟨#[50, 46, 53, 46, 52, 46, 51]⟩, .slice (some ⟨w.heap.size + 1 + 1, 0, none⟩) 1 1, .string ⟨#[]⟩, .int .i8 0, .int .i8 1, .int .i8 2, .int .i8 3, .bool false, .int .u8 0] 48)).heap.size = w.heap.size + 1 + 1 + 1 + 1 := by simp [hz3]
  generalize w3.alloc (.cells #[.string ⟨#[50, 46, 53, 46, 52, 46, 48]⟩, .slice (some ⟨w.heap.size + 1, 0, none⟩) 1 1, .string ⟨#[]⟩, .int .i8 8, .int .i8 20, .int .i8 0, .int .i8 0, .bool false, .int .u8 0, .string ⟨#[50, 46, 53, 46, 52, 46, 51]⟩, .slice (some ⟨w.heap.size + 1 + 1, 0, none⟩) 1 1, .string ⟨#[]⟩, .int .i8 0, .int .i8 1, .int .i8 2, .int .i8 3, .bool false, .int .u8 0] 48) = w4 at hc3 hk4 hz4 ⊢
  rw [hz1] at hc1
  rw [hz2] at hc2
  rw [hz3] at hc3
  have t1 : Texts w4.heap.size w4 (some ⟨w.heap.size + 1, 0, none⟩) 1 1 [⟨#[111, 98, 106, 101, 99, 116, 67, 108, 97, 115, 115]⟩] := ((one_text (b := w.heap.size + 1) hc1 (by decide)).keep hk3 hk3.size).keep hk4 hk4.size
  have t2 : Texts w4.heap.size w4 (some ⟨w.heap.size + 1 + 1, 0, none⟩) 1 1 [⟨#[99, 110]⟩] := (one_text (b := w.heap.size + 1 + 1) hc2 (by decide)).keep hk4 hk4.size
  have hb4 : Below w.heap.size w w4 := bnext (bnext (bnext hb1 hk2) hk3) hk4
  refine ⟨some ⟨w.heap.size + 1 + 1 + 1, 0, none⟩, rfl, ⟨rfl, ⟨Nat.le_refl _, by unfold maxLen; omega, (fun h => by cases h), (fun ad h => by cases h; show w.heap.size + 1 + 1 + 1 < _; omega), (fun ad h _ => by cases h; rfl)⟩, ?_, ?_, (fun ad h => by cases h; rfl)⟩, hb4⟩
  · intro b o h i x hx
    cases h
    match i, hx with
    | 0, hx =>
      cases hx
      exact ⟨hc3 0 _ rfl, ⟨_, _, _, hc3 1 _ rfl, t1⟩, hc3 2 _ rfl, hc3 3 _ rfl, hc3 4 _ rfl, hc3 5 _ rfl, hc3 6 _ rfl, hc3 7 _ rfl, hc3 8 _ rfl⟩
    | 1, hx =>
      cases hx
      exact ⟨hc3 9 _ rfl, ⟨_, _, _, hc3 10 _ rfl, t2⟩, hc3 11 _ rfl, hc3 12 _ rfl, hc3 13 _ rfl, hc3 14 _ rfl, hc3 15 _ rfl, hc3 16 _ rfl, hc3 17 _ rfl⟩
    | n + 2, hx => simp [smallS] at hx
  · intro x hx
    simp only [smallS, List.mem_cons, List.not_mem_nil, or_false] at hx
    rcases hx with rfl | rfl
    · exact ⟨by decide, by decide, by decide, by decide, by decide, by decide, by decide⟩
    · exact ⟨by decide, by decide, by decide, by decide, by decide, by decide, by decide⟩
end Go.Proofs.YtifgmnafjihlkaaGreatDoor
/- rosterlaw07.wakes: true. -/
namespace Go.Proofs.YtifgmnafjihlkaaGreatDoor
open Go Go.RowKit Go.Maps

theorem wk1 : keyM 1 [32, 84, 119, 111, 32, 32, 87, 111, 114, 100, 115, 32] = ([116, 119, 111, 32, 119, 111, 114, 100, 115], true) := by decide +kernel
theorem wk2 : fitsV smallS 1 (fun _ => ([], false)) [120] = true := by decide +kernel
theorem wk3 : fitsV smallS 1 (fun _ => ([], false)) [] = false := by decide +kernel
theorem wk4 : sameV smallS 1 (keyM 1) [65] [97] = true := by decide +kernel
theorem wk5 : askV 1 saysE (keyM 1) 1 [65] [97] = 1 := by decide +kernel
theorem wk6 : askV 1 saysE (keyM 1) 1 [65] [] = 2 := by decide +kernel
theorem wk7 : askV 2 saysF (keyM 13) 13 [49, 48] [57] = 1 := by decide +kernel
theorem wk8 : askV 2 saysU (keyM 13) 13 [49, 48] [57] = 0 := by decide +kernel
theorem wk9 : partV 3 (keyM 3) [66, 97, 114, 98, 97, 114, 97] [98, 97, 114] [65] [[97]] = 1 := by decide +kernel
theorem wk9k : (keyM 3 [66, 97, 114, 98, 97, 114, 97]).1.length < 4294967281 := by decide +kernel
theorem wk10 : likeV smallS 1 (fun _ => ([], false)) (keyM 1) [82, 111, 98, 101, 114, 116] [82, 117, 112, 101, 114, 116] = 1 := by decide +kernel

structure EnvW (w : World) : Prop where
  e : Env w
  s : EnvS w
  m : EnvM w
theorem EnvW.next {w w' : World} (h : EnvW w) (k : Below w.heap.size w w') : EnvW w' := ⟨h.e.next k, h.s.next k, h.m.next k⟩

set_option maxRecDepth 20000 in
set_option maxHeartbeats 4000000 in
theorem wakes_any (w : World) (hE : EnvW w) : Calls Tryz.prog 23 #[] w fun e w' => e = .returned (.bool true) ∧ Below w.heap.size w w' := by
  have hsm := small_any7 w
  unfold SmallPost at hsm
  have hnw : ∀ wq a, Below w.heap.size w wq → Types wq.heap.size wq a 2 2 smallS.types → Calls Tryz.prog 24 #[.agg #[.slice a 2 2, .slice none 0 0]] wq fun e w' => ∃ g, e = .returned (.tuple #[.pointer (some ⟨g, 0, none⟩), .int .i64 0, .int .i64 0]) ∧ Sch w' g smallS ∧ Below wq.heap.size wq w' := fun wq a hb ht =>
    (new_any smallS wq.heap.size a none 2 2 0 0 wq (hE.s.next hb) ht ⟨rfl, ⟨Nat.le_refl _, Nat.zero_le _, fun _ => rfl, (fun ad h => by cases h), (fun ad h => by cases h)⟩, (fun b o h => by cases h), (fun x hx => by cases hx), (fun ad h => by cases h)⟩ (Nat.le_refl _) rfl).mono fun e w' ⟨h1, h2⟩ => by
      rcases h2 with ⟨_, g, h3, h4⟩ | ⟨h3, _⟩
      · exact ⟨g, h3, h4, h1⟩
      · exact absurd (by rw [small_new]) h3
  have HSM := Lib.hid hsm; have HNW := Lib.hid hnw; have HE := Lib.hid hE; clear hsm hnw hE
  go_enter Tryz.func23, Tryz.ntmps23
  go_upto_region 4 with (first
    | (go_at_call 76; refine (HSM.out).mono ?_; rintro e w1 ⟨a, rfl, ht1, hb1⟩; have H1 := Lib.hid (And.intro hb1 ht1); clear hb1 ht1)
    | (go_at_call 24; refine (HNW.out _ _ H1.out.1 H1.out.2).mono ?_; rintro e w2 ⟨g, rfl, hs2, hb2⟩; have H2 := Lib.hid (And.intro (bnext H1.out.1 hb2) hs2); clear hb2 hs2)
    | fail)
  have ks : ∀ (r : Int), -128 ≤ r ∧ r ≤ 127 → r ≠ 19 → r ≠ 20 → ∀ wq, Below w2.heap.size w2 wq → KeyAt wq (some ⟨g, 0, none⟩) r (keyM r) := fun r h1 h2 h3 wq hb =>
    have E := (HE.out.next H2.out.1).next hb
    keyAt_form ⟨g, 0, none⟩ r wq E.e E.s E.m h1 h2 h3
  have c1 : ∀ wq, Below w2.heap.size w2 wq → Calls Tryz.prog 15 #[.pointer (some ⟨g, 0, none⟩), .int .i8 1, .string ⟨#[32, 84, 119, 111, 32, 32, 87, 111, 114, 100, 115, 32]⟩] wq fun e w' => e = .returned (.tuple #[.string ⟨#[116, 119, 111, 32, 119, 111, 114, 100, 115]⟩, .bool true]) ∧ Below wq.heap.size wq w' := fun wq hb => by
    have h := ks 1 (by decide) (by decide) (by decide) wq hb wq ⟨#[32, 84, 119, 111, 32, 32, 87, 111, 114, 100, 115, 32]⟩ (Below.refl _ _)
    rw [show keyM 1 _ = _ from wk1] at h; exact h
  have c2 : ∀ wq, Below w2.heap.size w2 wq → Calls Tryz.prog 16 #[.pointer (some ⟨g, 0, none⟩), .int .i64 1, .string ⟨#[120]⟩] wq fun e w' => e = .returned (.bool true) ∧ Below wq.heap.size wq w' := fun wq hb => by
    have E := (HE.out.next H2.out.1).next hb
    have h := fits_any smallS g 1 (fun _ => ([], false)) ⟨#[120]⟩ wq (H2.out.2.keep hb) E.e E.m (fun _ h => by rw [small_syn] at h; cases h)
    rw [show fitsV smallS 1 _ _ = _ from wk2] at h; exact h
  have c3 : ∀ wq, Below w2.heap.size w2 wq → Calls Tryz.prog 16 #[.pointer (some ⟨g, 0, none⟩), .int .i64 1, .string ⟨#[]⟩] wq fun e w' => e = .returned (.bool false) ∧ Below wq.heap.size wq w' := fun wq hb => by
    have E := (HE.out.next H2.out.1).next hb
    have h := fits_any smallS g 1 (fun _ => ([], false)) ⟨#[]⟩ wq (H2.out.2.keep hb) E.e E.m (fun _ h => by rw [small_syn] at h; cases h)
    rw [show fitsV smallS 1 _ _ = _ from wk3] at h; exact h
  have c4 : ∀ wq, Below w2.heap.size w2 wq → Calls Tryz.prog 17 #[.pointer (some ⟨g, 0, none⟩), .int .i64 1, .string ⟨#[65]⟩, .string ⟨#[97]⟩] wq fun e w' => e = .returned (.bool true) ∧ Below wq.heap.size wq w' := fun wq hb => by
    have h := same_any smallS g 1 (keyM 1) ⟨#[65]⟩ ⟨#[97]⟩ wq (H2.out.2.keep hb) (fun _ => by rw [small_eq]; exact ks 1 (by decide) (by decide) (by decide) wq hb)
    rw [show sameV smallS 1 _ _ _ = _ from wk4] at h; exact h
  have c5 : ∀ wq, Below w2.heap.size w2 wq → Calls Tryz.prog 18 #[.pointer (some ⟨g, 0, none⟩), .int .i8 1, .string ⟨#[65]⟩, .string ⟨#[97]⟩] wq fun e w' => e = .returned (.int .i8 1) ∧ Below wq.heap.size wq w' := fun wq hb => by
    have h := ask_anyE (some ⟨g, 0, none⟩) 1 (keyM 1) ⟨#[65]⟩ ⟨#[97]⟩ wq ((HE.out.next H2.out.1).next hb).m (by decide) (ks 1 (by decide) (by decide) (by decide) wq hb)
    rw [show askV 1 saysE _ 1 _ _ = _ from wk5] at h; exact h
  have c6 : ∀ wq, Below w2.heap.size w2 wq → Calls Tryz.prog 18 #[.pointer (some ⟨g, 0, none⟩), .int .i8 1, .string ⟨#[65]⟩, .string ⟨#[]⟩] wq fun e w' => e = .returned (.int .i8 2) ∧ Below wq.heap.size wq w' := fun wq hb => by
    have h := ask_anyE (some ⟨g, 0, none⟩) 1 (keyM 1) ⟨#[65]⟩ ⟨#[]⟩ wq ((HE.out.next H2.out.1).next hb).m (by decide) (ks 1 (by decide) (by decide) (by decide) wq hb)
    rw [show askV 1 saysE _ 1 _ _ = _ from wk6] at h; exact h
  have c7 : ∀ wq, Below w2.heap.size w2 wq → Calls Tryz.prog 19 #[.pointer (some ⟨g, 0, none⟩), .int .i8 13, .string ⟨#[49, 48]⟩, .string ⟨#[57]⟩] wq fun e w' => e = .returned (.int .i8 1) ∧ Below wq.heap.size wq w' := fun wq hb => by
    have h := ask_anyF (some ⟨g, 0, none⟩) 13 (keyM 13) ⟨#[49, 48]⟩ ⟨#[57]⟩ wq ((HE.out.next H2.out.1).next hb).m (by decide) (ks 13 (by decide) (by decide) (by decide) wq hb)
    rw [show askV 2 saysF _ 13 _ _ = _ from wk7] at h; exact h
  have c8 : ∀ wq, Below w2.heap.size w2 wq → Calls Tryz.prog 20 #[.pointer (some ⟨g, 0, none⟩), .int .i8 13, .string ⟨#[49, 48]⟩, .string ⟨#[57]⟩] wq fun e w' => e = .returned (.int .i8 0) ∧ Below wq.heap.size wq w' := fun wq hb => by
    have h := ask_anyU (some ⟨g, 0, none⟩) 13 (keyM 13) ⟨#[49, 48]⟩ ⟨#[57]⟩ wq ((HE.out.next H2.out.1).next hb).m (by decide) (ks 13 (by decide) (by decide) (by decide) wq hb)
    rw [show askV 2 saysU _ 13 _ _ = _ from wk8] at h; exact h
  have c9 : ∀ wq b, Below w2.heap.size w2 wq → wq.cell? ⟨b, 0, none⟩ = some (.string ⟨#[97]⟩) → Calls Tryz.prog 21 #[.pointer (some ⟨g, 0, none⟩), .int .i8 3, .string ⟨#[66, 97, 114, 98, 97, 114, 97]⟩, .string ⟨#[98, 97, 114]⟩, .slice (some ⟨b, 0, none⟩) 1 1, .string ⟨#[65]⟩] wq fun e w' => e = .returned (.int .i8 1) ∧ Below wq.heap.size wq w' := fun wq b hb hc => by
    have E := (HE.out.next H2.out.1).next hb
    have h := mpart_any ⟨g, 0, none⟩ 3 (keyM 3) ⟨#[66, 97, 114, 98, 97, 114, 97]⟩ ⟨#[98, 97, 114]⟩ ⟨#[65]⟩ wq.heap.size (some ⟨b, 0, none⟩) 1 1 [⟨#[97]⟩] wq E.e E.s E.m (by decide) (by decide) (one_text hc (by decide)) (Nat.le_refl _) (ks 3 (by decide) (by decide) (by decide) wq hb) (by decide) (by decide) wk9k
    rw [show partV 3 (keyM 3) (toL ⟨#[66, 97, 114, 98, 97, 114, 97]⟩) (toL ⟨#[98, 97, 114]⟩) (toL ⟨#[65]⟩) (List.map toL [⟨#[97]⟩]) = 1 from wk9] at h; exact h
  have c10 : ∀ wq, Below w2.heap.size w2 wq → Calls Tryz.prog 22 #[.pointer (some ⟨g, 0, none⟩), .int .i64 1, .string ⟨#[82, 111, 98, 101, 114, 116]⟩, .string ⟨#[82, 117, 112, 101, 114, 116]⟩] wq fun e w' => e = .returned (.int .i8 1) ∧ Below wq.heap.size wq w' := fun wq hb => by
    have E := (HE.out.next H2.out.1).next hb
    have h := like_any smallS g 1 (fun _ => ([], false)) (keyM 1) ⟨#[82, 111, 98, 101, 114, 116]⟩ ⟨#[82, 117, 112, 101, 114, 116]⟩ wq (H2.out.2.keep hb) E.e E.m (fun _ h => by rw [small_syn] at h; cases h) (fun _ => by rw [small_eq]; exact ⟨by decide, ks 1 (by decide) (by decide) (by decide) wq hb⟩) (by decide) (by decide)
    rw [show likeV smallS 1 _ _ _ _ = _ from wk10] at h; exact h
  have C1 := Lib.hid c1; have C2 := Lib.hid c2; have C3 := Lib.hid c3; have C4 := Lib.hid c4; have C5 := Lib.hid c5; have C6 := Lib.hid c6; have C7 := Lib.hid c7; have C8 := Lib.hid c8; have C9 := Lib.hid c9; have C10 := Lib.hid c10
  clear c1 c2 c3 c4 c5 c6 c7 c8 c9 c10 ks
  go_wp2_with (first
    | (go_at_call 15; (with_reducible refine (C1.out _ (Below.refl _ _)).mono ?_); rintro e x1 ⟨rfl, hb⟩; have B1 := Lib.hid hb; clear hb)
    | (go_at_call 16; (with_reducible refine (C2.out _ B1.out).mono ?_); rintro e x2 ⟨rfl, hb⟩; have B2 := Lib.hid (bnext B1.out hb); clear hb)
    | (go_at_call 16; (with_reducible refine (C3.out _ B2.out).mono ?_); rintro e x3 ⟨rfl, hb⟩; have B3 := Lib.hid (bnext B2.out hb); clear hb)
    | (go_at_call 17; (with_reducible refine (C4.out _ B3.out).mono ?_); rintro e x4 ⟨rfl, hb⟩; have B4 := Lib.hid (bnext B3.out hb); clear hb)
    | (go_at_call 18; (with_reducible refine (C5.out _ B4.out).mono ?_); rintro e x5 ⟨rfl, hb⟩; have B5 := Lib.hid (bnext B4.out hb); clear hb)
    | (go_at_call 18; (with_reducible refine (C6.out _ B5.out).mono ?_); rintro e x6 ⟨rfl, hb⟩; have B6 := Lib.hid (bnext B5.out hb); clear hb)
    | (go_at_call 19; (with_reducible refine (C7.out _ B6.out).mono ?_); rintro e x7 ⟨rfl, hb⟩; have B7 := Lib.hid (bnext B6.out hb); clear hb)
    | (go_at_call 20; (with_reducible refine (C8.out _ B7.out).mono ?_); rintro e x8 ⟨rfl, hb⟩; have B8 := Lib.hid (bnext B7.out hb); have hn := World.cell?_alloc_new x8 #[.string ⟨#[97]⟩] 9 0; have HN := Lib.hid hn; clear hb hn)
    | (go_at_call 21; refine (C9.out _ _ (B8.out.alloc B8.out.size _) HN.out).mono ?_; rintro e x9 ⟨rfl, hb⟩; have B9 := Lib.hid (bnext (B8.out.alloc B8.out.size _) hb); clear hb)
    | (go_at_call 22; (with_reducible refine (C10.out _ B9.out).mono ?_); rintro e x10 ⟨rfl, hb⟩; have B10 := Lib.hid (bnext B9.out hb); clear hb)
    | fail)
  go_ret
  exact ⟨rfl, bnext H2.out.1 B10.out⟩
end Go.Proofs.YtifgmnafjihlkaaGreatDoor
/- A world in which the listed variables lie as the program's text lays them; what the row's list gives: the walks' environment. -/
namespace Go.Proofs.YtifgmnafjihlkaaGreatDoor
open Go Go.RowKit

/-- the cells of a listed table -/
def litV : DataW Unit → List Value
  | .lit (.int k n) => [.int k n]
  | .lit (.string l) => [.string ⟨l.toArray⟩]
  | _ => []
def litW : DataW Unit → List Value
  | .lit (.int k n) => [.int k n]
  | .lit (.string l) => [.string ⟨l.toArray⟩]
  | .agg l => l.flatMap litV
  | _ => []
def cellsD : DataW Unit → Array Value
  | .agg l => (l.flatMap litW).toArray
  | _ => #[]
def setC (h : Array Obj) (g : Nat) (cs : Array Value) : Array Obj := h.modify g fun
  | .cells _ t fz => .cells cs t fz
  | o => o
def setD (h : Array Obj) (g : Nat) (d : DataW Unit) : Array Obj := setC h g (cellsD d)
/-- a variable that holds an error of a text, which lies behind the heap -/
def setE (h : Array Obj) (g : Nat) (text : List UInt8) : Array Obj := (setC h g #[.iface 349 (.pointer (some ⟨h.size, 0, none⟩))]).push (.cells #[.string ⟨text.toArray⟩] 351)

noncomputable def laidHeap (h : Array Obj) : Array Obj :=
  setE (setE (setD (setD (setD (setD (setD (setD (setD (setD h 8 Rows.laid_unicode_utf8_first) 9 Rows.laid_unicode_utf8_acceptRanges)
    7 Rows.laid_internal_strconv_uint64pow10) 10 Rows.laid_math_bits_deBruijn32tab) 11 Rows.laid_math_bits_deBruijn64tab)
    2 Rows.laid_roster_schema_table) 1 Rows.laid_roster_match_sorts) 0 Rows.laid_roster_match_forms)
    6 [118, 97, 108, 117, 101, 32, 111, 117, 116, 32, 111, 102, 32, 114, 97, 110, 103, 101]) 5 [105, 110, 118, 97, 108, 105, 100, 32, 115, 121, 110, 116, 97, 120]
noncomputable def laidWorld (os : Os) : World :=
  { World.holding Tryz.prog os ⟨#[], #[], []⟩ with heap := laidHeap (World.holding Tryz.prog os ⟨#[], #[], []⟩).heap }

theorem gPow : Tryz.prog.globalNamed "internal/strconv.uint64pow10" = some 7 := by kernel_rfl
theorem gPowType : (Tryz.prog.globals[7]?).map (·.type) = some 340 := by kernel_rfl
theorem cellsPow : Tryz.prog.cellsOf 340 = 20 := by kernel_rfl
theorem cellsU64 : Tryz.prog.cellsOf 54 = 1 := by kernel_rfl
theorem gSorts : Tryz.prog.globalNamed "roster/match.sorts" = some 1 := by kernel_rfl
theorem gSortsType : (Tryz.prog.globals[1]?).map (·.type) = some 180 := by kernel_rfl
theorem cellsSorts : Tryz.prog.cellsOf 180 = 21 := by kernel_rfl
theorem gForms : Tryz.prog.globalNamed "roster/match.forms" = some 0 := by kernel_rfl
theorem gFormsType : (Tryz.prog.globals[0]?).map (·.type) = some 114 := by kernel_rfl
theorem cellsForms : Tryz.prog.cellsOf 114 = 9 := by kernel_rfl

theorem laidMetH_filter {l : List (String × DataW Unit)} {W : World} (h : laidMetH Tryz.prog l W) (n : String) {d : DataW Unit} (hf : (l.filter fun x => x.2.handleName?.isNone).filter (fun x => x.1 == n) = [(n, d)]) : laidMet Tryz.prog [(n, d)] W := by
  have := (laidMetH_iff.1 h).1.filter fun x => x.1 == n
  rw [hf] at this
  exact this

theorem env_e {l : List (String × DataW Unit)} {W : World} (hL : laidMetH Tryz.prog l W) (hsh : W.ShapedOpen Tryz.prog) (h1 : (l.filter fun x => x.2.handleName?.isNone).filter (fun x => x.1 == "internal/strconv.uint64pow10") = [("internal/strconv.uint64pow10", Lib.tabData .u64 Lib.pow10Tab)]) : Env W where
  max := Tryz.laysM143.s1_3 W hsh
  pow := Lib.tabIs_of_head gPow gPowType Tryz.underlying340 Tryz.underlying54 cellsU64 cellsPow (laidMetH_filter hL _ h1)
theorem env_s {l : List (String × DataW Unit)} {W : World} (hL : laidMetH Tryz.prog l W) (hsh : W.ShapedOpen Tryz.prog) (h1 : (l.filter fun x => x.2.handleName?.isNone).filter (fun x => x.1 == "roster/schema.table") = [("roster/schema.table", .agg (tableV.map lineD))]) : EnvS W where
  max := Tryz.laysM143.s1_3 W hsh
  tab := table_of_head (laidMetH_filter hL _ h1)
theorem env_m {l : List (String × DataW Unit)} {W : World} (hL : laidMetH Tryz.prog l W) (h1 : (l.filter fun x => x.2.handleName?.isNone).filter (fun x => x.1 == "roster/match.sorts") = [("roster/match.sorts", Lib.tabData .i8 sortsV)])
    (h2 : (l.filter fun x => x.2.handleName?.isNone).filter (fun x => x.1 == "roster/match.forms") = [("roster/match.forms", Lib.tabData .i8 formsV)]) : EnvM W where
  sorts := fun j v hj => by
    have h := Lib.tabIs_of_head gSorts gSortsType Tryz.underlying180 Tryz.underlying22 c1i cellsSorts (laidMetH_filter hL _ h1)
    have hlt := (List.getElem?_eq_some_iff.1 hj).1
    have := h.cell gSorts j hlt
    rw [this, List.getD_eq_getElem?_getD, hj]; rfl
  forms := fun j v hj => by
    have h := Lib.tabIs_of_head gForms gFormsType Tryz.underlying114 Tryz.underlying22 c1i cellsForms (laidMetH_filter hL _ h2)
    have hlt := (List.getElem?_eq_some_iff.1 hj).1
    have := h.cell gForms j hlt
    rw [this, List.getD_eq_getElem?_getD, hj]; rfl
end Go.Proofs.YtifgmnafjihlkaaGreatDoor
/- The closed facts of a row, one by one: a law of my own that joins them, so that each is checked by itself. -/
namespace Go.Proofs.YtifgmnafjihlkaaGreatDoor
open Go

theorem band {a b : Bool} (ha : a = true) (hb : b = true) : (a && b) = true := by rw [ha, hb]; rfl
theorem joined_mk {P : Program} {f : FuncId} {fn : Func} {s : ChangeSpec} {c : OpenClaim}
    (h0 : (c.wf (OpenSpec.ofChange s)) = true)
    (h1 : (laidOutB P) = true)
    (h2 : (mapsRowed P) = true)
    (h3 : (fn.params.all (P.readableRec ·)) = true)
    (h4 : (namedTie P c.named s.vars) = true)
    (h5 : ((c.stops == [])) = true)
    (h6 : ((P.stops == [])) = true)
    (h7 : ((c.knobs == [])) = true)
    (h8 : ((P.stopKnobs == [])) = true)
    (h9 : ((c.inPlace == P.inPlace f)) = true)
    (h10 : ((c.unfollowed == P.unfollowed f)) = true)
    (h11 : ((c.recurses == P.recurses f)) = true)
    (h12 : ((c.named == P.varsNamed f)) = true)
    (h13 : ((c.maps == (fn.params.toList ++ s.plain.varTypes P).any (P.mapsRec ·))) = true)
    (h14 : ((c.ifaces == (fn.params.toList ++ s.plain.varTypes P).any (P.ifacesRec ·))) = true)
    (h15 : ((c.mapsOut == P.mapsAmong fn.resultTypes.toList)) = true)
    (h16 : ((c.loops == (fn.params.toList ++ s.plain.varTypes P).any (P.loopsFrom ·))) = true)
    (h17 : ((c.wideKeys == (fn.params.toList ++ s.plain.varTypes P ++ fn.resultTypes.toList).any (P.wideKeysFrom ·))) = true)
    (h18 : (s.vars.all (P.varReadable ·)) = true)
    (h19 : (fn.resultTypes.all (fun t => P.readableRec t && decide (t < P.types.size))) = true)
    (h20 : ((c.ifacesOut == fn.resultTypes.toList.any (P.ifacesRec ·))) = true)
    (h21 : ((c.loopsOut == fn.resultTypes.toList.any (P.loopsFrom ·))) = true)
    (h22 : ((c.plainKeys == P.plainKeys)) = true)
    (h23 : (c.shortTexts.isNone) = true)
    (h24 : (P.stopsHeard) = true)
    (h25 : (P.mayEnter) = true)
    (h26 : ((c.lifted == P.liftsFinal)) = true)
    (h27 : ((P.make == some c.make)) = true)
    (h28 : ((c.kinds == (if c.domain.isEmpty then [] else fn.params.toList.map fun t => match P.underlying t with | some (.int k) => some k | _ => none))) = true)
    (h29 : ((c.pinned == c.pinnedBy)) = true)
    (h30 : ((c.veiled == (fn.params.toList ++ s.plain.varTypes P ++ fn.resultTypes.toList).any (P.veiledRec ·))) = true)
    (h31 : (c.veiledFits P fn.params.toList (fn.params.toList ++ s.plain.varTypes P ++ fn.resultTypes.toList)) = true) : joinedFacts P f fn s c = true := by
  unfold joinedFacts
  exact band (band (band (band (band (band (band (band (band (band (band (band (band (band (band (band (band (band (band (band (band (band (band (band (band (band (band (band (band (band (band h0 h1) h2) h3) h4) h5) h6) h7) h8) h9) h10) h11) h12) h13) h14) h15) h16) h17) h18) h19) h20) h21) h22) h23) h24) h25) h26) h27) h28) h29) h30) h31
end Go.Proofs.YtifgmnafjihlkaaGreatDoor
/- Closed facts on the program, each checked by itself. -/
namespace Go.Proofs.YtifgmnafjihlkaaGreatDoor
open Go

theorem fp1 : laidOutB Tryz.prog = true := by kernel_rfl
theorem fp2 : mapsRowed Tryz.prog = true := by kernel_rfl
theorem fp6 : (Tryz.prog.stops == []) = true := by kernel_rfl
theorem fp8 : (Tryz.prog.stopKnobs == []) = true := by kernel_rfl
theorem fp24 : Tryz.prog.stopsHeard = true := by kernel_rfl
theorem fp25 : Tryz.prog.mayEnter = true := by kernel_rfl
theorem mainT : Tryz.pinned.checked.prog.mainIs = some (true, "a77f927dddbc31e12364b77d8bd0f2ef79e01c71771819b72c31a58587f7f438".toList) := by kernel_rfl
theorem looksT : true = Tryz.pinned.checked.prog.looks [] := by kernel_rfl
end Go.Proofs.YtifgmnafjihlkaaGreatDoor
/- rosterlaw07.MatchNames, MatchNil: true. -/
namespace Go.Proofs.YtifgmnafjihlkaaGreatDoor
open Go Go.RowKit Go.Maps

theorem law_mnames (w : World) (hE : EnvW w) : Calls Tryz.prog 4 #[] w fun e w' => e = .returned (.bool true) ∧ Below w.heap.size w w' := by
  have hw := wakes_any w hE
  have HW := Lib.hid hw; clear hw hE
  go_enter Tryz.func4, Tryz.ntmps4
  go_wp2_with (first | (go_at_call 23; refine (HW.out).mono ?_; rintro e w1 ⟨rfl, hb1⟩; have HB1 := Lib.hid hb1; clear hb1) | fail)
  go_ret
  exact ⟨rfl, HB1.out⟩

theorem askV_nil (sort : Int) (says : Str → Str → Bool) (r : Int) (a b : Str) : askV sort says (fun _ => ([], false)) r a b = 2 := if_pos (.inl rfl)

set_option maxRecDepth 20000 in
set_option maxHeartbeats 4000000 in
theorem law_mnil (rule t : Int) (va vb : ByteArray) (hr : -128 ≤ rule ∧ rule ≤ 127) (w : World) (hE : EnvW w) :
    Calls Tryz.prog 3 #[.agg #[.int .i8 rule, .int .i64 t, .string va, .string vb]] w fun e w' => e = .returned (.bool true) ∧ Below w.heap.size w w' := by
  have hb1 : Below w.heap.size w (w.alloc (.cells #[.int .i8 rule, .int .i64 t, .string va, .string vb] 24)) := (Below.refl _ w).alloc (Nat.le_refl _) _
  have hcs : ∀ wq, Below (w.alloc (.cells #[.int .i8 rule, .int .i64 t, .string va, .string vb] 24)).heap.size (w.alloc (.cells #[.int .i8 rule, .int .i64 t, .string va, .string vb] 24)) wq →
      wq.cell? ⟨w.heap.size, 0, none⟩ = some (.int .i8 rule) ∧ wq.cell? ⟨w.heap.size, 1, none⟩ = some (.int .i64 t) ∧ wq.cell? ⟨w.heap.size, 2, none⟩ = some (.string va) ∧ wq.cell? ⟨w.heap.size, 3, none⟩ = some (.string vb) := fun wq hb => by
    refine ⟨?_, ?_, ?_, ?_⟩ <;> (rw [hb.cell (p := ⟨w.heap.size, _, none⟩) (by simp), World.cell?_alloc_new]; rfl)
  have HB1 := Lib.hid hb1; have HCS := Lib.hid hcs; have HE := Lib.hid hE; clear hb1 hcs hE
  have cK := fun wq => mkey_nil rule va wq
  unfold ret2 at cK
  have cF := fun wq => fits_nil t va wq
  have cS := fun wq => same_nil t va vb wq
  have cE : ∀ wq, Below w.heap.size w wq → Calls Tryz.prog 18 #[.pointer none, .int .i8 rule, .string va, .string vb] wq fun e w' => e = .returned (.int .i8 2) ∧ Below wq.heap.size wq w' := fun wq hb => by
    have h := ask_anyE none rule (fun _ => ([], false)) va vb wq (HE.out.next hb).m hr (keyAt_nil wq rule)
    rw [askV_nil] at h; exact h
  have cR : ∀ wq, Below w.heap.size w wq → Calls Tryz.prog 19 #[.pointer none, .int .i8 rule, .string va, .string vb] wq fun e w' => e = .returned (.int .i8 2) ∧ Below wq.heap.size wq w' := fun wq hb => by
    have h := ask_anyF none rule (fun _ => ([], false)) va vb wq (HE.out.next hb).m hr (keyAt_nil wq rule)
    rw [askV_nil] at h; exact h
  have cU : ∀ wq, Below w.heap.size w wq → Calls Tryz.prog 20 #[.pointer none, .int .i8 rule, .string va, .string vb] wq fun e w' => e = .returned (.int .i8 2) ∧ Below wq.heap.size wq w' := fun wq hb => by
    have h := ask_anyU none rule (fun _ => ([], false)) va vb wq (HE.out.next hb).m hr (keyAt_nil wq rule)
    rw [askV_nil] at h; exact h
  have cP := fun wq => part_nil rule va vb ⟨#[]⟩ none 0 0 wq
  have cL := fun wq => like_nil t va vb wq
  have cW := fun wq (hb : Below w.heap.size w wq) => wakes_any wq (HE.out.next hb)
  have CK := Lib.hid cK; have CF := Lib.hid cF; have CS := Lib.hid cS; have CE := Lib.hid cE; have CR := Lib.hid cR; have CU := Lib.hid cU; have CP := Lib.hid cP; have CL := Lib.hid cL; have CW := Lib.hid cW
  clear cK cF cS cE cR cU cP cL cW hr
  have B0 := Lib.hid (Below.refl (w.alloc (.cells #[.int .i8 rule, .int .i64 t, .string va, .string vb] 24)).heap.size (w.alloc (.cells #[.int .i8 rule, .int .i64 t, .string va, .string vb] 24)))
  obtain ⟨a0, a1, a2, a3⟩ := HCS.out _ B0.out
  clear a0 a1 a2 a3
  go_enter Tryz.func3, Tryz.ntmps3
  go_wp2_with (first
    | (go_at_call 15; (with_reducible refine (CK.out _).mono ?_); rintro e x0 ⟨rfl, rfl⟩)
    | (go_at_call 16; (with_reducible refine (CF.out _).mono ?_); rintro e x1 ⟨rfl, hb⟩; obtain ⟨i0, i1, i2, i3⟩ := HCS.out _ hb; have B1 := Lib.hid hb; clear hb i0)
    | (go_at_call 17; (with_reducible refine (CS.out _).mono ?_); rintro e x2 ⟨rfl, hb⟩; obtain ⟨j0, j1, j2, j3⟩ := HCS.out _ (bnext B1.out hb); have B2 := Lib.hid (bnext B1.out hb); clear hb i1 i2 i3)
    | (go_at_call 18; (with_reducible refine (CE.out _ (bnext HB1.out B2.out)).mono ?_); rintro e x3 ⟨rfl, hb⟩; obtain ⟨k0, k1, k2, k3⟩ := HCS.out _ (bnext B2.out hb); have B3 := Lib.hid (bnext B2.out hb); clear hb j0 j1 j2 j3)
    | (go_at_call 19; (with_reducible refine (CR.out _ (bnext HB1.out B3.out)).mono ?_); rintro e x4 ⟨rfl, hb⟩; obtain ⟨l0, l1, l2, l3⟩ := HCS.out _ (bnext B3.out hb); have B4 := Lib.hid (bnext B3.out hb); clear hb k0 k1 k2 k3)
    | (go_at_call 20; (with_reducible refine (CU.out _ (bnext HB1.out B4.out)).mono ?_); rintro e x5 ⟨rfl, hb⟩; obtain ⟨m0, m1, m2, m3⟩ := HCS.out _ (bnext B4.out hb); have B5 := Lib.hid (bnext B4.out hb); clear hb l0 l1 l2 l3)
    | (go_at_call 21; (with_reducible refine (CP.out _).mono ?_); rintro e x6 ⟨rfl, rfl⟩)
    | (go_at_call 22; (with_reducible refine (CL.out _).mono ?_); rintro e x7 ⟨rfl, hb⟩; have B7 := Lib.hid (bnext B5.out hb); clear hb m0 m1 m2 m3)
    | (go_at_call 23; (with_reducible refine (CW.out _ (bnext HB1.out B7.out)).mono ?_); rintro e x8 ⟨rfl, hb⟩; have B8 := Lib.hid (bnext B7.out hb); clear hb)
    | fail)
  go_ret
  exact ⟨rfl, bnext HB1.out B8.out⟩
end Go.Proofs.YtifgmnafjihlkaaGreatDoor
/- A row's argument of type Ask, opened. -/
namespace Go.Proofs.YtifgmnafjihlkaaGreatDoor
open Go Go.RowKit Go.ChangeShapes Go.WideShapes

theorem ask_fields : ∃ f0 f1 f2 f3 : Field, Tryz.prog.underlying 24 = some (.struct #[f0, f1, f2, f3]) ∧ (f0.type = 22 ∧ f0.offset = 0) ∧ (f1.type = 3 ∧ f1.offset = 1) ∧ (f2.type = 9 ∧ f2.offset = 2) ∧ (f3.type = 9 ∧ f3.offset = 3) :=
  ⟨_, _, _, _, Tryz.underlying24, ⟨rfl, rfl⟩, ⟨rfl, rfl⟩, ⟨rfl, rfl⟩, ⟨rfl, rfl⟩⟩
theorem i8_range {a : Int} (h : (Lit.int .i8 a).wf = true) : -128 ≤ a ∧ a ≤ 127 := by
  have h1 : IntKind.i8.min = -128 := by decide
  have h2 : IntKind.i8.max = 127 := by decide
  simp [Lit.wf, h1, h2] at h
  omega
theorem c1n : Tryz.prog.cellsOf 3 = 1 := by kernel_rfl
theorem cAsk : Tryz.prog.cellsOf 24 = 4 := by kernel_rfl
theorem four_split (cs : List Value) (h : cs.length = 4) (a b c d : Value) (h0 : (cs.drop 0).take 1 = [a]) (h1 : (cs.drop 1).take 1 = [b]) (h2 : (cs.drop 2).take 1 = [c]) (h3 : (cs.drop 3).take 1 = [d]) : cs = [a, b, c, d] := by
  match cs, h with
  | [x0, x1, x2, x3], _ =>
    simp at h0 h1 h2 h3
    rw [h0, h1, h2, h3]
set_option maxRecDepth 100000 in
theorem open_ask {H : Type} {enc : TypeId × Value → H} {W w : World} {r : Reach} {b0 base : Nat} {sp : Nat → Bool} {held : Bool} {v : Value} {d : DataW H} {ps : List MemPlace} (hval : Value.okWide Tryz.prog W r b0 24 v) (hd : DataW.Trod enc Tryz.prog w base sp held 24 v d ps) :
    ∃ (a t : Int) (s1 s2 : ByteArray), v = .agg #[.int .i8 a, .int .i64 t, .string s1, .string s2] ∧ ps = [] ∧ (Lit.int .i8 a).wf = true ∧ (Lit.int .i64 t).wf = true ∧ s1.size ≤ maxLen ∧ s2.size ≤ maxLen := by
  obtain ⟨f0, f1, f2, f3, hu, ⟨a0, b0'⟩, ⟨a1, b1⟩, ⟨a2, b2⟩, ⟨a3, b3⟩⟩ := ask_fields
  obtain ⟨cs, rfl, hsz⟩ := okWide_struct hu hval
  rw [cAsk] at hsz
  obtain ⟨fuel, hf⟩ := hd
  obtain ⟨xs, n, _, hx, hl, hlen, hff⟩ := DataW.trod_struct hu hf
  rw [cAsk] at hl
  match xs, hlen with
  | [y0, y1, y2, y3], _ =>
    have g0 := hff 0 f0 rfl
    have g1 := hff 1 f1 rfl
    have g2 := hff 2 f2 rfl
    have g3 := hff 3 f3 rfl
    rw [a0, b0', c1i] at g0
    rw [a1, b1, c1n] at g1
    rw [a2, b2, c1s] at g2
    rw [a3, b3, c1s] at g3
    obtain ⟨z0, e0, hy0, w0⟩ := DataW.trod_int Tryz.underlying22 g0
    obtain ⟨z1, e1, hy1, w1⟩ := DataW.trod_int Tryz.underlying3 g1
    obtain ⟨z2, e2, hy2, w2⟩ := DataW.trod_string Tryz.underlying9 g2
    obtain ⟨z3, e3, hy3, w3⟩ := DataW.trod_string Tryz.underlying9 g3
    have hcs := four_split _ hl _ _ _ _ e0 e1 e2 e3
    refine ⟨z0, z1, z2, z3, ?_, ?_, w0, w1, w2, w3⟩
    · have : cs.toList = [.int .i8 z0, .int .i64 z1, .string z2, .string z3] := by simpa [Value.cells] using hcs
      congr 1
      exact Array.toList_inj.1 (by simpa using this)
    · have h1 := congrArg Prod.snd hx
      simp only [hy0, hy1, hy2, hy3] at h1
      simpa using h1
end Go.Proofs.YtifgmnafjihlkaaGreatDoor
