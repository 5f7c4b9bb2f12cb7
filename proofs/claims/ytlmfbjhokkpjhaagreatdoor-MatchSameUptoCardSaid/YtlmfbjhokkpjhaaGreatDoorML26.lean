/- Part 26 of the walks and plain laws, joined: MatSmall, MatWake, LaidSyn, NameK, SortK, PrintV. -/
import Derived.Test.YtlmfbjhokkpjhaaGreatDoorML00
import Derived.Test.YtlmfbjhokkpjhaaGreatDoorML17
import Derived.Test.YtlmfbjhokkpjhaaGreatDoorML22
import Derived.Test.YtlmfbjhokkpjhaaGreatDoorML25
import Derived.Test.YtlmfbjhokkpjhaaGreatDoorML10
import Derived.Test.YtlmfbjhokkpjhaaGreatDoorML08
import Derived.Test.YtlmfbjhokkpjhaaGreatDoorML06
import Derived.Test.YtlmfbjhokkpjhaaGreatDoorML09
import Derived.Lib.ItoaLen
import Derived.Sort.Statements
set_option linter.unusedVariables false
set_option linter.unusedSimpArgs false
namespace Go.Proofs.YtlmfbjhokkpjhaaGreatDoor
open Go Go.RowKit Go.Maps
def smT0 : PType := ⟨⟨#[50, 46, 53, 46, 52, 46, 48]⟩, [⟨#[111, 98, 106, 101, 99, 116, 67, 108, 97, 115, 115]⟩], ⟨#[]⟩, 8, 20, 0, 0, false, 0⟩
def smT1 : PType := ⟨⟨#[50, 46, 53, 46, 52, 46, 51]⟩, [⟨#[99, 110]⟩], ⟨#[]⟩, 0, 1, 2, 3, false, 0⟩
def smallS : PSchema := ⟨[smT0, smT1], []⟩
theorem small_new : newE smallS = (0, 0) := by decide +kernel
theorem small_syn : (typeI smallS 1).syn = 0 := by decide +kernel
theorem small_eq : (typeI smallS 1).eq = 1 := by decide +kernel
def SmallPost (w : World) (e : Ending) (w' : World) : Prop :=
 ∃ a, e = .returned (.agg #[.slice a 2 2, .slice none 0 0]) ∧ Types w'.heap.size w' a 2 2 smallS.types ∧ Below w.heap.size w w'
theorem one_text {w : World} {b : Nat} {s : ByteArray} (hc : w.cell? ⟨b, 0, none⟩ = some (.string s)) (hs : s.size ≤ 4294967280) : Texts w.heap.size w (some ⟨b, 0, none⟩) 1 1 [s] :=
 ⟨rfl, ⟨Zr _, by unfold maxLen; omega, (fun h => by cases h), (fun ad h _ => by cases h; exact Zb w _ hc), (fun ad h _ => by cases h; rfl)⟩, by omega, (fun b' o h i x hx => by
  cases h
  cases i with
  | zero => simp at hx; subst hx; exact hc
  | succ i => simp at hx), (fun x hx => by simp at hx; subst hx; exact hs)⟩
set_option maxRecDepth 20000 in
theorem small_any7 (w : World) : Calls Tryz.prog 49 #[] w (SmallPost w) := by
 go_enter Tryz.func49, Tryz.ntmps49
 go_wp2_with fail
 refine bodyPost_ret (v := .agg #[.slice (some ⟨w.heap.size + 1 + 1 + 1, 0, none⟩) 2 2, .slice none 0 0]) (by simp [results, Tryz.results49, go_sem]) rfl ?_
 have hb1 : Below w.heap.size w (w.alloc (.cells #[.slice (some ⟨w.heap.size + 1 + 1 + 1, 0, none⟩) 2 2, .slice none 0 0] 25)) := (Zl _ w).alloc (Zr _) _
 have hz1 : (w.alloc (.cells #[.slice (some ⟨w.heap.size + 1 + 1 + 1, 0, none⟩) 2 2, .slice none 0 0] 25)).heap.size = w.heap.size + 1 := by simp
 generalize w.alloc (.cells #[.slice (some ⟨w.heap.size + 1 + 1 + 1, 0, none⟩) 2 2, .slice none 0 0] 25) = w1 at hb1 hz1 ⊢
 have hc1 := World.cell?_alloc_new w1 #[.string ⟨#[111, 98, 106, 101, 99, 116, 67, 108, 97, 115, 115]⟩] 9 0
 have hk2 : Below w1.heap.size w1 (w1.alloc (.cells #[.string ⟨#[111, 98, 106, 101, 99, 116, 67, 108, 97, 115, 115]⟩] 9)) := (Zl _ w1).alloc (Zr _) _
 have hz2 : (w1.alloc (.cells #[.string ⟨#[111, 98, 106, 101, 99, 116, 67, 108, 97, 115, 115]⟩] 9)).heap.size = w.heap.size + 1 + 1 := by simp [hz1]
 generalize w1.alloc (.cells #[.string ⟨#[111, 98, 106, 101, 99, 116, 67, 108, 97, 115, 115]⟩] 9) = w2 at hc1 hk2 hz2 ⊢
 have hc2 := World.cell?_alloc_new w2 #[.string ⟨#[99, 110]⟩] 9 0
 have hk3 : Below w2.heap.size w2 (w2.alloc (.cells #[.string ⟨#[99, 110]⟩] 9)) := (Zl _ w2).alloc (Zr _) _
 have hz3 : (w2.alloc (.cells #[.string ⟨#[99, 110]⟩] 9)).heap.size = w.heap.size + 1 + 1 + 1 := by simp [hz2]
 generalize w2.alloc (.cells #[.string ⟨#[99, 110]⟩] 9) = w3 at hc2 hk3 hz3 ⊢
 have hc3 : ∀ j v, (#[.string ⟨#[50, 46, 53, 46, 52, 46, 48]⟩, .slice (some ⟨w.heap.size + 1, 0, none⟩) 1 1, .string ⟨#[]⟩, .int .i8 8, .int .i8 20, .int .i8 0, .int .i8 0, .bool false, .int .u8 0, .string ⟨#[50, 46, 53, 46, 52, 46, 51]⟩, .slice (some ⟨w.heap.size + 1 + 1, 0, none⟩) 1 1, .string ⟨#[]⟩, .int .i8 0, .int .i8 1, .int .i8 2, .int .i8 3, .bool false, .int .u8 0] : Array Value)[j]? = some v → (w3.alloc (.cells #[.string ⟨#[50, 46, 53, 46, 52, 46, 48]⟩, .slice (some ⟨w.heap.size + 1, 0, none⟩) 1 1, .string ⟨#[]⟩, .int .i8 8, .int .i8 20, .int .i8 0, .int .i8 0, .bool false, .int .u8 0, .string ⟨#[50, 46, 53, 46, 52, 46, 51]⟩, .slice (some ⟨w.heap.size + 1 + 1, 0, none⟩) 1 1, .string ⟨#[]⟩, .int .i8 0, .int .i8 1, .int .i8 2, .int .i8 3, .bool false, .int .u8 0] 46)).cell? ⟨w3.heap.size, j, none⟩ = some v := fun j v h => by rw [World.cell?_alloc_new]; exact h
 have hk4 : Below w3.heap.size w3 (w3.alloc (.cells #[.string ⟨#[50, 46, 53, 46, 52, 46, 48]⟩, .slice (some ⟨w.heap.size + 1, 0, none⟩) 1 1, .string ⟨#[]⟩, .int .i8 8, .int .i8 20, .int .i8 0, .int .i8 0, .bool false, .int .u8 0, .string ⟨#[50, 46, 53, 46, 52, 46, 51]⟩, .slice (some ⟨w.heap.size + 1 + 1, 0, none⟩) 1 1, .string ⟨#[]⟩, .int .i8 0, .int .i8 1, .int .i8 2, .int .i8 3, .bool false, .int .u8 0] 46)) := (Zl _ w3).alloc (Zr _) _
 have hz4 : (w3.alloc (.cells #[.string ⟨#[50, 46, 53, 46, 52, 46, 48]⟩, .slice (some ⟨w.heap.size + 1, 0, none⟩) 1 1, .string ⟨#[]⟩, .int .i8 8, .int .i8 20, .int .i8 0, .int .i8 0, .bool false, .int .u8 0, .string ⟨#[50, 46, 53, 46, 52, 46, 51]⟩, .slice (some ⟨w.heap.size + 1 + 1, 0, none⟩) 1 1, .string ⟨#[]⟩, .int .i8 0, .int .i8 1, .int .i8 2, .int .i8 3, .bool false, .int .u8 0] 46)).heap.size = w.heap.size + 1 + 1 + 1 + 1 := by simp [hz3]
 generalize w3.alloc (.cells #[.string ⟨#[50, 46, 53, 46, 52, 46, 48]⟩, .slice (some ⟨w.heap.size + 1, 0, none⟩) 1 1, .string ⟨#[]⟩, .int .i8 8, .int .i8 20, .int .i8 0, .int .i8 0, .bool false, .int .u8 0, .string ⟨#[50, 46, 53, 46, 52, 46, 51]⟩, .slice (some ⟨w.heap.size + 1 + 1, 0, none⟩) 1 1, .string ⟨#[]⟩, .int .i8 0, .int .i8 1, .int .i8 2, .int .i8 3, .bool false, .int .u8 0] 46) = w4 at hc3 hk4 hz4 ⊢
 rw [hz1] at hc1
 rw [hz2] at hc2
 rw [hz3] at hc3
 have t1 : Texts w4.heap.size w4 (some ⟨w.heap.size + 1, 0, none⟩) 1 1 [⟨#[111, 98, 106, 101, 99, 116, 67, 108, 97, 115, 115]⟩] := ((one_text (b := w.heap.size + 1) hc1 (by decide)).keep hk3 hk3.size).keep hk4 hk4.size
 have t2 : Texts w4.heap.size w4 (some ⟨w.heap.size + 1 + 1, 0, none⟩) 1 1 [⟨#[99, 110]⟩] := (one_text (b := w.heap.size + 1 + 1) hc2 (by decide)).keep hk4 hk4.size
 have hb4 : Below w.heap.size w w4 := bnext (bnext (bnext hb1 hk2) hk3) hk4
 refine ⟨some ⟨w.heap.size + 1 + 1 + 1, 0, none⟩, rfl, ⟨rfl, ⟨Zr _, by unfold maxLen; omega, (fun h => by cases h), (fun ad h => by cases h; show w.heap.size + 1 + 1 + 1 < _; omega), (fun ad h _ => by cases h; rfl)⟩, ?_, ?_, (fun ad h => by cases h; rfl)⟩, hb4⟩
 ·intro b o h i x hx
  cases h
  match i, hx with
  | 0, hx =>
   cases hx
   exact ⟨hc3 0 _ rfl, ⟨_, _, _, hc3 1 _ rfl, t1⟩, hc3 2 _ rfl, hc3 3 _ rfl, hc3 4 _ rfl, hc3 5 _ rfl, hc3 6 _ rfl, hc3 7 _ rfl, hc3 8 _ rfl⟩
  | 1, hx =>
   cases hx
   exact ⟨hc3 9 _ rfl, ⟨_, _, _, hc3 10 _ rfl, t2⟩, hc3 11 _ rfl, hc3 12 _ rfl, hc3 13 _ rfl, hc3 14 _ rfl, hc3 15 _ rfl, hc3 16 _ rfl, hc3 17 _ rfl⟩
  | n + 2, hx => simp [smallS] at hx
 ·intro x hx
  simp only [smallS, List.mem_cons, List.not_mem_nil, or_false] at hx
  rcases hx with rfl | rfl
  ·exact ⟨by decide, by decide, by decide, by decide, by decide, by decide, by decide⟩
  ·exact ⟨by decide, by decide, by decide, by decide, by decide, by decide, by decide⟩
end Go.Proofs.YtlmfbjhokkpjhaaGreatDoor
namespace Go.Proofs.YtlmfbjhokkpjhaaGreatDoor
open Go Go.RowKit Go.Maps
theorem wk1 : keyM 1 [32, 84, 119, 111, 32, 32, 87, 111, 114, 100, 115, 32] = ([116, 119, 111, 32, 119, 111, 114, 100, 115], true) := by decide +kernel
theorem wk2 : fitsV smallS 1 (fun _ => ([], false)) [120] = true := by decide +kernel
theorem wk3 : fitsV smallS 1 (fun _ => ([], false)) [] = false := by decide +kernel
theorem wk4 : sameV smallS 1 (keyM 1) [65] [97] = true := by decide +kernel
theorem wk5 : askV 1 saysE (keyM 1) 1 [65] [97] = 1 := by decide +kernel
theorem wk6 : askV 1 saysE (keyM 1) 1 [65] [] = 2 := by decide +kernel
theorem wk7 : askV 2 saysF (keyM 13) 13 [49, 48] [57] = 1 := by decide +kernel
theorem wk8 : askV 2 saysU (keyM 13) 13 [49, 48] [57] = 0 := by decide +kernel
theorem wk9 : partV 3 (keyM 3) [66, 97, 114, 98, 97, 114, 97] [98, 97, 114] [65] [[97]] = 1 := by decide +kernel
theorem wk9k : (keyM 3 [66, 97, 114, 98, 97, 114, 97]).1.length < 4294967281 := by decide +kernel
theorem wk10 : likeV smallS 1 (fun _ => ([], false)) (keyM 1) [82, 111, 98, 101, 114, 116] [82, 117, 112, 101, 114, 116] = 1 := by decide +kernel
structure EnvW (w : World) : Prop where
 e : Env w
 s : EnvS w
 m : EnvM w
theorem EnvW.next {w w' : World} (h : EnvW w) (k : Below w.heap.size w w') : EnvW w' := ⟨h.e.next k, h.s.next k, h.m.next k⟩
set_option maxRecDepth 20000 in
set_option maxHeartbeats 4000000 in
theorem wakes_any (w : World) (hE : EnvW w) : Calls Tryz.prog 10 #[] w fun e w' => e = .returned (.bool true) ∧ Below w.heap.size w w' := by
 have hsm := small_any7 w
 unfold SmallPost at hsm
 have hnw : ∀ wq a, Below w.heap.size w wq → Types wq.heap.size wq a 2 2 smallS.types → Calls Tryz.prog 9 #[.agg #[.slice a 2 2, .slice none 0 0]] wq fun e w' => ∃ g, e = .returned (.tuple #[.pointer (some ⟨g, 0, none⟩), .int .i64 0, .int .i64 0]) ∧ Sch w' g smallS ∧ Below wq.heap.size wq w' := fun wq a hb ht =>
  (new_any smallS wq.heap.size a none 2 2 0 0 wq (hE.s.next hb) ht ⟨rfl, ⟨Zr _, Nat.zero_le _, fun _ => rfl, (fun ad h => by cases h), (fun ad h => by cases h)⟩, (fun b o h => by cases h), (fun x hx => by cases hx), (fun ad h => by cases h)⟩ (Zr _)).mono fun e w' ⟨h1, h2⟩ => by
   rcases h2 with ⟨_, g, h3, h4⟩ | ⟨h3, _⟩
   ·exact ⟨g, h3, h4, h1⟩
   ·exact absurd (by rw [small_new]) h3
 have HSM := Zh hsm; have HNW := Zh hnw; have HE := Zh hE; clear hsm hnw hE
 go_enter Tryz.func10, Tryz.ntmps10
 go_upto_region 4 with (first
  | (go_at_call 49; refine (HSM.out).mono ?_; rintro e w1 ⟨a, rfl, ht1, hb1⟩; have H1 := Zh (Zi hb1 ht1); clear hb1 ht1)
  | (go_at_call 9; refine (HNW.out _ _ H1.out.1 H1.out.2).mono ?_; rintro e w2 ⟨g, rfl, hs2, hb2⟩; have H2 := Zh (Zi (bnext H1.out.1 hb2) hs2); clear hb2 hs2)
  | fail)
 have ks : ∀ (r : Int), -128 ≤ r ∧ r ≤ 127 → r ≠ 19 → r ≠ 20 → ∀ wq, Below w2.heap.size w2 wq → KeyAt wq (some ⟨g, 0, none⟩) r (keyM r) := fun r h1 h2 h3 wq hb =>
  have E := (HE.out.next H2.out.1).next hb
  keyAt_form ⟨g, 0, none⟩ r wq E.e E.s E.m h1 h2 h3
 have c1 : ∀ wq, Below w2.heap.size w2 wq → Calls Tryz.prog 11 #[.pointer (some ⟨g, 0, none⟩), .int .i8 1, .string ⟨#[32, 84, 119, 111, 32, 32, 87, 111, 114, 100, 115, 32]⟩] wq fun e w' => e = .returned (.tuple #[.string ⟨#[116, 119, 111, 32, 119, 111, 114, 100, 115]⟩, .bool true]) ∧ Below wq.heap.size wq w' := fun wq hb => by
  have h := ks 1 (by decide) (by decide) (by decide) wq hb wq ⟨#[32, 84, 119, 111, 32, 32, 87, 111, 114, 100, 115, 32]⟩ (Zl _ _)
  rw [show keyM 1 _ = _ from wk1] at h; exact h
 have c2 : ∀ wq, Below w2.heap.size w2 wq → Calls Tryz.prog 20 #[.pointer (some ⟨g, 0, none⟩), .int .i64 1, .string ⟨#[120]⟩] wq fun e w' => e = .returned (.bool true) ∧ Below wq.heap.size wq w' := fun wq hb => by
  have E := (HE.out.next H2.out.1).next hb
  have h := fits_any smallS g 1 (fun _ => ([], false)) ⟨#[120]⟩ wq (H2.out.2.keep hb) E.e E.m (fun _ h => by rw [small_syn] at h; cases h)
  rw [show fitsV smallS 1 _ _ = _ from wk2] at h; exact h
 have c3 : ∀ wq, Below w2.heap.size w2 wq → Calls Tryz.prog 20 #[.pointer (some ⟨g, 0, none⟩), .int .i64 1, .string ⟨#[]⟩] wq fun e w' => e = .returned (.bool false) ∧ Below wq.heap.size wq w' := fun wq hb => by
  have E := (HE.out.next H2.out.1).next hb
  have h := fits_any smallS g 1 (fun _ => ([], false)) ⟨#[]⟩ wq (H2.out.2.keep hb) E.e E.m (fun _ h => by rw [small_syn] at h; cases h)
  rw [show fitsV smallS 1 _ _ = _ from wk3] at h; exact h
 have c4 : ∀ wq, Below w2.heap.size w2 wq → Calls Tryz.prog 19 #[.pointer (some ⟨g, 0, none⟩), .int .i64 1, .string ⟨#[65]⟩, .string ⟨#[97]⟩] wq fun e w' => e = .returned (.bool true) ∧ Below wq.heap.size wq w' := fun wq hb => by
  have h := same_any smallS g 1 (keyM 1) ⟨#[65]⟩ ⟨#[97]⟩ wq (H2.out.2.keep hb) (fun _ => by rw [small_eq]; exact ks 1 (by decide) (by decide) (by decide) wq hb)
  rw [show sameV smallS 1 _ _ _ = _ from wk4] at h; exact h
 have c5 : ∀ wq, Below w2.heap.size w2 wq → Calls Tryz.prog 16 #[.pointer (some ⟨g, 0, none⟩), .int .i8 1, .string ⟨#[65]⟩, .string ⟨#[97]⟩] wq fun e w' => e = .returned (.int .i8 1) ∧ Below wq.heap.size wq w' := fun wq hb => by
  have h := ask_anyE (some ⟨g, 0, none⟩) 1 (keyM 1) ⟨#[65]⟩ ⟨#[97]⟩ wq ((HE.out.next H2.out.1).next hb).m (by decide) (ks 1 (by decide) (by decide) (by decide) wq hb)
  rw [show askV 1 saysE _ 1 _ _ = _ from wk5] at h; exact h
 have c6 : ∀ wq, Below w2.heap.size w2 wq → Calls Tryz.prog 16 #[.pointer (some ⟨g, 0, none⟩), .int .i8 1, .string ⟨#[65]⟩, .string ⟨#[]⟩] wq fun e w' => e = .returned (.int .i8 2) ∧ Below wq.heap.size wq w' := fun wq hb => by
  have h := ask_anyE (some ⟨g, 0, none⟩) 1 (keyM 1) ⟨#[65]⟩ ⟨#[]⟩ wq ((HE.out.next H2.out.1).next hb).m (by decide) (ks 1 (by decide) (by decide) (by decide) wq hb)
  rw [show askV 1 saysE _ 1 _ _ = _ from wk6] at h; exact h
 have c7 : ∀ wq, Below w2.heap.size w2 wq → Calls Tryz.prog 17 #[.pointer (some ⟨g, 0, none⟩), .int .i8 13, .string ⟨#[49, 48]⟩, .string ⟨#[57]⟩] wq fun e w' => e = .returned (.int .i8 1) ∧ Below wq.heap.size wq w' := fun wq hb => by
  have h := ask_anyF (some ⟨g, 0, none⟩) 13 (keyM 13) ⟨#[49, 48]⟩ ⟨#[57]⟩ wq ((HE.out.next H2.out.1).next hb).m (by decide) (ks 13 (by decide) (by decide) (by decide) wq hb)
  rw [show askV 2 saysF _ 13 _ _ = _ from wk7] at h; exact h
 have c8 : ∀ wq, Below w2.heap.size w2 wq → Calls Tryz.prog 18 #[.pointer (some ⟨g, 0, none⟩), .int .i8 13, .string ⟨#[49, 48]⟩, .string ⟨#[57]⟩] wq fun e w' => e = .returned (.int .i8 0) ∧ Below wq.heap.size wq w' := fun wq hb => by
  have h := ask_anyU (some ⟨g, 0, none⟩) 13 (keyM 13) ⟨#[49, 48]⟩ ⟨#[57]⟩ wq ((HE.out.next H2.out.1).next hb).m (by decide) (ks 13 (by decide) (by decide) (by decide) wq hb)
  rw [show askV 2 saysU _ 13 _ _ = _ from wk8] at h; exact h
 have c9 : ∀ wq b, Below w2.heap.size w2 wq → wq.cell? ⟨b, 0, none⟩ = some (.string ⟨#[97]⟩) → Calls Tryz.prog 50 #[.pointer (some ⟨g, 0, none⟩), .int .i8 3, .string ⟨#[66, 97, 114, 98, 97, 114, 97]⟩, .string ⟨#[98, 97, 114]⟩, .slice (some ⟨b, 0, none⟩) 1 1, .string ⟨#[65]⟩] wq fun e w' => e = .returned (.int .i8 1) ∧ Below wq.heap.size wq w' := fun wq b hb hc => by
  have E := (HE.out.next H2.out.1).next hb
  have h := mpart_any ⟨g, 0, none⟩ 3 (keyM 3) ⟨#[66, 97, 114, 98, 97, 114, 97]⟩ ⟨#[98, 97, 114]⟩ ⟨#[65]⟩ wq.heap.size (some ⟨b, 0, none⟩) 1 1 [⟨#[97]⟩] wq E.e E.s E.m (by decide) (by decide) (one_text hc (by decide)) (Zr _) (ks 3 (by decide) (by decide) (by decide) wq hb) (by decide) (by decide) wk9k
  rw [show partV 3 (keyM 3) (toL ⟨#[66, 97, 114, 98, 97, 114, 97]⟩) (toL ⟨#[98, 97, 114]⟩) (toL ⟨#[65]⟩) (List.map toL [⟨#[97]⟩]) = 1 from wk9] at h; exact h
 have c10 : ∀ wq, Below w2.heap.size w2 wq → Calls Tryz.prog 21 #[.pointer (some ⟨g, 0, none⟩), .int .i64 1, .string ⟨#[82, 111, 98, 101, 114, 116]⟩, .string ⟨#[82, 117, 112, 101, 114, 116]⟩] wq fun e w' => e = .returned (.int .i8 1) ∧ Below wq.heap.size wq w' := fun wq hb => by
  have E := (HE.out.next H2.out.1).next hb
  have h := like_any smallS g 1 (fun _ => ([], false)) (keyM 1) ⟨#[82, 111, 98, 101, 114, 116]⟩ ⟨#[82, 117, 112, 101, 114, 116]⟩ wq (H2.out.2.keep hb) E.e E.m (fun _ h => by rw [small_syn] at h; cases h) (fun _ => by rw [small_eq]; exact ⟨by decide, ks 1 (by decide) (by decide) (by decide) wq hb⟩) (by decide) (by decide)
  rw [show likeV smallS 1 _ _ _ _ = _ from wk10] at h; exact h
 have C1 := Zh c1; have C2 := Zh c2; have C3 := Zh c3; have C4 := Zh c4; have C5 := Zh c5; have C6 := Zh c6; have C7 := Zh c7; have C8 := Zh c8; have C9 := Zh c9; have C10 := Zh c10
 clear c1 c2 c3 c4 c5 c6 c7 c8 c9 c10 ks
 go_wp2_with (first
  | (go_at_call 11; (with_reducible refine (C1.out _ (Zl _ _)).mono ?_); rintro e x1 ⟨rfl, hb⟩; have B1 := Zh hb; clear hb)
  | (go_at_call 20; (with_reducible refine (C2.out _ B1.out).mono ?_); rintro e x2 ⟨rfl, hb⟩; have B2 := Zh (bnext B1.out hb); clear hb)
  | (go_at_call 20; (with_reducible refine (C3.out _ B2.out).mono ?_); rintro e x3 ⟨rfl, hb⟩; have B3 := Zh (bnext B2.out hb); clear hb)
  | (go_at_call 19; (with_reducible refine (C4.out _ B3.out).mono ?_); rintro e x4 ⟨rfl, hb⟩; have B4 := Zh (bnext B3.out hb); clear hb)
  | (go_at_call 16; (with_reducible refine (C5.out _ B4.out).mono ?_); rintro e x5 ⟨rfl, hb⟩; have B5 := Zh (bnext B4.out hb); clear hb)
  | (go_at_call 16; (with_reducible refine (C6.out _ B5.out).mono ?_); rintro e x6 ⟨rfl, hb⟩; have B6 := Zh (bnext B5.out hb); clear hb)
  | (go_at_call 17; (with_reducible refine (C7.out _ B6.out).mono ?_); rintro e x7 ⟨rfl, hb⟩; have B7 := Zh (bnext B6.out hb); clear hb)
  | (go_at_call 18; (with_reducible refine (C8.out _ B7.out).mono ?_); rintro e x8 ⟨rfl, hb⟩; have B8 := Zh (bnext B7.out hb); have hn := World.cell?_alloc_new x8 #[.string ⟨#[97]⟩] 9 0; have HN := Zh hn; clear hb hn)
  | (go_at_call 50; refine (C9.out _ _ (B8.out.alloc B8.out.size _) HN.out).mono ?_; rintro e x9 ⟨rfl, hb⟩; have B9 := Zh (bnext (B8.out.alloc B8.out.size _) hb); clear hb)
  | (go_at_call 21; (with_reducible refine (C10.out _ B9.out).mono ?_); rintro e x10 ⟨rfl, hb⟩; have B10 := Zh (bnext B9.out hb); clear hb)
  | fail)
 go_ret
 exact ⟨rfl, bnext H2.out.1 B10.out⟩
end Go.Proofs.YtlmfbjhokkpjhaaGreatDoor
namespace Go.Proofs.YtlmfbjhokkpjhaaGreatDoor
open Go Go.RowKit
structure EnvWS (W : World) : Prop where
 w : EnvW W
 v : SynV W
end Go.Proofs.YtlmfbjhokkpjhaaGreatDoor
namespace Go.Proofs.YtlmfbjhokkpjhaaGreatDoor
open Go
def oidK (S : PSchema) (v : Str) : Str × Bool :=
 if (keyL 8 v).2 = false then ([], false)
 else match typeAt S v with
  | some t => (toL (fullT S t).oid, true)
  | none => match classAt S v with
   | some c => (toL (clAt S c).oid, true)
   | none => ((keyL 8 v).1, true)
def valK (rd : Str → Str × Bool) (S : PSchema) (x : PType) (v : Str) : Str × Bool :=
 if x.eq = 19 then rd v
 else if x.eq = 20 then oidK S v
 else if x.eq ≠ 0 then keyL (lineOf x.eq).form v
 else if x.syn = 7 then (if (rd v).2 then (v, true) else ([], false))
 else if (keyL (formV x.syn) v).2 then (v, true) else ([], false)
abbrev KPair := Nat × Str
def pairsK (rd : Str → Str × Bool) (S : PSchema) : List KPair → PRdn → Int × List KPair
 | acc, [] => (0, acc)
 | acc, a :: l => match typeAt S (toL a.1) with
  | none => (80, acc)
  | some t => if acc.any (fun p => p.1 == t) then (52, acc)
   else if (valK rd S (fullT S t) (toL a.2)).2 then pairsK rd S (acc ++ [(t, (valK rd S (fullT S t) (toL a.2)).1)]) l else (81, acc)
def insP (x : KPair) : List KPair → List KPair
 | [] => [x]
 | y :: l => if x.1 < y.1 then x :: y :: l else y :: insP x l
def sortP (l : List KPair) : List KPair := l.foldl (fun s x => insP x s) []
def decS (n : Nat) : Str := Lib.decDigits n
def pairS (p : KPair) : Str := decS p.1 ++ 61 :: (decS p.2.length ++ 58 :: p.2)
def stepK (l : List KPair) : Str := joinP 43 ((sortP l).map pairS) ++ [59]
def stepsK (rd : Str → Str × Bool) (S : PSchema) : PName → Int × List Str
 | [] => (0, [])
 | r :: n => if (pairsK rd S [] r).1 ≠ 0 then ((pairsK rd S [] r).1, [])
  else ((stepsK rd S n).1, stepK (pairsK rd S [] r).2 :: (stepsK rd S n).2)
def keyN (rd : Str → Str × Bool) (S : PSchema) (n : PName) : Str × Int :=
 if (printV n).2 ≠ 0 then ([], (printV n).2)
 else if (stepsK rd S n).1 ≠ 0 then ([], (stepsK rd S n).1) else ((stepsK rd S n).2.reverse.flatten, 0)
def readK (S : PSchema) : Nat → Str → Str × Bool
 | 0, _ => ([], false)
 | f + 1, v => match parseV v with
  | .error _ => ([], false)
  | .ok n => if (keyN (readK S f) S n).2 = 0 then ((keyN (readK S f) S n).1, true) else ([], false)
def countV (l : Str) : Option (Nat × Nat) :=
 let d := (l.takeWhile dig)
 if d.length = 0 ∨ 9 < d.length ∨ (l.head? = some 48 ∧ 1 < d.length) then none else some (d.foldl (fun x c => x * 10 + (c.toNat - 48)) 0, d.length)
def stepV : Nat → Int → Str → Option Nat
 | 0, _, _ => none
 | f + 1, last, l => match countV l with
  | none => none
  | some (t, d) => if (t : Int) ≤ last then none else match l.drop d with
   | [] => none
   | c :: l2 => if c ≠ 61 then none else match countV l2 with
    | none => none
    | some (n, d2) => match l2.drop d2 with
     | [] => none
     | c2 :: l3 => if c2 ≠ 58 ∨ l3.length < n + 1 then none
      else match l3.drop n with
       | [] => none
       | c3 :: l4 => if c3 = 59 then some (d + 1 + d2 + 1 + n + 1) else if c3 = 43 then (stepV f t l4).map (· + (d + 1 + d2 + 1 + n + 1)) else none
def stepsV : Nat → Str → Option (List Str)
 | 0, l => if l = [] then some [] else none
 | f + 1, l => if l = [] then some [] else match stepV (l.length + 1) (-1) l with
  | none => none
  | some k => (stepsV f (l.drop k)).map (l.take k :: ·)
def stepsOf (l : Str) : List Str := (stepsV (l.length + 1) l).getD []
end Go.Proofs.YtlmfbjhokkpjhaaGreatDoor
namespace Go.Proofs.YtlmfbjhokkpjhaaGreatDoor
open Go
theorem insP_perm (x : KPair) : ∀ l, (insP x l).Perm (x :: l)
 | [] => .refl _
 | y :: l => by
  unfold insP
  split
  ·exact .refl _
  ·exact ((insP_perm x l).cons y).trans (.swap x y l)
theorem insP_sorted (x : KPair) : ∀ l, l.Pairwise (fun a b => a.1 ≤ b.1) → (insP x l).Pairwise (fun a b => a.1 ≤ b.1)
 | [], _ => by simp [insP]
 | y :: l, h => by
  unfold insP
  have ⟨h1, h2⟩ := List.pairwise_cons.1 h
  split
  ·rename_i hlt
   refine List.pairwise_cons.2 ⟨fun z hz => ?_, h⟩
   rcases List.mem_cons.1 hz with rfl | hz
   ·omega
   ·have := h1 z hz; omega
  ·rename_i hlt
   refine List.pairwise_cons.2 ⟨fun z hz => ?_, insP_sorted x l h2⟩
   rcases List.mem_cons.1 ((insP_perm x l).mem_iff.1 hz) with rfl | hz
   ·omega
   ·exact h1 z hz
theorem fold_perm : ∀ (l s : List KPair), (l.foldl (fun s x => insP x s) s).Perm (s ++ l)
 | [], s => by simp
 | x :: l, s => by
  simp only [List.foldl_cons]
  refine (fold_perm l (insP x s)).trans ?_
  refine ((insP_perm x s).append_right l).trans ?_
  exact List.perm_middle.symm
theorem sortP_perm (l : List KPair) : (sortP l).Perm l := by have := fold_perm l []; simpa [sortP] using this
theorem fold_sorted : ∀ (l s : List KPair), s.Pairwise (fun a b => a.1 ≤ b.1) → (l.foldl (fun s x => insP x s) s).Pairwise (fun a b => a.1 ≤ b.1)
 | [], _, h => h
 | x :: l, s, h => fold_sorted l (insP x s) (insP_sorted x s h)
theorem sortP_sorted (l : List KPair) : (sortP l).Pairwise (fun a b => a.1 ≤ b.1) := fold_sorted l [] .nil
theorem sorted_one : ∀ (a b : List KPair), a.Perm b → a.Pairwise (fun x y => x.1 ≤ y.1) → b.Pairwise (fun x y => x.1 ≤ y.1) → (a.map (·.1)).Nodup → a = b
 | [], b, hp, _, _, _ => by simpa using hp.symm.eq_nil
 | x :: a, b, hp, h1, h2, hn => by
  cases b with
  | nil => exact absurd hp.eq_nil (by simp)
  | cons y b =>
   have e : x = y := by
    have hx : x ∈ y :: b := hp.mem_iff.1 (by simp)
    have hy : y ∈ x :: a := hp.mem_iff.2 (by simp)
    rcases List.mem_cons.1 hx with h | h
    ·exact h
    ·rcases List.mem_cons.1 hy with h' | h'
     ·exact h'.symm
     ·have := (List.pairwise_cons.1 h1).1 y h'
      have := (List.pairwise_cons.1 h2).1 x h
      have e1 : x.1 = y.1 := by omega
      exact absurd (List.mem_map.2 ⟨y, h', e1.symm⟩) (by simpa using (List.nodup_cons.1 hn).1)
   subst e
   rw [sorted_one a b ((List.perm_cons x).1 hp) (List.pairwise_cons.1 h1).2 (List.pairwise_cons.1 h2).2 (List.nodup_cons.1 hn).2]
theorem sortP_eq {l a : List KPair} (hp : a.Perm l) (hs : a.Pairwise (fun x y => x.1 ≤ y.1)) (hn : (l.map (·.1)).Nodup) : a = sortP l :=
 sorted_one a (sortP l) (hp.trans (sortP_perm l).symm) hs (sortP_sorted l) ((hp.map _).nodup_iff.2 hn)
def ltP (x y : KPair) : Bool := decide (x.1 < y.1)
theorem ltP_swo : Go.Sort.SWO ltP := ⟨fun x => by simp [ltP], fun x y z h1 h2 => by simp [ltP] at *; omega, fun x y z h1 h2 => by simp [ltP] at *; omega⟩
theorem sorted_arr {d d' : Array KPair} (hp : Go.Sort.PermIn 0 d.size d d') (hs : Go.Sort.SortedIn ltP 0 d.size d') (hn : (d.toList.map (·.1)).Nodup) : d'.toList = sortP d.toList := by
 obtain ⟨h1, _, h3⟩ := hp
 have e1 : d'.extract 0 d.size = d' := by rw [← h1]; simp
 have e2 : d.extract 0 d.size = d := by simp
 rw [e1, e2] at h3
 refine sortP_eq h3 ?_ hn
 rw [List.pairwise_iff_getElem]
 intro i j hi hj hij
 have h4 := hs i j (Nat.zero_le _) hij (by simpa [← h1] using hj)
 have hi' : i < d'.size := by simpa using hi
 have hj' : j < d'.size := by simpa using hj
 simp only [ltP, decide_eq_false_iff_not, getElem!_pos d' i hi', getElem!_pos d' j hj'] at h4
 simp only [Array.getElem_toList]
 omega
end Go.Proofs.YtlmfbjhokkpjhaaGreatDoor
namespace Go.Proofs.YtlmfbjhokkpjhaaGreatDoor
open Go
theorem showK_len : ∀ (v : Str) (fst : Bool) (k : Nat), (showK fst v k).length ≤ 3 * v.length
 | [], _, k => by cases k <;> simp [showK]
 | c :: v, fst, k + 1 => by rw [showK]; have := showK_len v false k; simp; omega
 | c :: v, fst, 0 => by
  rw [showK]
  have h0 := showK_len v false 0
  have h1 := showK_len v false (chN (c :: v) - 1)
  split
  ·simp [hexB]; omega
  ·split
   ·simp [hexB]; omega
   ·split <;> (simp; omega)
theorem avaP_len (a : PAva) : (avaP a).length = (toL a.1).length + 1 + (showV (toL a.2)).length := by unfold avaP; simp; omega
theorem joinP_snoc (c : UInt8) (x : Str) : ∀ l : List Str, joinP c (l ++ [x]) = (if l = [] then [] else joinP c l ++ [c]) ++ x
 | [] => by simp [joinP]
 | [y] => by simp [joinP]
 | y :: z :: l => by
  have ih := joinP_snoc c x (z :: l)
  rw [if_neg (by simp)] at ih ⊢
  show joinP c (y :: z :: (l ++ [x])) = _
  rw [joinP]
  have : joinP c (z :: (l ++ [x])) = joinP c (z :: l ++ [x]) := rfl
  rw [this, ih, joinP]
  simp
def preP (c : UInt8) (l : List Str) (i : Nat) : Str := if i = 0 then [] else joinP c (l.take i) ++ [c]
theorem joinP_step {c : UInt8} {l : List Str} {i : Nat} {x : Str} (h : l[i]? = some x) : joinP c (l.take (i + 1)) = preP c l i ++ x := by
 have hi := (List.getElem?_eq_some_iff.1 h).1
 rw [List.take_add_one, h]
 show joinP c (l.take i ++ [x]) = _
 rw [joinP_snoc]
 unfold preP
 by_cases h0 : i = 0
 ·subst h0; simp
 ·rw [if_neg h0, if_neg]
  intro e
  have := congrArg List.length e
  simp at this
  rcases this with h | h
  ·omega
  ·subst h; simp at hi
theorem joinP_mono (c : UInt8) (l : List Str) : ∀ k i, (joinP c (l.take i)).length ≤ (joinP c (l.take (i + k))).length
 | 0, i => Zr _
 | k + 1, i => by
  refine Nat.le_trans (joinP_mono c l k i) ?_
  rw [← Nat.add_assoc]
  by_cases h : i + k < l.length
  ·rw [joinP_step (List.getElem?_eq_getElem h)]
   unfold preP
   by_cases h0 : i + k = 0
   ·rw [show List.take (i + k) l = [] by rw [h0]; rfl]; exact Nat.zero_le _
   ·rw [if_neg h0]; simp
    try omega
  ·rw [List.take_of_length_le (by omega), List.take_of_length_le (by omega)]; exact Zr _
theorem joinP_take_len (c : UInt8) (l : List Str) (i : Nat) : (joinP c (l.take i)).length ≤ (joinP c l).length := by
 have := joinP_mono c l l.length i
 rwa [List.take_of_length_le (i := i + l.length) (by omega)] at this
def midP (n : PName) (i : Nat) (r : PRdn) (k : Nat) : Str := preP 44 (n.map rdnP) i ++ joinP 43 ((r.map avaP).take k)
theorem midP_end {n : PName} {i : Nat} {r : PRdn} {k : Nat} (h : n[i]? = some r) (hk : r.length ≤ k) : midP n i r k = joinP 44 ((n.map rdnP).take (i + 1)) := by
 unfold midP
 rw [List.take_of_length_le (by simpa using hk)]
 exact (joinP_step (by rw [List.getElem?_map, h]; rfl)).symm
theorem midP_le {n : PName} {i : Nat} {r : PRdn} {k : Nat} (h : n[i]? = some r) : (midP n i r k).length ≤ (nameP n).length := by
 have h1 : (midP n i r k).length ≤ (midP n i r r.length).length := by
  unfold midP
  have := joinP_take_len 43 (r.map avaP) k
  rw [List.take_of_length_le (i := r.length) (by simp)]
  simp only [List.length_append]
  omega
 rw [midP_end h (Zr _)] at h1
 exact Nat.le_trans h1 (joinP_take_len _ _ _)
theorem midP_next {n : PName} {i : Nat} {r : PRdn} {k : Nat} {a : PAva} (h : r[k]? = some a) : midP n i r (k + 1) = preP 44 (n.map rdnP) i ++ preP 43 (r.map avaP) k ++ avaP a := by
 unfold midP
 rw [joinP_step (x := avaP a) (by rw [List.getElem?_map, h]; rfl), List.append_assoc]
def Small1 (n : PName) : Prop := n.length ≤ 64 ∧ ∀ r ∈ n, r.length ≤ 8
def Typed2 (n : PName) : Prop := ∀ r ∈ n, r ≠ [] ∧ ∀ a ∈ r, typedV (toL a.1) = true
theorem pv_long {n : PName} (h : 64 < n.length ∨ ∃ r ∈ n, 8 < r.length) : printV n = ([], 3) := by
 unfold printV
 rw [if_pos]
 rcases h with h | ⟨r, hr, h⟩
 ·exact .inl h
 ·exact .inr (List.any_eq_true.2 ⟨r, hr, by simpa using h⟩)
theorem small1_not {n : PName} (h : Small1 n) : ¬ (64 < n.length ∨ n.any (fun r => decide (8 < r.length)) = true) := by
 rintro (h1 | h1)
 ·have := h.1; omega
 ·obtain ⟨r, hr, h2⟩ := List.any_eq_true.1 h1
  have := h.2 r hr
  simp at h2; omega
theorem pv_bad {n : PName} (h1 : Small1 n) (h : ∃ r ∈ n, r = [] ∨ ∃ a ∈ r, typedV (toL a.1) = false) : printV n = ([], 60) := by
 unfold printV
 rw [if_neg (small1_not h1), if_pos]
 obtain ⟨r, hr, h⟩ := h
 refine List.any_eq_true.2 ⟨r, hr, ?_⟩
 rcases h with h | ⟨a, ha, h⟩
 ·subst h; rfl
 ·rw [Bool.or_eq_true]; right
  exact List.any_eq_true.2 ⟨a, ha, by simp [h]⟩
theorem typed2_not {n : PName} (h : Typed2 n) : ¬ (n.any (fun r => r.isEmpty || r.any fun a => !typedV (toL a.1)) = true) := by
 intro h1
 obtain ⟨r, hr, h2⟩ := List.any_eq_true.1 h1
 obtain ⟨h3, h4⟩ := h r hr
 rw [Bool.or_eq_true] at h2
 rcases h2 with h2 | h2
 ·exact h3 (by simpa using h2)
 ·obtain ⟨a, ha, h5⟩ := List.any_eq_true.1 h2
  rw [h4 a ha] at h5; cases h5
theorem pv_big {n : PName} (h1 : Small1 n) (h2 : Typed2 n) (h : (∃ r ∈ n, ∃ a ∈ r, 65536 < a.1.size ∨ 65536 < a.2.size) ∨ 65536 < (nameP n).length) : printV n = ([], 3) := by
 unfold printV
 rw [if_neg (small1_not h1), if_neg (typed2_not h2), if_pos]
 rcases h with ⟨r, hr, a, ha, h⟩ | h
 ·left
  refine List.any_eq_true.2 ⟨r, hr, List.any_eq_true.2 ⟨a, ha, ?_⟩⟩
  rcases h with h | h <;> simp [h]
 ·exact .inr h
theorem pv_ok {n : PName} (h1 : Small1 n) (h2 : Typed2 n) (h : ∀ r ∈ n, ∀ a ∈ r, a.1.size ≤ 65536 ∧ a.2.size ≤ 65536) (hl : (nameP n).length ≤ 65536) : printV n = (nameP n, 0) := by
 unfold printV
 rw [if_neg (small1_not h1), if_neg (typed2_not h2), if_neg]
 rintro (h3 | h3)
 ·obtain ⟨r, hr, h4⟩ := List.any_eq_true.1 h3
  obtain ⟨a, ha, h5⟩ := List.any_eq_true.1 h4
  have := h r hr a ha
  rw [Bool.or_eq_true, decide_eq_true_eq, decide_eq_true_eq] at h5
  omega
 ·omega
end Go.Proofs.YtlmfbjhokkpjhaaGreatDoor
