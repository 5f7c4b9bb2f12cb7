/- Part 39 of the walks and plain laws, joined: Alive6, OpenW, Beyo6, TurnV, BufStr. -/
import Derived.Test.YtlmfbjhokkpjhaaGreatDoorNM00
import Derived.Test.YtlmfbjhokkpjhaaGreatDoorNM26
import Derived.Test.YtlmfbjhokkpjhaaGreatDoorNM38
import Derived.Test.YtlmfbjhokkpjhaaGreatDoorNM34
import Derived.Test.YtlmfbjhokkpjhaaGreatDoorNM37
import Derived.Test.YtlmfbjhokkpjhaaGreatDoorProg
import Derived.Test.YtlmfbjhokkpjhaaGreatDoorNM27
import Derived.Test.YtlmfbjhokkpjhaaGreatDoorNM31
import Derived.Test.YtlmfbjhokkpjhaaGreatDoorNM01
import Derived.Deep.Slices
import Derived.Deep.Fields
import Derived.WideShapes
import Derived.ChangeArms
import Derived.SizedLaws
import Derived.Lib.Strings
import Derived.BigQuiet
import Derived.BigRegion
import Derived.Lib.AppendStr
set_option linter.unusedVariables false
set_option linter.unusedSimpArgs false
namespace Go.Proofs.YtlmfbjhokkpjhaaGreatDoor
open Go Go.RowKit Go.Maps
theorem al_cells {w : World} {B : Nat} {a : Option Addr} {n c : Nat} (h : Rdns B w a n c alN) : n = 2 ∧ ∃ b o b1 o1 c1 a2 c2, a = some ⟨b, o, none⟩ ∧ w.cell? ⟨b, o, none⟩ = some (.slice (some ⟨b1, o1, none⟩) 2 c1) ∧ w.cell? ⟨b1, o1, none⟩ = some (.string ⟨#[99, 110]⟩) ∧ w.cell? ⟨b1, o1 + 1, none⟩ = some (.string ⟨#[65, 100, 97, 32, 43, 32, 120]⟩) ∧
  w.cell? ⟨b, o + 1, none⟩ = some (.slice a2 1 c2) ∧ Avas B w a2 1 c2 [(⟨#[111, 117]⟩, ⟨#[]⟩)] := by
 have hn := h.len
 obtain ⟨b, o, rfl, _⟩ := h.lies.ptr (by rw [hn]; decide)
 obtain ⟨a1, n1, c1, e1, v1⟩ := h.cell b o rfl 0 _ rfl
 obtain ⟨a2, n2, c2, e2, v2⟩ := h.cell b o rfl 1 _ rfl
 have l1 := v1.len
 have l2 := v2.len
 obtain ⟨b1, o1, rfl, _⟩ := v1.lies.ptr (by rw [l1]; decide)
 obtain ⟨s1, s2⟩ := v1.cell b1 o1 rfl 0 _ rfl
 subst l1 l2
 exact ⟨hn, b, o, b1, o1, c1, a2, c2, rfl, e1, s1, s2, e2, v2⟩
theorem al_at : stepsOf (toL alS) = [(⟨#[50, 61, 49, 58, 120, 59]⟩ : ByteArray), ⟨#[49, 61, 53, 58, 97, 100, 97, 32, 98, 59]⟩].map toL := al_steps
set_option maxRecDepth 20000 in
set_option maxHeartbeats 8000000 in
theorem alive_any6 (w : World) (hE : EnvK w) : Calls Tryz.prog 28 #[] w fun e w' => e = .returned (.bool true) ∧ Below w.heap.size w w' := by
 have hp := parse_good al_parse w hE.v
 unfold alT at hp
 have HE := Zh hE; have HP := Zh hp; clear hE hp
 go_enter Tryz.func28, Tryz.ntmps28
 go_upto_region 2 with (go_at_call 31; (with_reducible refine HP.out.mono ?_); rintro e w1 ⟨na, nn, nc, rfl, hr1, hb1⟩; have HB1 := Zh (Zi hr1 hb1); clear hr1 hb1)
 clear HP
 obtain ⟨hbx, x0⟩ := box1 w1 #[.slice na nn nc] 53
 have y0 := x0 0
 have hr3 := HB1.out.1.keep hbx hbx.size
 have hb2 := HB1.out.2.trans (hbx.mono HB1.out.2.size)
 clear x0
 obtain ⟨u, hu⟩ : ∃ u, u = w1.heap.size := ⟨_, rfl⟩
 rw [← hu] at y0 ⊢
 generalize w1.alloc (.cells #[.slice na nn nc] 53) = w2 at hbx y0 hr3 hb2 ⊢
 have y0' : w2.cell? ⟨u, 0, none⟩ = some (.slice na nn nc) := y0
 obtain ⟨rfl, b, o, b1, o1, c1, a2, c2, rfl, e0, e1, e2, e3, v3⟩ := al_cells hr3
 have hpr := (print_any w2.heap.size _ _ _ _ w2 hr3 (Zr _) (HE.out.next hb2).e).mono fun e w' h => (show e = .returned (.tuple #[.string alP, .int .i64 0]) ∧ Below w2.heap.size w2 w' from ⟨by have := h.1; rw [al_print] at this; rw [this]; show Ending.returned (.tuple #[.string (baOf (toL alP)), .int .i64 0]) = _; rw [baOf_toL], h.2⟩)
 unfold alP at hpr
 have HPR := Zh hpr; have HB2 := Zh (Zi hb2 (Zi hr3 (Zi v3 (Zi hu (Zi y0' e3))))); clear hbx y0 hb2 hr3 hpr v3 hu HB1
 go_upto_region 4 with fail
 clear e0 e1 e2 e3
 have hst := fun w => (nsteps_any alS w (by decide)).mono fun e w' h => h.at (n := 2) al_at.symm rfl
 have hky := fun wq (h : EnvK wq) => keyed_ok wq h al_kparse al_key
 have hli := fun w => nlies_any alS ⟨#[50, 61, 49, 58, 120, 59]⟩ w (by decide) (by decide)
 have e9 : liesV (toL alS) (toL (⟨#[50, 61, 49, 58, 120, 59]⟩ : ByteArray)) = true := al_lies
 rw [e9] at hli
 rw [baOf_toL] at hky
 unfold alS at hst hli hky
 unfold alK at hky
 have hyu : ∀ wr, Below w2.heap.size w2 wr → wr.cell? ⟨u, 0, none⟩ = some (.slice (some ⟨b, o, none⟩) 2 nc) ∧ wr.cell? ⟨b, o + 1, none⟩ = some (.slice a2 1 c2) ∧ Rdns wr.heap.size wr (some ⟨b, o, none⟩) 2 nc alN ∧ Avas wr.heap.size wr a2 1 c2 [(⟨#[111, 117]⟩, ⟨#[]⟩)] ∧ EnvK wr := fun wr hb =>
  ⟨(hb.cell (Zb _ _ HB2.out.2.2.2.2.1)).trans HB2.out.2.2.2.2.1, (hb.cell (Zb _ _ HB2.out.2.2.2.2.2)).trans HB2.out.2.2.2.2.2, HB2.out.2.1.keep hb hb.size, HB2.out.2.2.1.keep hb hb.size, HE.out.next (HB2.out.1.trans (hb.mono HB2.out.1.size))⟩
 have HST := Zh hst; have HKY := Zh hky; have HLI := Zh hli; have HYU := Zh hyu
 clear hst hky hli hyu e9
 obtain ⟨y2, _, _, _, _⟩ := HYU.out w2 (Zl _ _)
 go_upto_region 7 with (first
  | (go_at_call 30; (with_reducible refine HPR.out.mono ?_); rintro e w3 ⟨rfl, hb3⟩; have HB3 := Zh hb3; clear hb3)
  | (go_at_call 24; (with_reducible refine (HST.out _).mono ?_); rintro e w4 ⟨g0, c0, rfl, hv0⟩; obtain ⟨g, rfl⟩ := hv0.ptr (by decide); have hb4 := HB3.out.trans (hv0.below.mono HB3.out.size); obtain ⟨y4, _, _, _, _⟩ := HYU.out w4 hb4; have HB4 := Zh (Zi hb4 hv0); clear hb4 hv0; unfold sv)
  | (go_at_call 37; ((with_reducible refine (nabove_any w4.heap.size _ _ _ alN w4 (HYU.out w4 HB4.out.1).2.2.1 (Zr _)).mono ?_); rintro e w5 ⟨hb5, _, h2⟩; obtain ⟨ua, un, uc, rfl, hnn⟩ := h2 (fun h => by cases h); have hr5 := hnn.rdns.1; have hun := hr5.len; obtain rfl : un = 1 := hun; have HB5 := Zh (Zi (HB4.out.1.trans (hb5.mono HB4.out.1.size)) (Zi hr5 hb5)); clear hb5 h2 hnn hr5))
  | fail)
 obtain ⟨hbx6, x6⟩ := box1 w5 #[.slice ua 1 uc] 53
 have z6 := x6 0
 clear x6
 have hv6 := (HB4.out.2.next HB5.out.2.2).next hbx6
 have hr6 := HB5.out.2.1.keep hbx6 hbx6.size
 have hb6 := HB5.out.1.trans (hbx6.mono HB5.out.1.size)
 obtain ⟨v, hv⟩ : ∃ v, v = w5.heap.size := ⟨_, rfl⟩
 rw [← hv] at z6 ⊢
 generalize w5.alloc (.cells #[.slice ua 1 uc] 53) = w6 at hbx6 z6 hv6 hr6 hb6 ⊢
 have z6' : w6.cell? ⟨v, 0, none⟩ = some (.slice ua 1 uc) := z6
 obtain ⟨y6, e6, _, ha6, _⟩ := HYU.out w6 hb6
 have hund := fun wz (hk : Below w6.heap.size w6 wz) => nunder_any w6.heap.size a2 1 c2 [(⟨#[111, 117]⟩, ⟨#[]⟩)] ua 1 uc alN.tail wz (ha6.keep hk (Zr _)) (hr6.keep hk (Zr _)) hk.size (by decide)
 have HUN := Zh hund; have HB6 := Zh (Zi hb6 (Zi hv6 z6'))
 have hd6 := (Zl w6.heap.size w6).drew
 have hB6 := ((Zl w6.heap.size w6).alloc (Zr _) (.cells #[.slice none 0 0] 53)).drew
 have hx6 : ∀ wz, Below w6.heap.size w6 wz → wz.cell? ⟨u, 0, none⟩ = some (.slice (some ⟨b, o, none⟩) 2 nc) ∧ wz.cell? ⟨b, o + 1, none⟩ = some (.slice a2 1 c2) ∧ wz.cell? ⟨v, 0, none⟩ = some (.slice ua 1 uc) := fun wz hk => ⟨(hk.cell (p := ⟨u, 0, none⟩) (Zb _ _ y6)).trans y6, (hk.cell (p := ⟨b, o + 1, none⟩) (Zb _ _ e6)).trans e6, (hk.cell (p := ⟨v, 0, none⟩) (Zb _ _ z6')).trans z6'⟩
 have HX6 := Zh hx6
 clear hund hv6 hr6 hb6 z6 hv ha6 hbx6 y2 y4 hx6
 go_cut [8] (fun s8 wx => ∃ q8 va vc, s8 = .pointer (some ⟨q8, 0, none⟩) ∧ wx.cell? ⟨q8, 0, none⟩ = some (.slice va 2 vc) ∧ Below w6.heap.size w6 wx)
 case first =>
  go_region_held3 (fun wz => wz.cell? ⟨u, 0, none⟩ = some (.slice (some ⟨b, o, none⟩) 2 nc) ∧ wz.cell? ⟨b, o + 1, none⟩ = some (.slice a2 1 c2) ∧ wz.cell? ⟨v, 0, none⟩ = some (.slice ua 1 uc))
   (first
    | exact HX6.out _ hd6
    | exact HX6.out _ hB6
    | exact HX6.out _ HB7.out
    | exact HX6.out _ (HB7.out.alloc HB7.out.size _)
    | exact HX6.out _ (HB7.out.setCell (p := ⟨w6.heap.size, 0, none⟩) (Zr _) _))
   (first
    | (go_at_call 38; ((with_reducible refine (HUN.out _ hd6).mono ?_); rintro e w7 ⟨va, vn, vc, rfl, hnn⟩; have hr7 := hnn.rdns; have hun := hr7.1.len; obtain rfl : vn = 2 := hun; have HB7 := Zh (hd6.trans (hr7.2.mono hd6.size)); clear hnn hr7))
    | (go_at_call 38; ((with_reducible refine (HUN.out _ hB6).mono ?_); rintro e w7 ⟨va, vn, vc, rfl, hnn⟩; have hr7 := hnn.rdns; have hun := hr7.1.len; obtain rfl : vn = 2 := hun; have HB7 := Zh (hB6.trans (hr7.2.mono hB6.size)); have hh7 : w7.heap[w6.heap.size]? = some (.cells #[.slice none 0 0] 53 (0, 0)) := (hr7.2.block w6.heap.size (by show w6.heap.size < (w6.alloc _).heap.size; simp)).trans (heap_alloc_new w6 (.cells #[.slice none 0 0] 53)); have q7 : w7.cell? ⟨w6.heap.size, 0, none⟩ = some (.slice none 0 0) := (Lib.cell_of_heap hh7 0).trans rfl; have qf7 := Lib.frozen_of_heap hh7 0; clear hnn hr7 hh7))
    | fail)
  all_goals (go_wp2_with fail)
  all_goals go_meet
  all_goals (first
   | exact ⟨_, va, vc, rfl, (box1 w7 #[.slice va 2 vc] 53).2 0, HB7.out.alloc HB7.out.size _⟩
   | exact ⟨_, va, vc, rfl, World.cell?_setCell_same _ _ _ q7, HB7.out.setCell (p := ⟨w6.heap.size, 0, none⟩) (Zr _) _⟩)
 case rest =>
  obtain ⟨q8, va, vc, rfl, z8, hb8⟩ := hcut
  obtain ⟨_, _, zv⟩ := HX6.out wc hb8
  have hv8 := HB6.out.2.1.next hb8
  have hb28 := HB6.out.1.trans (hb8.mono HB6.out.1.size)
  have HB8 := Zh (Zi hb28 (Zi hv8 hb8))
  have HZ := Zh (Zi zv z8)
  have l0 : wc.cell? ⟨g, 0, none⟩ = some (.string ⟨#[50, 61, 49, 58, 120, 59]⟩) := hv8.cell rfl
  have HL0 := Zh l0
  clear hb8 hv8 hb28 zv z8 l0 y6 e6 z6'
  refine (‹∀ (a : Act) (w : World), Code.wp _ _ _ a w → _› _ _ ?_)
  go_wp2_with (first
   | (go_at_call 41; ((with_reducible refine (HKY.out _ (HYU.out _ HB8.out.1).2.2.2.2).mono ?_); rintro e w9 ⟨rfl, hb9⟩; have l9 := (hb9.cell (Zb _ _ HL0.out)).trans HL0.out; have HB9 := Zh hb9; clear hb9))
   | (go_at_call 26; ((with_reducible refine (HLI.out _).mono ?_); rintro e w10 ⟨rfl, hb10⟩; have hb8x := HB9.out.trans (hb10.mono HB9.out.size); have z6 := (hb8x.cell (Zb _ _ HZ.out.1)).trans HZ.out.1; have z8 := (hb8x.cell (Zb _ _ HZ.out.2)).trans HZ.out.2; have HB10 := Zh hb8x; clear hb10 hb8x))
   | fail)
  go_ret
  have h8 := HB8.out.1.trans (HB10.out.mono HB8.out.1.size)
  exact ⟨rfl, HB2.out.1.trans (h8.mono HB2.out.1.size)⟩
end Go.Proofs.YtlmfbjhokkpjhaaGreatDoor
namespace Go.Proofs.YtlmfbjhokkpjhaaGreatDoor
open Go Go.RowKit Go.ChangeShapes Go.WideShapes Go.Deep
section
variable {H : Type} {enc : TypeId × Value → H} {P : Program} {w : World} {base : Nat} {held : Bool}
end
structure AvasU (B : Nat) (w : World) (a : Option Addr) (n c : Nat) (l : PRdn) : Prop where
 len : n = l.length
 lies : LiesW B a n c
 big : n ≤ reachBytes
 cell : ∀ b o, a = some ⟨b, o, none⟩ → ∀ i x, l[i]? = some x → w.cell? ⟨b, o + i * 2, none⟩ = some (.string x.1) ∧ w.cell? ⟨b, o + i * 2 + 1, none⟩ = some (.string x.2)
 size : ∀ x ∈ l, x.1.size ≤ reachBytes ∧ x.2.size ≤ reachBytes
structure RdnsU (B : Nat) (w : World) (a : Option Addr) (n c : Nat) (l : PName) : Prop where
 len : n = l.length
 lies : LiesW B a n c
 big : n ≤ reachBytes
 cell : ∀ b o, a = some ⟨b, o, none⟩ → ∀ i r, l[i]? = some r → ∃ a' n' c', w.cell? ⟨b, o + i, none⟩ = some (.slice a' n' c') ∧ AvasU B w a' n' c' r
def FewR (r : PRdn) : Prop := r.length ≤ 134217728 ∧ ∀ a ∈ r, a.1.size ≤ 134217728 ∧ a.2.size ≤ 134217728
def FewN (l : PName) : Prop := l.length ≤ 134217728 ∧ ∀ r ∈ l, FewR r
theorem AvasU.few {B : Nat} {w : World} {a : Option Addr} {n c : Nat} {l : PRdn} (h : AvasU B w a n c l) (k : FewR l) : Avas B w a n c l :=
 ⟨h.len, h.lies, by have := h.len; have := k.1; omega, h.cell, fun x hx => by have := k.2 x hx; omega⟩
theorem RdnsU.few {B : Nat} {w : World} {a : Option Addr} {n c : Nat} {l : PName} (h : RdnsU B w a n c l) (k : FewN l) : Rdns B w a n c l :=
 ⟨h.len, h.lies, by have := h.len; have := k.1; omega, fun b o e i r hr => by
  obtain ⟨a', n', c', h1, h2⟩ := h.cell b o e i r hr
  exact ⟨a', n', c', h1, h2.few (k.2 r (List.mem_of_getElem? hr))⟩⟩
section
variable {H : Type} {enc : TypeId × Value → H} {w : World} {base : Nat} {held : Bool}
end
end Go.Proofs.YtlmfbjhokkpjhaaGreatDoor
namespace Go.Proofs.YtlmfbjhokkpjhaaGreatDoor
open Go Go.RowKit
theorem reach_lt : reachBytes < 140737488355328 := by decide
def CntR (r : PRdn) (j : Nat) (k : Int) : Prop := (j : Int) ≤ k ∧ ∀ a ∈ r.take j, (a.1.size : Int) ≤ k ∧ (a.2.size : Int) ≤ k
theorem CntR.next {r : PRdn} {j : Nat} {k : Int} {a : PAva} (h : CntR r j k) (ha : r[j]? = some a) (h0 : 0 ≤ k) : CntR r (j + 1) (k + 2 + a.1.size + a.2.size) := by
 refine ⟨by have := h.1; omega, fun x hx => ?_⟩
 rw [List.take_add_one, ha] at hx
 rcases List.mem_append.1 hx with hx | hx
 ·have := h.2 x hx; omega
 ·simp at hx; subst hx; omega
theorem CntR.few {r : PRdn} {k : Int} (h : CntR r r.length k) (hk : k ≤ 134217728) : FewR r := by
 refine ⟨by have := h.1; omega, fun a ha => ?_⟩
 have := h.2 a (by rw [List.take_length]; exact ha)
 omega
def SomeFew (l : PName) (e : Ending) : Prop := ∃ b, e = .returned (.bool b) ∧ (b = false → FewN l)
set_option maxRecDepth 20000 in
set_option maxHeartbeats 8000000 in
theorem beyond6 (B : Nat) (a : Option Addr) (n c : Nat) (l : PName) (w : World) (h : RdnsU B w a n c l) (hB : B ≤ w.heap.size) :
  Calls Tryz.prog 29 #[.agg #[.slice a n c]] w fun e w' => SomeFew l e ∧ Below w.heap.size w w' := by
 have HNL := Zh h.len
 have hbig := h.big
 have hreach := reach_lt
 obtain ⟨hb, x0⟩ := box1 w #[.slice a n c] 53
 have y0 := x0 0
 clear x0
 have y0' : (w.alloc (.cells #[.slice a n c] 53)).cell? ⟨w.heap.size, 0, none⟩ = some (.slice a n c) := y0
 clear y0
 have hn47 : n < 140737488355328 := by omega
 have hrow : ∀ i r, l[i]? = some r → ∃ b1 o1 m1 cc1, a = some ⟨b1, o1, none⟩ ∧ (w.alloc (.cells #[.slice a n c] 53)).cell? ⟨b1, o1 + i, none⟩ = some (.slice m1 r.length cc1) ∧ AvasU B w m1 r.length cc1 r := fun i r hr => by
  have := (List.getElem?_eq_some_iff.1 hr).1
  have := HNL.out
  obtain ⟨b1, o1, rfl, _⟩ := h.lies.ptr (by omega)
  obtain ⟨m1, z1, cc1, e1, v1⟩ := h.cell b1 o1 rfl i r hr
  have := v1.len
  subst z1
  exact ⟨b1, o1, m1, cc1, rfl, (hb.cell (Zb _ _ e1)).trans e1, v1⟩
 go_enter Tryz.func29, Tryz.ntmps29
 go_upto_region 1 with fail
 have hbw := hb
 generalize w.alloc (.cells #[.slice a n c] 53) = w1 at hb hbw y0' hrow ⊢
 have hat : ∀ wr, Below w1.heap.size w1 wr → wr.cell? ⟨w.heap.size, 0, none⟩ = some (.slice a n c) := fun wr hk => (hk.cell (Zb _ _ y0')).trans y0'
 have HAT := Zh hat; have HROW := Zh hrow; have HB := Zh (Zi hb (Zi hB HNL.out))
 obtain ⟨x, hx⟩ : ∃ x, x = w.heap.size := ⟨_, rfl⟩
 rw [← hx] at HAT
 rw [← hx]
 clear hat hrow hb hbw y0' h hB hbig hreach hx
 have z0 := HAT.out w1 (Zl _ _)
 go_wp2_with fail
 clear z0
 go_loopw [3, 4] (fun kv iv wr => ∃ (i : Nat) (k : Int), iv = .int .i64 (i : Nat) ∧ kv = .int .i64 k ∧ i ≤ n ∧ (i : Int) ≤ k ∧ k ≤ 134217728 ∧ (∀ r ∈ l.take i, FewR r) ∧ Below w1.heap.size w1 wr) (fun _ iv _ => n - (intOf iv).toNat)
 case atStart => exact ⟨0, 0, rfl, rfl, Nat.zero_le _, by simp, by decide, by simp, Zl _ _⟩
 case round =>
  obtain ⟨i, k, rfl, rfl, hin, hik, hk27, hfew, hbl⟩ := hrel
  have z0 := HAT.out wr hbl
  have HBL := Zh hbl; have HFEW := Zh hfew; clear hbl hfew
  by_cases hi : i < n
  ·have i2 : (i : Int) < (n : Int) := by omega
   have i3 : (0 : Int) ≤ (i : Int) := by omega
   obtain ⟨r, hr⟩ : ∃ r, l[i]? = some r := ⟨_, List.getElem?_eq_getElem (by have := HB.out.2.2; omega)⟩
   obtain ⟨b1, o1, m1, cc1, rfl, e1, v1⟩ := HROW.out i r hr
   have hrs := v1.big
   have hrl := reach_lt
   obtain ⟨m, hm⟩ : ∃ m, m = r.length := ⟨_, rfl⟩
   rw [← hm] at e1 v1 hrs
   have hm47 : m < 140737488355328 := by omega
   have HV := Zh (Zi e1 (Zi v1 (Zi hm hr)))
   clear e1 v1 hm hr hrs hrl
   go_wp2_with fail
   clear z0
   go_loopw [3, 5] (fun kv jv wx => ∃ (j : Nat) (q : Int), jv = .int .i64 (j : Nat) ∧ kv = .int .i64 q ∧ j ≤ m ∧ (i : Int) + 1 ≤ q ∧ q ≤ 281475245000000 ∧ CntR r j q ∧ Below w1.heap.size w1 wx) (fun _ jv _ => m - (intOf jv).toNat)
   case atStart => exact ⟨0, k + 1, rfl, rfl, Nat.zero_le _, by omega, by omega, ⟨by omega, fun x hx => by simp at hx⟩, HBL.out⟩
   case round =>
    obtain ⟨j, q, rfl, rfl, hjm, hiq, hq48, hcr, hbx⟩ := hrel
    have z0 := HAT.out wr hbx
    have q1 := (hbx.cell (Zb _ _ HV.out.1)).trans HV.out.1
    have HBX := Zh hbx; have HCR := Zh hcr; clear hbx hcr
    by_cases hj : j < m
    ·have j2 : (j : Int) < (m : Int) := by omega
     have j3 : (0 : Int) ≤ (j : Int) := by omega
     by_cases hq : q ≤ 134217728
     ·obtain ⟨d1, p1, rfl, _⟩ := HV.out.2.1.lies.ptr (by omega)
      obtain ⟨t, ht⟩ : ∃ t, r[j]? = some t := ⟨_, List.getElem?_eq_getElem (by have := HV.out.2.2.1; omega)⟩
      obtain ⟨s1, s2⟩ := HV.out.2.1.cell d1 p1 rfl j t ht
      obtain ⟨t1, t2⟩ := HV.out.2.1.size t (List.mem_of_getElem? ht)
      have hrl := reach_lt
      have s1 := (((HB.out.1.trans (HBX.out.mono HB.out.1.size))).cell (Zb _ _ s1)).trans s1
      have s2 := (((HB.out.1.trans (HBX.out.mono HB.out.1.size))).cell (Zb _ _ s2)).trans s2
      have HN := Zh (HCR.out.next ht (by omega))
      have u1 : t.1.size < 140737488355328 := by omega
      have u2 : t.2.size < 140737488355328 := by omega
      clear ht t1 t2 hrl
      go_wp2_with fail
      go_quiet (fail)
      go_wp2_with fail
      exact ⟨⟨j + 1, q + 2 + t.1.size + t.2.size, by simp, rfl, by omega, by omega, by omega, HN.out, bdrewN HBX.out _⟩, by simp [intOf]; omega⟩
     ·have hq2 : (134217728 : Int) < q := by omega
      go_wp2_with fail
      go_ret
      exact ⟨⟨true, rfl, fun h => by cases h⟩, HB.out.1.trans (HBX.out.mono HB.out.1.size)⟩
    ·have j2 : ¬ (j : Int) < (m : Int) := by omega
     by_cases hq : q ≤ 134217728
     ·have hq2 : ¬ (134217728 : Int) < q := by omega
      go_wp2_with fail
      refine ⟨⟨i + 1, q, by simp, rfl, by omega, by omega, hq, ?_, HBX.out⟩, by simp [intOf]; omega⟩
      intro y hy
      rw [List.take_add_one, HV.out.2.2.2] at hy
      rcases List.mem_append.1 hy with hy | hy
      ·exact HFEW.out y hy
      ·simp at hy; subst hy
       have h1 := HV.out.2.2.1
       have h2 := HCR.out
       rw [show j = y.length by omega] at h2
       exact h2.few hq
     ·have hq2 : (134217728 : Int) < q := by omega
      go_wp2_with fail
      go_ret
      exact ⟨⟨true, rfl, fun h => by cases h⟩, HB.out.1.trans (HBX.out.mono HB.out.1.size)⟩
  ·have i2 : ¬ (i : Int) < (n : Int) := by omega
   go_wp2_with fail
   go_ret
   refine ⟨⟨false, rfl, fun _ => ?_⟩, HB.out.1.trans (HBL.out.mono HB.out.1.size)⟩
   have h1 := HB.out.2.2
   have h2 := HFEW.out
   rw [List.take_of_length_le (by omega)] at h2
   exact ⟨by omega, h2⟩
def turnL {α : Type} (k : Nat) (l : List α) : List α := l.drop k ++ l.take k
theorem turnL_perm {α : Type} (k : Nat) (l : List α) : List.Perm (turnL k l) l := by
 unfold turnL
 have h := List.perm_append_comm (l₁ := l.drop k) (l₂ := l.take k)
 rwa [List.take_append_drop] at h
theorem turnL_len {α : Type} (k : Nat) (l : List α) : (turnL k l).length = l.length := (turnL_perm k l).length_eq
theorem turnL_at {α : Type} {k i : Nat} {l : List α} (hk : k < l.length) (hi : i < l.length) : (turnL k l)[i]? = l[(i + k) % l.length]? := by
 unfold turnL
 by_cases h : i < l.length - k
 ·rw [List.getElem?_append_left (by rw [List.length_drop]; exact h), List.getElem?_drop, Nat.mod_eq_of_lt (by omega), Nat.add_comm]
 ·rw [List.getElem?_append_right (by rw [List.length_drop]; omega), List.length_drop, List.getElem?_take_of_lt (by omega)]
  congr 1
  rw [Nat.mod_eq_sub_mod (by omega), Nat.mod_eq_of_lt (by omega)]
  omega
def turnK (turn : Int) (n : Nat) : Nat := ((turn.tmod n + n) % n).toNat
theorem turn_idx {turn : Int} {n i : Nat} (hn : 0 < n) (hi : i < n) : turnK turn n < n ∧ ((i : Int) + turn.tmod n + n).tmod n = (((i + turnK turn n) % n : Nat) : Int) ∧ -(n : Int) < turn.tmod n ∧ turn.tmod n < n := by
 have h1 : -(n : Int) < turn.tmod n := by
  rcases Int.le_total 0 turn with h | h
  ·rw [Int.tmod_eq_emod_of_nonneg h]
   have := Int.emod_nonneg turn (show (n : Int) ≠ 0 by omega)
   omega
  ·have e : turn.tmod n = -((-turn) % n) := by
    rw [← Int.tmod_eq_emod_of_nonneg (show 0 ≤ -turn by omega), Int.neg_tmod, Int.neg_neg]
   have := Int.emod_lt_of_pos (-turn) (show 0 < (n : Int) by omega)
   omega
 have h2 : turn.tmod n < n := Int.tmod_lt_of_pos _ (by omega)
 have hk : 0 ≤ (turn.tmod n + n) % (n : Int) := Int.emod_nonneg _ (by omega)
 have hk2 : (turn.tmod n + n) % (n : Int) < n := Int.emod_lt_of_pos _ (by omega)
 have hkk : ((turnK turn n : Nat) : Int) = (turn.tmod n + n) % (n : Int) := by unfold turnK; omega
 refine ⟨by omega, ?_, h1, h2⟩
 rw [Int.tmod_eq_emod_of_nonneg (by omega)]
 rw [Int.natCast_emod, Int.natCast_add, hkk, Int.add_assoc]
 simp
 rw [← Int.add_assoc, Int.add_emod_right]
theorem run_app_str {P : Program} (w : World) (t u ty e : TypeId) (i : TypeInfo) (ht : P.underlying t = some (.slice e)) (hu : P.underlying u = some .string) (hi : P.info? e = some i) (hz : i.zero = some (.int .u8 0))
  (hsize : i.size = 1) (hby : i.bytes = 1) {go : Option Nat} {n cap : Nat} {xs : List Value} (hown : Own w e 1 go n cap xs) (s : ByteArray) (hs0 : 0 < s.size) (hbytes : n + s.size ≤ 140737488355328) :
  ∃ g cap' w', (Builtin.append_ #[t, u] ty #[sv go n cap, .string s]).run P w = .ok (.slice (some ⟨g, 0, none⟩) (n + s.size) cap') w' ∧ Own w' e 1 (some g) (n + s.size) cap' (xs ++ Lib.strCells s) ∧
   w.grownBy w' go ∧ (go = some g ∨ g = w.heap.size) := by
 have h63 : n + s.size ≤ maxLen := by simp only [maxLen]; omega
 have hxl : xs.length = n := by simpa using hown.1
 have hlen : (xs ++ Lib.strCells s).length = (n + s.size) * 1 := by rw [List.length_append, hxl, Lib.strCells_length, Nat.mul_one]
 have grown : ∀ (old : Nat) (row : Option Nat),
   Own (w.drew.alloc (.cells (xs.toArray ++ (Lib.strCells s).toArray ++ Builtin.zeroCells (Value.int .u8 0).cells (grownCap w (n + s.size) old e - (n + s.size))) e)) e 1 (some w.heap.size) (n + s.size) (grownCap w (n + s.size) old e) (xs ++ Lib.strCells s) ∧
   w.grownBy (w.drew.alloc (.cells (xs.toArray ++ (Lib.strCells s).toArray ++ Builtin.zeroCells (Value.int .u8 0).cells (grownCap w (n + s.size) old e - (n + s.size))) e)) row := by
  intro old row
  have hge := grownCap_ge w (n + s.size) old e
  have hcm : grownCap w (n + s.size) old e ≤ maxLen := grownCap_le_maxLen w (n + s.size) old e h63
  refine ⟨Own.mk ⟨(Builtin.zeroCells (Value.int .u8 0).cells (grownCap w (n + s.size) old e - (n + s.size))).toList, ?_, ?_, hcm⟩ hlen hge, ⟨rfl, rfl, rfl, by simp, fun k hk _ => Below.heap_alloc w.drew _ k hk⟩⟩
  ·have := heap_alloc_new w.drew (.cells (xs.toArray ++ (Lib.strCells s).toArray ++ Builtin.zeroCells (Value.int .u8 0).cells (grownCap w (n + s.size) old e - (n + s.size))) e)
   refine this.trans ?_
   congr 2
   apply Array.ext'
   simp
  ·rw [hlen]
   have hz1 : (Value.int IntKind.u8 0).cells.size = 1 := rfl
   simp only [Array.length_toList, size_zeroCells, hz1]
   omega
 cases go with
 | none =>
  obtain ⟨rfl, rfl⟩ := hown.2
  have hx : xs = [] := List.eq_nil_of_length_eq_zero hxl
  subst hx
  have hr := run_append_nil_string (P := P) w t u ty e i (.int .u8 0) ht hu hi hz s (by omega) (by omega) (by rw [hby]; omega)
  have hgr := grown 0 none
  simp only [Nat.zero_add, List.nil_append, Array.empty_append] at hgr ⊢
  have e1 : (s.data.map fun b => Value.int .u8 b.toNat) = (Lib.strCells s).toArray := by
   apply Array.ext'
   simp [Lib.strCells]
  rw [e1] at hr
  exact ⟨w.heap.size, _, _, hr, hgr.1, hgr.2, .inr rfl⟩
 | some g =>
  obtain ⟨sp, hh, hsl, hcm⟩ := hown.row
  by_cases hroom : n + s.size ≤ cap
  ·have hr := Lib.run_append_room_string (P := P) w t u ty e i ht hu hi hsize g n cap (xs ++ sp).toArray hh s hroom (by simp; omega)
   refine ⟨g, cap, _, hr, Own.mk ⟨(xs ++ sp).drop (n + s.size), ?_, ?_, hcm⟩ hlen hroom, ⟨rfl, rfl, rfl, by simp [World.setRow], fun k _ hk => setRow_other w g k _ (fun e => hk (by simp [e]))⟩, .inl rfl⟩
   ·rw [setRow_heap w g _ _ e _ hh]
    congr 2
    rw [← hxl]
    simp
   ·rw [hlen, List.length_drop, List.length_append]; omega
  ·have holds : ∀ j u, xs[j]? = some u → w.cell? ((⟨g, 0, none⟩ : Addr).add j) = some u := fun j u hu => by
    rw [Addr.add_lit, Nat.zero_add]; exact hown.row.cell hu
   have hr := Lib.run_append_grow_string (P := P) w t u ty e i (.int .u8 0) ht hu hi hz ⟨g, 0, none⟩ n cap xs (by rw [hsize]; simpa using hxl) holds s (by omega) (by omega) (by rw [hby]; exact growslice_fits (by omega) (by omega))
   have hgr := grown cap (some g)
   exact ⟨w.heap.size, _, _, hr, hgr.1, hgr.2, .inr rfl⟩
theorem Buf.pushS {w0 w : World} {go : Option Nat} {cap : Nat} {l : List UInt8} (hB : Buf w0 w go cap l) {ops : Array Oper} {rest : List Oper} {o : Oper} {a : Act} {Q : Exit → Act → World → Prop} (hgd : o.guard = none) (sl x : Operand)
  (ho : o.op = .call { callee := .builtin .append, args := #[sl, x], argTypes := #[115, 9] })
  (hs : a.eval sl = sv go l.length cap) (z : ByteArray) (hz : 0 < z.size) (hx : a.eval x = .string z) (hb : l.length + z.size ≤ 140737488355328)
  (h : ∀ g cap' w', Buf w0 w' (some g) cap' (l ++ z.data.toList) → wpList Tryz.prog ops Q rest (a.put o.dst (.slice (some ⟨g, 0, none⟩) (l.length + z.size) cap')) w') :
  wpList Tryz.prog ops Q (o :: rest) a w := by
 obtain ⟨i, h1, h2, h3, h4⟩ := infoU8
 refine wpList_plain hgd fun K hK => ?_
 obtain ⟨g, cap', w', hr, hO, hG, hat⟩ := run_app_str (P := Tryz.prog) w 115 9 o.type 5 i Tryz.underlying115 Tryz.underlying9 h1 h2 h3 h4 hB.own z hz hb
 unfold Oper.wp execOp
 simp only [ho, resolve, invoke, builtin, Sem.run_bind, Sem.run_pure, Result.andThen_ok, List.map_toArray, List.map_cons, List.map_nil, hs, hx, hr]
 refine hK _ _ (h g cap' w' ⟨?_, ?_, ?_⟩)
 ·rw [bv_append, List.length_append, ← Lib.size_eq]; exact hO
 ·intro k hk; cases hk
  rcases hat with e | e
  ·exact hB.fresh _ e
  ·rw [e]; exact hB.size
 ·exact hB.below.grown hG hB.size fun k hk => hB.fresh k hk
end Go.Proofs.YtlmfbjhokkpjhaaGreatDoor
