/- Part 38 of the walks and plain laws, joined: Keyed6, UpC, StpAt. -/
import Derived.Test.YtlmfbjhokkpjhaaGreatDoorNM00
import Derived.Test.YtlmfbjhokkpjhaaGreatDoorNM22
import Derived.Test.YtlmfbjhokkpjhaaGreatDoorNM37
import Derived.Test.YtlmfbjhokkpjhaaGreatDoorNM27
import Derived.Test.YtlmfbjhokkpjhaaGreatDoorNM15
import Derived.Test.YtlmfbjhokkpjhaaGreatDoorNM13
import Derived.Test.YtlmfbjhokkpjhaaGreatDoorNM26
import Derived.Deep.DeepCutAuto
import Derived.Laws.ResultCell
import Derived.LoopN
set_option linter.unusedVariables false
set_option linter.unusedSimpArgs false
namespace Go.Proofs.YtlmfbjhokkpjhaaGreatDoor
open Go Go.RowKit Go.Maps
theorem new_plain (wq : World) (hE : EnvS wq) (a a2 : Option Addr) (ht : Types wq.heap.size wq a 6 6 plainS.types) (hc : Classes wq.heap.size wq a2 1 1 plainS.classes) :
  Calls Tryz.prog 9 #[.agg #[.slice a 6 6, .slice a2 1 1]] wq fun e w' => ∃ g, e = .returned (.tuple #[.pointer (some ⟨g, 0, none⟩), .int .i64 0, .int .i64 0]) ∧ Sch w' g plainS ∧ Below wq.heap.size wq w' :=
 (new_any plainS wq.heap.size a a2 6 6 1 1 wq hE ht hc (Zr _)).mono fun e w' ⟨h1, h2⟩ => by
  rcases h2 with ⟨_, g, h3, h4⟩ | ⟨h3, _⟩
  ·exact ⟨g, h3, h4, h1⟩
  ·exact absurd (by rw [plain_new]) h3
theorem parse_good {s : ByteArray} {l : PName} (h : parseV (toL s) = .ok l) (w : World) (hE : SynV w) : Calls Tryz.prog 31 #[.string s] w fun e w' => ∃ a n c, e = .returned (.tuple #[.agg #[.slice a n c], .nilIface]) ∧ Rdns w'.heap.size w' a n c l ∧ Below w.heap.size w w' :=
 (nparse_any s w hE).mono fun e w' ⟨h1, h2, _⟩ => by
  obtain ⟨a, n, c, e1, h3⟩ := h2 l h
  exact ⟨a, n, c, e1, h3.rdns.1, h1⟩
set_option maxRecDepth 20000 in
set_option maxHeartbeats 4000000 in
theorem keyed_ok {text : ByteArray} {l : PName} {k : Str} (w : World) (hE : EnvK w) (hp : parseV (toL text) = .ok l) (hk : nkeyV plainS l = (k, 0)) :
  Calls Tryz.prog 41 #[.string text] w fun e w' => e = .returned (.string (baOf k)) ∧ Below w.heap.size w w' := by
 have hpl := plain_any6 w
 have hpg := fun wq (h : EnvK wq) => parse_good hp wq h.v
 have hke : ∀ (g : Nat) (a : Option Addr) (n c : Nat) (wq : World), Sch wq g plainS → EnvK wq → Rdns wq.heap.size wq a n c l → Calls Tryz.prog 33 #[.pointer (some ⟨g, 0, none⟩), .agg #[.slice a n c]] wq fun e w' => e = .returned (.tuple #[.string (baOf k), .int .i64 0]) ∧ Below wq.heap.size wq w' := fun g a n c wq h1 h2 h3 => by
  have := nkey_any plainS g wq.heap.size a n c l wq h1 h2 h3 (Zr _)
  rw [hk] at this
  exact this
 have HPL := Zh hpl; have HPG := Zh hpg; have HKE := Zh hke; have HE := Zh hE
 clear hpl hpg hke hE hp hk
 go_enter Tryz.func41, Tryz.ntmps41
 go_wp2_with (first
  | (go_at_call 85; (with_reducible refine HPL.out.mono ?_); rintro e w1 ⟨ta, ca, rfl, ht1, hc1, hb1⟩; have hnw := new_plain w1 (HE.out.next hb1).s ta ca ht1 hc1; have HNW := Zh hnw; have HB1 := Zh hb1; clear ht1 hc1 hb1 hnw)
  | (go_at_call 9; (with_reducible refine HNW.out.mono ?_); rintro e w2 ⟨g, rfl, hs2, hb2⟩; have HB2 := Zh (Zi hs2 (HB1.out.trans (hb2.mono HB1.out.size))); clear hs2 hb2)
  | (go_at_call 31; (with_reducible refine (HPG.out _ (HE.out.next HB2.out.2)).mono ?_); rintro e w3 ⟨na, nn, nc, rfl, hr3, hb3⟩; have hbx := (box1 w3 #[.slice na nn nc] 53).1; have hb03 := HB2.out.2.trans (hb3.mono HB2.out.2.size); have HB3 := Zh (Zi ((HB2.out.1.keep hb3).keep hbx) (Zi (hr3.keep hbx hbx.size) (hb03.trans (hbx.mono hb03.size)))); clear hr3 hb3 hbx hb03)
  | (go_at_call 33; (with_reducible refine (HKE.out _ _ _ _ _ HB3.out.1 (HE.out.next HB3.out.2.2) HB3.out.2.1).mono ?_); rintro e w4 ⟨rfl, hb4⟩; have HB4 := Zh (HB3.out.2.2.trans (hb4.mono HB3.out.2.2.size)); clear hb4)
  | fail)
 go_ret
 exact ⟨rfl, HB4.out⟩
end Go.Proofs.YtlmfbjhokkpjhaaGreatDoor
namespace Go.Proofs.YtlmfbjhokkpjhaaGreatDoor
open Go Go.RowKit
theorem grown_cell {w w' : World} {row : Option Nat} {b j : Nat} {v : Value} (hg : w.grownBy w' row) (h : w.cell? ⟨b, j, none⟩ = some v) (hr : row ≠ some b) : w'.cell? ⟨b, j, none⟩ = some v := by
 have h2 := hg.block b (Zb w _ h) (fun e => hr e.symm)
 rw [← h]
 unfold World.cell?
 simp only [h2]
def AbovePost (l : PName) (w : World) (e : Ending) (w' : World) : Prop :=
 Below w.heap.size w w' ∧ (l = [] → e = .returned (.tuple #[.agg #[.slice none 0 0], .bool false])) ∧ (l ≠ [] → ∃ a n c, e = .returned (.tuple #[.agg #[.slice a n c], .bool true]) ∧ NewName w w' a n c l.tail)
theorem take_succ_some {α : Type} {l : List α} {i : Nat} {r : α} (h : l[i]? = some r) : l.take (i + 1) = l.take i ++ [r] := by
 rw [List.take_add_one, h]; rfl
theorem up_ret {L B : Nat} {w w1 : World} {u bR : Nat} {go : Option Nat} {m cap : Nat} {gs : List PartO} (h : UpO L B w w1 u go m cap gs) (h1 : w.heap.size ≤ bR) (h2 : bR < L) (h3 : u ≠ bR) (hm : m ≤ 4294967280) (v : Value) :
  NewName w (w1.setCell ⟨bR, 0, none⟩ v) (go.map fun g => (⟨g, 0, none⟩ : Addr)) m cap (gs.map (·.2)) :=
 (h.chg ((Chg.refl (· = bR) w1).setCell (p := ⟨bR, 0, none⟩) (fun _ => rfl) v) h1 h2 h3).new_name hm
set_option maxRecDepth 20000 in
set_option maxHeartbeats 4000000 in
theorem nabove_any (B : Nat) (a : Option Addr) (n c : Nat) (l : PName) (w : World) (h : Rdns B w a n c l) (hB : B ≤ w.heap.size) :
  Calls Tryz.prog 37 #[.agg #[.slice a n c]] w (AbovePost l w) := by
 have hn := h.len
 have hsm := h.small
 have HH := Zh (Zi h (Zi hB hn))
 clear h hB hn
 go_enter Tryz.func37, Tryz.ntmps37
 by_cases h0 : n = 0
 ·subst h0
  have hl : l = [] := List.eq_nil_of_length_eq_zero HH.out.2.2.symm
  subst hl
  go_wp2_with fail
  refine bodyPost_ret (v := .tuple #[.agg #[.slice none 0 0], .bool false]) ((results_cell_tmp rfl _ _ _).trans ?hres) rfl ?_
  case hres => go_simp
  exact ⟨(((Zl _ _).alloc (Zr _) _).alloc (by simp) _), fun _ => rfl, fun h => absurd rfl h⟩
 ·obtain ⟨k, rfl⟩ : ∃ k, n = k + 1 := ⟨n - 1, by omega⟩
  have hlne : l ≠ [] := fun e => by have := HH.out.2.2; rw [e] at this; simp at this
  have n0 : (((k + 1 : Nat) : Int) == 0) = false := by simp; omega
  have n1 : (1 : Int) ≤ ((k + 1 : Nat) : Int) := by omega
  obtain ⟨b, o, rfl, hb⟩ := HH.out.1.lies.ptr (by omega)
  have hlc := HH.out.1.lies.le
  have hcm := HH.out.1.lies.cap
  have c1 : ((k + 1 : Nat) : Int) ≤ (c : Int) := by omega
  by_cases hc : c = 1
  ·obtain rfl : k = 0 := by omega
   subst hc
   go_wp2_with fail
   refine wp_loop_rounds 1 ?_
   rw [rounds_succ]
   go_wp2_with fail
   refine bodyPost_ret (v := .tuple #[.agg #[.slice none 0 0], .bool true]) ((results_cell_tmp rfl _ _ _).trans ?hres) rfl ?_
   case hres => go_simp
   have hb : Below w.heap.size w (((w.alloc (.cells #[.slice (some ⟨b, o, none⟩) 1 1] 53)).alloc (.cells #[.slice none 0 0] 53)).alloc (.cells #[.slice none 0 0] 53)) := (((Zl _ _).alloc (Zr _) _).alloc (by simp) _).alloc (by simp; omega) _
   exact ⟨hb, fun h => absurd h hlne, fun _ => ⟨none, 0, 0, rfl, none, [], rfl, Vec.nil _ _ _ hb, RowsO.nil _ _ _, (List.eq_nil_of_length_eq_zero (by have := HH.out.2.2; simp; omega)).symm, Nat.zero_le _⟩⟩
  ·have hc2 : ¬ c - 1 = 0 := by omega
   go_wp2_with fail
   obtain ⟨w1, hw1⟩ : ∃ w1, w1 = (((w.alloc (.cells #[.slice (some ⟨b, o, none⟩) (k + 1) c] 53)).alloc (.cells #[.slice none 0 0] 53)).alloc (.cells #[.slice none 0 0] 53)) := ⟨_, rfl⟩
   have hb1 : Below w.heap.size w w1 := by rw [hw1]; exact (((Zl _ _).alloc (Zr _) _).alloc (by simp) _).alloc (by simp; omega) _
   have hz1 : w1.heap.size = w.heap.size + 1 + 1 + 1 := by rw [hw1]; simp
   have hr1 : w1.heap[w.heap.size + 1]? = some (.cells #[.slice none 0 0] 53 (0, 0)) := by
    rw [hw1, Below.heap_alloc _ _ _ (by simp)]; exact heap_new1 _ _ _
   have hu1 : w1.heap[w.heap.size + 1 + 1]? = some (.cells #[.slice none 0 0] 53 (0, 0)) := by
    rw [hw1]
    have h := heap_alloc_new ((w.alloc (.cells #[.slice (some ⟨b, o, none⟩) (k + 1) c] 53)).alloc (.cells #[.slice none 0 0] 53)) (.cells #[.slice none 0 0] 53)
    rw [show ((w.alloc (.cells #[.slice (some ⟨b, o, none⟩) (k + 1) c] 53)).alloc (.cells #[.slice none 0 0] 53)).heap.size = w.heap.size + 1 + 1 by simp] at h
    exact h
   rw [← hw1]
   obtain ⟨bR, hbR⟩ : ∃ x, x = w.heap.size + 1 := ⟨_, rfl⟩
   obtain ⟨u, hu⟩ : ∃ x, x = w.heap.size + 1 + 1 := ⟨_, rfl⟩
   obtain ⟨L, hL⟩ : ∃ x, x = w.heap.size + 1 + 1 + 1 := ⟨_, rfl⟩
   rw [← hu] at hu1
   rw [← hbR] at hr1
   rw [← hL] at hz1
   rw [← hu, ← hbR]
   have hlt : w.heap.size < bR ∧ bR < u ∧ u < L := by omega
   clear hu hbR hL hw1
   have HW := Zh (Zi hb1 (Zi hr1 (Zi hu1 hz1)))
   clear hb1 hr1 hu1 hz1
   go_loopw [16] (fun iv wr => ∃ (i : Nat) (go : Option Nat) (cap : Nat) (gs : List PartO), iv = .int .i64 (i : Nat) ∧ i ≤ k ∧ UpO L wr.heap.size w wr u go i cap gs ∧ gs.map (·.2) = l.tail.take i ∧ wr.heap[bR]? = some (.cells #[.slice none 0 0] 53 (0, 0))) (fun iv _ => k - (intOf iv).toNat)
   case atStart => exact ⟨0, none, 0, [], rfl, Nat.zero_le _, ⟨HW.out.2.2.1, by omega, Vec.nil _ _ _ HW.out.1, RowsO.nil _ _ _, Zr _, by omega, by have := HW.out.2.2.2; omega, (fun g e => by cases e)⟩, rfl, HW.out.2.1⟩
   case round =>
    obtain ⟨i, go, cap, gs, rfl, hi, hup, hgs, hres⟩ := hrel
    by_cases hlt2 : i < k
    ·obtain ⟨r, hr⟩ : ∃ r, l[i + 1]? = some r := by
      have := HH.out.2.2
      exact ⟨l[i + 1]'(by omega), List.getElem?_eq_getElem _⟩
     have hbw := hup.vec.below
     have hrk := HH.out.1.keep (hbw.mono HH.out.2.1) (Zr _)
     obtain ⟨a', n', c', hcell, hav⟩ := hrk.cell b o rfl (i + 1) r hr
     rw [show o + (i + 1) = o + 1 + i by omega] at hcell
     have HX := Zh (Zi hup (Zi hres (Zi hr (Zi hav hgs))))
     clear hup hres hr hbw hrk hav hgs
     have i1 : (i : Int) < (k : Int) := by omega
     go_upto_region 7 with fail
     obtain ⟨w5, hw5⟩ : ∃ w5, w5 = wr.alloc (.cells #[.slice a' n' c'] 65) := ⟨_, rfl⟩
     have hb5 : Below wr.heap.size wr w5 := by rw [hw5]; exact (Zl _ _).alloc (Zr _) _
     have hz5 : w5.heap.size = wr.heap.size + 1 := by rw [hw5]; simp
     have ht5 : w5.heap[wr.heap.size]? = some (.cells #[.slice a' n' c'] 65 (0, 0)) := by rw [hw5]; exact heap_alloc_new _ _
     rw [← hw5]
     have hup5 := HX.out.1.keep hb5
     have hav5 := (HX.out.2.2.2.1.keep (B' := B) ((hb5.mono (Nat.le_trans HH.out.2.1 HX.out.1.vec.size)).drew) (Zr _))
     have hut := (Array.getElem?_eq_some_iff.1 HX.out.1.head).1
     have hKP : ∀ wz, Below w5.heap.size w5 wz → wz.cell? ⟨u, 0, none⟩ = some (sv go i cap) ∧ wz.cell? ⟨wr.heap.size, 0, none⟩ = some (.slice a' n' c') := fun wz hb => by
      constructor
      ·rw [hb.cell (p := ⟨u, 0, none⟩) (by simp only; omega), Lib.cell_of_heap hup5.head]; rfl
      ·rw [hb.cell (p := ⟨wr.heap.size, 0, none⟩) (by simp only; omega), Lib.cell_of_heap ht5]; rfl
     have htw := ntwin_any B a' n' c' r w5.drew hav5 (by have := HX.out.1.vec.size; have := HH.out.2.1; have := hb5.size; simp; omega)
     have hbr := (Array.getElem?_eq_some_iff.1 HX.out.2.1).1
     have H5 := Zh (Zi hb5 (Zi hup5 (Zi ht5 hz5)))
     have HKP := Zh hKP
     have HTW := Zh htw
     have HUT := Zh (Zi hut hbr)
     have HW5 := Zh hw5
     clear hb5 hup5 ht5 hz5 hKP htw hut hav5 hw5 hbr
     refine wp_region_C (s0 := 7) (C := fun wz => wz.cell? ⟨u, 0, none⟩ = some (sv go i cap) ∧ wz.cell? ⟨wr.heap.size, 0, none⟩ = some (.slice a' n' c')) (by kernel_rfl) (HKP.out _ ((Zl _ w5).drew)) (fun hC => ?_)
     (try simp only [Act.put, Z1, Z2, Z3, Z4, Z5, Z6])
     refine Zu (i := 0) rfl (fun _ => hC) ?rq0
     (try simp only [Act.put, Z1, Z2, Z3, Z4, Z5, Z6])
     refine Zv (i := 1) rfl rfl hC ?rq1
     (try simp only [Act.put, Z1, Z2, Z3, Z4, Z5, Z6])
     refine Zv (i := 2) rfl rfl hC ?rq2
     (try simp only [Act.put, Z1, Z2, Z3, Z4, Z5, Z6])
     refine wpC_step (i := 3) (by kernel_rfl) rfl (fun K1 hK1 => ?_)
     go_simp
     go_at_call 83; (refine HTW.out.mono ?_); rintro e w6 ⟨go2, n2, cap2, ga, hga, rfl, hv6, hn2⟩; have H6 := Zh (Zi hga (Zi hv6 (Zi hn2 (((Zl w5.heap.size w5).drew).trans hv6.below)))); clear hga hv6 hn2
     go_wp2_with fail
     refine hK1.out _ _ (fun _ => HKP.out w6 H6.out.2.2.2) ?_
     clear hK1 K1 hC
     have hC := HKP.out w6 H6.out.2.2.2
     (try simp only [Act.put, Z1, Z2, Z3, Z4, Z5, Z6])
     refine wpC_step (i := 4) (by kernel_rfl) rfl (fun K1 hK1 => ?_)
     go_simp
     have hb7 : Below w5.heap.size w5 (w6.alloc (.cells #[.slice ga n2 cap2] 65)) := H6.out.2.2.2.alloc H6.out.2.2.2.size _
     have hb67 : Below w6.heap.size w6 (w6.alloc (.cells #[.slice ga n2 cap2] 65)) := (Zl _ _).alloc (Zr _) _
     have hnw := news_new w6 [.slice ga n2 cap2] #[.slice ga n2 cap2] 65 rfl
     have hs7 : (w6.alloc (.cells #[.slice ga n2 cap2] 65)).heap.size = w6.heap.size + 1 := by simp
     generalize w6.alloc (.cells #[.slice ga n2 cap2] 65) = w7 at hb7 hb67 hnw hs7 ⊢
     have H7 := Zh (Zi hb7 (Zi hb67 (Zi hnw hs7))); clear hb7 hb67 hnw hs7
     refine hK1.out _ _ (fun _ => HKP.out w7 H7.out.1) ?_
     clear hK1 K1 hC
     have hC := HKP.out w7 H7.out.1
     (try simp only [Act.put, Z1, Z2, Z3, Z4, Z5, Z6])
     refine wpC_step (i := 5) (by kernel_rfl) rfl (fun K1 hK1 => ?_)
     refine step_appE eiRdn ?h1 (.tmp 21) (.tmp 24) ?h2 go i cap (gs.map rowV) ?h3 (H5.out.2.1.keep H7.out.1).vec.own (some ⟨w6.heap.size, 0, none⟩) 1 1 [.slice ga n2 cap2] ?h4 (fun h => by cases h) rfl H7.out.2.2.1 (fun u hu => by simp at hu; subst hu; rfl) (i + 1) rfl (by omega) (by omega) ?_
     case h1 => rfl
     case h2 => rfl
     case h3 => rfl
     case h4 => rfl
     intro g9 cap9 w9 o9 gr9 at9
     have hrv : rowV ((go2, cap2), r) = .slice ga n2 cap2 := by rw [H6.out.1, H6.out.2.2.1]; rfl
     rw [← hrv] at o9
     have hps := (H5.out.2.1.keep H7.out.1).push (ga := go2) (c := cap2) (r := r) o9 gr9 (at9.imp id fun e => Nat.le_of_eq e.symm) (by rw [← H6.out.2.2.1]; exact (H6.out.2.1.next H7.out.2.1).own) (fun q e => by have h1 := H6.out.2.1.fresh q e; have h2 := H5.out.1.size; have h3 := World.size_drew w5; omega) ⟨by rw [← HX.out.2.2.2.1.len]; exact HX.out.2.2.2.1.small, HX.out.2.2.2.1.size⟩
     have l0 : w9.cell? ⟨u, 0, none⟩ = some (sv go i cap) := by rw [Lib.cell_of_heap hps.1]; rfl
     have lf := Lib.frozen_of_heap hps.1 0
     have l1 : w9.cell? ⟨wr.heap.size, 0, none⟩ = some (.slice a' n' c') := grown_cell gr9 (HKP.out w7 H7.out.1).2 (fun e => by have h := HX.out.1.vec; rw [e] at h; have := h.lt; omega)
     have hres9 := lt_grown gr9 (by rw [H7.out.1.block bR (Nat.lt_of_lt_of_le HUT.out.2 H5.out.1.size), H5.out.1.block bR HUT.out.2]; exact HX.out.2.1) (fun e => by have := HX.out.1.lv _ e; omega)
     have hgs9 : (gs ++ [((go2, cap2), r)]).map (·.2) = l.tail.take (i + 1) := by rw [List.map_append, HX.out.2.2.2.2, take_succ_some (by rw [List.getElem?_tail]; exact HX.out.2.2.1)]; rfl
     have hres10 : (w9.setCell ⟨u, 0, none⟩ (.slice (some ⟨g9, 0, none⟩) (i + 1) cap9)).heap[bR]? = some (.cells #[.slice none 0 0] 53 (0, 0)) := by rw [Below.heap_setCell w9 ⟨u, 0, none⟩ _ bR (by show ¬ bR = u; omega)]; exact hres9
     have HPS := Zh (Zi hps.2 (Zi hgs9 hres10))
     clear o9 gr9 at9 hps hres9 hres10 hgs9 hrv
     refine hK1.out _ _ (fun _ => Zi l0 l1) ?_
     clear hK1 K1 hC
     have hC := Zi l0 l1
     (try simp only [Act.put, Z1, Z2, Z3, Z4, Z5, Z6])
     refine Zu (i := 6) rfl (fun _ => hC) ?rq6
     (try simp only [Act.put, Z1, Z2, Z3, Z4, Z5, Z6])
     refine wpC_step (i := 7) (by kernel_rfl) rfl (fun K1 hK1 => ?_)
     go_simp
     refine hK1.out _ _ (fun h => absurd (h.symm.trans (by kernel_rfl : _ = true)) (by decide)) ?_
     clear hK1 K1
     (try simp only [Act.put, Z1, Z2, Z3, Z4, Z5, Z6])
     refine wpC_done (by kernel_rfl) ?_ _
     go_wp2_with fail
     obtain ⟨hps, hgs9, hr9⟩ := HPS.out
     refine ⟨⟨_, _, _, _, _, _, _, _, _, _, _, _, _, ?rel, rfl⟩, ?mu⟩
     case rel => exact ⟨i + 1, some g9, cap9, gs ++ [((go2, cap2), r)], by simp, by omega, hps.mono (by have := hps.le; omega) (Zr _), hgs9, hr9⟩
     case mu => simp [intOf]; omega
    ·obtain rfl : i = k := by omega
     have hF := Lib.cell_of_heap hup.head 0
     have q0 := Lib.cell_of_heap hres 0
     have qf := Lib.frozen_of_heap hres 0
     obtain ⟨ga, hga⟩ : ∃ ga : Option Addr, ga = go.map fun g => (⟨g, 0, none⟩ : Addr) := ⟨_, rfl⟩
     have hF2 : wr.cell? ⟨u, 0, none⟩ = some (.slice ga i cap) := by rw [hF, hga]; rfl
     have hNN := up_ret hup (bR := bR) (by omega) (by omega) (by omega) (by omega) (.slice ga i cap)
     rw [← hga, hgs, List.take_of_length_le (by have := HH.out.2.2; simp; omega)] at hNN
     have HN := Zh hNN
     clear hF hNN hga hup hres hgs
     go_wp2_with fail
     refine bodyPost_ret (v := .tuple #[.agg #[.slice ga i cap], .bool true]) ((results_cell_tmp rfl _ _ _).trans ?hres) rfl ?_
     case hres => go_simp
     exact ⟨HN.out.rdns.2, fun h => absurd h hlne, fun _ => ⟨ga, i, cap, rfl, HN.out⟩⟩
def UnderPost (r : PRdn) (l : PName) (w : World) (e : Ending) (w' : World) : Prop := ∃ a n c, e = .returned (.agg #[.slice a n c]) ∧ NewName w w' a n c (r :: l)
set_option maxRecDepth 20000 in
set_option maxHeartbeats 4000000 in
theorem nunder_any (B : Nat) (ra : Option Addr) (rn rc : Nat) (rr : PRdn) (a : Option Addr) (n c : Nat) (l : PName) (w : World) (hr : Avas B w ra rn rc rr) (h : Rdns B w a n c l) (hB : B ≤ w.heap.size) (hn1 : n < 4294967280) :
  Calls Tryz.prog 38 #[.agg #[.slice ra rn rc], .agg #[.slice a n c]] w (UnderPost rr l w) := by
 have hn := h.len
 have hsm := h.small
 have hb3 : Below w.heap.size w (((w.alloc (.cells #[.slice ra rn rc] 65)).alloc (.cells #[.slice a n c] 53)).alloc (.cells #[.slice none 0 0] 53)) := (((Zl _ _).alloc (Zr _) _).alloc (by simp) _).alloc (by simp; omega) _
 have hz3 : (((w.alloc (.cells #[.slice ra rn rc] 65)).alloc (.cells #[.slice a n c] 53)).alloc (.cells #[.slice none 0 0] 53)).heap.size = w.heap.size + 1 + 1 + 1 := by simp
 have d0 : (((w.alloc (.cells #[.slice ra rn rc] 65)).alloc (.cells #[.slice a n c] 53)).alloc (.cells #[.slice none 0 0] 53)).heap[w.heap.size]? = some (.cells #[.slice ra rn rc] 65 (0, 0)) := by
  rw [Below.heap_alloc _ _ _ (by simp; omega), Below.heap_alloc _ _ _ (by simp)]; exact heap_alloc_new _ _
 have d1 : (((w.alloc (.cells #[.slice ra rn rc] 65)).alloc (.cells #[.slice a n c] 53)).alloc (.cells #[.slice none 0 0] 53)).heap[w.heap.size + 1]? = some (.cells #[.slice a n c] 53 (0, 0)) := by
  rw [Below.heap_alloc _ _ _ (by simp)]; exact heap_new1 _ _ _
 have d2 : (((w.alloc (.cells #[.slice ra rn rc] 65)).alloc (.cells #[.slice a n c] 53)).alloc (.cells #[.slice none 0 0] 53)).heap[w.heap.size + 1 + 1]? = some (.cells #[.slice none 0 0] 53 (0, 0)) := by
  have h := heap_alloc_new ((w.alloc (.cells #[.slice ra rn rc] 65)).alloc (.cells #[.slice a n c] 53)) (.cells #[.slice none 0 0] 53)
  rw [show ((w.alloc (.cells #[.slice ra rn rc] 65)).alloc (.cells #[.slice a n c] 53)).heap.size = w.heap.size + 1 + 1 by simp] at h
  exact h
 have htw := fun w3 (hk : Below w.heap.size w w3) => ntwin_any B ra rn rc rr w3 (hr.keep (hk.mono hB) (Zr _)) (Nat.le_trans hB hk.size)
 have HH := Zh (Zi h (Zi hB (Zi hn hr)))
 have HW := Zh (Zi hb3 (Zi hz3 (Zi d0 (Zi d1 d2))))
 have HTW := Zh htw
 clear h hB hn hr hb3 hz3 d0 d1 d2 htw
 go_enter Tryz.func38, Tryz.ntmps38
 go_upto_region 2 with (first
  | (go_at_call 83; (refine (HTW.out _ HW.out.1).mono ?_); rintro e w6 ⟨go2, n2, cap2, ga, hga, rfl, hv6, hn2⟩; have H6 := Zh (Zi hga (Zi hv6 hn2)); clear hga hv6 hn2)
  | fail)
 obtain ⟨w8, hw8⟩ : ∃ w8, w8 = ((w6.alloc (.cells #[.slice ga n2 cap2] 65)).alloc (.cells #[.slice (some ⟨w6.heap.size, 0, none⟩) 1 1] 53)) := ⟨_, rfl⟩
 have hz8 : w8.heap.size = w6.heap.size + 1 + 1 := by rw [hw8]; simp
 have hu8 : w8.heap[w6.heap.size + 1]? = some (.cells #[.slice (some ⟨w6.heap.size, 0, none⟩) 1 1] 53 (0, 0)) := by rw [hw8]; exact heap_new1 _ _ _
 have hg8 : w8.heap[w6.heap.size]? = some (.cells #[.slice ga n2 cap2] 65 (0, 0)) := by rw [hw8, Below.heap_alloc _ _ _ (by simp)]; exact heap_alloc_new _ _
 have hb68 : Below w6.heap.size w6 w8 := by rw [hw8]; exact ((Zl _ _).alloc (Zr _) _).alloc (by simp) _
 have hz36 := H6.out.2.1.size
 rw [HW.out.2.1] at hz36
 have hb38 : Below (w.heap.size + 1 + 1 + 1) (((w.alloc (.cells #[.slice ra rn rc] 65)).alloc (.cells #[.slice a n c] 53)).alloc (.cells #[.slice none 0 0] 53)) w8 := by
  have h1 := H6.out.2.1.below
  rw [HW.out.2.1] at h1
  exact h1.trans (hb68.mono hz36)
 have e1 : w8.heap[w.heap.size + 1]? = some (.cells #[.slice a n c] 53 (0, 0)) := by rw [hb38.block _ (by omega)]; exact HW.out.2.2.2.1
 have e2 : w8.heap[w.heap.size + 1 + 1]? = some (.cells #[.slice none 0 0] 53 (0, 0)) := by rw [hb38.block _ (by omega)]; exact HW.out.2.2.2.2
 have hbw : Below w.heap.size w w8 := HW.out.1.trans (hb38.mono (by omega))
 have hown : Own w8 70 2 go2 rr.length cap2 (avaV rr) := by rw [← H6.out.2.2]; exact (H6.out.2.1.next hb68).own
 have hrv : rowV ((go2, cap2), rr) = .slice ga n2 cap2 := by rw [H6.out.1, H6.out.2.2]; rfl
 have hvec : Vec 65 1 w w8 (some w6.heap.size) 1 1 ([((go2, cap2), rr)].map rowV) := by
  have h2 : Row w8 w6.heap.size 65 1 1 [rowV ((go2, cap2), rr)] := by
   rw [hrv]
   exact (Row.made (w := w6) (e := 65) (sz := 1) (cap := 1) (xs := #[.slice ga n2 cap2]) rfl (by decide)).keep (by rw [hg8]; exact (heap_alloc_new _ _).symm)
  exact ⟨Own.mk h2 rfl (Zr _), fun g e => by cases e; omega, hbw⟩
 have hrows : RowsO (w.heap.size + 1 + 1 + 1) w8.heap.size w8 [((go2, cap2), rr)] := by
  have h3 := (RowsO.nil (w.heap.size + 1 + 1 + 1) (w.heap.size + 1 + 1 + 1) w8).push (B' := w8.heap.size) hown (fun g e => ⟨by have h4 := H6.out.2.1.fresh g e; rw [HW.out.2.1] at h4; omega, by rw [e] at hown; exact hown.row.lt⟩) (Zr _) (by omega) ⟨by rw [← HH.out.2.2.2.len]; exact HH.out.2.2.2.small, HH.out.2.2.2.size⟩
  simpa using h3
 rw [← hw8]
 obtain ⟨bN, hbN⟩ : ∃ x, x = w.heap.size + 1 := ⟨_, rfl⟩
 obtain ⟨bR, hbR⟩ : ∃ x, x = w.heap.size + 1 + 1 := ⟨_, rfl⟩
 obtain ⟨u, hu⟩ : ∃ x, x = w6.heap.size + 1 := ⟨_, rfl⟩
 obtain ⟨L, hL⟩ : ∃ x, x = w.heap.size + 1 + 1 + 1 := ⟨_, rfl⟩
 have hup : UpO L w8.heap.size w w8 u (some w6.heap.size) 1 1 [((go2, cap2), rr)] := ⟨by rw [hu]; exact hu8, by omega, hvec, by rw [hL]; exact hrows, Zr _, by omega, by omega, fun g e => by cases e; omega⟩
 rw [← hbN] at e1
 rw [← hbR] at e2
 rw [← hu, ← hbR, ← hbN]
 have hlt : w.heap.size < bR ∧ bR < L ∧ L ≤ u := by omega
 have f1 : w8.cell? ⟨bN, 0, none⟩ = some (.slice a n c) := by rw [Lib.cell_of_heap e1]; rfl
 obtain ⟨b6, hb6⟩ : ∃ x, x = w6.heap.size := ⟨_, rfl⟩
 rw [← hb6] at hup
 have HU := Zh (Zi hup (Zi e2 hbw))
 clear hu hbR hbN hw8 hz8 hu8 hg8 hb68 hz36 hb38 e1 e2 hbw hown hrv hvec hrows hup hL hb6
 go_wp2_with fail
 go_loopw [15] (fun iv wr => ∃ (i : Nat) (go : Option Nat) (cap : Nat) (gs : List PartO), iv = .int .i64 (i : Nat) ∧ i ≤ n ∧ UpO L wr.heap.size w wr u go (i + 1) cap gs ∧ gs.map (·.2) = rr :: l.take i ∧ wr.heap[bR]? = some (.cells #[.slice none 0 0] 53 (0, 0))) (fun iv _ => n - (intOf iv).toNat)
 case atStart => exact ⟨0, _, 1, _, rfl, Nat.zero_le _, HU.out.1, rfl, HU.out.2.1⟩
 case round =>
  obtain ⟨i, go, cap, gs, rfl, hi, hup, hgs, hres⟩ := hrel
  by_cases hlt2 : i < n
  ·obtain ⟨b, o, rfl, hbB⟩ := HH.out.1.lies.ptr (by omega)
   obtain ⟨r, hr⟩ : ∃ r, l[i]? = some r := by
    have := HH.out.2.2.1
    exact ⟨l[i]'(by omega), List.getElem?_eq_getElem _⟩
   have hbw := hup.vec.below
   have hrk := HH.out.1.keep (hbw.mono HH.out.2.1) (Zr _)
   obtain ⟨a', n', c', hcell, hav⟩ := hrk.cell b o rfl i r hr
   have HX := Zh (Zi hup (Zi hres (Zi hr (Zi hav hgs))))
   clear hup hres hr hbw hrk hav hgs
   have i1 : (i : Int) < (n : Int) := by omega
   go_upto_region 5 with fail
   obtain ⟨w5, hw5⟩ : ∃ w5, w5 = wr.alloc (.cells #[.slice a' n' c'] 65) := ⟨_, rfl⟩
   have hb5 : Below wr.heap.size wr w5 := by rw [hw5]; exact (Zl _ _).alloc (Zr _) _
   have hz5 : w5.heap.size = wr.heap.size + 1 := by rw [hw5]; simp
   have ht5 : w5.heap[wr.heap.size]? = some (.cells #[.slice a' n' c'] 65 (0, 0)) := by rw [hw5]; exact heap_alloc_new _ _
   rw [← hw5]
   have hup5 := HX.out.1.keep hb5
   have hav5 := (HX.out.2.2.2.1.keep (B' := B) ((hb5.mono (Nat.le_trans HH.out.2.1 HX.out.1.vec.size)).drew) (Zr _))
   have hut := (Array.getElem?_eq_some_iff.1 HX.out.1.head).1
   have hKP : ∀ wz, Below w5.heap.size w5 wz → wz.cell? ⟨u, 0, none⟩ = some (sv go (i + 1) cap) ∧ wz.cell? ⟨wr.heap.size, 0, none⟩ = some (.slice a' n' c') := fun wz hb => by
    constructor
    ·rw [hb.cell (p := ⟨u, 0, none⟩) (by simp only; omega), Lib.cell_of_heap hup5.head]; rfl
    ·rw [hb.cell (p := ⟨wr.heap.size, 0, none⟩) (by simp only; omega), Lib.cell_of_heap ht5]; rfl
   have htw := ntwin_any B a' n' c' r w5.drew hav5 (by have := HX.out.1.vec.size; have := HH.out.2.1; have := hb5.size; simp; omega)
   have hbr := (Array.getElem?_eq_some_iff.1 HX.out.2.1).1
   have H5 := Zh (Zi hb5 (Zi hup5 (Zi ht5 hz5)))
   have HKP := Zh hKP
   have HTW := Zh htw
   have HUT := Zh (Zi hut hbr)
   have HW5 := Zh hw5
   clear hb5 hup5 ht5 hz5 hKP htw hut hav5 hw5 hbr
   refine wp_region_C (s0 := 7) (C := fun wz => wz.cell? ⟨u, 0, none⟩ = some (sv go (i + 1) cap) ∧ wz.cell? ⟨wr.heap.size, 0, none⟩ = some (.slice a' n' c')) (by kernel_rfl) (HKP.out _ ((Zl _ w5).drew)) (fun hC => ?_)
   (try simp only [Act.put, Z1, Z2, Z3, Z4, Z5, Z6])
   refine Zu (i := 0) rfl (fun _ => hC) ?rp0
   (try simp only [Act.put, Z1, Z2, Z3, Z4, Z5, Z6])
   refine Zv (i := 1) rfl rfl hC ?rp1
   (try simp only [Act.put, Z1, Z2, Z3, Z4, Z5, Z6])
   refine Zv (i := 2) rfl rfl hC ?rp2
   (try simp only [Act.put, Z1, Z2, Z3, Z4, Z5, Z6])
   refine wpC_step (i := 3) (by kernel_rfl) rfl (fun K1 hK1 => ?_)
   go_simp
   go_at_call 83; (refine HTW.out.mono ?_); rintro e w6 ⟨go2, n2, cap2, ga, hga, rfl, hv6, hn2⟩; have H6 := Zh (Zi hga (Zi hv6 (Zi hn2 (((Zl w5.heap.size w5).drew).trans hv6.below)))); clear hga hv6 hn2
   go_wp2_with fail
   refine hK1.out _ _ (fun _ => HKP.out w6 H6.out.2.2.2) ?_
   clear hK1 K1 hC
   have hC := HKP.out w6 H6.out.2.2.2
   (try simp only [Act.put, Z1, Z2, Z3, Z4, Z5, Z6])
   refine wpC_step (i := 4) (by kernel_rfl) rfl (fun K1 hK1 => ?_)
   go_simp
   have hb7 : Below w5.heap.size w5 (w6.alloc (.cells #[.slice ga n2 cap2] 65)) := H6.out.2.2.2.alloc H6.out.2.2.2.size _
   have hb67 : Below w6.heap.size w6 (w6.alloc (.cells #[.slice ga n2 cap2] 65)) := (Zl _ _).alloc (Zr _) _
   have hnw := news_new w6 [.slice ga n2 cap2] #[.slice ga n2 cap2] 65 rfl
   have hs7 : (w6.alloc (.cells #[.slice ga n2 cap2] 65)).heap.size = w6.heap.size + 1 := by simp
   generalize w6.alloc (.cells #[.slice ga n2 cap2] 65) = w7 at hb7 hb67 hnw hs7 ⊢
   have H7 := Zh (Zi hb7 (Zi hb67 (Zi hnw hs7))); clear hb7 hb67 hnw hs7
   refine hK1.out _ _ (fun _ => HKP.out w7 H7.out.1) ?_
   clear hK1 K1 hC
   have hC := HKP.out w7 H7.out.1
   (try simp only [Act.put, Z1, Z2, Z3, Z4, Z5, Z6])
   refine wpC_step (i := 5) (by kernel_rfl) rfl (fun K1 hK1 => ?_)
   refine step_appE eiRdn ?h1 (.tmp 20) (.tmp 23) ?h2 go (i + 1) cap (gs.map rowV) ?h3 (H5.out.2.1.keep H7.out.1).vec.own (some ⟨w6.heap.size, 0, none⟩) 1 1 [.slice ga n2 cap2] ?h4 (fun h => by cases h) rfl H7.out.2.2.1 (fun u hu => by simp at hu; subst hu; rfl) ((i + 1) + 1) rfl (by omega) (by omega) ?_
   case h1 => rfl
   case h2 => rfl
   case h3 => rfl
   case h4 => rfl
   intro g9 cap9 w9 o9 gr9 at9
   have hrv : rowV ((go2, cap2), r) = .slice ga n2 cap2 := by rw [H6.out.1, H6.out.2.2.1]; rfl
   rw [← hrv] at o9
   have hps := (H5.out.2.1.keep H7.out.1).push (ga := go2) (c := cap2) (r := r) o9 gr9 (at9.imp id fun e => Nat.le_of_eq e.symm) (by rw [← H6.out.2.2.1]; exact (H6.out.2.1.next H7.out.2.1).own) (fun q e => by have h1 := H6.out.2.1.fresh q e; have h2 := H5.out.1.size; have h3 := World.size_drew w5; omega) ⟨by rw [← HX.out.2.2.2.1.len]; exact HX.out.2.2.2.1.small, HX.out.2.2.2.1.size⟩
   have l0 : w9.cell? ⟨u, 0, none⟩ = some (sv go (i + 1) cap) := by rw [Lib.cell_of_heap hps.1]; rfl
   have lf := Lib.frozen_of_heap hps.1 0
   have l1 : w9.cell? ⟨wr.heap.size, 0, none⟩ = some (.slice a' n' c') := grown_cell gr9 (HKP.out w7 H7.out.1).2 (fun e => by have h := HX.out.1.vec; rw [e] at h; have := h.lt; omega)
   have hres9 := lt_grown gr9 (by rw [H7.out.1.block bR (Nat.lt_of_lt_of_le HUT.out.2 H5.out.1.size), H5.out.1.block bR HUT.out.2]; exact HX.out.2.1) (fun e => by have := HX.out.1.lv _ e; omega)
   have hgs9 : (gs ++ [((go2, cap2), r)]).map (·.2) = rr :: l.take (i + 1) := by rw [List.map_append, HX.out.2.2.2.2, take_succ_some (HX.out.2.2.1)]; rfl
   have hres10 : (w9.setCell ⟨u, 0, none⟩ (.slice (some ⟨g9, 0, none⟩) ((i + 1) + 1) cap9)).heap[bR]? = some (.cells #[.slice none 0 0] 53 (0, 0)) := by rw [Below.heap_setCell w9 ⟨u, 0, none⟩ _ bR (by show ¬ bR = u; omega)]; exact hres9
   have HPS := Zh (Zi hps.2 (Zi hgs9 hres10))
   clear o9 gr9 at9 hps hres9 hres10 hgs9 hrv
   refine hK1.out _ _ (fun _ => Zi l0 l1) ?_
   clear hK1 K1 hC
   have hC := Zi l0 l1
   (try simp only [Act.put, Z1, Z2, Z3, Z4, Z5, Z6])
   refine Zu (i := 6) rfl (fun _ => hC) ?rp6
   (try simp only [Act.put, Z1, Z2, Z3, Z4, Z5, Z6])
   refine wpC_step (i := 7) (by kernel_rfl) rfl (fun K1 hK1 => ?_)
   go_simp
   refine hK1.out _ _ (fun h => absurd (h.symm.trans (by kernel_rfl : _ = true)) (by decide)) ?_
   clear hK1 K1
   (try simp only [Act.put, Z1, Z2, Z3, Z4, Z5, Z6])
   refine wpC_done (by kernel_rfl) ?_ _
   go_wp2_with fail
   obtain ⟨hps, hgs9, hr9⟩ := HPS.out
   exact ⟨⟨i + 1, some g9, cap9, gs ++ [((go2, cap2), r)], by simp, by omega, hps.mono (by have := hps.le; omega) (Zr _), hgs9, hr9⟩, by simp [intOf]; omega⟩
  ·obtain rfl : i = n := by omega
   have hF := Lib.cell_of_heap hup.head 0
   have q0 := Lib.cell_of_heap hres 0
   have qf := Lib.frozen_of_heap hres 0
   obtain ⟨ga2, hga2⟩ : ∃ ga : Option Addr, ga = go.map fun g => (⟨g, 0, none⟩ : Addr) := ⟨_, rfl⟩
   obtain ⟨m, hm⟩ : ∃ m, m = i + 1 := ⟨_, rfl⟩
   rw [← hm] at hF hup
   have hF2 : wr.cell? ⟨u, 0, none⟩ = some (.slice ga2 m cap) := by rw [hF, hga2]; rfl
   have hNN := up_ret hup (bR := bR) (by omega) (by omega) (by omega) (by omega) (.slice ga2 m cap)
   rw [← hga2, hgs, List.take_of_length_le (by have := HH.out.2.2.1; omega)] at hNN
   have HN := Zh hNN
   have i2 : ¬ (i : Int) < (i : Int) := by omega
   clear hF hNN hga2 hup hres hgs hm
   go_wp2_with fail
   refine bodyPost_ret (v := .agg #[.slice ga2 m cap]) ((results_cell1 rfl _ _ _).trans ?hres) rfl ?_
   case hres => go_simp
   exact ⟨ga2, m, cap, rfl, HN.out⟩
theorem map_toL_inj : ∀ {l m : List ByteArray}, l.map toL = m.map toL → l = m
 | [], [], _ => rfl
 | [], y :: m, h => by simp at h
 | x :: l, [], h => by simp at h
 | x :: l, y :: m, h => by
  simp only [List.map_cons, List.cons.injEq] at h
  rw [toL_injS h.1, map_toL_inj h.2]
def StepsAt (vs : List ByteArray) (n : Nat) (w : World) (e : Ending) (w' : World) : Prop := ∃ (go : Option Nat) (cap : Nat), e = .returned (sv go n cap) ∧ Vec 9 1 w w' go n cap (vs.map Value.string)
theorem StepsPost.at {s : ByteArray} {w w' : World} {e : Ending} {vs : List ByteArray} {n : Nat} (h : StepsPost s w e w') (hv : vs.map toL = stepsOf (toL s)) (hn : n = vs.length) : StepsAt vs n w e w' := by
 obtain ⟨go, n2, cap, us, h1, h2, h3, h4⟩ := h
 have : us = vs := map_toL_inj (h3.trans hv.symm)
 subst this
 subst hn
 subst h4
 exact ⟨go, cap, h1, h2⟩
def SCells6 (w : World) (a : Option Addr) (n : Nat) (l : List ByteArray) : Prop := 0 < n → ∃ b, a = some ⟨b, 0, none⟩ ∧ ∀ (i : Nat) x, l[i]? = some x → w.cell? ⟨b, i, none⟩ = some (.string x)
theorem Own.scells6 {w : World} {go : Option Nat} {n cap : Nat} {vs : List ByteArray} (h : Own w 9 1 go n cap (vs.map Value.string)) : SCells6 w (go.map fun g => (⟨g, 0, none⟩ : Addr)) n vs := fun hn => by
 cases go with
 | none => have := h.2.1; omega
 | some g => exact ⟨g, rfl, fun i x hx => h.row.cell (by rw [List.getElem?_map, hx]; rfl)⟩
end Go.Proofs.YtlmfbjhokkpjhaaGreatDoor
