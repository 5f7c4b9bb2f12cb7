/- Part 41 of the walks and plain laws, joined: LawNM. -/
import Derived.Test.YtlmfbjhokkpjhaaGreatDoorNM00
import Derived.Test.YtlmfbjhokkpjhaaGreatDoorNM39
import Derived.Test.YtlmfbjhokkpjhaaGreatDoorNM31
import Derived.Test.YtlmfbjhokkpjhaaGreatDoorNM40
import Derived.Test.YtlmfbjhokkpjhaaGreatDoorNM27
set_option linter.unusedVariables false
set_option linter.unusedSimpArgs false
namespace Go.Proofs.YtlmfbjhokkpjhaaGreatDoor
open Go Go.RowKit Go.Maps
theorem boxes3 (w : World) (x y z : Array Value) (t u v : TypeId) : Below w.heap.size w (((w.alloc (.cells x t)).alloc (.cells y u)).alloc (.cells z v)) ∧ (∀ j, (((w.alloc (.cells x t)).alloc (.cells y u)).alloc (.cells z v)).cell? ⟨w.heap.size, j, none⟩ = x[j]?) ∧ (∀ j, (((w.alloc (.cells x t)).alloc (.cells y u)).alloc (.cells z v)).cell? ⟨w.heap.size + 1, j, none⟩ = y[j]?) ∧ ∀ j, (((w.alloc (.cells x t)).alloc (.cells y u)).alloc (.cells z v)).cell? ⟨w.heap.size + 1 + 1, j, none⟩ = z[j]? := by
 obtain ⟨h1, h2, h3⟩ := boxes2 w x y t u
 have hs : ((w.alloc (.cells x t)).alloc (.cells y u)).heap.size = w.heap.size + 1 + 1 := by simp
 refine ⟨h1.alloc h1.size _, fun j => ?_, fun j => ?_, fun j => ?_⟩
 ·rw [← h2 j]
  exact ((Zl ((w.alloc (.cells x t)).alloc (.cells y u)).heap.size _).alloc (Zr _) _).cell (by show w.heap.size < _; omega)
 ·rw [← h3 j]
  exact ((Zl ((w.alloc (.cells x t)).alloc (.cells y u)).heap.size _).alloc (Zr _) _).cell (by show w.heap.size + 1 < _; omega)
 ·have := (box1 ((w.alloc (.cells x t)).alloc (.cells y u)) z v).2 j
  rw [hs] at this
  exact this
theorem Avas.big {B : Nat} {w : World} {a : Option Addr} {n c : Nat} {l : PRdn} (h : Avas B w a n c l) : AvasU B w a n c l :=
  ⟨h.len, h.lies, by have := h.small; have : (4294967280 : Nat) ≤ reachBytes := by decide
                     omega, h.cell, fun x hx => by
    have h1 := h.size x hx
    have h2 : (4294967280 : Nat) ≤ reachBytes := by decide
    omega⟩
theorem Rdns.big {B : Nat} {w : World} {a : Option Addr} {n c : Nat} {l : PName} (h : Rdns B w a n c l) : RdnsU B w a n c l :=
  ⟨h.len, h.lies, by have h1 := h.small; have h2 : (4294967280 : Nat) ≤ reachBytes := by decide
                     omega, fun b o e i r hr => by
    obtain ⟨a', n', c', h1, h2⟩ := h.cell b o e i r hr
    exact ⟨a', n', c', h1, h2.big⟩⟩
theorem one_rdn {B : Nat} {w : World} {a : Option Addr} {n c : Nat} {r : PRdn} (h : Avas B w a n c r) (hB : B ≤ w.heap.size) : Rdns (w.alloc (.cells #[.slice a n c] 65)).heap.size (w.alloc (.cells #[.slice a n c] 65)) (some ⟨w.heap.size, 0, none⟩) 1 1 [r] := by
 obtain ⟨hb, hx⟩ := box1 w #[.slice a n c] 65
 refine ⟨rfl, ⟨Zr _, by unfold maxLen; omega, (fun h => by cases h), (fun ad h _ => by cases h; show w.heap.size < _; simp), (fun ad h _ => by cases h; rfl)⟩, by omega, fun b o e i x hi => ?_⟩
 cases e
 match i, hi with
 | 0, hi =>
  cases hi
  exact ⟨a, n, c, hx 0, h.keep (hb.mono hB) (Nat.le_trans hB hb.size)⟩
 | i + 1, hi => simp at hi
theorem nm_push {L B : Nat} {w0 w w9 : World} {u : Nat} {go : Option Nat} {m cap : Nat} {gs : List PartO} (h : UpO L B w0 w u go m cap gs) {g2 n' cap2 : Nat} {r : PRdn} (own : Own w 70 2 (some g2) n' cap2 (avaV r)) (hn : r.length = n') (hg : B ≤ g2)
  (hs : r.length ≤ 4294967280 ∧ ∀ a ∈ r, a.1.size ≤ 4294967280 ∧ a.2.size ≤ 4294967280) {g9 cap9 : Nat} (o9 : Own w9 65 1 (some g9) (m + 1) cap9 (gs.map rowV ++ [.slice (some ⟨g2, 0, none⟩) n' cap2]))
  (gr9 : (w.alloc (.cells #[.slice (some ⟨g2, 0, none⟩) n' cap2] 65)).grownBy w9 go) (at9 : go = some g9 ∨ g9 = (w.alloc (.cells #[.slice (some ⟨g2, 0, none⟩) n' cap2] 65)).heap.size) :
  w9.cell? ⟨u, 0, none⟩ = some (sv go m cap) ∧ w9.frozen? ⟨u, 0, none⟩ = false ∧ UpO L (w9.setCell ⟨u, 0, none⟩ (.slice (some ⟨g9, 0, none⟩) (m + 1) cap9)).heap.size w0 (w9.setCell ⟨u, 0, none⟩ (.slice (some ⟨g9, 0, none⟩) (m + 1) cap9)) u (some g9) (m + 1) cap9 (gs ++ [((some g2, cap2), r)]) := by
 have hb : Below w.heap.size w (w.alloc (.cells #[.slice (some ⟨g2, 0, none⟩) n' cap2] 65)) := (Zl _ _).alloc (Zr _) _
 have hrv : rowV ((some g2, cap2), r) = .slice (some ⟨g2, 0, none⟩) n' cap2 := by unfold rowV; rw [hn]; rfl
 rw [← hrv] at o9
 subst hn
 have how : Own (w.alloc (.cells #[.slice (some ⟨g2, 0, none⟩) r.length cap2] 65)) 70 2 (some g2) r.length cap2 (avaV r) := own.keep fun k e => by cases e; exact hb.block _ own.row.lt
 have hps := (h.keep hb).push (ga := some g2) (c := cap2) (r := r) o9 gr9 (at9.imp id fun e => Nat.le_of_eq e.symm) how (fun q e => by cases e; exact hg) hs
 refine ⟨(Lib.cell_of_heap hps.1 0).trans rfl, Lib.frozen_of_heap hps.1 0, hps.2.mono hps.2.le (Zr _)⟩
set_option maxRecDepth 20000 in
set_option maxHeartbeats 16000000 in
theorem law_nsame (S : PSchema) (ta : Option Addr) (tn tc : Nat) (ca : Option Addr) (cn cc : Nat) (a : Option Addr) (n c : Nat) (nm : PName) (turn : Int) (ra : Option Addr) (rn rc : Nat) (r : PRdn) (w : World) (hE : EnvK w)
  (hT : Types w.heap.size w ta tn tc S.types) (hC : Classes w.heap.size w ca cn cc S.classes) (hR : Rdns w.heap.size w a n c nm) (hA : Avas w.heap.size w ra rn rc r) (hn1 : n ≤ 1048576) (ht : -9223372036854775808 ≤ turn ∧ turn ≤ 9223372036854775807) :
  Calls Tryz.prog 7 #[.agg #[.slice ta tn tc, .slice ca cn cc], .agg #[.slice a n c], .int .i64 turn, .agg #[.slice ra rn rc]] w fun e w' => e = .returned (.bool true) ∧ Below w.heap.size w w' := by
 obtain ⟨hb, x4, x5, x7⟩ := boxes3 w #[.slice ta tn tc, .slice ca cn cc] #[.slice a n c] #[.slice ra rn rc] 25 53 65
 have y0 := x4 0; have y1 := x4 1; have y2 := x5 0; have y3 := x7 0
 clear x4 x5 x7
 have hr1 := hR.keep hb hb.size
 have ha1 := hA.keep hb hb.size
 have ht1 := hT.keep hb hb.size
 have hc1 := hC.keep hb hb.size
 have hE1 := hE.next hb
 clear hR hA hT hC hE
 go_enter Tryz.func7, Tryz.ntmps7
 go_upto_region 1 with fail
 generalize ((w.alloc (.cells #[.slice ta tn tc, .slice ca cn cc] 25)).alloc (.cells #[.slice a n c] 53)).alloc (.cells #[.slice ra rn rc] 65) = w1 at hb y0 y1 y2 y3 hr1 ha1 ht1 hc1 hE1 ⊢
 obtain ⟨b4, hb4⟩ : ∃ x, x = w.heap.size := ⟨_, rfl⟩
 obtain ⟨b5, hb5⟩ : ∃ x, x = w.heap.size + 1 := ⟨_, rfl⟩
 obtain ⟨b7, hb7⟩ : ∃ x, x = w.heap.size + 1 + 1 := ⟨_, rfl⟩
 rw [← hb7] at y3 ⊢
 rw [← hb5] at y2 ⊢
 rw [← hb4] at y0 y1 ⊢
 have y0' : w1.cell? ⟨b4, 0, none⟩ = some (.slice ta tn tc) := y0
 have y1' : w1.cell? ⟨b4, 1, none⟩ = some (.slice ca cn cc) := y1
 have y2' : w1.cell? ⟨b5, 0, none⟩ = some (.slice a n c) := y2
 have y3' : w1.cell? ⟨b7, 0, none⟩ = some (.slice ra rn rc) := y3
 clear y0 y1 y2 y3 hb4 hb5 hb7
 have hk : ∀ wr, Below w1.heap.size w1 wr → wr.cell? ⟨b4, 0, none⟩ = some (.slice ta tn tc) ∧ wr.cell? ⟨b4, 1, none⟩ = some (.slice ca cn cc) ∧ wr.cell? ⟨b5, 0, none⟩ = some (.slice a n c) ∧ wr.cell? ⟨b7, 0, none⟩ = some (.slice ra rn rc) := fun wr hb =>
  ⟨(hb.cell (Zb _ _ y0')).trans y0', (hb.cell (Zb _ _ y1')).trans y1', (hb.cell (Zb _ _ y2')).trans y2', (hb.cell (Zb _ _ y3')).trans y3'⟩
 have hm : ∀ wr, Below w1.heap.size w1 wr → Rdns wr.heap.size wr a n c nm ∧ Avas wr.heap.size wr ra rn rc r ∧ EnvK wr := fun wr hb => ⟨hr1.keep hb hb.size, ha1.keep hb hb.size, hE1.next hb⟩
 have hal : ∀ wq, Below w1.heap.size w1 wq → Calls Tryz.prog 28 #[] wq fun e w' => e = .returned (.bool true) ∧ Below wq.heap.size wq w' := fun wq hk => alive_any6 wq (hE1.next hk)
 have hby1 := beyond6 w1.heap.size a n c nm w1 hr1.big (Zr _)
 have hby2 : ∀ wq, Below w1.heap.size w1 wq → Calls Tryz.prog 29 #[.agg #[.slice (some ⟨wq.heap.size, 0, none⟩) 1 1]] (wq.alloc (.cells #[.slice ra rn rc] 65)) fun e w' => SomeFew [r] e ∧ Below (wq.alloc (.cells #[.slice ra rn rc] 65)).heap.size (wq.alloc (.cells #[.slice ra rn rc] 65)) w' := fun wq hk =>
  beyond6 _ _ 1 1 [r] _ (one_rdn (ha1.keep hk hk.size) (Zr _)).big (Zr _)
 have hnw : ∀ wq, Below w1.heap.size w1 wq → Calls Tryz.prog 9 #[.agg #[.slice ta tn tc, .slice ca cn cc]] wq (NewPost S wq) := fun wq hk => new_any S wq.heap.size ta ca tn tc cn cc wq (hE1.next hk).s (ht1.keep hk hk.size) (hc1.keep hk hk.size) (Zr _)
 have HK := Zh hk; have HM := Zh hm; have HAL := Zh hal; have HBY1 := Zh hby1; have HBY2 := Zh hby2; have HNW := Zh hnw; have HB := Zh hb
 clear hk hm hal hby1 hby2 hnw hb hr1 ha1 ht1 hc1 hE1 y0' y1'
 go_cut [34] (fun s34 wx => ∃ b, s34 = .bool b ∧ Below w1.heap.size w1 wx)
 case first =>
  go_wp2_with (first
   | (go_at_call 29; (with_reducible refine HBY1.out.mono ?_); rintro e w2 ⟨⟨q1, rfl, _⟩, hb2⟩; obtain ⟨_, _, z2, z3⟩ := HK.out w2 hb2; have HB2 := Zh hb2; clear hb2)
   | (go_at_call 29; (with_reducible refine (HBY2.out w2 HB2.out).mono ?_); rintro e w3 ⟨⟨q2, rfl, _⟩, hb3⟩; have hx3 := HB2.out.alloc HB2.out.size (.cells #[.slice ra rn rc] 65); have HB3 := Zh (hx3.trans (hb3.mono hx3.size)); clear hb3 hx3)
   | fail)
  all_goals go_meet
  all_goals (first | exact ⟨_, rfl, HB3.out⟩ | exact ⟨_, rfl, HB2.out⟩)
 case rest =>
  obtain ⟨q, rfl, hbc⟩ := hcut
  have HB2 := Zh hbc
  clear hbc y2' y3' HBY1 HBY2
  obtain ⟨y0, y1, _, _⟩ := HK.out wc HB2.out
  refine (‹∀ (a : Act) (w : World), Code.wp _ _ _ a w → _› _ _ ?_)
  cases q with
  | true =>
   clear y0 y1
   go_wp2_with fail
   go_ret
   exact ⟨rfl, HB.out.trans (HB2.out.mono HB.out.size)⟩
  | false =>
   by_cases hne : newE S = (0, 0)
   ·have hnw : Calls Tryz.prog 9 #[.agg #[.slice ta tn tc, .slice ca cn cc]] wc fun e w' => ∃ g, e = .returned (.tuple #[.pointer (some ⟨g, 0, none⟩), .int .i64 0, .int .i64 0]) ∧ Sch w' g S ∧ Below wc.heap.size wc w' := (HNW.out wc HB2.out).mono fun e w' ⟨h1, h2⟩ => by
     rcases h2 with ⟨_, g, h3, h4⟩ | ⟨h3, _⟩
     ·exact ⟨g, h3, h4, h1⟩
     ·exact absurd (by rw [hne]) h3
    have HOK := Zh (newE_ok (S := S) (by rw [hne]))
    have HNW2 := Zh hnw; clear hnw hne HNW
    obtain ⟨⟨K, kc⟩, hK⟩ : ∃ x, nkeyV S nm = x := ⟨_, rfl⟩
    have hky : ∀ g wq, Sch wq g S → Below w1.heap.size w1 wq → Calls Tryz.prog 33 #[.pointer (some ⟨g, 0, none⟩), .agg #[.slice a n c]] wq fun e w' => e = .returned (.tuple #[.string (baOf K), .int .i64 kc]) ∧ Below wq.heap.size wq w' := fun g wq h1 h2 => by
     have := nkey_any S g wq.heap.size a n c nm wq h1 (HM.out wq h2).2.2 (HM.out wq h2).1 (Zr _)
     rw [hK] at this
     exact this
    have HKY := Zh hky; have HKE := Zh hK
    clear hky hK
    go_upto_region 7 with (first
     | (go_at_call 9; (with_reducible refine HNW2.out.mono ?_); rintro e w3 ⟨g, rfl, hs3, hb3⟩; have hx3 := HB2.out.trans (hb3.mono HB2.out.size); obtain ⟨_, _, z3, _⟩ := HK.out w3 hx3; have HB3 := Zh (Zi hs3 hx3); clear hs3 hb3 hx3)
     | (go_at_call 33; (with_reducible refine (HKY.out g w3 HB3.out.1 HB3.out.2).mono ?_); rintro e w4 ⟨rfl, hb4⟩; have HB4 := Zh (Zi (HB3.out.1.keep hb4) (HB3.out.2.trans (hb4.mono HB3.out.2.size))); clear hb4)
     | fail)
    clear y0 y1 z3 HKY
    by_cases hkc : kc = 0
    ·subst hkc
     have hu5 : (w4.alloc (.cells #[.slice none 0 0] 53)).heap[w4.heap.size]? = some (.cells #[.slice none 0 0] 53 (0, 0)) := heap_alloc_new _ _
     have hb5 : Below w4.heap.size w4 (w4.alloc (.cells #[.slice none 0 0] 53)) := (Zl _ _).alloc (Zr _) _
     have hs5 : (w4.alloc (.cells #[.slice none 0 0] 53)).heap.size = w4.heap.size + 1 := by simp
     go_upto_region 10 with fail
     obtain ⟨u, hu⟩ : ∃ u, u = w4.heap.size := ⟨_, rfl⟩
     rw [← hu] at hu5 ⊢
     generalize w4.alloc (.cells #[.slice none 0 0] 53) = w5 at hu5 hb5 hs5 ⊢
     have hup0 : UpO w5.heap.size w5.heap.size w4 w5 u none 0 0 [] := ⟨hu5, by omega, Vec.nil _ _ _ hb5, RowsO.nil _ _ _, Zr _, by omega, Zr _, fun g e => by cases e⟩
     have hul : u < w5.heap.size := by omega
     have HUP0 := Zh (Zi hup0 hul)
     have hprt := key_parts HOK.out (n := nm) (by rw [HKE.out])
     have HPRT := Zh hprt
     clear hu5 hb5 hs5 hup0 hu hul hprt
     go_wp2_with fail
     go_loopw [15] (fun iv wr => ∃ (i : Nat) (go : Option Nat) (cap : Nat) (gs : List PartO), iv = .int .i64 (i : Nat) ∧ i ≤ n ∧ UpO w5.heap.size wr.heap.size w4 wr u go i cap gs ∧ TwinN S (nm.take i) (gs.map (·.2))) (fun iv _ => n - (intOf iv).toNat)
     case atStart => exact ⟨0, none, 0, [], rfl, Nat.zero_le _, HUP0.out.1, .nil⟩
     case round =>
      obtain ⟨i, go, cap, gs, rfl, hin, hup, htw⟩ := hrel
      obtain ⟨wo, hwo⟩ : ∃ x, x = wr := ⟨_, rfl⟩
      subst hwo
      have hbw := hup.vec.below
      have hb1r := HB4.out.2.trans (hbw.mono HB4.out.2.size)
      obtain ⟨_, _, z5, _⟩ := HK.out wo hb1r
      have hrd := (HM.out wo hb1r).1
      have hnl := hrd.len
      have HUP := Zh (Zi hup (Zi htw (Zi hb1r (HB4.out.1.keep hbw))))
      clear hup htw hbw hb1r
      by_cases hi : i < n
      ·have i2 : (i : Int) < (n : Int) := by omega
       have i3 : (0 : Int) ≤ (i : Int) := by omega
       obtain ⟨b, o, rfl, _⟩ := hrd.lies.ptr (by omega)
       obtain ⟨r0, hr0⟩ : ∃ r0, nm[i]? = some r0 := ⟨_, List.getElem?_eq_getElem (by omega)⟩
       obtain ⟨a', n', c', hcell, hav⟩ := hrd.cell b o rfl i r0 hr0
       obtain ⟨hne0, hty0⟩ := HPRT.out r0 (List.mem_of_getElem? hr0)
       have hn' := hav.len
       have hsm' := hav.small
       have hpos : 0 < n' := by rw [hn']; exact List.length_pos_iff.2 hne0
       have htu := turned_any wo.heap.size a' n' c' r0 turn wo hav (Zr _) hpos ht
       obtain ⟨r1, hr1⟩ : ∃ r1, turnL (turnK turn n') r0 = r1 := ⟨_, rfl⟩
       rw [hr1] at htu
       have hpm : List.Perm r1 r0 := by rw [← hr1]; exact turnL_perm _ _
       have hl1 : r1.length = n' := by rw [hpm.length_eq, ← hn']
       have HR0 := Zh (Zi hr0 (Zi hav (Zi hty0 (Zi hpm hl1))))
       have HTU := Zh htu
       clear hr0 hav hne0 hty0 hn' htu hr1 hpm hl1 hrd hnl
       go_upto_region 14 with (go_at_call 34; ((with_reducible refine HTU.out.mono ?_); rintro e w6 ⟨go2, cap2, rfl, hv6⟩; obtain ⟨g2, rfl⟩ := hv6.ptr hpos; have HV6 := Zh hv6; clear hv6; unfold sv))
       clear z5 hcell HTU
       have hq7 : (w6.alloc (.cells #[.slice (some ⟨g2, 0, none⟩) n' cap2] 65)).heap[w6.heap.size]? = some (.cells #[.slice (some ⟨g2, 0, none⟩) n' cap2] 65 (0, 0)) := heap_alloc_new _ _
       have hb7 : Below w6.heap.size w6 (w6.alloc (.cells #[.slice (some ⟨g2, 0, none⟩) n' cap2] 65)) := (Zl _ _).alloc (Zr _) _
       obtain ⟨q, hq⟩ : ∃ q, q = w6.heap.size := ⟨_, rfl⟩
       rw [← hq] at hq7
       simp only [Option.map_some, ← hq]
       generalize w6.alloc (.cells #[.slice (some ⟨g2, 0, none⟩) n' cap2] 65) = w7 at hq7 hb7 ⊢
       have hv7 := HV6.out.next hb7
       have hb67 := HV6.out.below
       have hg2 := HV6.out.fresh g2 rfl
       have hg2l := HV6.out.own.row.lt
       have hbr7 : Below wo.heap.size wo w7 := hb67.trans (hb7.mono hb67.size)
       have hql := (Array.getElem?_eq_some_iff.1 hq7).1
       have H7 := Zh (Zi hq7 (Zi hv7 (Zi hbr7 (Zi hg2 (by omega : g2 < q)))))
       have HQL := Zh hql
       clear hq7 hv7 hbr7 hb7 hb67 hg2 hg2l hq hql HV6
       go_wp2_with fail
       go_loopw [17] (fun jv wx => ∃ j : Nat, jv = .int .i64 (j : Nat) ∧ j ≤ n' ∧ Own wx 70 2 (some g2) n' cap2 (avaV (renL S r1 j)) ∧ Chg (fun k => k = g2) w7 wx) (fun jv _ => n' - (intOf jv).toNat)
       case atStart => exact ⟨0, rfl, Nat.zero_le _, by rw [renL_zero]; exact H7.out.2.1.own, Chg.refl _ _⟩
       case round =>
        obtain ⟨j, rfl, hjn, hown, hchg⟩ := hrel
        have hbx : Below wo.heap.size wo wr := H7.out.2.2.1.trans (hchg.below H7.out.2.2.1.size fun k hk e => by have := H7.out.2.2.2.1; omega)
        have hqb : wr.heap[q]? = some (.cells #[.slice (some ⟨g2, 0, none⟩) n' cap2] 65 (0, 0)) := (hchg.block q HQL.out (by have := H7.out.2.2.2.2; omega)).trans H7.out.1
        have x0 : wr.cell? ⟨q, 0, none⟩ = some (.slice (some ⟨g2, 0, none⟩) n' cap2) := (Lib.cell_of_heap hqb 0).trans rfl
        have HX := Zh (Zi hown (Zi hchg (Zi hbx hqb)))
        clear hown hchg hbx hqb
        by_cases hj : j < n'
        ·have j2 : (j : Int) < (n' : Int) := by omega
         have j3 : (0 : Int) ≤ (j : Int) := by omega
         obtain ⟨aj, haj⟩ : ∃ aj, r1[j]? = some aj := ⟨_, List.getElem?_eq_getElem (by have := HR0.out.2.2.2.2; omega)⟩
         have hmem : aj ∈ r0 := HR0.out.2.2.2.1.mem_iff.1 (List.mem_of_getElem? haj)
         obtain ⟨t, htj⟩ := HR0.out.2.2.1 aj hmem
         have hsz := (HR0.out.2.1.size aj hmem).1
         have hst : wr.cell? ⟨g2, j * 2, none⟩ = some (.string aj.1) := HX.out.1.row.cell (avaV_at _ _ _ (renL_at S haj)).1
         have hnx : avaV (renL S r1 (j + 1)) = (avaV (renL S r1 j)).set (j * 2) (.string (fullT S t).oid) := by
          rw [renL_next S haj, renA_one htj, avaV_set _ _ _ _ (renL_at S haj)]
         have hfr := HX.out.1.row.frozen (j * 2)
         have hlen2 : j * 2 < (avaV (renL S r1 j)).length := by rw [avaV_len, renL_len]; have := HR0.out.2.2.2.2; omega
         have hty : ∀ wq, Below wo.heap.size wo wq → Calls Tryz.prog 35 #[.pointer (some ⟨g, 0, none⟩), .string aj.1] wq fun e w' => e = .returned (.int .i64 (t : Nat)) ∧ Below wq.heap.size wq w' := fun wq hb => (type_any S g aj.1 wq (HUP.out.2.2.2.keep hb) (by omega)).mono fun e w' ⟨h1, h2⟩ => ⟨by rw [h1, htj]; rfl, h2⟩
         have hfu : ∀ wq, Below wo.heap.size wo wq → Calls Tryz.prog 22 #[.pointer (some ⟨g, 0, none⟩), .int .i64 (t : Nat)] wq fun e w' => ∃ nv, e = .returned (.agg #[.string (fullT S t).oid, nv, .string (fullT S t).sup, .int .i8 (fullT S t).syn, .int .i8 (fullT S t).eq, .int .i8 (fullT S t).ord, .int .i8 (fullT S t).part, .bool (fullT S t).single, .int .u8 (fullT S t).index]) ∧ Below wq.heap.size wq w' := fun wq hb => (full_any S g (t : Int) wq (HUP.out.2.2.2.keep hb)).mono fun e w' ⟨h1, a2, n2, c2, h2, _⟩ => ⟨.slice a2 n2 c2, by rw [h2, typeI_at htj]; rfl, h1⟩
         generalize fullT S t = FT at hnx hfu
         have hf0 := fun nv w => field_type0 FT nv w
         have HTY := Zh hty; have HFU := Zh hfu; have HNX := Zh (Zi hnx hlen2); have HF0 := Zh hf0
         clear haj hmem htj hnx hlen2 hty hfu hf0
         have hd0 := (Zl wr.heap.size wr).drew
         have hx6 : ∀ wz, Below wr.heap.size wr wz → wz.cell? ⟨q, 0, none⟩ = some (.slice (some ⟨g2, 0, none⟩) n' cap2) ∧ wz.cell? ⟨g2, j * 2, none⟩ = some (.string aj.1) := fun wz hb => ⟨(hb.cell (p := ⟨q, 0, none⟩) (Zb _ _ x0)).trans x0, (hb.cell (p := ⟨g2, j * 2, none⟩) (Zb _ _ hst)).trans hst⟩
         have HX6 := Zh hx6; clear hx6
         go_wp2_with fail
         refine wp_region_C (s0 := 16) (C := fun wz => wz.cell? ⟨q, 0, none⟩ = some (.slice (some ⟨g2, 0, none⟩) n' cap2) ∧ wz.cell? ⟨g2, j * 2, none⟩ = some (.string aj.1)) (by kernel_rfl) (HX6.out _ hd0) (fun hC => ?_)
         (try simp only [Act.put, Z1, Z2, Z3, Z4, Z5, Z6])
         refine Zu (i := 0) rfl (fun _ => hC) ?rns0
         (try simp only [Act.put, Z1, Z2, Z3, Z4, Z5, Z6])
         refine Zv (i := 1) rfl rfl hC ?rns1
         (try simp only [Act.put, Z1, Z2, Z3, Z4, Z5, Z6])
         refine Zu (i := 2) rfl (fun _ => hC) ?rns2
         (try simp only [Act.put, Z1, Z2, Z3, Z4, Z5, Z6])
         refine Zu (i := 3) rfl (fun _ => hC) ?rns3
         (try simp only [Act.put, Z1, Z2, Z3, Z4, Z5, Z6])
         refine Zu (i := 4) rfl (fun _ => hC) ?rns4
         (try simp only [Act.put, Z1, Z2, Z3, Z4, Z5, Z6])
         refine Zu (i := 5) rfl (fun _ => hC) ?rns5
         (try simp only [Act.put, Z1, Z2, Z3, Z4, Z5, Z6])
         refine Zv (i := 6) rfl rfl hC ?rns6
         (try simp only [Act.put, Z1, Z2, Z3, Z4, Z5, Z6])
         refine Zu (i := 7) rfl (fun _ => hC) ?rns7
         (try simp only [Act.put, Z1, Z2, Z3, Z4, Z5, Z6])
         refine Zu (i := 8) rfl (fun _ => hC) ?rns8
         (try simp only [Act.put, Z1, Z2, Z3, Z4, Z5, Z6])
         refine Zu (i := 9) rfl (fun _ => hC) ?rns9
         (try simp only [Act.put, Z1, Z2, Z3, Z4, Z5, Z6])
         refine Zv (i := 10) rfl rfl hC ?rns10
         (try simp only [Act.put, Z1, Z2, Z3, Z4, Z5, Z6])
         refine wpC_step (i := 11) (by kernel_rfl) rfl (fun K1 hK1 => ?_)
         go_simp
         go_at_call 35; ((with_reducible refine (HTY.out _ (HX.out.2.2.1.trans (hd0.mono HX.out.2.2.1.size))).mono ?_); rintro e wt ⟨rfl, hbt⟩; have HT1 := Zh (hd0.trans (hbt.mono hd0.size)); clear hbt)
         go_wp2_with fail
         refine hK1.out _ _ (fun _ => HX6.out _ HT1.out) ?_
         clear hK1 K1 hC
         have hC := HX6.out _ HT1.out
         (try simp only [Act.put, Z1, Z2, Z3, Z4, Z5, Z6])
         refine wpC_step (i := 12) (by kernel_rfl) rfl (fun K1 hK1 => ?_)
         go_simp
         go_at_call 22; ((with_reducible refine (HFU.out _ (HX.out.2.2.1.trans (HT1.out.mono HX.out.2.2.1.size))).mono ?_); rintro e wf ⟨nv, rfl, hbf⟩; have hf1 := fun w => HF0.out nv w; have HT2 := Zh (HT1.out.trans (hbf.mono HT1.out.size)); have e6 := (HX6.out _ HT2.out).2; have f6 : wf.frozen? ⟨g2, j * 2, none⟩ = false := (World.frozen?_of_block (HT2.out.block g2 HX.out.1.row.lt)).trans hfr; clear hbf)
         go_wp2_with fail
         refine hK1.out _ _ (fun _ => HX6.out _ HT2.out) ?_
         clear hK1 K1 hC
         have hC := HX6.out _ HT2.out
         (try simp only [Act.put, Z1, Z2, Z3, Z4, Z5, Z6])
         refine Zu (i := 13) rfl (fun _ => hC) ?rns13
         (try simp only [Act.put, Z1, Z2, Z3, Z4, Z5, Z6])
         refine Zu (i := 14) rfl (fun _ => hC) ?rns14
         (try simp only [Act.put, Z1, Z2, Z3, Z4, Z5, Z6])
         refine Zu (i := 15) rfl (fun _ => hC) ?rns15
         (try simp only [Act.put, Z1, Z2, Z3, Z4, Z5, Z6])
         refine wpC_step (i := 16) (by kernel_rfl) rfl (fun K1 hK1 => ?_)
         go_simp
         refine hK1.out _ _ (fun h => absurd (h.symm.trans (by kernel_rfl : _ = true)) (by decide)) ?_
         clear hK1 K1
         (try simp only [Act.put, Z1, Z2, Z3, Z4, Z5, Z6])
         refine wpC_done (by kernel_rfl) ?_ _
         clear hC
         have how : Own wf 70 2 (some g2) n' cap2 (avaV (renL S r1 j)) := HX.out.1.keep fun k e => by cases e; exact HT2.out.block _ HX.out.1.row.lt
         have hor := how.row.set (j := j * 2) HNX.out.2 (.string FT.oid)
         rw [← HNX.out.1] at hor
         have hon : Own (wf.setCell ⟨g2, j * 2, none⟩ (.string FT.oid)) 70 2 (some g2) n' cap2 (avaV (renL S r1 (j + 1))) := Own.mk hor (by rw [avaV_len, renL_len, HR0.out.2.2.2.2]) how.le
         have hcn : Chg (fun k => k = g2) w7 (wf.setCell ⟨g2, j * 2, none⟩ (.string FT.oid)) := (HX.out.2.1.trans (Chg.of_below HT2.out)).setCell (fun _ => rfl) _
         have HN1 := Zh (Zi hon hcn)
         clear how hor hon hcn
         go_wp2_with fail
         exact ⟨⟨j + 1, by simp, by omega, HN1.out.1, HN1.out.2⟩, by simp [intOf]; omega⟩
        ·have j2 : ¬ (j : Int) < (n' : Int) := by omega
         obtain rfl : j = n' := by omega
         have howx := HX.out.1
         rw [renL_end S (Nat.le_of_eq HR0.out.2.2.2.2)] at howx
         have hupx := HUP.out.1.keep HX.out.2.2.1
         have hucell : wr.cell? ⟨u, 0, none⟩ = some (sv go i cap) := (Lib.cell_of_heap hupx.head 0).trans rfl
         have hszs : (r1.map (renA S)).length ≤ 4294967280 ∧ ∀ a ∈ r1.map (renA S), a.1.size ≤ 4294967280 ∧ a.2.size ≤ 4294967280 := ⟨by rw [List.length_map, HR0.out.2.2.2.2]; exact hsm', fun y hy => by
          obtain ⟨z, hz, rfl⟩ := List.mem_map.1 hy
          have hz0 := HR0.out.2.2.2.1.mem_iff.1 hz
          obtain ⟨t, htz⟩ := HR0.out.2.2.1 z hz0
          rw [renA_one htz]
          exact ⟨Nat.le_trans (oid_small HOK.out t) (by decide), (HR0.out.2.1.size z hz0).2⟩⟩
         have htk : nm.take (i + 1) = nm.take i ++ [r0] := take_succ_some HR0.out.1
         have HXX := Zh (Zi howx (Zi hupx (Zi hszs htk)))
         clear howx hupx hszs htk
         go_wp2_with (first
          | (at_builtin; (refine HXX.out.2.1.vec.own.push eiRdn rfl _ _ rfl rfl 1 [.slice (some ⟨g2, 0, none⟩) j cap2] #[.slice (some ⟨g2, 0, none⟩) j cap2] rfl rfl rfl (fun u hu => by simp at hu; subst hu; rfl) (by omega) (i + 1) rfl (by omega) ?_); intro g9 cap9 w9 o9 gr9 at9; obtain ⟨l0, lf, hups⟩ := nm_push HXX.out.2.1 HXX.out.1 (by rw [List.length_map, HR0.out.2.2.2.2]) H7.out.2.2.2.1 HXX.out.2.2.1 o9 gr9 at9; have HPS := Zh hups; clear o9 gr9 at9 hups)
          | fail)
         exact ⟨⟨i + 1, some g9, cap9, gs ++ [((some g2, cap2), r1.map (renA S))], by simp, by omega, HPS.out, by rw [HXX.out.2.2.2, List.map_append]; exact HUP.out.2.1.snoc ⟨r1, HR0.out.2.2.2.1, rfl⟩⟩, by simp [intOf]; omega⟩
      ·have i2 : ¬ (i : Int) < (n : Int) := by omega
       obtain rfl : i = n := by omega
       have hnn := (HUP.out.1.new_name (by omega)).rdns.1
       have htw := HUP.out.2.1
       rw [List.take_of_length_le (by omega)] at htw
       have hkt := key_twin HOK.out htw (by rw [HKE.out])
       rw [HKE.out] at hkt
       obtain ⟨ga, hga⟩ : ∃ ga : Option Addr, ga = go.map fun k => (⟨k, 0, none⟩ : Addr) := ⟨_, rfl⟩
       rw [← hga] at hnn
       have huc : wo.cell? ⟨u, 0, none⟩ = some (.slice ga i cap) := by rw [Lib.cell_of_heap HUP.out.1.head 0, hga]; rfl
       obtain ⟨⟨K2, k2⟩, hK2⟩ : ∃ x, nkeyV S (gs.map (·.2)) = x := ⟨_, rfl⟩
       rw [hK2] at hkt
       simp only at hkt
       have hky2 : Calls Tryz.prog 33 #[.pointer (some ⟨g, 0, none⟩), .agg #[.slice ga i cap]] wo fun e w' => e = .returned (.tuple #[.string (baOf K2), .int .i64 k2]) ∧ Below wo.heap.size wo w' := by
        have := nkey_any S g wo.heap.size ga i cap (gs.map (·.2)) wo HUP.out.2.2.2 (HM.out wo HUP.out.2.2.1).2.2 hnn (Zr _)
        rw [hK2] at this
        exact this
       have HKY2 := Zh hky2; have HKT := Zh hkt; have HNL := Zh hnl
       clear hnl hnn htw hkt hga hK2 hky2 hrd
       go_upto_region 20 with (go_at_call 33; ((with_reducible refine HKY2.out.mono ?_); rintro e wk ⟨rfl, hbk⟩; have HBK := Zh (Zi (HUP.out.2.2.2.keep hbk) (HUP.out.2.2.1.trans (hbk.mono HUP.out.2.2.1.size))); clear hbk))
       clear huc z5
       go_cut [120] (fun s120 wx => s120 = .bool false ∧ wk = wx)
       case first =>
        rcases HKT.out with ⟨h1, h2⟩ | h3
        ·subst h1 h2
         go_wp2_with fail
         all_goals go_meet
         all_goals exact ⟨rfl, rfl⟩
        ·subst h3
         go_wp2_with fail
         all_goals go_meet
         all_goals exact ⟨rfl, rfl⟩
       case rest =>
        obtain ⟨rfl, rfl⟩ := hcut
        refine (‹∀ (a : Act) (w : World), Code.wp _ _ _ a w → _› _ _ ?_)
        obtain ⟨vs, hv1, hv2, hv3, hv4⟩ := key_list HOK.out (n := nm) (by rw [HKE.out])
        have hkb := key_bound HOK.out (n := nm) (by rw [HKE.out])
        rw [HKE.out] at hv1 hv4 hkb
        simp only at hv1 hv4 hkb
        obtain ⟨sb, hsb⟩ : ∃ sb, baOf K = sb := ⟨_, rfl⟩
        have hsb1 : toL sb = K := by rw [← hsb, toL_baOf]
        have hsb2 : sb.size = K.length := by rw [← hsb]; simp [baOf, ByteArray.size]
        rw [hsb]
        have hvn : i = vs.length := by rw [hv2]; exact HNL.out
        have hst := fun w => (nsteps_any sb w (by omega)).mono fun e w' h => h.at (vs := vs) (n := i) (by rw [hsb1]; exact hv1) hvn
        have hjn := fun a' c' wq (h : SCells6 wq a' i vs) => joined_any a' i c' vs wq hvn h hv3 (by rw [hv4]; omega) (by omega)
        rw [hv4, hsb] at hjn
        have HSB := Zh (Zi hsb1 (Zi hsb2 hkb)); have HST := Zh hst; have HJN := Zh hjn; have HVS := Zh (Zi hv1 (Zi hv2 (Zi hv3 (Zi hv4 hvn))))
        clear hsb1 hsb2 hst hjn hv1 hv2 hv3 hv4 hvn hkb hsb
        obtain ⟨_, _, zk, _⟩ := HK.out wk HBK.out.2
        go_upto_region 25 with (first
         | (go_at_call 24; ((with_reducible refine (HST.out wk).mono ?_); rintro e wl ⟨gl, cl, rfl, hvl⟩; have hx := HBK.out.2.trans (hvl.below.mono HBK.out.2.size); obtain ⟨_, _, zl, _⟩ := HK.out wl hx; have HVL := Zh (Zi hvl (Zi (HBK.out.1.keep hvl.below) hx)); clear hvl hx; unfold sv))
         | (go_at_call 36; ((with_reducible refine (HJN.out _ _ wl HVL.out.1.own.scells6).mono ?_); rintro e wj ⟨rfl, hbj⟩; have HBJ := Zh (Zi (HVL.out.1.next hbj) (Zi (HVL.out.2.1.keep hbj) (HVL.out.2.2.trans (hbj.mono HVL.out.2.2.size)))); clear hbj))
         | fail)
        clear zk zl
        obtain ⟨_, _, zj, _⟩ := HK.out wj HBJ.out.2.2
        have hab := nabove_any wj.heap.size a i c nm wj (HM.out wj HBJ.out.2.2).1 (Zr _)
        cases nm with
        | nil =>
         have h0 : i = 0 := HNL.out
         subst h0
         have hab2 : Calls Tryz.prog 37 #[.agg #[.slice a 0 c]] wj fun e w' => e = .returned (.tuple #[.agg #[.slice none 0 0], .bool false]) ∧ Below wj.heap.size wj w' := hab.mono fun e w' h => ⟨h.2.1 rfl, h.1⟩
         have HAB := Zh hab2; clear hab hab2
         go_upto_region 30 with (go_at_call 37; (with_reducible refine HAB.out.mono ?_); rintro e wa ⟨rfl, hba⟩; have hxa := hba.alloc hba.size (.cells #[.slice none 0 0] 53); have HBA := Zh (Zi (HBJ.out.2.1.keep hxa) (HBJ.out.2.2.trans (hxa.mono HBJ.out.2.2.size))); clear hba hxa)
         clear zj
         have hun := fun wq (hb : Below w1.heap.size w1 wq) => nunder_any wq.heap.size ra rn rc r a 0 c [] wq (HM.out wq hb).2.1 (HM.out wq hb).1 (Zr _) (by omega)
         have HUN := Zh hun; clear hun
         obtain ⟨⟨K3, k3⟩, hK3⟩ : ∃ x, nkeyV S (r :: []) = x := ⟨_, rfl⟩
         obtain ⟨s3, hs3⟩ : ∃ s3, baOf K3 = s3 := ⟨_, rfl⟩
         have hk3 : ∀ a' k' c' wq, Sch wq g S → Rdns wq.heap.size wq a' k' c' (r :: []) → Below w1.heap.size w1 wq → Calls Tryz.prog 33 #[.pointer (some ⟨g, 0, none⟩),   .agg #[.slice a' k' c']] wq fun e w' => e = .returned (.tuple #[.string s3, .int .i64 k3]) ∧ Below wq.heap.size wq w' := fun a' k' c' wq h1 h2 h3 => by
          have := nkey_any S g wq.heap.size a' k' c' (r :: []) wq h1 (HM.out wq h3).2.2 h2 (Zr _)
          rw [hK3] at this
          rw [← hs3]
          exact this
         have HK3 := Zh hk3; clear hk3
         obtain ⟨_, _, zw, zr⟩ := HK.out _ HBA.out.2
         by_cases hk0 : k3 = 0
         ·subst hk0
          obtain ⟨hl3, sx, hsx, he3⟩ := key_below HOK.out (r := r) (n := []) (by rw [hK3])
          have hb3 := key_bound HOK.out (n := r :: []) (by rw [hK3])
          rw [hK3, HKE.out] at hl3 he3
          rw [hK3] at hb3
          simp only at hl3 he3 hb3
          have hz3 : s3.size = K3.length := by rw [← hs3]; simp [baOf, ByteArray.size]
          have ht3 : toL s3 = K3 := by rw [← hs3, toL_baOf]
          have hzk : sb.size = K.length := HSB.out.2.1
          have hli : ∀ wq, Calls Tryz.prog 26 #[.string s3, .string sb] wq fun e w' => e = .returned (.bool true) ∧ Below wq.heap.size wq w' := fun wq => by
           have := nlies_any s3 sb wq (by omega) (by have := HSB.out.2.2; omega)
           rw [ht3, HSB.out.1, hl3] at this
           exact this
          have hxl := List.length_pos_iff.2 hsx
          have hlen : K3.length = K.length + sx.length := by rw [he3, List.length_append]
          have j1 : ¬ (s3.size : Int) ≤ (sb.size : Int) := by omega
          have j2 : (sb.size : Int) ≤ (s3.size : Int) := by omega
          have hex : s3.extract 0 sb.size = sb := by
           apply toL_injS
           rw [toL_take, ht3, HSB.out.1, hzk, he3, List.take_left]
          have HLI := Zh hli; clear hli hl3 he3 hsx hxl hlen ht3 hzk hK3 hs3 hb3 hz3
          go_wp2_with (first
           | (go_at_call 38; ((with_reducible refine (HUN.out _ HBA.out.2).mono ?_); rintro e v1 ⟨da, dn, dc, rfl, hnn⟩; have hv1 := hnn.rdns; have HV1 := Zh (Zi (HBA.out.1.keep hv1.2) (Zi hv1.1 (HBA.out.2.trans (hv1.2.mono HBA.out.2.size)))); clear hnn hv1))
           | (go_at_call 33; ((with_reducible refine (HK3.out _ _ _ _ HV1.out.1 HV1.out.2.1 HV1.out.2.2).mono ?_); rintro e v2 ⟨rfl, hv2⟩; have hx2 := HV1.out.2.2.trans (hv2.mono HV1.out.2.2.size); obtain ⟨_, _, zz, _⟩ := HK.out v2 hx2; have HV2 := Zh hx2; clear hv2 hx2))
           | (go_at_call 26; (with_reducible refine (HLI.out _).mono ?_); rintro e v3 ⟨rfl, hv3⟩; have hx3 := HV2.out.trans (hv3.mono HV2.out.size); obtain ⟨_, _, zy, _⟩ := HK.out v3 hx3; have HVZ := Zh hx3; clear hv3 hx3)
           | (go_at_call 28; (with_reducible refine (HAL.out _ HVZ.out).mono ?_); rintro e v9 ⟨rfl, hv9⟩; have HV9 := Zh (HVZ.out.trans (hv9.mono HVZ.out.size)); clear hv9)
           | fail)
          go_ret
          exact ⟨rfl, HB.out.trans (HV9.out.mono HB.out.size)⟩
         ·have hk1 : (k3 == 0) = false := beq_eq_false_iff_ne.2 hk0
          clear hk0 hK3 hs3
          go_wp2_with (first
           | (go_at_call 38; ((with_reducible refine (HUN.out _ HBA.out.2).mono ?_); rintro e v1 ⟨da, dn, dc, rfl, hnn⟩; have hv1 := hnn.rdns; have HV1 := Zh (Zi (HBA.out.1.keep hv1.2) (Zi hv1.1 (HBA.out.2.trans (hv1.2.mono HBA.out.2.size)))); clear hnn hv1))
           | (go_at_call 33; ((with_reducible refine (HK3.out _ _ _ _ HV1.out.1 HV1.out.2.1 HV1.out.2.2).mono ?_); rintro e v2 ⟨rfl, hv2⟩; have hx2 := HV1.out.2.2.trans (hv2.mono HV1.out.2.2.size); obtain ⟨_, _, zz, _⟩ := HK.out v2 hx2; have HVZ := Zh hx2; clear hv2 hx2))
           | (go_at_call 28; (with_reducible refine (HAL.out _ HVZ.out).mono ?_); rintro e v9 ⟨rfl, hv9⟩; have HV9 := Zh (HVZ.out.trans (hv9.mono HVZ.out.size)); clear hv9)
           | fail)
          go_ret
          exact ⟨rfl, HB.out.trans (HV9.out.mono HB.out.size)⟩
        | cons r0 n' =>
         obtain ⟨hu1, hu2, hu3, hu4⟩ := key_up HOK.out (r := r0) (n := n') (by rw [HKE.out]) (vs := vs) (by rw [HKE.out]; exact HVS.out.1)
         obtain ⟨⟨K4, k4⟩, hK4⟩ : ∃ x, nkeyV S n' = x := ⟨_, rfl⟩
         rw [hK4] at hu1 hu2 hu3 hu4
         rw [HKE.out] at hu3 hu4
         simp only at hu1 hu2 hu3 hu4
         subst hu1
         obtain ⟨s4, hs4⟩ : ∃ s4, baOf K4 = s4 := ⟨_, rfl⟩
         have ht4 : toL s4 = K4 := by rw [← hs4, toL_baOf]
         have hz4 : s4.size = K4.length := by rw [← hs4]; simp [baOf, ByteArray.size]
         have hb4' := key_bound HOK.out (n := n') (by rw [hK4])
         rw [hK4] at hb4'
         simp only at hb4'
         have hab2 : Calls Tryz.prog 37 #[.agg #[.slice a i c]] wj fun e w' => ∃ a' n'' c', e = .returned (.tuple #[.agg #[.slice a' n'' c'], .bool true]) ∧ Rdns w'.heap.size w' a' n'' c' n' ∧ Below wj.heap.size wj w' := hab.mono fun e w' h => by
          obtain ⟨a', n'', c', h1, h2⟩ := h.2.2 (by simp)
          exact ⟨a', n'', c', h1, h2.rdns.1, h.1⟩
         have hk4 : ∀ a' n'' c' wq, Sch wq g S → Rdns wq.heap.size wq a' n'' c' n' → Below w1.heap.size w1 wq → Calls Tryz.prog 33 #[.pointer (some ⟨g, 0, none⟩), .agg #[.slice a' n'' c']] wq fun e w' => e = .returned (.tuple #[.string s4, .int .i64 0]) ∧ Below wq.heap.size wq w' := fun a' n'' c' wq h1 h2 h3 => by
          have := nkey_any S g wq.heap.size a' n'' c' n' wq h1 (HM.out wq h3).2.2 h2 (Zr _)
          rw [hK4] at this
          rw [← hs4]
          exact this
         have hl1 : ∀ wq, Calls Tryz.prog 26 #[.string sb, .string s4] wq fun e w' => e = .returned (.bool true) ∧ Below wq.heap.size wq w' := fun wq => by
          have := nlies_any sb s4 wq (by have := HSB.out.2; omega) (by omega)
          rw [HSB.out.1, ht4, hu3] at this
          exact this
         have hl2 : ∀ wq, Calls Tryz.prog 26 #[.string s4, .string sb] wq fun e w' => e = .returned (.bool false) ∧ Below wq.heap.size wq w' := fun wq => by
          have := nlies_any s4 sb wq (by omega) (by have := HSB.out.2; omega)
          rw [HSB.out.1, ht4, hu4] at this
          exact this
         obtain ⟨m, hm⟩ : ∃ m, m = n'.length := ⟨_, rfl⟩
         have him : i = m + 1 := by rw [hm]; exact HNL.out
         have hj2 : ∀ a' c' wq, SCells6 wq a' i vs → Calls Tryz.prog 36 #[.slice a' m c'] wq fun e w' => e = .returned (.string s4) ∧ Below wq.heap.size wq w' := fun a' c' wq h => by
          have := joined_any a' m c' (vs.take m) wq (by rw [List.length_take]; have := HVS.out.2.2.2.2; omega) (fun h0 => by
           obtain ⟨b', e1, e2⟩ := h (by omega)
           exact ⟨b', e1, fun q x hx => e2 q x (by rw [List.getElem?_take_of_lt (by have := (List.getElem?_eq_some_iff.1 hx).1; simp at this; omega)] at hx; exact hx)⟩) (fun x hx => HVS.out.2.2.1 x (List.mem_of_mem_take hx)) (by rw [hm, hu2]; omega) (by omega)
          rw [hm, hu2, hs4] at this
          rw [hm]
          exact this
         have HAB := Zh hab2; have HK4 := Zh hk4; have HL1 := Zh hl1; have HL2 := Zh hl2; have HJ2 := Zh hj2
         have m1 : (i : Int) - 1 = (m : Int) := by omega
         have m2 : (m : Int) ≤ (i : Int) := by omega
         have m3 : (0 : Int) ≤ (m : Int) := by omega
         have m4 : (0 : Int) < (i : Int) := by omega
         obtain ⟨gk, rfl⟩ := HVL.out.1.ptr (by omega)
         have hcl : i ≤ cl := HVL.out.1.own.le
         have hsc : ∀ wz, Below wj.heap.size wj wz → SCells6 wz (some ⟨gk, 0, none⟩) i vs := fun wz h => (HBJ.out.1.next h).own.scells6
         have HSC := Zh hsc; clear hsc
         clear hab hab2 hk4 hl1 hl2 hj2 hu2 hu3 hu4 hK4 hs4 ht4 hz4 hb4' hm him
         go_upto_region 30 with (first
          | (go_at_call 37; ((with_reducible refine HAB.out.mono ?_); rintro e wa ⟨ua, un, uc, rfl, hru, hba⟩; have hbx := (box1 wa #[.slice ua un uc] 53).1; have hxa := hba.trans (hbx.mono hba.size); have HBA := Zh (Zi (HBJ.out.2.1.keep hxa) (Zi (hru.keep hbx hbx.size) (Zi (HBJ.out.2.2.trans (hxa.mono HBJ.out.2.2.size)) hxa))); clear hba hxa hbx hru))
          | (go_at_call 33; ((with_reducible refine (HK4.out _ _ _ _ HBA.out.1 HBA.out.2.1 HBA.out.2.2.1).mono ?_); rintro e wb ⟨rfl, hbb⟩; have HBB := Zh (Zi (HBA.out.1.keep hbb) (Zi (HBA.out.2.2.1.trans (hbb.mono HBA.out.2.2.1.size)) (HBA.out.2.2.2.trans (hbb.mono HBA.out.2.2.2.size)))); clear hbb))
          | (go_at_call 36; ((with_reducible refine (HJ2.out (some ⟨gk, 0, none⟩) cl wb (HSC.out wb HBB.out.2.2)).mono ?_); rintro e wd ⟨rfl, hbd⟩; have HBD := Zh (Zi (HBB.out.1.keep hbd) (HBB.out.2.1.trans (hbd.mono HBB.out.2.1.size))); clear hbd))
          | (go_at_call 26; ((with_reducible refine (HL1.out _).mono ?_); rintro e we ⟨rfl, hbe⟩; have HBE := Zh (Zi (HBD.out.1.keep hbe) (HBD.out.2.trans (hbe.mono HBD.out.2.size))); clear hbe))
          | (go_at_call 26; ((with_reducible refine (HL2.out _).mono ?_); rintro e wf ⟨rfl, hbf⟩; have HBF := Zh (Zi (HBE.out.1.keep hbf) (HBE.out.2.trans (hbf.mono HBE.out.2.size))); clear hbf))
          | fail)
         clear zj
         have hun := fun wq (hb : Below w1.heap.size w1 wq) => nunder_any wq.heap.size ra rn rc r a i c (r0 :: n') wq (HM.out wq hb).2.1 (HM.out wq hb).1 (Zr _) (by omega)
         have HUN := Zh hun; clear hun
         obtain ⟨⟨K3, k3⟩, hK3⟩ : ∃ x, nkeyV S (r :: (r0 :: n')) = x := ⟨_, rfl⟩
         obtain ⟨s3, hs3⟩ : ∃ s3, baOf K3 = s3 := ⟨_, rfl⟩
         have hk3 : ∀ a' k' c' wq, Sch wq g S → Rdns wq.heap.size wq a' k' c' (r :: (r0 :: n')) → Below w1.heap.size w1 wq → Calls Tryz.prog 33 #[.pointer (some ⟨g, 0, none⟩),   .agg #[.slice a' k' c']] wq fun e w' => e = .returned (.tuple #[.string s3, .int .i64 k3]) ∧ Below wq.heap.size wq w' := fun a' k' c' wq h1 h2 h3 => by
          have := nkey_any S g wq.heap.size a' k' c' (r :: (r0 :: n')) wq h1 (HM.out wq h3).2.2 h2 (Zr _)
          rw [hK3] at this
          rw [← hs3]
          exact this
         have HK3 := Zh hk3; clear hk3
         obtain ⟨_, _, zw, zr⟩ := HK.out _ HBF.out.2
         by_cases hk0 : k3 = 0
         ·subst hk0
          obtain ⟨hl3, sx, hsx, he3⟩ := key_below HOK.out (r := r) (n := (r0 :: n')) (by rw [hK3])
          have hb3 := key_bound HOK.out (n := r :: (r0 :: n')) (by rw [hK3])
          rw [hK3, HKE.out] at hl3 he3
          rw [hK3] at hb3
          simp only at hl3 he3 hb3
          have hz3 : s3.size = K3.length := by rw [← hs3]; simp [baOf, ByteArray.size]
          have ht3 : toL s3 = K3 := by rw [← hs3, toL_baOf]
          have hzk : sb.size = K.length := HSB.out.2.1
          have hli : ∀ wq, Calls Tryz.prog 26 #[.string s3, .string sb] wq fun e w' => e = .returned (.bool true) ∧ Below wq.heap.size wq w' := fun wq => by
           have := nlies_any s3 sb wq (by omega) (by have := HSB.out.2.2; omega)
           rw [ht3, HSB.out.1, hl3] at this
           exact this
          have hxl := List.length_pos_iff.2 hsx
          have hlen : K3.length = K.length + sx.length := by rw [he3, List.length_append]
          have j1 : ¬ (s3.size : Int) ≤ (sb.size : Int) := by omega
          have j2 : (sb.size : Int) ≤ (s3.size : Int) := by omega
          have hex : s3.extract 0 sb.size = sb := by
           apply toL_injS
           rw [toL_take, ht3, HSB.out.1, hzk, he3, List.take_left]
          have HLI := Zh hli; clear hli hl3 he3 hsx hxl hlen ht3 hzk hK3 hs3 hb3 hz3
          go_wp2_with (first
           | (go_at_call 38; ((with_reducible refine (HUN.out _ HBF.out.2).mono ?_); rintro e v1 ⟨da, dn, dc, rfl, hnn⟩; have hv1 := hnn.rdns; have HV1 := Zh (Zi (HBF.out.1.keep hv1.2) (Zi hv1.1 (HBF.out.2.trans (hv1.2.mono HBF.out.2.size)))); clear hnn hv1))
           | (go_at_call 33; ((with_reducible refine (HK3.out _ _ _ _ HV1.out.1 HV1.out.2.1 HV1.out.2.2).mono ?_); rintro e v2 ⟨rfl, hv2⟩; have hx2 := HV1.out.2.2.trans (hv2.mono HV1.out.2.2.size); obtain ⟨_, _, zz, _⟩ := HK.out v2 hx2; have HV2 := Zh hx2; clear hv2 hx2))
           | (go_at_call 26; (with_reducible refine (HLI.out _).mono ?_); rintro e v3 ⟨rfl, hv3⟩; have hx3 := HV2.out.trans (hv3.mono HV2.out.size); obtain ⟨_, _, zy, _⟩ := HK.out v3 hx3; have HVZ := Zh hx3; clear hv3 hx3)
           | (go_at_call 28; (with_reducible refine (HAL.out _ HVZ.out).mono ?_); rintro e v9 ⟨rfl, hv9⟩; have HV9 := Zh (HVZ.out.trans (hv9.mono HVZ.out.size)); clear hv9)
           | fail)
          go_ret
          exact ⟨rfl, HB.out.trans (HV9.out.mono HB.out.size)⟩
         ·have hk1 : (k3 == 0) = false := beq_eq_false_iff_ne.2 hk0
          clear hk0 hK3 hs3
          go_wp2_with (first
           | (go_at_call 38; ((with_reducible refine (HUN.out _ HBF.out.2).mono ?_); rintro e v1 ⟨da, dn, dc, rfl, hnn⟩; have hv1 := hnn.rdns; have HV1 := Zh (Zi (HBF.out.1.keep hv1.2) (Zi hv1.1 (HBF.out.2.trans (hv1.2.mono HBF.out.2.size)))); clear hnn hv1))
           | (go_at_call 33; ((with_reducible refine (HK3.out _ _ _ _ HV1.out.1 HV1.out.2.1 HV1.out.2.2).mono ?_); rintro e v2 ⟨rfl, hv2⟩; have hx2 := HV1.out.2.2.trans (hv2.mono HV1.out.2.2.size); obtain ⟨_, _, zz, _⟩ := HK.out v2 hx2; have HVZ := Zh hx2; clear hv2 hx2))
           | (go_at_call 28; (with_reducible refine (HAL.out _ HVZ.out).mono ?_); rintro e v9 ⟨rfl, hv9⟩; have HV9 := Zh (HVZ.out.trans (hv9.mono HVZ.out.size)); clear hv9)
           | fail)
          go_ret
          exact ⟨rfl, HB.out.trans (HV9.out.mono HB.out.size)⟩
    ·have hkc2 : (kc == 0) = false := beq_eq_false_iff_ne.2 hkc
     have hK0 := nkeyV_none (S := S) (l := nm) (by rw [HKE.out]; exact hkc)
     rw [HKE.out] at hK0
     obtain rfl : K = [] := hK0
     rw [show baOf [] = (⟨#[]⟩ : ByteArray) from rfl]
     clear hkc
     go_wp2_with (go_at_call 28; (with_reducible refine (HAL.out _ HB4.out.2).mono ?_); rintro e w5 ⟨rfl, hb5⟩; have HB5 := Zh (HB4.out.2.trans (hb5.mono HB4.out.2.size)); clear hb5)
     go_ret
     exact ⟨rfl, HB.out.trans (HB5.out.mono HB.out.size)⟩
   ·have hnw : ∃ x y, x ≠ 0 ∧ Calls Tryz.prog 9 #[.agg #[.slice ta tn tc, .slice ca cn cc]] wc fun e w' => e = .returned (.tuple #[.pointer none, .int .i64 x, .int .i64 y]) ∧ Below wc.heap.size wc w' := by
     by_cases h1 : (newE S).1 = 0
     ·refine ⟨1, 0, by decide, (HNW.out wc HB2.out).mono fun e w' ⟨_, h2⟩ => ?_⟩
      rcases h2 with ⟨h3, _⟩ | ⟨h3, _⟩
      ·exact absurd h3 hne
      ·exact absurd h1 h3
     ·refine ⟨(newE S).1, ((newE S).2 : Nat), h1, (HNW.out wc HB2.out).mono fun e w' ⟨h0, h2⟩ => ?_⟩
      rcases h2 with ⟨h3, _⟩ | ⟨_, h3⟩
      ·exact absurd h3 hne
      ·exact ⟨h3, h0⟩
    obtain ⟨x, y, hx, hnw⟩ := hnw
    have hx2 : (x == 0) = false := beq_eq_false_iff_ne.2 hx
    have HNW2 := Zh hnw; clear hnw hne HNW hx
    go_wp2_with (first
     | (go_at_call 9; (with_reducible refine HNW2.out.mono ?_); rintro e w3 ⟨rfl, hb3⟩; have HB3 := Zh (HB2.out.trans (hb3.mono HB2.out.size)); clear hb3)
     | (go_at_call 28; (with_reducible refine (HAL.out _ HB3.out).mono ?_); rintro e w5 ⟨rfl, hb5⟩; have HB5 := Zh (HB3.out.trans (hb5.mono HB3.out.size)); clear hb5)
     | fail)
    go_ret
    exact ⟨rfl, HB.out.trans (HB5.out.mono HB.out.size)⟩
end Go.Proofs.YtlmfbjhokkpjhaaGreatDoor
