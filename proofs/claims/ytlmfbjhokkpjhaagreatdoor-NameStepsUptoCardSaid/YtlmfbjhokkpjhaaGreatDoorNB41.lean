/- Part 41 of the walks and plain laws, joined: LawNB, LaidSy, OpenNB, RefS6. -/
import Derived.Test.YtlmfbjhokkpjhaaGreatDoorNB00
import Derived.Test.YtlmfbjhokkpjhaaGreatDoorNB40
import Derived.Test.YtlmfbjhokkpjhaaGreatDoorNB22
import Derived.Test.YtlmfbjhokkpjhaaGreatDoorNB07
import Derived.Test.YtlmfbjhokkpjhaaGreatDoorNB28
import Derived.Test.YtlmfbjhokkpjhaaGreatDoorNB26
set_option linter.unusedVariables false
set_option linter.unusedSimpArgs false
namespace Go.Proofs.YtlmfbjhokkpjhaaGreatDoor
open Go Go.RowKit Go.Maps
theorem printV_err {l : PName} (h : (printV l).2 ≠ 0) : (printV l).1 = [] := by
 unfold printV at h ⊢
 split
 ·rfl
 ·rename_i h1
  rw [if_neg h1] at h
  split
  ·rfl
  ·rename_i h2
   rw [if_neg h2] at h
   split
   ·rfl
   ·rename_i h3
    rw [if_neg h3] at h
    exact absurd rfl h
theorem parse_len {t : Str} {m : PName} (h : parseV t = .ok m) : t.length ≤ 65536 := by
 unfold parseV at h
 split at h
 ·cases h
 ·omega
theorem print_at {l : PName} {s : ByteArray} {c0 : Int} (h : printV l = (toL s, c0)) (w : World) (hE : EnvK w) (a : Option Addr) (n c : Nat) (hl : Rdns w.heap.size w a n c l) : Calls Tryz.prog 30 #[.agg #[.slice a n c]] w fun e w' => e = .returned (.tuple #[.string s, .int .i64 c0]) ∧ Below w.heap.size w w' :=
 (print_any _ a n c l w hl (Zr _) hE.e).mono fun e w' h2 => ⟨by have := h2.1; rw [h] at this; rw [this, baOf_toL], h2.2⟩
theorem same_at {l : PName} (w : World) (a a2 : Option Addr) (n n2 c c2 : Nat) (h1 : Rdns w.heap.size w a n c l) (h2 : Rdns w.heap.size w a2 n2 c2 l) : Calls Tryz.prog 32 #[.agg #[.slice a n c], .agg #[.slice a2 n2 c2]] w fun e w' => e = .returned (.bool true) ∧ Below w.heap.size w w' :=
 same6_eq _ _ a a2 n n2 c c2 l w h1 h2 (Zr _) (Zr _)
theorem box_cell {w w' : World} {x : Array Value} {t : TypeId} {v : Value} (h : x[0]? = some v) (k : Below (w.alloc (.cells x t)).heap.size (w.alloc (.cells x t)) w') : w'.cell? ⟨w.heap.size, 0, none⟩ = some v := by
 have := (box1 w x t).2 0
 rw [h] at this
 exact (k.cell (Zb _ _ this)).trans this
set_option maxRecDepth 20000 in
set_option maxHeartbeats 16000000 in
theorem law_nback (a : Option Addr) (n c : Nat) (nm : PName) (text : ByteArray) (w : World) (hE : EnvK w) (h : RdnsU w.heap.size w a n c nm) :
  Calls Tryz.prog 6 #[.agg #[.slice a n c], .string text] w fun e w' => e = .returned (.bool true) ∧ Below w.heap.size w w' := by
 obtain ⟨hb, x0⟩ := box1 w #[.slice a n c] 53
 have y0 := x0 0
 have y0' : (w.alloc (.cells #[.slice a n c] 53)).cell? ⟨w.heap.size, 0, none⟩ = some (.slice a n c) := y0
 have hat : ∀ wr, Below (w.alloc (.cells #[.slice a n c] 53)).heap.size (w.alloc (.cells #[.slice a n c] 53)) wr → wr.cell? ⟨w.heap.size, 0, none⟩ = some (.slice a n c) := fun wr hk => (hk.cell (Zb _ _ y0')).trans y0'
 have hby0 := beyond6 w.heap.size a n c nm (w.alloc (.cells #[.slice a n c] 53)) ⟨h.len, h.lies, h.big, fun b o e i r hr => by
  obtain ⟨a', n', c', e1, v1⟩ := h.cell b o e i r hr
  exact ⟨a', n', c', (hb.cell (Zb _ _ e1)).trans e1, v1.len, v1.lies, v1.big, fun b2 o2 e2 j x hx => by
   obtain ⟨s1, s2⟩ := v1.cell b2 o2 e2 j x hx
   exact ⟨(hb.cell (Zb _ _ s1)).trans s1, (hb.cell (Zb _ _ s2)).trans s2⟩, v1.size⟩⟩ hb.size
 have z1 := hat _ (Zl _ _)
 clear x0 y0 y0'
 by_cases hf : FewN nm
 ·have hr := (h.few hf).keep hb hb.size
  have hE1 := hE.next hb
  have hal : ∀ wq, Below (w.alloc (.cells #[.slice a n c] 53)).heap.size (w.alloc (.cells #[.slice a n c] 53)) wq → Calls Tryz.prog 28 #[] wq fun e w' => e = .returned (.bool true) ∧ Below wq.heap.size wq w' := fun wq hk => alive_any6 wq (hE1.next hk)
  obtain ⟨⟨T, c0⟩, hT⟩ : ∃ r, printV nm = r := ⟨_, rfl⟩
  obtain ⟨s, rfl⟩ : ∃ s : ByteArray, T = toL s := ⟨baOf T, by simp [baOf, toL]⟩
  have hpr := fun wq (hk : Below (w.alloc (.cells #[.slice a n c] 53)).heap.size (w.alloc (.cells #[.slice a n c] 53)) wq) a' n' c' hl => print_at hT wq (hE1.next hk) a' n' c' hl
  have HPR := Zh hpr; have HAL := Zh hal; have HR := Zh hr; have HE1 := Zh hE1; have HB := Zh hb; have HAT := Zh hat; have HT := Zh hT
  clear hpr hal hr hE1 hb hat hT h hf hE
  have HBY := Zh hby0; clear hby0
  go_enter Tryz.func6, Tryz.ntmps6
  go_upto_region 1 with fail
  generalize w.alloc (.cells #[.slice a n c] 53) = w1 at HPR HAL HR HE1 HB HAT HBY z1 ⊢
  obtain ⟨x, hx⟩ : ∃ x, x = w.heap.size := ⟨_, rfl⟩
  rw [← hx] at HAT z1 ⊢
  clear hx
  go_upto_region 3 with (go_at_call 29; (with_reducible refine HBY.out.mono ?_); rintro e w2 ⟨⟨b, rfl, _⟩, hb2⟩; have z2 := HAT.out _ hb2; have HB2 := Zh hb2; clear hb2)
  ·go_ret
   exact ⟨rfl, HB.out.trans (HB2.out.mono HB.out.size)⟩
  clear z1
  by_cases hc0 : c0 = 0
  ·subst hc0
   have hpp := fun wq (hk : Below w1.heap.size w1 wq) => parse_good (parse_print HT.out) wq (HE1.out.next hk).v
   have HPP := Zh hpp; clear hpp
   go_upto_region 11 with (first
    | (go_at_call 30; (with_reducible refine (HPR.out w2 HB2.out _ _ _ (HR.out.keep HB2.out HB2.out.size)).mono ?_); rintro e w3 ⟨rfl, hb3⟩; have HB3 := Zh (HB2.out.trans (hb3.mono HB2.out.size)); clear hb3)
    | (go_at_call 31; (with_reducible refine (HPP.out _ HB3.out).mono ?_); rintro e w4 ⟨pa, pn, pc, rfl, hr4, hb4⟩; have hbx := (box1 w4 #[.slice pa pn pc] 53).1; have hx4 := HB3.out.trans (hb4.mono HB3.out.size); have HB5 := Zh (Zi (hx4.trans (hbx.mono hx4.size)) (hr4.keep hbx hbx.size)); clear hr4 hb4 hbx hx4)
    | (go_at_call 30; (with_reducible refine (HPR.out _ HB5.out.1 _ _ _ HB5.out.2).mono ?_); rintro e w6 ⟨rfl, hb6⟩; have q6 := box_cell (v := .slice pa pn pc) rfl hb6; have hx6 := HB5.out.1.trans (hb6.mono HB5.out.1.size); have z6 := HAT.out _ hx6; have HB6 := Zh (Zi hx6 (Zi (HB5.out.2.keep hb6 hb6.size) (HR.out.keep hx6 hx6.size))); clear hb6 hx6)
    | (go_at_call 32; (with_reducible refine (same_at _ _ _ _ _ _ _ HB6.out.2.1 HB6.out.2.2).mono ?_); rintro e w7 ⟨rfl, hb7⟩; have HB7 := Zh (HB6.out.1.trans (hb7.mono HB6.out.1.size)); clear hb7)
    | fail)
   clear z2 q6 z6
   cases hpt : parseV (toL text) with
   | error f =>
    have hp := parse_bad hpt w7 (HE1.out.next HB7.out).v
    have HP := Zh hp; clear hp hpt
    go_wp2_with (first
     | (go_at_call 31; (with_reducible refine HP.out.mono ?_); rintro e v1 ⟨p, rfl, hv1⟩; have hx1 := HB7.out.trans (hv1.mono HB7.out.size); have HV1 := Zh (hx1.alloc hx1.size (.cells #[.slice none 0 0] 53)); clear hv1 hx1)
     | (go_at_call 28; (with_reducible refine (HAL.out _ HV1.out).mono ?_); rintro e v2 ⟨rfl, hv2⟩; have HV2 := Zh (HV1.out.trans (hv2.mono HV1.out.size)); clear hv2)
     | fail)
    go_ret
    exact ⟨rfl, HB.out.trans (HV2.out.mono HB.out.size)⟩
   | ok m =>
    have hp := parse_good hpt w7 (HE1.out.next HB7.out).v
    have htl := parse_len hpt
    rw [show (toL text).length = text.size from Lib.size_eq text] at htl
    have HP := Zh hp; clear hp
    rcases print_parsed hpt with ⟨hm, hlen⟩ | hm
    ·obtain ⟨t, ht⟩ : ∃ t : ByteArray, nameP m = toL t := ⟨baOf (nameP m), by simp [baOf, toL]⟩
     rw [ht] at hm hlen
     rw [show (toL t).length = t.size from Lib.size_eq t, show (toL text).length = text.size from Lib.size_eq text] at hlen
     have hpm := fun wq hE => parse_good (parse_print hm) wq hE
     have hprm := fun wq hk => print_at hm wq hk
     have HPM := Zh hpm; have HPRM := Zh hprm
     have k1 : ¬ (3 * (text.size : Int) < (t.size : Int)) := by omega
     clear hpm hprm hm ht hpt hlen
     go_wp2_with (first
      | (go_at_call 31; (with_reducible refine HP.out.mono ?_); rintro e v1 ⟨ma, mn, mc, rfl, hr1, hv1⟩; have hx1 := HB7.out.trans (hv1.mono HB7.out.size); have hbx := (box1 v1 #[.slice ma mn mc] 53).1; have HV1 := Zh (Zi (hx1.trans (hbx.mono hx1.size)) (hr1.keep hbx hbx.size)); clear hv1 hx1 hbx hr1)
      | (go_at_call 30; (with_reducible refine (HPRM.out _ (HE1.out.next HV1.out.1) _ _ _ HV1.out.2).mono ?_); rintro e v3 ⟨rfl, hv3⟩; have q3 := box_cell (v := .slice ma mn mc) rfl hv3; have HV3 := Zh (Zi (HV1.out.1.trans (hv3.mono HV1.out.1.size)) (HV1.out.2.keep hv3 hv3.size)); clear hv3)
      | (go_at_call 31; (with_reducible refine (HPM.out _ (HE1.out.next HV3.out.1).v).mono ?_); rintro e v4 ⟨ka, kn, kc, rfl, hr4, hv4⟩; have hbx := (box1 v4 #[.slice ka kn kc] 53).1; have hx4 := HV3.out.1.trans (hv4.mono HV3.out.1.size); have q4 := cellA ((hv4.cell (Zb _ _ q3)).trans q3) (.cells #[.slice ka kn kc] 53); have HV4 := Zh (Zi (hx4.trans (hbx.mono hx4.size)) (Zi (hr4.keep hbx hbx.size) ((HV3.out.2.keep hv4 hv4.size).keep hbx hbx.size))); clear hv4 hx4 hbx hr4)
      | (go_at_call 32; (with_reducible refine (same_at _ _ _ _ _ _ _ HV4.out.2.1 HV4.out.2.2).mono ?_); rintro e v6 ⟨rfl, hv6⟩; have HV6 := Zh (HV4.out.1.trans (hv6.mono HV4.out.1.size)); clear hv6)
      | (go_at_call 28; (with_reducible refine (HAL.out _ HV6.out).mono ?_); rintro e v7 ⟨rfl, hv7⟩; have HV7 := Zh (HV6.out.trans (hv7.mono HV6.out.size)); clear hv7)
      | fail)
     go_ret
     exact ⟨rfl, HB.out.trans (HV7.out.mono HB.out.size)⟩
    ·have hpm := fun wq hE => parse_good (s := ⟨#[]⟩) (l := []) (by kernel_rfl) wq hE
     have hprm := fun wq hk => print_at (s := ⟨#[]⟩) hm wq hk
     have HPM := Zh hpm; have HPRM := Zh hprm
     clear hpm hprm hm hpt
     go_wp2_with (first
      | (go_at_call 31; (with_reducible refine HP.out.mono ?_); rintro e v1 ⟨ma, mn, mc, rfl, hr1, hv1⟩; have hx1 := HB7.out.trans (hv1.mono HB7.out.size); have hbx := (box1 v1 #[.slice ma mn mc] 53).1; have HV1 := Zh (Zi (hx1.trans (hbx.mono hx1.size)) (hr1.keep hbx hbx.size)); clear hv1 hx1 hbx hr1)
      | (go_at_call 30; (with_reducible refine (HPRM.out _ (HE1.out.next HV1.out.1) _ _ _ HV1.out.2).mono ?_); rintro e v3 ⟨rfl, hv3⟩; have HV3 := Zh (HV1.out.1.trans (hv3.mono HV1.out.1.size)); clear hv3)
      | (go_at_call 31; (with_reducible refine (HPM.out _ (HE1.out.next HV3.out).v).mono ?_); rintro e v4 ⟨ka, kn, kc, rfl, hr4, hv4⟩; have hbx := (box1 v4 #[.slice ka kn kc] 53).1; have hx4 := HV3.out.trans (hv4.mono HV3.out.size); have HV4 := Zh (hx4.trans (hbx.mono hx4.size)); clear hv4 hx4 hbx hr4)
      | (go_at_call 28; (with_reducible refine (HAL.out _ HV4.out).mono ?_); rintro e v7 ⟨rfl, hv7⟩; have HV7 := Zh (HV4.out.trans (hv7.mono HV4.out.size)); clear hv7)
      | fail)
     go_ret
     exact ⟨rfl, HB.out.trans (HV7.out.mono HB.out.size)⟩
  ·have hs := printV_err (l := nm) (by rw [HT.out]; exact hc0)
   rw [HT.out] at hs
   have hs0 : s = ⟨#[]⟩ := toL_injS hs
   subst hs0
   have hc : (c0 == 0) = false := beq_eq_false_iff_ne.2 hc0
   clear hs hc0
   go_upto_region 11 with (go_at_call 30; (with_reducible refine (HPR.out w2 HB2.out _ _ _ (HR.out.keep HB2.out HB2.out.size)).mono ?_); rintro e w3 ⟨rfl, hb3⟩; have HB3 := Zh (HB2.out.trans (hb3.mono HB2.out.size)); clear hb3)
   clear z2
   cases hpt : parseV (toL text) with
   | error f =>
    have hp := parse_bad hpt w3 (HE1.out.next HB3.out).v
    have HP := Zh hp; clear hp hpt
    go_wp2_with (first
     | (go_at_call 31; (with_reducible refine HP.out.mono ?_); rintro e v1 ⟨p, rfl, hv1⟩; have hx1 := HB3.out.trans (hv1.mono HB3.out.size); have HV1 := Zh (hx1.alloc hx1.size (.cells #[.slice none 0 0] 53)); clear hv1 hx1)
     | (go_at_call 28; (with_reducible refine (HAL.out _ HV1.out).mono ?_); rintro e v2 ⟨rfl, hv2⟩; have HV2 := Zh (HV1.out.trans (hv2.mono HV1.out.size)); clear hv2)
     | fail)
    go_ret
    exact ⟨rfl, HB.out.trans (HV2.out.mono HB.out.size)⟩
   | ok m =>
    have hp := parse_good hpt w3 (HE1.out.next HB3.out).v
    have htl := parse_len hpt
    rw [show (toL text).length = text.size from Lib.size_eq text] at htl
    have HP := Zh hp; clear hp
    rcases print_parsed hpt with ⟨hm, hlen⟩ | hm
    ·obtain ⟨t, ht⟩ : ∃ t : ByteArray, nameP m = toL t := ⟨baOf (nameP m), by simp [baOf, toL]⟩
     rw [ht] at hm hlen
     rw [show (toL t).length = t.size from Lib.size_eq t, show (toL text).length = text.size from Lib.size_eq text] at hlen
     have hpm := fun wq hE => parse_good (parse_print hm) wq hE
     have hprm := fun wq hk => print_at hm wq hk
     have HPM := Zh hpm; have HPRM := Zh hprm
     have k1 : ¬ (3 * (text.size : Int) < (t.size : Int)) := by omega
     clear hpm hprm hm ht hpt hlen
     go_wp2_with (first
      | (go_at_call 31; (with_reducible refine HP.out.mono ?_); rintro e v1 ⟨ma, mn, mc, rfl, hr1, hv1⟩; have hx1 := HB3.out.trans (hv1.mono HB3.out.size); have hbx := (box1 v1 #[.slice ma mn mc] 53).1; have HV1 := Zh (Zi (hx1.trans (hbx.mono hx1.size)) (hr1.keep hbx hbx.size)); clear hv1 hx1 hbx hr1)
      | (go_at_call 30; (with_reducible refine (HPRM.out _ (HE1.out.next HV1.out.1) _ _ _ HV1.out.2).mono ?_); rintro e v3 ⟨rfl, hv3⟩; have q3 := box_cell (v := .slice ma mn mc) rfl hv3; have HV3 := Zh (Zi (HV1.out.1.trans (hv3.mono HV1.out.1.size)) (HV1.out.2.keep hv3 hv3.size)); clear hv3)
      | (go_at_call 31; (with_reducible refine (HPM.out _ (HE1.out.next HV3.out.1).v).mono ?_); rintro e v4 ⟨ka, kn, kc, rfl, hr4, hv4⟩; have hbx := (box1 v4 #[.slice ka kn kc] 53).1; have hx4 := HV3.out.1.trans (hv4.mono HV3.out.1.size); have q4 := cellA ((hv4.cell (Zb _ _ q3)).trans q3) (.cells #[.slice ka kn kc] 53); have HV4 := Zh (Zi (hx4.trans (hbx.mono hx4.size)) (Zi (hr4.keep hbx hbx.size) ((HV3.out.2.keep hv4 hv4.size).keep hbx hbx.size))); clear hv4 hx4 hbx hr4)
      | (go_at_call 32; (with_reducible refine (same_at _ _ _ _ _ _ _ HV4.out.2.1 HV4.out.2.2).mono ?_); rintro e v6 ⟨rfl, hv6⟩; have HV6 := Zh (HV4.out.1.trans (hv6.mono HV4.out.1.size)); clear hv6)
      | (go_at_call 28; (with_reducible refine (HAL.out _ HV6.out).mono ?_); rintro e v7 ⟨rfl, hv7⟩; have HV7 := Zh (HV6.out.trans (hv7.mono HV6.out.size)); clear hv7)
      | fail)
     go_ret
     exact ⟨rfl, HB.out.trans (HV7.out.mono HB.out.size)⟩
    ·have hpm := fun wq hE => parse_good (s := ⟨#[]⟩) (l := []) (by kernel_rfl) wq hE
     have hprm := fun wq hk => print_at (s := ⟨#[]⟩) hm wq hk
     have HPM := Zh hpm; have HPRM := Zh hprm
     clear hpm hprm hm hpt
     go_wp2_with (first
      | (go_at_call 31; (with_reducible refine HP.out.mono ?_); rintro e v1 ⟨ma, mn, mc, rfl, hr1, hv1⟩; have hx1 := HB3.out.trans (hv1.mono HB3.out.size); have hbx := (box1 v1 #[.slice ma mn mc] 53).1; have HV1 := Zh (Zi (hx1.trans (hbx.mono hx1.size)) (hr1.keep hbx hbx.size)); clear hv1 hx1 hbx hr1)
      | (go_at_call 30; (with_reducible refine (HPRM.out _ (HE1.out.next HV1.out.1) _ _ _ HV1.out.2).mono ?_); rintro e v3 ⟨rfl, hv3⟩; have HV3 := Zh (HV1.out.1.trans (hv3.mono HV1.out.1.size)); clear hv3)
      | (go_at_call 31; (with_reducible refine (HPM.out _ (HE1.out.next HV3.out).v).mono ?_); rintro e v4 ⟨ka, kn, kc, rfl, hr4, hv4⟩; have hbx := (box1 v4 #[.slice ka kn kc] 53).1; have hx4 := HV3.out.trans (hv4.mono HV3.out.size); have HV4 := Zh (hx4.trans (hbx.mono hx4.size)); clear hv4 hx4 hbx hr4)
      | (go_at_call 28; (with_reducible refine (HAL.out _ HV4.out).mono ?_); rintro e v7 ⟨rfl, hv7⟩; have HV7 := Zh (HV4.out.trans (hv7.mono HV4.out.size)); clear hv7)
      | fail)
     go_ret
     exact ⟨rfl, HB.out.trans (HV7.out.mono HB.out.size)⟩
 ·have hby : Calls Tryz.prog 29 #[.agg #[.slice a n c]] (w.alloc (.cells #[.slice a n c] 53)) fun e w' => e = .returned (.bool true) ∧ Below (w.alloc (.cells #[.slice a n c] 53)).heap.size (w.alloc (.cells #[.slice a n c] 53)) w' := hby0.mono fun e w' ⟨⟨b, h1, h2⟩, h3⟩ => by
   cases b with
   | true => exact ⟨h1, h3⟩
   | false => exact absurd (h2 rfl) hf
  have HBY := Zh hby; have HB := Zh hb
  clear hby hby0 hb hat h hf hE
  go_enter Tryz.func6, Tryz.ntmps6
  go_wp2_with (go_at_call 29; (with_reducible refine HBY.out.mono ?_); rintro e w2 ⟨rfl, hb2⟩; have HB2 := Zh hb2; clear hb2)
  go_ret
  exact ⟨rfl, HB.out.trans (HB2.out.mono HB.out.size)⟩
end Go.Proofs.YtlmfbjhokkpjhaaGreatDoor
namespace Go.Proofs.YtlmfbjhokkpjhaaGreatDoor
open Go Go.RowKit
theorem trod_iface_inv {H : Type} {enc : TypeId × Value → H} {P : Program} {w : World} {base : Nat} {sp : Nat → Bool} {held : Bool} {fuel : Nat} {t : TypeId} {cs : List Value} {x : DataW H × List MemPlace}
  (hu : ∃ m, P.underlying t = some (.interface m)) (h : DataW.trod enc P w base sp held fuel t cs = some x) : cs = [.nilIface] ∨ ∃ u v, cs = [.iface u v] := by
 obtain ⟨m, hu⟩ := hu
 cases fuel with
 | zero => simp [DataW.trod] at h
 | succ f =>
  unfold DataW.trod at h
  rw [hu] at h
  split at h <;> simp_all
theorem gSyn : Tryz.prog.globalNamed "strconv.ErrSyntax" = some 5 := by kernel_rfl
theorem gSynType : (Tryz.prog.globals[5]?).map (·.type) = some 58 := by kernel_rfl
theorem uErr : ∃ m, Tryz.prog.underlying 58 = some (.interface m) := ⟨_, Tryz.underlying58⟩
theorem env_syn {l : List (String × DataW Unit)} {W : World} (hL : laidMetH Tryz.prog l W) (h1 : (l.filter fun x => x.2.handleName?.isNone).filter (fun x => x.1 == "strconv.ErrSyntax") = [("strconv.ErrSyntax", Rows.laid_strconv_ErrSyntax)]) : SynV W := by
 obtain ⟨ps, ⟨g', t', cs, fuel, p, q, hg', ht', hvar, hd, _, _⟩, _⟩ := laidMetH_filter hL _ h1
 obtain rfl := Option.some.inj (gSyn.symm.trans hg')
 obtain rfl := Option.some.inj (gSynType.symm.trans ht')
 have hc := World.var?_cell gSyn hvar 0
 rcases trod_iface_inv uErr hd with e | ⟨u, v, e⟩
 ·refine ⟨.nilIface, ?_, .inl rfl⟩
  rw [hc, ← Array.getElem?_toList, e]; rfl
 ·refine ⟨.iface u v, ?_, .inr ⟨u, v, rfl⟩⟩
  rw [hc, ← Array.getElem?_toList, e]; rfl
end Go.Proofs.YtlmfbjhokkpjhaaGreatDoor
namespace Go.Proofs.YtlmfbjhokkpjhaaGreatDoor
open Go Go.RowKit Go.ChangeShapes Go.WideShapes Go.Deep
set_option maxRecDepth 100000 in
theorem walk_nback {H : Type} {enc : TypeId × Value → H} {b0 : Nat} {W : World} (v0 : Value) (d0 : DataW H) (p0 : List MemPlace) (ok0 : Value.okWide Tryz.prog W .any b0 53 v0) (h0 : DataW.Trod enc Tryz.prog W 0 (fun _ => true) true 53 v0 d0 p0) (k0 : WOk Tryz.prog 53 d0)
  (text : ByteArray) {q : Prop} (_ : q) (W' : World) (hW : W = W') (hE : EnvK W') :
  Calls Tryz.prog 6 #[v0, .string text] W' fun e w' => e = .returned (.bool true) ∧ Below W'.heap.size W' w' := by
 subst hW
 obtain ⟨a, n, c, nm, rfl, hr⟩ := open_nameW ok0 h0 k0
 exact law_nback a n c nm text W hE hr
end Go.Proofs.YtlmfbjhokkpjhaaGreatDoor
namespace Go.Proofs.YtlmfbjhokkpjhaaGreatDoor
open Go Go.RowKit
theorem rdigit6_any (b : UInt8) (w : World) : Calls Tryz.prog 108 #[.int .u8 (b.toNat : Int)] w fun e w' => e = .returned (.bool (dig b)) ∧ w' = w := by
 have hl : dig b = decide (48 ≤ b.toNat ∧ b.toNat ≤ 57) := rfl
 rw [hl]
 generalize b.toNat = n
 rcases (by omega : n < 48 ∨ (48 ≤ n ∧ n ≤ 57) ∨ 57 < n) with h | ⟨h, h2⟩ | h
 ·have e1 : decide (48 ≤ n ∧ n ≤ 57) = false := by simp; omega
  rw [e1]
  have i1 : ¬ (48 : Int) ≤ n := by omega
  clear e1 h
  go_enter Tryz.func108, Tryz.ntmps108
  go_wp2_with fail
  go_ret
  exact ⟨rfl, rfl⟩
 ·have e1 : decide (48 ≤ n ∧ n ≤ 57) = true := by simp; omega
  rw [e1]
  have i1 : (48 : Int) ≤ n := by omega
  have i3 : (n : Int) ≤ 57 := by omega
  clear e1 h h2
  go_enter Tryz.func108, Tryz.ntmps108
  go_wp2_with fail
  go_ret
  exact ⟨rfl, rfl⟩
 ·have e1 : decide (48 ≤ n ∧ n ≤ 57) = false := by simp; omega
  rw [e1]
  have i1 : (48 : Int) ≤ n := by omega
  have i3 : ¬ (n : Int) ≤ 57 := by omega
  clear e1 h
  go_enter Tryz.func108, Tryz.ntmps108
  go_wp2_with fail
  go_ret
  exact ⟨rfl, rfl⟩
theorem decF_snoc (l : Str) (c : UInt8) (a : Nat) : decF (l ++ [c]) a = decF l a * 10 + (c.toNat - 48) := by unfold decF; rw [List.foldl_append]; rfl
def NumPost (s : ByteArray) (q : Nat) (w : World) (e : Ending) (w' : World) : Prop :=
 w' = w ∧ (∀ t d, countV ((toL s).drop q) = some (t, d) → e = .returned (.tuple #[.int .i64 (t : Nat), .int .i64 ((q + d : Nat) : Int)])) ∧ (countV ((toL s).drop q) = none → ∃ i : Nat, e = .returned (.tuple #[.int .i64 (-1), .int .i64 (i : Nat)]))
theorem num_none {s : ByteArray} {q i : Nat} {w : World} (h : countV ((toL s).drop q) = none) : NumPost s q w (.returned (.tuple #[.int .i64 (-1), .int .i64 (i : Nat)])) w :=
 ⟨rfl, (fun t d e => by rw [h] at e; cases e), fun _ => ⟨i, rfl⟩⟩
theorem num_some {s : ByteArray} {q i x : Nat} {w : World} (h : countV ((toL s).drop q) = some (x, i - q)) (hq : q ≤ i) : NumPost s q w (.returned (.tuple #[.int .i64 (x : Nat), .int .i64 (i : Nat)])) w :=
 ⟨rfl, (fun t d e => by rw [h] at e; cases e; rw [Nat.add_sub_cancel' hq]), fun e => by rw [h] at e; cases e⟩
structure NumR (s : ByteArray) (q E i x : Nat) : Prop where
 lo : q ≤ i
 hi : i ≤ E
 ten : i ≤ q + 10
 val : x = decF (((toL s).drop q).take (i - q)) 0
 bnd : x < 10 ^ (i - q)
theorem NumR.next {s : ByteArray} {q E i x : Nat} (h : NumR s q E i x) (hi : i < E) (ht : i < q + 10) (hz : i < s.size) (hd : dig s[i] = true) : NumR s q E (i + 1) (x * 10 + (s[i].toNat - 48)) := by
 have hc : 48 ≤ s[i].toNat ∧ s[i].toNat ≤ 57 := of_decide_eq_true hd
 have hlo := h.lo
 have e : i + 1 - q = (i - q) + 1 := by omega
 refine ⟨by omega, by omega, by omega, ?_, ?_⟩
 ·rw [e, List.take_add_one, List.getElem?_drop, Nat.add_sub_cancel' hlo, getQ hz]
  show _ = decF (_ ++ [s[i]]) 0
  rw [decF_snoc, ← h.val]
 ·rw [e, Nat.pow_succ]
  have := h.bnd
  omega
set_option maxRecDepth 20000 in
set_option maxHeartbeats 4000000 in
theorem rnumber_any (s : ByteArray) (q : Nat) (w : World) (hs : s.size ≤ 4294967280) (hq : q ≤ s.size) : Calls Tryz.prog 64 #[.string s, .int .i64 (q : Nat)] w (NumPost s q w) := by
 have hin := fun i h2 h3 => @tw_in dig s q i h2 h3
 obtain ⟨ho1, ho2⟩ := @tw_out dig s q hq
 have hcv := countV_eq ((toL s).drop q)
 have hhd : ((toL s).drop q).head? = (toL s)[q]? := by rw [List.head?_drop]
 rw [hhd] at hcv
 have hE : twEnd dig (toL s) q = q + (((toL s).drop q).takeWhile dig).length := rfl
 have htk : ((toL s).drop q).takeWhile dig = ((toL s).drop q).take (((toL s).drop q).takeWhile dig).length := (take_takeWhile2 dig _).symm
 generalize ((toL s).drop q).takeWhile dig = D at hcv hE htk
 generalize twEnd dig (toL s) q = E at hin ho1 ho2 hE
 have hle : q ≤ E := by omega
 have hDE : D.length = E - q := by omega
 rw [hDE] at hcv htk
 have HIN := Zh hin; have HO := Zh ho2; have HCV := Zh hcv; have HTK := Zh htk
 clear hin ho2 hcv htk hhd hE hDE
 go_enter Tryz.func64, Tryz.ntmps64
 go_wp2_with fail
 go_loopw [6, 7] (fun nv iv wr => wr = w ∧ ∃ (i x : Nat), nv = .int .i64 (x : Nat) ∧ iv = .int .i64 (i : Nat) ∧ NumR s q E i x) (fun _ iv _ => E - (intOf iv).toNat)
 case atStart => exact ⟨rfl, q, 0, rfl, rfl, Zr _, hle, by omega, by simp [decF], by simp⟩
 case round =>
  obtain ⟨rfl, i, x, rfl, rfl, hr⟩ := hrel
  have hlo := hr.lo
  have hhi := hr.hi
  have hten := hr.ten
  have hbnd := hr.bnd
  have hval := hr.val
  have HR := Zh hr; clear hr
  have hx10 : x < 10000000000 := by
   have : 10 ^ (i - q) ≤ 10 ^ 10 := Nat.pow_le_pow_right (by decide) (by omega)
   have h10 : (10 : Nat) ^ 10 = 10000000000 := by decide
   omega
  have HVAL := Zh hval
  clear hbnd hval
  have q3 : (0 : Int) ≤ (q : Int) := by omega
  have d3 : (0 : Int) ≤ (i : Int) := by omega
  by_cases hlt : i < E
  ·obtain ⟨hz, hb⟩ := HIN.out i hlo hlt
   have hc := fun w => rdigit6_any (s[i]'hz) w
   have hN := fun ht => HR.out.next hlt ht hz hb
   have hc9 : 48 ≤ (s[i]'hz).toNat ∧ (s[i]'hz).toNat ≤ 57 := of_decide_eq_true hb
   rw [hb] at hc
   have HC := Zh hc; clear hc hb
   have d2 : (i : Int) < (s.size : Int) := by omega
   generalize hbb : (s[i]'hz) = bb at HC hN hc9
   have HN := Zh hN; clear hN
   obtain ⟨c1, c2⟩ := hc9
   by_cases ht : i < q + 10
   ·have t1 : (i : Int) - (q : Int) < 10 := by omega
    have u1 : (48 : Int) ≤ (bb.toNat : Int) := by omega
    have u2 : (bb.toNat : Int) ≤ 57 := by omega
    have hx9 : x < 1000000000 := by
     have h1 := HR.out.bnd
     have : 10 ^ (i - q) ≤ 10 ^ 9 := Nat.pow_le_pow_right (by decide) (by omega)
     have h10 : (10 : Nat) ^ 9 = 1000000000 := by decide
     omega
    go_wp2_with (go_at_call 108; with_reducible refine (HC.out _).mono ?_; rintro e w1 ⟨rfl, rfl⟩)
    refine ⟨⟨trivial, i + 1, x * 10 + (bb.toNat - 48), ?_, by simp, HN.out ht⟩, by simp [intOf]; omega⟩
    congr 1; omega
   ·have t1 : ¬ (i : Int) - (q : Int) < 10 := by omega
    have t2 : (9 : Int) < (i : Int) - (q : Int) := by omega
    have t3 : ((i : Int) == (q : Int)) = false := by simp; omega
    have hn : countV ((toL s).drop q) = none := by rw [HCV.out, if_pos (.inr (.inl (by omega)))]
    have HNO := Zh hn; clear hn
    go_wp2_with (go_at_call 108; with_reducible refine (HC.out _).mono ?_; rintro e w1 ⟨rfl, rfl⟩)
    go_ret2
    exact num_none HNO.out
  ·obtain rfl : i = E := by omega
   by_cases hz : i < s.size
   ·have hb := HO.out hz
    have hc := fun w => rdigit6_any (s[i]'hz) w
    rw [hb] at hc
    have HC := Zh hc; clear hc hb
    have d2 : (i : Int) < (s.size : Int) := by omega
    generalize hbb : (s[i]'hz) = bb at HC
    by_cases h0 : i = q
    ·have hn : countV ((toL s).drop q) = none := by rw [HCV.out, if_pos (.inl (by omega))]
     have HNO := Zh hn; clear hn
     subst h0
     go_wp2_with (go_at_call 108; with_reducible refine (HC.out _).mono ?_; rintro e w1 ⟨rfl, rfl⟩)
     go_ret2
     exact num_none HNO.out
    ·have f0 : ((i : Int) == (q : Int)) = false := by simp; omega
     by_cases h9 : 9 < i - q
     ·have hn : countV ((toL s).drop q) = none := by rw [HCV.out, if_pos (.inr (.inl (by omega)))]
      have HNO := Zh hn; clear hn
      have f9 : (9 : Int) < (i : Int) - (q : Int) := by omega
      go_wp2_with (go_at_call 108; with_reducible refine (HC.out _).mono ?_; rintro e w1 ⟨rfl, rfl⟩)
      go_ret2
      exact num_none HNO.out
     ·have f9 : ¬ (9 : Int) < (i : Int) - (q : Int) := by omega
      have hz0 : q < s.size := by omega
      have z0 : (q : Int) < (s.size : Int) := by omega
      obtain ⟨c, hc⟩ : ∃ c, s[q]'hz0 = c := ⟨_, rfl⟩
      have hhd : (toL s)[q]? = some c := by rw [getQ hz0, hc]
      by_cases hbad : c = 48 ∧ 1 < i - q
      ·obtain ⟨h48, h1⟩ := hbad
       have hn : countV ((toL s).drop q) = none := by rw [HCV.out, if_pos (.inr (.inr ⟨by rw [hhd, h48], h1⟩))]
       have HNO := Zh hn
       have f1 : (1 : Int) < (i : Int) - (q : Int) := by omega
       subst h48
       clear hn hhd
       go_wp2_with (go_at_call 108; with_reducible refine (HC.out _).mono ?_; rintro e w1 ⟨rfl, rfl⟩)
       go_ret2
       exact num_none HNO.out
      ·have hn : countV ((toL s).drop q) = some (x, i - q) := by
        rw [HCV.out, if_neg, HTK.out, ← HVAL.out]
        rw [hhd]
        rintro (h | h | ⟨h, h2⟩)
        ·omega
        ·exact h9 h
        ·exact hbad ⟨Option.some.inj h, h2⟩
       have HNO := Zh hn
       clear hn hhd
       by_cases h48 : c = 48
       ·have h1 : ¬ 1 < i - q := fun h => hbad ⟨h48, h⟩
        have f1 : ¬ (1 : Int) < (i : Int) - (q : Int) := by omega
        subst h48
        clear hbad
        go_wp2_with (go_at_call 108; with_reducible refine (HC.out _).mono ?_; rintro e w1 ⟨rfl, rfl⟩)
        go_ret2
        exact num_some HNO.out hlo
       ·have e48 : (((c.toNat : Nat) : Int) == 48) = false := u8_ne (c := 48) h48
        clear hbad
        go_wp2_with (go_at_call 108; with_reducible refine (HC.out _).mono ?_; rintro e w1 ⟨rfl, rfl⟩)
        go_ret2
        exact num_some HNO.out hlo
   ·have d1 : decide ((i : Int) < (s.size : Int)) = false := by simp; omega
    by_cases h0 : i = q
    ·have hn : countV ((toL s).drop q) = none := by rw [HCV.out, if_pos (.inl (by omega))]
     have HNO := Zh hn; clear hn
     subst h0
     go_wp2_with fail
     go_ret2
     exact num_none HNO.out
    ·have f0 : ((i : Int) == (q : Int)) = false := by simp; omega
     by_cases h9 : 9 < i - q
     ·have hn : countV ((toL s).drop q) = none := by rw [HCV.out, if_pos (.inr (.inl (by omega)))]
      have HNO := Zh hn; clear hn
      have f9 : (9 : Int) < (i : Int) - (q : Int) := by omega
      go_wp2_with fail
      go_ret2
      exact num_none HNO.out
     ·have f9 : ¬ (9 : Int) < (i : Int) - (q : Int) := by omega
      have hz0 : q < s.size := by omega
      have z0 : (q : Int) < (s.size : Int) := by omega
      obtain ⟨c, hc⟩ : ∃ c, s[q]'hz0 = c := ⟨_, rfl⟩
      have hhd : (toL s)[q]? = some c := by rw [getQ hz0, hc]
      by_cases hbad : c = 48 ∧ 1 < i - q
      ·obtain ⟨h48, h1⟩ := hbad
       have hn : countV ((toL s).drop q) = none := by rw [HCV.out, if_pos (.inr (.inr ⟨by rw [hhd, h48], h1⟩))]
       have HNO := Zh hn
       have f1 : (1 : Int) < (i : Int) - (q : Int) := by omega
       subst h48
       clear hn hhd
       go_wp2_with fail
       go_ret2
       exact num_none HNO.out
      ·have hn : countV ((toL s).drop q) = some (x, i - q) := by
        rw [HCV.out, if_neg, HTK.out, ← HVAL.out]
        rw [hhd]
        rintro (h | h | ⟨h, h2⟩)
        ·omega
        ·exact h9 h
        ·exact hbad ⟨Option.some.inj h, h2⟩
       have HNO := Zh hn
       clear hn hhd
       by_cases h48 : c = 48
       ·have h1 : ¬ 1 < i - q := fun h => hbad ⟨h48, h⟩
        have f1 : ¬ (1 : Int) < (i : Int) - (q : Int) := by omega
        subst h48
        clear hbad
        go_wp2_with fail
        go_ret2
        exact num_some HNO.out hlo
       ·have e48 : (((c.toNat : Nat) : Int) == 48) = false := u8_ne (c := 48) h48
        clear hbad
        go_wp2_with fail
        go_ret2
        exact num_some HNO.out hlo
end Go.Proofs.YtlmfbjhokkpjhaaGreatDoor
