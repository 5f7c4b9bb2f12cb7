/- Part 43 of the walks and plain laws, joined: LawNS, OpenNS. -/
import Derived.Test.YtlmfbjhokkpjhaaGreatDoorNB00
import Derived.Test.YtlmfbjhokkpjhaaGreatDoorNB42
import Derived.Test.YtlmfbjhokkpjhaaGreatDoorNB40
import Derived.Test.YtlmfbjhokkpjhaaGreatDoorNB41
set_option linter.unusedVariables false
set_option linter.unusedSimpArgs false
namespace Go.Proofs.YtlmfbjhokkpjhaaGreatDoor
open Go Go.RowKit
theorem steps_count (s : ByteArray) : (stepsOf (toL s)).length ≤ s.size := by
 have hz : (toL s).length = s.size := Lib.size_eq s
 have key : ∀ (f : Nat) (l : Str) (r : List Str), stepsV f l = some r → r.length ≤ l.length := by
  intro f
  induction f with
  | zero =>
   intro l r h
   unfold stepsV at h
   split at h
   ·cases h; simp
   ·cases h
  | succ f ih =>
   intro l r h
   unfold stepsV at h
   split at h
   ·cases h; simp
   ·split at h
    ·cases h
    ·rename_i k hk
     obtain ⟨h1, h2⟩ := stepV_le _ _ _ _ hk
     cases hs : stepsV f (l.drop k) with
     | none => rw [hs] at h; cases h
     | some r2 =>
      rw [hs] at h
      cases h
      have := ih _ _ hs
      simp at this ⊢
      omega
 unfold stepsOf
 cases h : stepsV ((toL s).length + 1) (toL s) with
 | none => simp
 | some r => have := key _ _ _ h; simp; omega
theorem lies_self (s : ByteArray) : liesV (toL s) (toL s) = false := by unfold liesV; simp
theorem Own.next6 {w w' : World} {e sz n cap : Nat} {go : Option Nat} {xs : List Value} (h : Own w e sz go n cap xs) (k : Below w.heap.size w w') : Own w' e sz go n cap xs :=
 h.keep fun g hg => by subst hg; exact k.block g h.row.lt
structure Spoilt (w1 w5 wr : World) (go : Option Nat) (n cap : Nat) (us : List ByteArray) : Prop where
 own : Own wr 9 1 go n cap (us.map Value.string)
 chg : Chg (fun k => go = some k) w5 wr
theorem Spoilt.set {w1 w5 wr : World} {g n cap i : Nat} {us : List ByteArray} (h : Spoilt w1 w5 wr (some g) n cap us) (hi : i < us.length) (x : ByteArray) : Spoilt w1 w5 (wr.setCell ⟨g, i, none⟩ (.string x)) (some g) n cap (us.set i x) := by
 refine ⟨?_, h.chg.setCell (fun _ => rfl) _⟩
 have hr := h.own.row.set (j := i) (by rw [List.length_map]; exact hi) (.string x)
 rw [← List.map_set] at hr
 exact Own.mk hr (by have := h.own.len; simpa using this) h.own.le
theorem Spoilt.vec {w1 w2 w5 wr : World} {go : Option Nat} {n cap : Nat} {vs us : List ByteArray} (h : Spoilt w1 w5 wr go n cap us) (hv : Vec 9 1 w1 w2 go n cap (vs.map Value.string)) (hb : Below w2.heap.size w2 w5) : Vec 9 1 w1 wr go n cap (us.map Value.string) :=
 ⟨h.own, hv.fresh, (hv.next hb).below.trans (h.chg.below ((hv.next hb).size) fun k hk e => by have := hv.fresh k e; omega)⟩
theorem Spoilt.other {w1 w5 wr w7 : World} {go go2 : Option Nat} {n cap n2 cap2 : Nat} {us vs : List ByteArray} {o : Obj} (h : Spoilt w1 w5 wr go n cap us) (k : Own w5 9 1 go2 n2 cap2 (vs.map Value.string)) (hg : (wr.alloc o).grownBy w7 go) (hne : ∀ g, go2 = some g → go ≠ some g) : Own w7 9 1 go2 n2 cap2 (vs.map Value.string) := by
 refine k.keep fun g e => ?_
 subst e
 have hlt := k.row.lt
 have hs := h.chg.size
 rw [hg.block g (by simp; omega) (fun e => hne g rfl e.symm), Below.heap_alloc _ _ _ (by omega)]
 exact h.chg.block g hlt (hne g rfl)
set_option maxRecDepth 20000 in
set_option maxHeartbeats 8000000 in
theorem law_nsteps (s t : ByteArray) (w : World) (hE : EnvK w) (hs : s.size ≤ 1048576) (ht : t.size ≤ 1048576) :
  Calls Tryz.prog 5 #[.string s, .string t] w fun e w' => e = .returned (.bool true) ∧ Below w.heap.size w w' := by
 obtain ⟨vs, hvs⟩ := steps_list s
 have hcnt := steps_count s
 have hln : vs.length = (stepsOf (toL s)).length := by rw [← hvs, List.length_map]
 obtain ⟨n, hn⟩ : ∃ n, n = vs.length := ⟨_, rfl⟩
 have hn1 : n ≤ 1048576 := by omega
 have hr := fun w => (rsteps_any s w (by omega)).mono fun e w' h => h.at hvs hn
 have hm := fun w => (nsteps_any s w (by omega)).mono fun e w' h => h.at hvs hn
 have hl1 := fun w => nlies_any s t w (by omega) (by omega)
 have hl2 := fun w => rlies_any s t w (by omega) (by omega)
 have hl3 := fun w => nlies_any t s w (by omega) (by omega)
 have hl4 := fun w => rlies_any t s w (by omega) (by omega)
 have hl5 := fun w => nlies_any s s w (by omega) (by omega)
 rw [lies_self] at hl5
 generalize liesV (toL s) (toL t) = b1 at hl1 hl2
 generalize liesV (toL t) (toL s) = b2 at hl3 hl4
 have heq := fun a1 a2 c1 c2 w h1 h2 => texts6_eq a1 a2 n c1 c2 vs w hn (by omega) h1 h2
 have hal := fun w' (hb : Below w.heap.size w w') => alive_any6 w' (hE.next hb)
 have HR := Zh hr; have HM := Zh hm; have HL1 := Zh hl1; have HL2 := Zh hl2; have HL3 := Zh hl3; have HL4 := Zh hl4; have HL5 := Zh hl5; have HEQ := Zh heq; have HAL := Zh hal; have HN := Zh hn
 clear hr hm hl1 hl2 hl3 hl4 hl5 heq hal hvs hcnt hln hn hE
 have hb1 : (b1 != b1) = false := by cases b1 <;> rfl
 have hb2 : (b2 != b2) = false := by cases b2 <;> rfl
 go_enter Tryz.func5, Tryz.ntmps5
 go_upto_region 4 with (first
  | (go_at_call 23; (with_reducible refine (HR.out _).mono ?_); rintro e w1 ⟨g0, c0, rfl, hv0⟩; have HV0 := Zh hv0; clear hv0; unfold sv)
  | (go_at_call 24; (with_reducible refine (HM.out w1).mono ?_); rintro e w2 ⟨g1, c1, rfl, hv1⟩; have HV1 := Zh hv1; clear hv1; unfold sv)
  | (go_at_call 24; (with_reducible refine (HM.out w2).mono ?_); rintro e w3 ⟨g2, c2, rfl, hv2⟩; have HV2 := Zh hv2; clear hv2; unfold sv)
  | fail)
 have h0 := ((HV0.out.next HV1.out.below).next HV2.out.below).own
 have h1 := HV1.out.next HV2.out.below
 have h2 := HV2.out.own
 have H3 := Zh (Zi h0 (Zi h1 h2))
 clear h0 h1 h2
 go_upto_region 6 with (first
  | (go_at_call 25; (with_reducible refine (HEQ.out _ _ _ _ w3 H3.out.2.1.own.scells6 H3.out.1.scells6).mono ?_); rintro e w4 ⟨rfl, hb4⟩; have HB4 := Zh hb4; clear hb4)
  | (go_at_call 25; (with_reducible refine (HEQ.out _ _ _ _ w4 (H3.out.2.2.next6 HB4.out).scells6 (H3.out.1.next6 HB4.out).scells6).mono ?_); rintro e w5 ⟨rfl, hb5⟩; have HB5 := Zh (HB4.out.trans (hb5.mono HB4.out.size)); clear hb5)
  | (go_at_call 26; (with_reducible refine (HL1.out w5).mono ?_); rintro e w6 ⟨rfl, hb6⟩; have HB6 := Zh (HB5.out.trans (hb6.mono HB5.out.size)); clear hb6)
  | (go_at_call 27; (with_reducible refine (HL2.out w6).mono ?_); rintro e w7 ⟨rfl, hb7⟩; have HB7 := Zh (HB6.out.trans (hb7.mono HB6.out.size)); clear hb7)
  | (go_at_call 26; (with_reducible refine (HL3.out w7).mono ?_); rintro e w8 ⟨rfl, hb8⟩; have HB8 := Zh (HB7.out.trans (hb8.mono HB7.out.size)); clear hb8)
  | (go_at_call 27; (with_reducible refine (HL4.out w8).mono ?_); rintro e w9 ⟨rfl, hb9⟩; have HB9 := Zh (HB8.out.trans (hb9.mono HB8.out.size)); clear hb9)
  | (go_at_call 26; (with_reducible refine (HL5.out w9).mono ?_); rintro e wa ⟨rfl, hba⟩; have HBA := Zh (HB9.out.trans (hba.mono HB9.out.size)); clear hba)
  | fail)
 go_wp2_with fail
 go_loopw [8] (fun iv wr => ∃ (i : Nat) (us : List ByteArray), iv = .int .i64 (i : Nat) ∧ i ≤ n ∧ us.length = n ∧ Spoilt w1 wa wr g1 n c1 us) (fun iv _ => n - (intOf iv).toNat)
 case atStart => exact ⟨0, vs, rfl, Nat.zero_le _, HN.out.symm, (H3.out.2.1.next HBA.out).own, Chg.refl _ _⟩
 case round =>
  obtain ⟨i, us, rfl, hin, hul, hsp⟩ := hrel
  have HUL := Zh hul; have HSP := Zh hsp
  clear hul hsp
  by_cases hi : i < n
  ·have i2 : (i : Int) < (n : Int) := by omega
   have i3 : (0 : Int) ≤ (i : Int) := by omega
   obtain ⟨g, rfl⟩ := HV1.out.ptr (by omega)
   have hu : i < us.length := by have := HUL.out; omega
   obtain ⟨ux, hux⟩ : ∃ x, us[i] = x := ⟨_, rfl⟩
   have hc := HSP.out.own.row.cell (j := i) (v := .string ux) (by rw [List.getElem?_map, List.getElem?_eq_getElem hu, hux]; rfl)
   clear hux
   have hf := HSP.out.own.row.frozen i
   have HS := Zh (HSP.out.set hu ⟨#[35]⟩)
   have HU := Zh hu
   clear hu
   go_wp2_with fail
   exact ⟨⟨i + 1, us.set i ⟨#[35]⟩, by simp, by omega, by rw [List.length_set]; exact HUL.out, HS.out⟩, by simp [intOf]; omega⟩
  ·have i2 : ¬ (i : Int) < (n : Int) := by omega
   have hvr := HSP.out.vec HV1.out (HV2.out.below.trans (HBA.out.mono HV2.out.size))
   have HVR := Zh hvr; clear hvr
   go_wp2_with (first
    | (at_builtin; go_loud (refine HVR.out.push eiStr rfl _ _ rfl rfl 1 [.string ⟨#[109, 111, 114, 101]⟩] #[.string ⟨#[109, 111, 114, 101]⟩] rfl rfl rfl (fun u hu => by simp at hu; subst hu; rfl) (by omega) (n + 1) rfl (by omega) ?_); intro gl cap2 wb hvb hgb; have HVB := Zh (Zi hvb hgb); clear hvb hgb)
    | (go_at_call 25; (with_reducible refine (HEQ.out _ _ _ _ wb (HSP.out.other (H3.out.2.2.next6 HBA.out) HVB.out.2 (fun g e1 e2 => by have h1 := HV2.out.fresh g e1; have h2 := HV1.out.own; rw [e2] at h2; have h3 := h2.row.lt; omega)).scells6 (HSP.out.other (H3.out.1.next6 HBA.out) HVB.out.2 (fun g e1 e2 => by have h1 := HV1.out.fresh g e2; have h2 := HV0.out.own; rw [e1] at h2; have h3 := h2.row.lt; omega)).scells6).mono ?_); rintro e wd ⟨rfl, hbd⟩; have hw1 := HV0.out.below.trans ((HVB.out.1.below.trans (hbd.mono HVB.out.1.size)).mono HV0.out.size); have HBD := Zh hw1; clear hbd hw1)
    | (go_at_call 28; (with_reducible refine (HAL.out _ HBD.out).mono ?_); rintro e we ⟨rfl, hbe⟩; have HBE := Zh (HBD.out.trans (hbe.mono HBD.out.size)); clear hbe)
    | fail)
   go_ret
   exact ⟨by simp, HBE.out⟩
end Go.Proofs.YtlmfbjhokkpjhaaGreatDoor
namespace Go.Proofs.YtlmfbjhokkpjhaaGreatDoor
open Go Go.RowKit Go.ChangeShapes Go.WideShapes Go.Deep
theorem walk_nsteps {H : Type} (s : ByteArray) {q : Prop} (_ : q) (t : ByteArray) {r : Prop} (_ : r) (W : World) (hE : EnvK W) (hk : Rows.uptoSmall H [.lit (.string s.data.toList), .lit (.string t.data.toList)] = true) :
  Calls Tryz.prog 5 #[.string s, .string t] W fun e w' => e = .returned (.bool true) ∧ Below W.heap.size W w' := by
 have h2 : Rows.uptoBulkAll ([.lit (.string s.data.toList), .lit (.string t.data.toList)] : List (DataW H)) ≤ 1048576 := of_decide_eq_true hk
 simp only [Rows.uptoBulkAll, Rows.uptoBulk] at h2
 have h3 : s.data.toList.length = s.size := Lib.size_eq s
 have h4 : t.data.toList.length = t.size := Lib.size_eq t
 exact law_nsteps s t W hE (by omega) (by omega)
end Go.Proofs.YtlmfbjhokkpjhaaGreatDoor
