/- Part 25 of the walks and plain laws, joined: Kind, CountC. -/
import Derived.Test.YtlmfbjhokkpjhaaGreatDoorNM00
import Derived.Test.YtlmfbjhokkpjhaaGreatDoorNM24
import Derived.Test.YtlmfbjhokkpjhaaGreatDoorNM22
import Derived.Test.YtlmfbjhokkpjhaaGreatDoorShelfS
import Derived.Deep.DeepCutAuto
import Derived.Lib.AtoiAll
import Derived.Lib.AtoiAllCases
import Derived.Lib.AtoiErrMem
import Derived.BigQuiet
import Derived.BigRegion
set_option linter.unusedVariables false
set_option linter.unusedSimpArgs false
namespace Go.Proofs.YtlmfbjhokkpjhaaGreatDoor
open Go Go.RowKit
theorem getQ {s : ByteArray} {q : Nat} (h : q < s.size) : (toL s)[q]? = some s[q] := by
 unfold toL
 have h8 := congrArg (·[0]?) (drop_at s h)
 simpa using h8
theorem getQ_none {s : ByteArray} {q : Nat} (h : ¬ q < s.size) : (toL s)[q]? = none := by
 have := Lib.size_eq s
 exact List.getElem?_eq_none (by unfold toL; omega)
theorem kind_let {s : ByteArray} {p : Nat} (hp : p < s.size) (hl : isLet s[p] = true) : kindN ((toL s).drop p) = (twEnd tailC (toL s) p - p, (toL s)[twEnd tailC (toL s) p]? == some 61) := by
 have hd : (toL s).drop p = s[p] :: (toL s).drop (p + 1) := by unfold toL; exact drop_at s hp
 have e : kindN ((toL s).drop p) = ((((toL s).drop p).takeWhile tailC).length, ((toL s).drop p)[(((toL s).drop p).takeWhile tailC).length]? == some 61) := by
  rw [hd]
  unfold kindN
  simp only [hl, if_true]
 rw [e, List.getElem?_drop]
 unfold twEnd
 rw [Nat.add_sub_cancel_left]
theorem kind_num {s : ByteArray} {p : Nat} (hl : ∀ hp : p < s.size, isLet s[p] = false) : ∃ f, s.size - p + 1 ≤ f ∧ oidN f ((toL s).drop p) 0 true = kindN ((toL s).drop p) := by
 have hz : (toL s).length = s.size := Lib.size_eq s
 refine ⟨((toL s).drop p).length + 1, by rw [List.length_drop, hz]; exact Zr _, ?_⟩
 by_cases hp : p < s.size
 ·have hd : (toL s).drop p = s[p] :: (toL s).drop (p + 1) := by unfold toL; exact drop_at s hp
  rw [hd]
  unfold kindN
  simp only [hl hp, if_false, Bool.false_eq_true]
 ·have hd : (toL s).drop p = [] := List.drop_eq_nil_of_le (by omega)
  rw [hd]
  rfl
def dN (s : ByteArray) (q : Nat) : Nat := if (toL s)[q]? = some 48 then 1 else twEnd dig (toL s) q - q
theorem oid_step {s : ByteArray} {p q f : Nat} (one : Bool) (hpq : p ≤ q) : oidN (f + 1) ((toL s).drop q) (q - p) one =
  if dN s q = 0 then (q - p, false)
  else if (toL s)[q + dN s q]? = some 46 then oidN f ((toL s).drop (q + dN s q + 1)) (q + dN s q + 1 - p) false
  else if one then (q + dN s q - p, false)
  else (q + dN s q - p, (toL s)[q + dN s q]? == some 61) := by
 have e1 : ((toL s).drop q).head? = (toL s)[q]? := by simp [List.head?_eq_getElem?]
 have e2 : (if ((toL s).drop q).head? = some 48 then 1 else (((toL s).drop q).takeWhile dig).length) = dN s q := by
  unfold dN twEnd
  rw [e1, Nat.add_sub_cancel_left]
 rw [oidN]
 simp only [e2]
 generalize dN s q = d
 simp only [List.getElem?_drop, List.drop_drop]
 rw [show q - p + d + 1 = q + d + 1 - p by omega, show q - p + d = q + d - p by omega, show q + (d + 1) = q + d + 1 by omega]
def KindPost (w : World) (g : Nat) (s : ByteArray) (p : Nat) (bad : Option Addr) (k : Nat × Bool) (e : Ending) (w' : World) : Prop :=
 (k.2 = true → e = .returned (.string (s.extract p (p + k.1))) ∧ Rd w' g s (p + k.1 + 1) bad ∧ Chg (· = g) w w') ∧
 (k.2 = false → e = .returned (.string ⟨#[]⟩) ∧ RdBad w g s (stuckAt (toL s) (p + k.1)) w')
theorem KindPost.yes {w w' : World} {g : Nat} {s : ByteArray} {p q : Nat} {bad : Option Addr} {k : Nat × Bool} {e : Ending} (hk : k = (q - p, (toL s)[q]? == some 61)) (hpq : p ≤ q) (hq : q < s.size) (h61 : s[q] = 61) (he : e = .returned (.string (s.extract p q))) (h : Rd w' g s (q + 1) bad) (hc : Chg (· = g) w w') : KindPost w g s p bad k e w' := by
 rw [getQ hq, h61] at hk
 subst hk
 refine ⟨fun _ => ?_, fun h => by simp at h⟩
 show e = .returned (.string (s.extract p (p + (q - p)))) ∧ Rd w' g s (p + (q - p) + 1) bad ∧ _
 rw [show p + (q - p) = q by omega]
 exact ⟨he, h, hc⟩
theorem KindPost.no {w w' : World} {g : Nat} {s : ByteArray} {p q : Nat} {bad : Option Addr} {k : Nat × Bool} {e : Ending} (hk : k = (q - p, false)) (hpq : p ≤ q) (he : e = .returned (.string ⟨#[]⟩)) (h : RdBad w g s (stuckAt (toL s) q) w') : KindPost w g s p bad k e w' := by
 subst hk
 refine ⟨fun h => by simp at h, fun _ => ?_⟩
 show _ ∧ RdBad w g s (stuckAt (toL s) (p + (q - p))) w'
 rw [show p + (q - p) = q by omega]
 exact ⟨he, h⟩
theorem kn_no {s : ByteArray} {k : Nat × Bool} {p q : Nat} (hk : k = (q - p, (toL s)[q]? == some 61)) (h : ∀ hq : q < s.size, s[q] ≠ 61) : k = (q - p, false) := by
 rw [hk]
 by_cases hq : q < s.size
 ·rw [getQ hq]
  have := h hq
  simp [this]
 ·rw [getQ_none hq]; rfl
theorem u8_ne {b c : UInt8} (h : b ≠ c) : ((b.toNat : Int) == (c.toNat : Int)) = false := by
 have : b.toNat ≠ c.toNat := fun e => h (UInt8.toNat_inj.1 e)
 simp; omega
theorem Rd.putN {w : World} {g : Nat} {s : ByteArray} {p : Nat} {bad : Option Addr} (h : Rd w g s p bad) {q : Nat} (hq : q ≤ s.size) {x : Int} (hx : x = (q : Nat)) : Rd (w.setCell ⟨g, 1, none⟩ (.int .i64 x)) g s q bad := by subst hx; exact h.put hq
set_option maxRecDepth 20000 in
set_option maxHeartbeats 6000000 in
theorem nkind_any (g : Nat) (s : ByteArray) (p : Nat) (bad : Option Addr) (w : World) (h : Rd w g s p bad) :
  Calls Tryz.prog 74 #[.pointer (some ⟨g, 0, none⟩)] w fun e w' => KindPost w g s p bad (kindN ((toL s).drop p)) e w' := by
 have hsm := h.small
 have hple := h.le
 have hlet := fun hp hl => @kind_let s p hp hl
 have hnum := fun hl => @kind_num s p hl
 generalize kindN ((toL s).drop p) = K at hlet hnum ⊢
 have HLET := Zh hlet; have HNUM := Zh hnum; clear hlet hnum
 have c0 := h.c0
 have c1 := h.c1
 have cf := h.fr 1
 have HR := Zh h; clear h
 have hnd : (∃ hp : p < s.size, isLet s[p] = true) ∨ ∀ hp : p < s.size, isLet s[p] = false := by
  by_cases hp : p < s.size
  ·cases hl : isLet s[p] with
   | true => exact .inl ⟨hp, hl⟩
   | false => exact .inr fun _ => hl
  ·exact .inr fun hp2 => absurd hp2 hp
 have hb : ∃ b : Bool, (b = true → ∃ hp : p < s.size, isLet s[p] = true) ∧ (b = false → ∀ hp : p < s.size, isLet s[p] = false) := by
  rcases hnd with h | h
  ·exact ⟨true, ⟨fun _ => h, fun h => by cases h⟩⟩
  ·exact ⟨false, ⟨(fun h => nomatch h), fun _ => h⟩⟩
 obtain ⟨b, hb1, hb2⟩ := hb
 have HB1 := Zh hb1; have HB2 := Zh hb2; clear hb1 hb2 hnd
 go_enter Tryz.func74, Tryz.ntmps74
 go_upto_region 2 with fail
 go_cut [30] (fun s30 wx => s30 = .bool b ∧ ∃ n, wx = w.drewN n)
 case first =>
  cases b with
  | true =>
   obtain ⟨hp, hl⟩ := HB1.out rfl
   have hc := fun w => nletter_any (s[p]'hp) w
   rw [hl] at hc
   have HC := Zh hc; clear hc hl
   have d1 : decide ((p : Int) < (s.size : Int)) = true := by simp; omega
   have d2 : (p : Int) < (s.size : Int) := by omega
   have d3 : (0 : Int) ≤ (p : Int) := by omega
   generalize hbb : (s[p]'hp) = bb at HC
   go_quiet ((go_at_call 116; exact Calls.quiet_of_same (HC.out _)))
   go_wp2_with fail
   go_meet
   exact ⟨rfl, _, rfl⟩
  | false =>
   by_cases hp : p < s.size
   ·have hl := HB2.out rfl hp
    have hc := fun w => nletter_any (s[p]'hp) w
    rw [hl] at hc
    have HC := Zh hc; clear hc hl
    have d1 : decide ((p : Int) < (s.size : Int)) = true := by simp; omega
    have d2 : (p : Int) < (s.size : Int) := by omega
    have d3 : (0 : Int) ≤ (p : Int) := by omega
    generalize hbb : (s[p]'hp) = bb at HC
    go_quiet ((go_at_call 116; exact Calls.quiet_of_same (HC.out _)))
    go_wp2_with fail
    go_meet
    exact ⟨rfl, _, rfl⟩
   ·have d1 : decide ((p : Int) < (s.size : Int)) = false := by simp; omega
    go_quiet (fail)
    go_wp2_with fail
    go_meet
    exact ⟨rfl, _, rfl⟩
 case rest =>
  obtain ⟨rfl, n0, rfl⟩ := hcut
  have hr0 := HR.out.drewN n0
  have hch0 : Chg (· = g) w (w.drewN n0) := (Chg.refl _ _).drewN _
  clear c0 c1 cf HR
  generalize w.drewN n0 = w0 at hr0 hch0 ⊢
  have HR := Zh (Zi hr0 hch0); clear hr0 hch0
  go_upto_if 30 with fail
  go_cut [] (fun wx => ∃ q : Nat, p ≤ q ∧ Rd wx g s q bad ∧ Chg (· = g) w wx ∧ K = (q - p, (toL s)[q]? == some 61))
  case first =>
   cases b with
   | true =>
    obtain ⟨hp, hl⟩ := HB1.out rfl
    have HK := Zh (HLET.out hp hl); clear HLET HNUM HB1 HB2 hl
    go_wp2_with (go_at_call 117; with_reducible refine (skipT_any g s p bad _ HR.out.1).mono ?_; rintro e w1 ⟨rfl, hr1, hch1⟩)
    go_meet
    exact ⟨twEnd tailC (toL s) p, by unfold twEnd; omega, hr1, HR.out.2.trans hch1, HK.out⟩
   | false =>
    obtain ⟨f, hf, hof⟩ := HNUM.out (HB2.out rfl)
    have HOF := Zh hof; clear hof HLET HNUM HB1 HB2
    go_wp2_with fail
    go_loopw [4] (fun iv wr => ∃ q rows : Nat, iv = .int .i64 (rows : Nat) ∧ 1 ≤ rows ∧ rows ≤ q + 1 ∧ p ≤ q ∧ Rd wr g s q bad ∧ Chg (· = g) w wr ∧ ∃ f, s.size - q ≤ f ∧ oidN (f + 1) ((toL s).drop q) (q - p) (rows == 1) = K) (fun _ wr => s.size - rdAt g wr)
    case atStart => exact ⟨p, 1, rfl, Zr _, by omega, Zr _, HR.out.1, HR.out.2, f - 1, by omega, by rw [show f - 1 + 1 = f by omega, Nat.sub_self]; exact HOF.out⟩
    case round =>
     obtain ⟨q, rows, rfl, h1, h2, hpq, hrd, hch, f, hf, hof⟩ := hrel
     clear HOF HR
     have HOF := Zh hof; clear hof
     have e0 := hrd.c0
     have e1 := hrd.c1
     have ef := hrd.fr 1
     have hqle := hrd.le
     have hat := rdAt_of e1
     have HAT := Zh hat; clear hat
     have H1 := Zh (Zi hrd hch); clear hrd hch
     go_wp2_with fail
     by_cases h48 : ∃ hz : q < s.size, s[q] = 48
     ·obtain ⟨hz, h48⟩ := h48
      have d1 : decide ((q : Int) < (s.size : Int)) = true := by simp; omega
      have d2 : (q : Int) < (s.size : Int) := by omega
      have d3 : (0 : Int) ≤ (q : Int) := by omega
      have hdn : dN s q = 1 := by unfold dN; rw [getQ hz, h48, if_pos rfl]
      have e48 : s[q].toNat = 48 := by rw [h48]; rfl
      have b48 : (((s[q].toNat : Nat) : Int) == 48) = true := by rw [e48]; rfl
      clear h48 e48
      generalize hbb : (s[q]'hz) = bb at b48
      go_quiet (fail)
      go_upto_region 11 with fail
      have hfin := (H1.out.1.drewN nq).putN (q := q + 1) (x := (q : Int) + 1) (by omega) (by omega)
      have hch2 := (H1.out.2.drewN nq).setCell (p := ⟨g, 1, none⟩) (fun _ => rfl) (.int .i64 ((q : Int) + 1))
      clear d1 d2 d3 b48 e0 e1 ef hbb
      have hq1 : q + 1 = q + dN s q := by rw [hdn]
      generalize (wr.drewN nq).setCell ⟨g, 1, none⟩ (.int .i64 ((q : Int) + 1)) = w1 at hfin hch2 ⊢
      clear H1
      generalize hqq : q + 1 = q1 at hfin hq1
      have HN0 := Zh (show dN s q ≠ 0 by omega)
      clear hdn hqq
      have e0 := hfin.c0
      have e1 := hfin.c1
      have ef := hfin.fr 1
      have hqle1 := hfin.le
      have H1 := Zh (Zi hfin hch2); clear hfin hch2
      have hmd : oidN (f + 1) ((toL s).drop q) (q - p) (rows == 1) = if (toL s)[q1]? = some 46 then oidN f ((toL s).drop (q1 + 1)) (q1 + 1 - p) false else if (rows == 1) then (q1 - p, false) else (q1 - p, (toL s)[q1]? == some 61) := by
       rw [oid_step _ hpq, if_neg HN0.out, ← hq1]
      have hq2 : q < q1 := by have := HN0.out; omega
      have hq3 : p ≤ q1 := by omega
      rw [HOF.out] at hmd
      have HMD := Zh hmd; clear hmd hq1 HN0
      by_cases hdot : ∃ hz : q1 < s.size, s[q1] = 46
      ·obtain ⟨hz, h46⟩ := hdot
       have d1 : decide ((q1 : Int) < (s.size : Int)) = true := by simp; omega
       have d2 : (q1 : Int) < (s.size : Int) := by omega
       have d3 : (0 : Int) ≤ (q1 : Int) := by omega
       have hK : K = oidN f ((toL s).drop (q1 + 1)) (q1 + 1 - p) false := by
        rw [HMD.out, getQ hz, h46, if_pos rfl]
       have e46 : s[q1].toNat = 46 := by rw [h46]; rfl
       have b46 : (((s[q1].toNat : Nat) : Int) == 46) = true := by rw [e46]; rfl
       have HK := Zh hK; clear hK HMD HOF h46 e46
       go_quiet (fail)
       go_wp2_with fail
       have hfin := (H1.out.1.drewN nq).putN (q := q1 + 1) (x := (q1 : Int) + 1) (by omega) (by omega)
       refine ⟨⟨q1 + 1, rows + 1, by simp, by omega, by omega, by omega, hfin, (H1.out.2.drewN nq).setCell (p := ⟨g, 1, none⟩) (fun _ => rfl) _, f - 1, ?_, ?_⟩, ?_⟩
       ·omega
       ·rw [show f - 1 + 1 = f by omega, HK.out, show ((rows + 1 : Nat) == 1) = false by simp; omega]
       ·rw [HAT.out, rdAt_of (p := q1 + 1) hfin.c1]
        omega
      ·have hK : K = if (rows == 1) then (q1 - p, false) else (q1 - p, (toL s)[q1]? == some 61) := by
        rw [HMD.out, if_neg]
        intro h
        by_cases hz : q1 < s.size
        ·rw [getQ hz] at h
         exact hdot ⟨hz, Option.some.inj h⟩
        ·rw [getQ_none hz] at h
         cases h
       clear HMD HOF
       by_cases hz : q1 < s.size
       ·have d1 : decide ((q1 : Int) < (s.size : Int)) = true := by simp; omega
        have d2 : (q1 : Int) < (s.size : Int) := by omega
        have d3 : (0 : Int) ≤ (q1 : Int) := by omega
        have b46 : (((s[q1].toNat : Nat) : Int) == 46) = false := u8_ne (c := 46) fun h => hdot ⟨hz, h⟩
        clear hdot
        by_cases hr1 : rows = 1
        ·subst hr1
         have HK := Zh hK; clear hK
         go_quiet (fail)
         go_wp2_with (go_at_call 120; with_reducible refine (stuck_any g s q1 bad _ (H1.out.1.drewN _)).mono ?_; rintro e w2 ⟨rfl, hb2⟩)
         go_ret
         exact KindPost.no (HK.out.trans (if_pos rfl)) hq3 rfl (hb2.after (H1.out.2.drewN _))
        ·rw [if_neg (by simpa using hr1)] at hK
         have hr2 : ((rows : Int) == 1) = false := by simp; omega
         have HK := Zh hK; clear hK
         go_quiet (fail)
         go_wp2_with fail
         go_meet
         exact ⟨q1, hq3, H1.out.1.drewN _, H1.out.2.drewN _, HK.out⟩
       ·have d1 : decide ((q1 : Int) < (s.size : Int)) = false := by simp; omega
        clear hdot
        by_cases hr1 : rows = 1
        ·subst hr1
         have HK := Zh hK; clear hK
         go_quiet (fail)
         go_wp2_with (go_at_call 120; with_reducible refine (stuck_any g s q1 bad _ (H1.out.1.drewN _)).mono ?_; rintro e w2 ⟨rfl, hb2⟩)
         go_ret
         exact KindPost.no (HK.out.trans (if_pos rfl)) hq3 rfl (hb2.after (H1.out.2.drewN _))
        ·rw [if_neg (by simpa using hr1)] at hK
         have hr2 : ((rows : Int) == 1) = false := by simp; omega
         have HK := Zh hK; clear hK
         go_quiet (fail)
         go_wp2_with fail
         go_meet
         exact ⟨q1, hq3, H1.out.1.drewN _, H1.out.2.drewN _, HK.out⟩
     ·have hdn : dN s q = twEnd dig (toL s) q - q := by
       unfold dN
       rw [if_neg]
       intro h
       by_cases hz : q < s.size
       ·rw [getQ hz] at h
        exact h48 ⟨hz, Option.some.inj h⟩
       ·rw [getQ_none hz] at h
        cases h
      have hq0 : q ≤ twEnd dig (toL s) q := by unfold twEnd; omega
      by_cases hz : q < s.size
      ·have d1 : decide ((q : Int) < (s.size : Int)) = true := by simp; omega
       have d2 : (q : Int) < (s.size : Int) := by omega
       have d3 : (0 : Int) ≤ (q : Int) := by omega
       have b48 : (((s[q].toNat : Nat) : Int) == 48) = false := u8_ne (c := 48) fun h => h48 ⟨hz, h⟩
       clear h48
       generalize hbb : (s[q]'hz) = bb at b48
       go_quiet (fail)
       go_upto_region 8 with fail
       clear d1 d2 d3 b48 e0 e1 ef hbb
       have hsk := skipD_any g s q bad _ (H1.out.1.drewN nq)
       by_cases hd0 : dN s q = 0
       ·have hte : twEnd dig (toL s) q = q := by omega
        rw [hte] at hsk
        have hzz : ((q : Nat) : Int) - (q : Nat) = 0 := by omega
        rw [hzz] at hsk
        have hK : K = (q - p, false) := by rw [← HOF.out, oid_step _ hpq, if_pos hd0]
        have HSK := Zh hsk; have HK := Zh hK; clear hsk hK hd0 hdn hq0 hte HOF
        go_wp2_with (go_at_call 117; with_reducible refine HSK.out.mono ?_; rintro e w1 ⟨rfl, hr1, hch1⟩)
        have hch2 := (H1.out.2.drewN nq).trans hch1
        clear hch1 H1
        have e0 := hr1.c0
        have e1 := hr1.c1
        have H1 := Zh (Zi hr1 hch2); clear hr1 hch2
        go_wp2_with (go_at_call 120; with_reducible refine (stuck_any g s q bad _ H1.out.1).mono ?_; rintro e w2 ⟨rfl, hb2⟩)
        go_ret
        exact KindPost.no HK.out hpq rfl (hb2.after H1.out.2)
       ·have hq1 : twEnd dig (toL s) q = q + dN s q := by omega
        generalize hq1d : twEnd dig (toL s) q = q1 at hsk hq1 hdn hq0
        have hb0 : (((q1 : Nat) : Int) - (q : Nat) == 0) = false := by simp; omega
        have HSK := Zh hsk; have HN0 := Zh hd0; clear hsk hdn hq1d hd0
        have HQ1 := Zh hq1; clear hq1
        go_upto_region 11 with (go_at_call 117; with_reducible refine HSK.out.mono ?_; rintro e w1 ⟨rfl, hr1, hch1⟩)
        have hch2 := (H1.out.2.drewN nq).trans hch1
        clear hch1 H1 hb0
        have hqle1 := hr1.le
        have e0 := hr1.c0
        have e1 := hr1.c1
        have ef := hr1.fr 1
        have H1 := Zh (Zi hr1 hch2); clear hr1 hch2
        have hq1 := HQ1.out; clear HQ1
        have hmd : oidN (f + 1) ((toL s).drop q) (q - p) (rows == 1) = if (toL s)[q1]? = some 46 then oidN f ((toL s).drop (q1 + 1)) (q1 + 1 - p) false else if (rows == 1) then (q1 - p, false) else (q1 - p, (toL s)[q1]? == some 61) := by
         rw [oid_step _ hpq, if_neg HN0.out, ← hq1]
        have hq2 : q < q1 := by have := HN0.out; omega
        have hq3 : p ≤ q1 := by omega
        rw [HOF.out] at hmd
        have HMD := Zh hmd; clear hmd hq1 HN0
        by_cases hdot : ∃ hz : q1 < s.size, s[q1] = 46
        ·obtain ⟨hz, h46⟩ := hdot
         have d1 : decide ((q1 : Int) < (s.size : Int)) = true := by simp; omega
         have d2 : (q1 : Int) < (s.size : Int) := by omega
         have d3 : (0 : Int) ≤ (q1 : Int) := by omega
         have hK : K = oidN f ((toL s).drop (q1 + 1)) (q1 + 1 - p) false := by
          rw [HMD.out, getQ hz, h46, if_pos rfl]
         have e46 : s[q1].toNat = 46 := by rw [h46]; rfl
         have b46 : (((s[q1].toNat : Nat) : Int) == 46) = true := by rw [e46]; rfl
         have HK := Zh hK; clear hK HMD HOF h46 e46
         go_quiet (fail)
         go_wp2_with fail
         have hfin := (H1.out.1.drewN nq).putN (q := q1 + 1) (x := (q1 : Int) + 1) (by omega) (by omega)
         refine ⟨⟨q1 + 1, rows + 1, by simp, by omega, by omega, by omega, hfin, (H1.out.2.drewN nq).setCell (p := ⟨g, 1, none⟩) (fun _ => rfl) _, f - 1, ?_, ?_⟩, ?_⟩
         ·omega
         ·rw [show f - 1 + 1 = f by omega, HK.out, show ((rows + 1 : Nat) == 1) = false by simp; omega]
         ·rw [HAT.out, rdAt_of (p := q1 + 1) hfin.c1]
          omega
        ·have hK : K = if (rows == 1) then (q1 - p, false) else (q1 - p, (toL s)[q1]? == some 61) := by
          rw [HMD.out, if_neg]
          intro h
          by_cases hz : q1 < s.size
          ·rw [getQ hz] at h
           exact hdot ⟨hz, Option.some.inj h⟩
          ·rw [getQ_none hz] at h
           cases h
         clear HMD HOF
         by_cases hz : q1 < s.size
         ·have d1 : decide ((q1 : Int) < (s.size : Int)) = true := by simp; omega
          have d2 : (q1 : Int) < (s.size : Int) := by omega
          have d3 : (0 : Int) ≤ (q1 : Int) := by omega
          have b46 : (((s[q1].toNat : Nat) : Int) == 46) = false := u8_ne (c := 46) fun h => hdot ⟨hz, h⟩
          clear hdot
          by_cases hr1 : rows = 1
          ·subst hr1
           have HK := Zh hK; clear hK
           go_quiet (fail)
           go_wp2_with (go_at_call 120; with_reducible refine (stuck_any g s q1 bad _ (H1.out.1.drewN _)).mono ?_; rintro e w2 ⟨rfl, hb2⟩)
           go_ret
           exact KindPost.no (HK.out.trans (if_pos rfl)) hq3 rfl (hb2.after (H1.out.2.drewN _))
          ·rw [if_neg (by simpa using hr1)] at hK
           have hr2 : ((rows : Int) == 1) = false := by simp; omega
           have HK := Zh hK; clear hK
           go_quiet (fail)
           go_wp2_with fail
           go_meet
           exact ⟨q1, hq3, H1.out.1.drewN _, H1.out.2.drewN _, HK.out⟩
         ·have d1 : decide ((q1 : Int) < (s.size : Int)) = false := by simp; omega
          clear hdot
          by_cases hr1 : rows = 1
          ·subst hr1
           have HK := Zh hK; clear hK
           go_quiet (fail)
           go_wp2_with (go_at_call 120; with_reducible refine (stuck_any g s q1 bad _ (H1.out.1.drewN _)).mono ?_; rintro e w2 ⟨rfl, hb2⟩)
           go_ret
           exact KindPost.no (HK.out.trans (if_pos rfl)) hq3 rfl (hb2.after (H1.out.2.drewN _))
          ·rw [if_neg (by simpa using hr1)] at hK
           have hr2 : ((rows : Int) == 1) = false := by simp; omega
           have HK := Zh hK; clear hK
           go_quiet (fail)
           go_wp2_with fail
           go_meet
           exact ⟨q1, hq3, H1.out.1.drewN _, H1.out.2.drewN _, HK.out⟩
      ·have d1 : decide ((q : Int) < (s.size : Int)) = false := by simp; omega
       clear h48
       go_quiet (fail)
       go_upto_region 8 with fail
       clear d1 e0 e1 ef
       have hte : twEnd dig (toL s) q = q := by
        have := tw_out (P := dig) (p := q) hqle
        omega
       have hd0 : dN s q = 0 := by omega
       have hsk := skipD_any g s q bad _ (H1.out.1.drewN nq)
       rw [hte] at hsk
       have hzz : ((q : Nat) : Int) - (q : Nat) = 0 := by omega
       rw [hzz] at hsk
       have hK : K = (q - p, false) := by rw [← HOF.out, oid_step _ hpq, if_pos hd0]
       have HSK := Zh hsk; have HK := Zh hK; clear hsk hK hd0 hdn hq0 hte HOF
       go_wp2_with (go_at_call 117; with_reducible refine HSK.out.mono ?_; rintro e w1 ⟨rfl, hr1, hch1⟩)
       have hch2 := (H1.out.2.drewN nq).trans hch1
       clear hch1 H1
       have e0 := hr1.c0
       have e1 := hr1.c1
       have H1 := Zh (Zi hr1 hch2); clear hr1 hch2
       go_wp2_with (go_at_call 120; with_reducible refine (stuck_any g s q bad _ H1.out.1).mono ?_; rintro e w2 ⟨rfl, hb2⟩)
       go_ret
       exact KindPost.no HK.out hpq rfl (hb2.after H1.out.2)
  case rest =>
   obtain ⟨q, hpq, hr1, hch, hk⟩ := hcut
   have HK := Zh hk; clear hk HLET HNUM HB1 HB2
   have e0 := hr1.c0
   have e1 := hr1.c1
   have ef := hr1.fr 1
   have hqle := hr1.le
   have H1 := Zh (Zi hr1 hch); clear hr1 hch
   go_wp2_with fail
   by_cases hz : q < s.size
   ·have d1 : decide ((q : Int) = (s.size : Int)) = false := by simp; omega
    have d1' : ((q : Int) == (s.size : Int)) = false := by simp; omega
    have d2 : (q : Int) < (s.size : Int) := by omega
    have d3 : (0 : Int) ≤ (q : Int) := by omega
    by_cases h61 : s[q] = 61
    ·have e61 : s[q].toNat = 61 := by rw [h61]; rfl
     have b61 : (((s[q].toNat : Nat) : Int) != 61) = false := by rw [e61]; rfl
     have r1 : (q : Int) + 1 - 1 = (q : Int) := by omega
     have r2 : (p : Int) ≤ (q : Int) := by omega
     have r3 : (q : Int) ≤ (s.size : Int) := by omega
     have H61 := Zh h61; clear h61 e61
     go_quiet (fail)
     go_wp2_with fail
     go_quiet (fail)
     go_wp2_with fail
     go_ret
     exact KindPost.yes HK.out hpq hz H61.out rfl (((H1.out.1.drewN _).putN (by omega) (by omega)).drewN _) (((H1.out.2.drewN _).setCell (p := ⟨g, 1, none⟩) (fun _ => rfl) _).drewN _)
    ·have b61 : (((s[q].toNat : Nat) : Int) != 61) = true := by
      have := u8_ne (c := 61) h61
      simpa using this
     have H61 := Zh h61; clear h61
     go_quiet (fail)
     go_wp2_with (go_at_call 120; with_reducible refine (stuck_any g s q bad _ (H1.out.1.drewN _)).mono ?_; rintro e w2 ⟨rfl, hb2⟩)
     go_ret
     exact KindPost.no (kn_no HK.out fun _ => H61.out) hpq rfl (hb2.after (H1.out.2.drewN _))
   ·obtain rfl : q = s.size := by omega
    have d1 : decide (((s.size : Nat) : Int) = (s.size : Int)) = true := by simp
    have d1' : (((s.size : Nat) : Int) == (s.size : Int)) = true := by simp
    go_quiet (fail)
    go_wp2_with (go_at_call 120; with_reducible refine (stuck_any g s s.size bad _ (H1.out.1.drewN _)).mono ?_; rintro e w2 ⟨rfl, hb2⟩)
    go_ret
    exact KindPost.no (kn_no HK.out fun h => absurd h (Nat.lt_irrefl _)) hpq rfl (hb2.after (H1.out.2.drewN _))
def decF (l : Str) (acc : Nat) : Nat := l.foldl (fun x c => x * 10 + (c.toNat - 48)) acc
theorem p10_dig : ∀ (l : Str) (acc k : Nat), l.all dig = true → acc < 10 ^ k → k + l.length ≤ 18 → Lib.parseUint10 acc l = .ok (decF l acc) ∧ decF l acc < 10 ^ (k + l.length)
 | [], acc, k, _, h, _ => ⟨rfl, by simpa [decF] using h⟩
 | c :: l, acc, k, hd, h, hk => by
  simp only [List.all_cons, Bool.and_eq_true, List.length_cons] at hd hk
  have hc : 48 ≤ c.toNat ∧ c.toNat ≤ 57 := of_decide_eq_true hd.1
  have hp : 10 ^ k ≤ 10 ^ 17 := Nat.pow_le_pow_right (by decide) (by omega)
  have h17 : (10 : Nat) ^ 17 = 100000000000000000 := by decide
  have hn : acc * 10 + (c.toNat - 48) < 10 ^ (k + 1) := by rw [Nat.pow_succ]; omega
  obtain ⟨h1, h2⟩ := p10_dig l (acc * 10 + (c.toNat - 48)) (k + 1) hd.2 hn (by omega)
  rw [Lib.parseUint10, if_pos hc, if_neg (by omega), if_neg (by omega)]
  refine ⟨h1, ?_⟩
  have h3 : k + (l.length + 1) = k + 1 + l.length := by omega
  rw [List.length_cons, h3]
  exact h2
theorem atoi_dig {l : Str} (h : l.all dig = true) (h0 : l ≠ []) (h9 : l.length ≤ 9) : Lib.atoiAll l = .ok ((decF l 0 : Nat) : Int) ∧ decF l 0 < 1000000000 := by
 cases l with
 | nil => exact absurd rfl h0
 | cons c r =>
  have hc : dig c = true := by simp at h; exact h.1
  have hc2 : 48 ≤ c.toNat ∧ c.toNat ≤ 57 := of_decide_eq_true hc
  obtain ⟨h1, h2⟩ := p10_dig (c :: r) 0 0 h (by decide) (by omega)
  have h3 : decF (c :: r) 0 < 1000000000 := by
   have : (10 : Nat) ^ (0 + (c :: r).length) ≤ 10 ^ 9 := Nat.pow_le_pow_right (by decide) (by omega)
   have h10 : (10 : Nat) ^ 9 = 1000000000 := by decide
   omega
  refine ⟨?_, h3⟩
  unfold Lib.atoiAll Lib.parseMag
  simp only [show ¬ c.toNat = 43 by omega, show ¬ c.toNat = 45 by omega, or_self, if_false, reduceCtorEq, h1, not_false_eq_true, true_and, false_and]
  rw [if_neg (by omega)]
theorem tw_mem {p : UInt8 → Bool} : ∀ {l : Str} {x : UInt8}, x ∈ l.takeWhile p → p x = true
 | [], _, h => by simp at h
 | c :: l, x, h => by
  rw [List.takeWhile_cons] at h
  split at h
  ·rename_i hc
   rcases List.mem_cons.1 h with rfl | h
   ·exact hc
   ·exact tw_mem h
  ·cases h
theorem take_takeWhile2 (p : UInt8 → Bool) : ∀ l : Str, l.take (l.takeWhile p).length = l.takeWhile p
 | [] => rfl
 | c :: l => by
  rw [List.takeWhile_cons]
  split
  ·simp [take_takeWhile2 p l]
  ·rfl
def CountPost (s : ByteArray) (w : World) (e : Ending) (w' : World) : Prop :=
 (∀ t d, countV (toL s) = some (t, d) → e = .returned (.tuple #[.int .i64 (t : Nat), .string (s.extract d s.size)])) ∧ (countV (toL s) = none → e = .returned (.tuple #[.int .i64 (-1), .string s])) ∧ Below w.heap.size w w'
theorem countV_eq (l : Str) : countV l = if (l.takeWhile dig).length = 0 ∨ 9 < (l.takeWhile dig).length ∨ (l.head? = some 48 ∧ 1 < (l.takeWhile dig).length) then none else some (decF (l.takeWhile dig) 0, (l.takeWhile dig).length) := rfl
set_option maxRecDepth 20000 in
set_option maxHeartbeats 4000000 in
theorem ncount_any (s : ByteArray) (w : World) (hs : s.size ≤ 4294967280) : Calls Tryz.prog 109 #[.string s] w (CountPost s w) := by
 have hin := fun q h2 => @tw_in dig s 0 q (Nat.zero_le _) h2
 obtain ⟨ho1, ho2⟩ := @tw_out dig s 0 (Nat.zero_le _)
 have hE : twEnd dig (toL s) 0 = ((toL s).takeWhile dig).length := by unfold twEnd; simp
 have hcv := countV_eq (toL s)
 have htk : (toL s).takeWhile dig = (toL s).take ((toL s).takeWhile dig).length := (take_takeWhile2 dig (toL s)).symm
 have hall : ((toL s).takeWhile dig).all dig = true := List.all_eq_true.2 fun x hx => tw_mem hx
 rw [← hE] at hcv htk
 generalize htwd : (toL s).takeWhile dig = D at hcv htk hall hE
 generalize twEnd dig (toL s) 0 = E at hin ho1 ho2 hcv htk hE
 have HIN := Zh hin; have HO := Zh ho2; have HCV := Zh hcv; have HTK := Zh htk; have HALL := Zh hall; have HE := Zh hE
 clear hin ho2 hcv htk hall hE htwd
 go_enter Tryz.func109, Tryz.ntmps109
 go_wp2_with fail
 go_loopw [4] (fun nv wr => wr = w ∧ ∃ i : Nat, nv = .int .i64 (i : Nat) ∧ i ≤ E) (fun nv _ => E - (intOf nv).toNat)
 case atStart => exact ⟨rfl, 0, rfl, Nat.zero_le _⟩
 case round =>
  obtain ⟨rfl, i, rfl, hi⟩ := hrel
  by_cases hlt : i < E
  ·obtain ⟨hz, hb⟩ := HIN.out i hlt
   have hc := fun w => ndigit_any (s[i]'hz) w
   rw [hb] at hc
   have HC := Zh hc; clear hc hb
   have d2 : (i : Int) < (s.size : Int) := by omega
   have d3 : (0 : Int) ≤ (i : Int) := by omega
   generalize hbb : (s[i]'hz) = bb at HC
   go_wp2_with (go_at_call 119; with_reducible refine (HC.out _).mono ?_; rintro e w1 ⟨rfl, rfl⟩)
   exact ⟨⟨trivial, i + 1, by simp, by omega⟩, by simp [intOf]; omega⟩
  ·obtain rfl : i = E := by omega
   by_cases hz : i < s.size
   ·have hb := HO.out hz
    have hc := fun w => ndigit_any (s[i]'hz) w
    rw [hb] at hc
    have HC := Zh hc; clear hc hb
    have d2 : (i : Int) < (s.size : Int) := by omega
    have d3 : (0 : Int) ≤ (i : Int) := by omega
    generalize hbb : (s[i]'hz) = bb at HC
    go_upto_region 4 with (go_at_call 119; with_reducible refine (HC.out _).mono ?_; rintro e w1 ⟨rfl, rfl⟩)
    clear HC hbb
    by_cases h0 : i = 0
    ·have hn : countV (toL s) = none := by rw [HCV.out, if_pos (.inl h0)]
     have HN := Zh hn
     clear hn
     subst h0
     go_wp2_with fail
     go_ret2
     exact ⟨(fun t d h => by rw [HN.out] at h; cases h), (fun _ => rfl), Zl _ _⟩
    ·have f0 : ((i : Int) == 0) = false := by simp; omega
     by_cases h9 : 9 < i
     ·have hn : countV (toL s) = none := by rw [HCV.out, if_pos (.inr (.inl h9))]
      have HN := Zh hn
      clear hn
      have f9 : (9 : Int) < (i : Int) := by omega
      go_wp2_with fail
      go_ret2
      exact ⟨(fun t d h => by rw [HN.out] at h; cases h), (fun _ => rfl), Zl _ _⟩
     ·have f9 : ¬ (9 : Int) < (i : Int) := by omega
      obtain ⟨hz0, hb0⟩ := HIN.out 0 (by omega)
      have z0 : (0 : Int) < (s.size : Int) := by omega
      obtain ⟨c, hc⟩ : ∃ c, s[0]'hz0 = c := ⟨_, rfl⟩
      have hhd : (toL s).head? = some c := by
       have := @getQ s 0 hz0
       rw [hc] at this
       rw [List.head?_eq_getElem?]; exact this
      by_cases hbad : c = 48 ∧ 1 < i
      ·obtain ⟨h48, h1⟩ := hbad
       have hn : countV (toL s) = none := by rw [HCV.out, if_pos (.inr (.inr ⟨by rw [hhd, h48], h1⟩))]
       have HN := Zh hn
       have f1 : (1 : Int) < (i : Int) := by omega
       subst h48
       clear hn hhd hb0
       go_wp2_with fail
       go_ret2
       exact ⟨(fun t d h => by rw [HN.out] at h; cases h), (fun _ => rfl), Zl _ _⟩
      ·have hn : countV (toL s) = some (decF D 0, i) := by
        rw [HCV.out, if_neg]
        rw [hhd]
        rintro (h | h | ⟨h, h2⟩)
        ·exact h0 h
        ·exact h9 h
        ·exact hbad ⟨Option.some.inj h, h2⟩
       have hat := atoi_dig HALL.out (by intro h; have := HE.out; rw [h] at this; exact h0 this) (by rw [← HE.out]; omega)
       have hex : (s.extract 0 i).data.toList = D := by
        have h1 : (toL s).take i = D := HTK.out.symm
        rw [← h1]
        have := Lib.extract_eq s 0 i
        rw [this]
        simp [toL]
       have hai := Tryz.strconv_Atoi_ok (s.extract 0 i) (by simp; omega) _ (by rw [hex]; exact hat.1) w1
       have HAI := Zh (hai.mono fun e w' ⟨h1, h2⟩ => (⟨h1, by
        rcases h2 with rfl | ⟨t, rfl⟩
        ·exact Zl _ _
        ·exact Lib.bytesWorld_below _ _ _⟩ : e = Ending.returned (.tuple #[.int .i64 ((decF D 0 : Nat) : Int), .nilIface]) ∧ Below w1.heap.size w1 w'))
       have HN := Zh hn
       have hd2 : decF D 0 < 1000000000 := hat.2
       have g0 : (0 : Int) ≤ (i : Int) := by omega
       have g1 : (i : Int) ≤ (s.size : Int) := by omega
       by_cases h48 : c = 48
       ·have hi1 : i = 1 := by have : ¬ 1 < i := fun h => hbad ⟨h48, h⟩; omega
        clear hn hhd hb0 hbad hat hex hai
        subst h48
        subst hi1
        have f1 : ¬ (1 : Int) < ((1 : Nat) : Int) := by omega
        generalize decF D 0 = v at HAI HN hd2
        go_wp2_with (go_at_call 155; with_reducible refine HAI.out.mono ?_; rintro e w2 ⟨rfl, hb2⟩; have HB2 := Zh hb2; clear hb2)
        go_quiet (fail)
        go_wp2_with fail
        go_ret2
        exact ⟨(fun t d h => by rw [HN.out] at h; cases h; rfl), (fun h => by rw [HN.out] at h; cases h), bdrewN HB2.out _⟩
       ·have e48 : (((c.toNat : Nat) : Int) == 48) = false := u8_ne (c := 48) h48
        clear hn hhd hb0 hbad hat hex hai
        generalize decF D 0 = v at HAI HN hd2
        go_wp2_with (go_at_call 155; with_reducible refine HAI.out.mono ?_; rintro e w2 ⟨rfl, hb2⟩; have HB2 := Zh hb2; clear hb2)
        go_quiet (fail)
        go_wp2_with fail
        go_ret2
        exact ⟨(fun t d h => by rw [HN.out] at h; cases h; rfl), (fun h => by rw [HN.out] at h; cases h), bdrewN HB2.out _⟩
   ·have d1 : decide ((i : Int) < (s.size : Int)) = false := by simp; omega
    go_upto_region 4 with fail
    by_cases h0 : i = 0
    ·have hn : countV (toL s) = none := by rw [HCV.out, if_pos (.inl h0)]
     have HN := Zh hn
     clear hn
     subst h0
     go_wp2_with fail
     go_ret2
     exact ⟨(fun t d h => by rw [HN.out] at h; cases h), (fun _ => rfl), Zl _ _⟩
    ·have f0 : ((i : Int) == 0) = false := by simp; omega
     by_cases h9 : 9 < i
     ·have hn : countV (toL s) = none := by rw [HCV.out, if_pos (.inr (.inl h9))]
      have HN := Zh hn
      clear hn
      have f9 : (9 : Int) < (i : Int) := by omega
      go_wp2_with fail
      go_ret2
      exact ⟨(fun t d h => by rw [HN.out] at h; cases h), (fun _ => rfl), Zl _ _⟩
     ·have f9 : ¬ (9 : Int) < (i : Int) := by omega
      obtain ⟨hz0, hb0⟩ := HIN.out 0 (by omega)
      have z0 : (0 : Int) < (s.size : Int) := by omega
      obtain ⟨c, hc⟩ : ∃ c, s[0]'hz0 = c := ⟨_, rfl⟩
      have hhd : (toL s).head? = some c := by
       have := @getQ s 0 hz0
       rw [hc] at this
       rw [List.head?_eq_getElem?]; exact this
      by_cases hbad : c = 48 ∧ 1 < i
      ·obtain ⟨h48, h1⟩ := hbad
       have hn : countV (toL s) = none := by rw [HCV.out, if_pos (.inr (.inr ⟨by rw [hhd, h48], h1⟩))]
       have HN := Zh hn
       have f1 : (1 : Int) < (i : Int) := by omega
       subst h48
       clear hn hhd hb0
       go_wp2_with fail
       go_ret2
       exact ⟨(fun t d h => by rw [HN.out] at h; cases h), (fun _ => rfl), Zl _ _⟩
      ·have hn : countV (toL s) = some (decF D 0, i) := by
        rw [HCV.out, if_neg]
        rw [hhd]
        rintro (h | h | ⟨h, h2⟩)
        ·exact h0 h
        ·exact h9 h
        ·exact hbad ⟨Option.some.inj h, h2⟩
       have hat := atoi_dig HALL.out (by intro h; have := HE.out; rw [h] at this; exact h0 this) (by rw [← HE.out]; omega)
       have hex : (s.extract 0 i).data.toList = D := by
        have h1 : (toL s).take i = D := HTK.out.symm
        rw [← h1]
        have := Lib.extract_eq s 0 i
        rw [this]
        simp [toL]
       have hai := Tryz.strconv_Atoi_ok (s.extract 0 i) (by simp; omega) _ (by rw [hex]; exact hat.1) wr
       have HAI := Zh (hai.mono fun e w' ⟨h1, h2⟩ => (⟨h1, by
        rcases h2 with rfl | ⟨t, rfl⟩
        ·exact Zl _ _
        ·exact Lib.bytesWorld_below _ _ _⟩ : e = Ending.returned (.tuple #[.int .i64 ((decF D 0 : Nat) : Int), .nilIface]) ∧ Below wr.heap.size wr w'))
       have HN := Zh hn
       have hd2 : decF D 0 < 1000000000 := hat.2
       have g0 : (0 : Int) ≤ (i : Int) := by omega
       have g1 : (i : Int) ≤ (s.size : Int) := by omega
       by_cases h48 : c = 48
       ·have hi1 : i = 1 := by have : ¬ 1 < i := fun h => hbad ⟨h48, h⟩; omega
        clear hn hhd hb0 hbad hat hex hai
        subst h48
        subst hi1
        have f1 : ¬ (1 : Int) < ((1 : Nat) : Int) := by omega
        generalize decF D 0 = v at HAI HN hd2
        go_wp2_with (go_at_call 155; with_reducible refine HAI.out.mono ?_; rintro e w2 ⟨rfl, hb2⟩; have HB2 := Zh hb2; clear hb2)
        go_quiet (fail)
        go_wp2_with fail
        go_ret2
        exact ⟨(fun t d h => by rw [HN.out] at h; cases h; rfl), (fun h => by rw [HN.out] at h; cases h), bdrewN HB2.out _⟩
       ·have e48 : (((c.toNat : Nat) : Int) == 48) = false := u8_ne (c := 48) h48
        clear hn hhd hb0 hbad hat hex hai
        generalize decF D 0 = v at HAI HN hd2
        go_wp2_with (go_at_call 155; with_reducible refine HAI.out.mono ?_; rintro e w2 ⟨rfl, hb2⟩; have HB2 := Zh hb2; clear hb2)
        go_quiet (fail)
        go_wp2_with fail
        go_ret2
        exact ⟨(fun t d h => by rw [HN.out] at h; cases h; rfl), (fun h => by rw [HN.out] at h; cases h), bdrewN HB2.out _⟩
end Go.Proofs.YtlmfbjhokkpjhaaGreatDoor
