/- Part 11 of the walks and plain laws, joined: Stuck, Kind, RegionC, RegionQ. -/
import Derived.Test.YtifgmnafjihlkaaGreatDoorMW10
import Derived.Deep.DeepCutAuto
import Derived.OrdersHeld
import Derived.Deep.RegionHeld
import Derived.Deep.Quiet
import Derived.BigQuiet
/- name's reader: stuck. -/
namespace Go.Proofs.YtifgmnafjihlkaaGreatDoor
open Go Go.RowKit

theorem Chg.lead {S : Nat → Prop} {w w1 w2 : World} (h : Chg S w w1) (k : Chg S w1 w2) : Chg S w w2 := h.trans k
theorem RdBad.after {w w1 w2 : World} {g : Nat} {s : ByteArray} {f : PFault} (h : Chg (· = g) w w1) (k : RdBad w1 g s f w2) : RdBad w g s f w2 := by
  obtain ⟨p, fb, h1, h2, h3, h4⟩ := k
  exact ⟨p, fb, h1, h2, Nat.le_trans h.size h3, h.trans h4⟩
set_option maxRecDepth 20000 in
set_option maxHeartbeats 1000000 in
theorem stuck_any (g : Nat) (s : ByteArray) (p : Nat) (bad : Option Addr) (w : World) (h : Rd w g s p bad) :
    Calls Tryz.prog 160 #[.pointer (some ⟨g, 0, none⟩)] w fun e w' => e = .returned (.tuple #[]) ∧ RdBad w g s (stuckAt (toL s) p) w' := by
  have c0 := h.c0
  have c1 := h.c1
  have hz : (toL s).length = s.size := Lib.size_eq s
  by_cases hp : p < s.size
  · have hs : stuckAt (toL s) p = faultAt (toL s) 50 p := by unfold stuckAt; rw [hz, if_pos hp]
    rw [hs]
    have d1 : decide ((p : Int) < (s.size : Int)) = true := by simp; omega
    have hle := h.le
    have hsm := h.small
    have HR := Lib.hid h; clear h hs hz
    go_enter Tryz.func160, Tryz.ntmps160
    go_wp2_with fail
    go_quiet (fail)
    go_wp2_with (go_at_call 102; refine (fail_any g s p bad 50 p _ (HR.out.drewN _) (by omega)).mono ?_; rintro e w1 ⟨rfl, h1⟩)
    go_end0
    exact ⟨rfl, h1.after ((Chg.refl _ _).drewN _)⟩
  · have hs : stuckAt (toL s) p = faultAt (toL s) 5 p := by unfold stuckAt; rw [hz, if_neg hp]
    rw [hs]
    have d1 : decide ((p : Int) < (s.size : Int)) = false := by simp; omega
    have hle := h.le
    have hsm := h.small
    have HR := Lib.hid h; clear h hs hz
    go_enter Tryz.func160, Tryz.ntmps160
    go_wp2_with fail
    go_quiet (fail)
    go_wp2_with (go_at_call 102; refine (fail_any g s p bad 5 p _ (HR.out.drewN _) (by omega)).mono ?_; rintro e w1 ⟨rfl, h1⟩)
    go_end0
    exact ⟨rfl, h1.after ((Chg.refl _ _).drewN _)⟩
end Go.Proofs.YtifgmnafjihlkaaGreatDoor
/- name's reader: kind (a type's word). Printed by gen_kind.py. -/
namespace Go.Proofs.YtifgmnafjihlkaaGreatDoor
open Go Go.RowKit

theorem getQ {s : ByteArray} {q : Nat} (h : q < s.size) : (toL s)[q]? = some s[q] := by
  unfold toL
  have h8 := congrArg (·[0]?) (drop_at s h)
  simpa using h8
theorem getQ_none {s : ByteArray} {q : Nat} (h : ¬ q < s.size) : (toL s)[q]? = none := by
  have := Lib.size_eq s
  exact List.getElem?_eq_none (by unfold toL; omega)
theorem kind_let {s : ByteArray} {p : Nat} (hp : p < s.size) (hl : isLet s[p] = true) : kindN ((toL s).drop p) = (twEnd tailC (toL s) p - p, (toL s)[twEnd tailC (toL s) p]? == some 61) := by
  have hd : (toL s).drop p = s[p] :: (toL s).drop (p + 1) := by unfold toL; exact drop_at s hp
  have e : kindN ((toL s).drop p) = ((((toL s).drop p).takeWhile tailC).length, ((toL s).drop p)[(((toL s).drop p).takeWhile tailC).length]? == some 61) := by
    rw [hd]
    unfold kindN
    simp only [hl, if_true]
  rw [e, List.getElem?_drop]
  unfold twEnd
  rw [Nat.add_sub_cancel_left]
theorem kind_num {s : ByteArray} {p : Nat} (hl : ∀ hp : p < s.size, isLet s[p] = false) : ∃ f, s.size - p + 1 ≤ f ∧ oidN f ((toL s).drop p) 0 true = kindN ((toL s).drop p) := by
  have hz : (toL s).length = s.size := Lib.size_eq s
  refine ⟨((toL s).drop p).length + 1, by rw [List.length_drop, hz]; exact Nat.le_refl _, ?_⟩
  by_cases hp : p < s.size
  · have hd : (toL s).drop p = s[p] :: (toL s).drop (p + 1) := by unfold toL; exact drop_at s hp
    rw [hd]
    unfold kindN
    simp only [hl hp, if_false, Bool.false_eq_true]
  · have hd : (toL s).drop p = [] := List.drop_eq_nil_of_le (by omega)
    rw [hd]
    rfl
/-- how far a number goes -/
def dN (s : ByteArray) (q : Nat) : Nat := if (toL s)[q]? = some 48 then 1 else twEnd dig (toL s) q - q
theorem oid_step {s : ByteArray} {p q f : Nat} (one : Bool) (hpq : p ≤ q) : oidN (f + 1) ((toL s).drop q) (q - p) one =
    if dN s q = 0 then (q - p, false)
    else if (toL s)[q + dN s q]? = some 46 then oidN f ((toL s).drop (q + dN s q + 1)) (q + dN s q + 1 - p) false
    else if one then (q + dN s q - p, false)
    else (q + dN s q - p, (toL s)[q + dN s q]? == some 61) := by
  have e1 : ((toL s).drop q).head? = (toL s)[q]? := by simp [List.head?_eq_getElem?]
  have e2 : (if ((toL s).drop q).head? = some 48 then 1 else (((toL s).drop q).takeWhile dig).length) = dN s q := by
    unfold dN twEnd
    rw [e1, Nat.add_sub_cancel_left]
  rw [oidN]
  simp only [e2]
  generalize dN s q = d
  simp only [List.getElem?_drop, List.drop_drop]
  rw [show q - p + d + 1 = q + d + 1 - p by omega, show q - p + d = q + d - p by omega, show q + (d + 1) = q + d + 1 by omega]
def KindPost (w : World) (g : Nat) (s : ByteArray) (p : Nat) (bad : Option Addr) (k : Nat × Bool) (e : Ending) (w' : World) : Prop :=
  (k.2 = true → e = .returned (.string (s.extract p (p + k.1))) ∧ Rd w' g s (p + k.1 + 1) bad ∧ Chg (· = g) w w') ∧
  (k.2 = false → e = .returned (.string ⟨#[]⟩) ∧ RdBad w g s (stuckAt (toL s) (p + k.1)) w')
theorem KindPost.yes {w w' : World} {g : Nat} {s : ByteArray} {p q : Nat} {bad : Option Addr} {k : Nat × Bool} {e : Ending} (hk : k = (q - p, (toL s)[q]? == some 61)) (hpq : p ≤ q) (hq : q < s.size) (h61 : s[q] = 61) (he : e = .returned (.string (s.extract p q))) (h : Rd w' g s (q + 1) bad) (hc : Chg (· = g) w w') : KindPost w g s p bad k e w' := by
  rw [getQ hq, h61] at hk
  subst hk
  refine ⟨fun _ => ?_, fun h => by simp at h⟩
  show e = .returned (.string (s.extract p (p + (q - p)))) ∧ Rd w' g s (p + (q - p) + 1) bad ∧ _
  rw [show p + (q - p) = q by omega]
  exact ⟨he, h, hc⟩
theorem KindPost.no {w w' : World} {g : Nat} {s : ByteArray} {p q : Nat} {bad : Option Addr} {k : Nat × Bool} {e : Ending} (hk : k = (q - p, false)) (hpq : p ≤ q) (he : e = .returned (.string ⟨#[]⟩)) (h : RdBad w g s (stuckAt (toL s) q) w') : KindPost w g s p bad k e w' := by
  subst hk
  refine ⟨fun h => by simp at h, fun _ => ?_⟩
  show _ ∧ RdBad w g s (stuckAt (toL s) (p + (q - p))) w'
  rw [show p + (q - p) = q by omega]
  exact ⟨he, h⟩
theorem kn_no {s : ByteArray} {k : Nat × Bool} {p q : Nat} (hk : k = (q - p, (toL s)[q]? == some 61)) (h : ∀ hq : q < s.size, s[q] ≠ 61) : k = (q - p, false) := by
  rw [hk]
  by_cases hq : q < s.size
  · rw [getQ hq]
    have := h hq
    simp [this]
  · rw [getQ_none hq]; rfl
theorem u8_ne {b c : UInt8} (h : b ≠ c) : ((b.toNat : Int) == (c.toNat : Int)) = false := by
  have : b.toNat ≠ c.toNat := fun e => h (UInt8.toNat_inj.1 e)
  simp; omega
theorem Rd.putN {w : World} {g : Nat} {s : ByteArray} {p : Nat} {bad : Option Addr} (h : Rd w g s p bad) {q : Nat} (hq : q ≤ s.size) {x : Int} (hx : x = (q : Nat)) : Rd (w.setCell ⟨g, 1, none⟩ (.int .i64 x)) g s q bad := by subst hx; exact h.put hq
set_option maxRecDepth 20000 in
set_option maxHeartbeats 6000000 in
theorem nkind_any (g : Nat) (s : ByteArray) (p : Nat) (bad : Option Addr) (w : World) (h : Rd w g s p bad) :
    Calls Tryz.prog 100 #[.pointer (some ⟨g, 0, none⟩)] w fun e w' => KindPost w g s p bad (kindN ((toL s).drop p)) e w' := by
  have hsm := h.small
  have hple := h.le
  have hlet := fun hp hl => @kind_let s p hp hl
  have hnum := fun hl => @kind_num s p hl
  generalize kindN ((toL s).drop p) = K at hlet hnum ⊢
  have HLET := Lib.hid hlet; have HNUM := Lib.hid hnum; clear hlet hnum
  have c0 := h.c0
  have c1 := h.c1
  have cf := h.fr 1
  have HR := Lib.hid h; clear h
  have hnd : (∃ hp : p < s.size, isLet s[p] = true) ∨ ∀ hp : p < s.size, isLet s[p] = false := by
    by_cases hp : p < s.size
    · cases hl : isLet s[p] with
      | true => exact .inl ⟨hp, hl⟩
      | false => exact .inr fun _ => hl
    · exact .inr fun hp2 => absurd hp2 hp
  have hb : ∃ b : Bool, (b = true → ∃ hp : p < s.size, isLet s[p] = true) ∧ (b = false → ∀ hp : p < s.size, isLet s[p] = false) := by
    rcases hnd with h | h
    · exact ⟨true, ⟨fun _ => h, fun h => by cases h⟩⟩
    · exact ⟨false, ⟨(fun h => nomatch h), fun _ => h⟩⟩
  obtain ⟨b, hb1, hb2⟩ := hb
  have HB1 := Lib.hid hb1; have HB2 := Lib.hid hb2; clear hb1 hb2 hnd
  go_enter Tryz.func100, Tryz.ntmps100
  go_upto_region 2 with fail
  go_cut [30] (fun s30 wx => s30 = .bool b ∧ ∃ n, wx = w.drewN n)
  case first =>
    cases b with
    | true =>
      obtain ⟨hp, hl⟩ := HB1.out rfl
      have hc := fun w => nletter_any (s[p]'hp) w
      rw [hl] at hc
      have HC := Lib.hid hc; clear hc hl
      have d1 : decide ((p : Int) < (s.size : Int)) = true := by simp; omega
      have d2 : (p : Int) < (s.size : Int) := by omega
      have d3 : (0 : Int) ≤ (p : Int) := by omega
      generalize hbb : (s[p]'hp) = bb at HC
      go_quiet ((go_at_call 156; exact Calls.quiet_of_same (HC.out _)))
      go_wp2_with fail
      go_meet
      exact ⟨rfl, _, rfl⟩
    | false =>
      by_cases hp : p < s.size
      · have hl := HB2.out rfl hp
        have hc := fun w => nletter_any (s[p]'hp) w
        rw [hl] at hc
        have HC := Lib.hid hc; clear hc hl
        have d1 : decide ((p : Int) < (s.size : Int)) = true := by simp; omega
        have d2 : (p : Int) < (s.size : Int) := by omega
        have d3 : (0 : Int) ≤ (p : Int) := by omega
        generalize hbb : (s[p]'hp) = bb at HC
        go_quiet ((go_at_call 156; exact Calls.quiet_of_same (HC.out _)))
        go_wp2_with fail
        go_meet
        exact ⟨rfl, _, rfl⟩
      · have d1 : decide ((p : Int) < (s.size : Int)) = false := by simp; omega
        go_quiet (fail)
        go_wp2_with fail
        go_meet
        exact ⟨rfl, _, rfl⟩
  case rest =>
    obtain ⟨rfl, n0, rfl⟩ := hcut
    have hr0 := HR.out.drewN n0
    have hch0 : Chg (· = g) w (w.drewN n0) := (Chg.refl _ _).drewN _
    clear c0 c1 cf HR
    generalize w.drewN n0 = w0 at hr0 hch0 ⊢
    have HR := Lib.hid (And.intro hr0 hch0); clear hr0 hch0
    go_upto_if 30 with fail
    go_cut [] (fun wx => ∃ q : Nat, p ≤ q ∧ Rd wx g s q bad ∧ Chg (· = g) w wx ∧ K = (q - p, (toL s)[q]? == some 61))
    case first =>
      cases b with
      | true =>
        obtain ⟨hp, hl⟩ := HB1.out rfl
        have HK := Lib.hid (HLET.out hp hl); clear HLET HNUM HB1 HB2 hl
        go_wp2_with (go_at_call 157; with_reducible refine (skipT_any g s p bad _ HR.out.1).mono ?_; rintro e w1 ⟨rfl, hr1, hch1⟩)
        go_meet
        exact ⟨twEnd tailC (toL s) p, by unfold twEnd; omega, hr1, HR.out.2.trans hch1, HK.out⟩
      | false =>
        obtain ⟨f, hf, hof⟩ := HNUM.out (HB2.out rfl)
        have HOF := Lib.hid hof; clear hof HLET HNUM HB1 HB2
        go_wp2_with fail
        go_loopw [4] (fun iv wr => ∃ q rows : Nat, iv = .int .i64 (rows : Nat) ∧ 1 ≤ rows ∧ rows ≤ q + 1 ∧ p ≤ q ∧ Rd wr g s q bad ∧ Chg (· = g) w wr ∧ ∃ f, s.size - q ≤ f ∧ oidN (f + 1) ((toL s).drop q) (q - p) (rows == 1) = K) (fun _ wr => s.size - rdAt g wr)
        case atStart => exact ⟨p, 1, rfl, Nat.le_refl _, by omega, Nat.le_refl _, HR.out.1, HR.out.2, f - 1, by omega, by rw [show f - 1 + 1 = f by omega, Nat.sub_self]; exact HOF.out⟩
        case round =>
          obtain ⟨q, rows, rfl, h1, h2, hpq, hrd, hch, f, hf, hof⟩ := hrel
          clear HOF HR
          have HOF := Lib.hid hof; clear hof
          have e0 := hrd.c0
          have e1 := hrd.c1
          have ef := hrd.fr 1
          have hqle := hrd.le
          have hat := rdAt_of e1
          have HAT := Lib.hid hat; clear hat
          have H1 := Lib.hid (And.intro hrd hch); clear hrd hch
          go_wp2_with fail
          by_cases h48 : ∃ hz : q < s.size, s[q] = 48
          · obtain ⟨hz, h48⟩ := h48
            have d1 : decide ((q : Int) < (s.size : Int)) = true := by simp; omega
            have d2 : (q : Int) < (s.size : Int) := by omega
            have d3 : (0 : Int) ≤ (q : Int) := by omega
            have hdn : dN s q = 1 := by unfold dN; rw [getQ hz, h48, if_pos rfl]
            have e48 : s[q].toNat = 48 := by rw [h48]; rfl
            have b48 : (((s[q].toNat : Nat) : Int) == 48) = true := by rw [e48]; rfl
            clear h48 e48
            generalize hbb : (s[q]'hz) = bb at b48
            go_quiet (fail)
            go_upto_region 11 with fail
            have hfin := (H1.out.1.drewN nq).putN (q := q + 1) (x := (q : Int) + 1) (by omega) (by omega)
            have hch2 := (H1.out.2.drewN nq).setCell (p := ⟨g, 1, none⟩) (fun _ => rfl) (.int .i64 ((q : Int) + 1))
            clear d1 d2 d3 b48 e0 e1 ef hbb
            have hq1 : q + 1 = q + dN s q := by rw [hdn]
            generalize (wr.drewN nq).setCell ⟨g, 1, none⟩ (.int .i64 ((q : Int) + 1)) = w1 at hfin hch2 ⊢
            clear H1
            generalize hqq : q + 1 = q1 at hfin hq1
            have HN0 := Lib.hid (show dN s q ≠ 0 by omega)
            clear hdn hqq
            have e0 := hfin.c0
            have e1 := hfin.c1
            have ef := hfin.fr 1
            have hqle1 := hfin.le
            have H1 := Lib.hid (And.intro hfin hch2); clear hfin hch2
            have hmd : oidN (f + 1) ((toL s).drop q) (q - p) (rows == 1) = if (toL s)[q1]? = some 46 then oidN f ((toL s).drop (q1 + 1)) (q1 + 1 - p) false else if (rows == 1) then (q1 - p, false) else (q1 - p, (toL s)[q1]? == some 61) := by
              rw [oid_step _ hpq, if_neg HN0.out, ← hq1]
            have hq2 : q < q1 := by have := HN0.out; omega
            have hq3 : p ≤ q1 := by omega
            rw [HOF.out] at hmd
            have HMD := Lib.hid hmd; clear hmd hq1 HN0
            by_cases hdot : ∃ hz : q1 < s.size, s[q1] = 46
            · obtain ⟨hz, h46⟩ := hdot
              have d1 : decide ((q1 : Int) < (s.size : Int)) = true := by simp; omega
              have d2 : (q1 : Int) < (s.size : Int) := by omega
              have d3 : (0 : Int) ≤ (q1 : Int) := by omega
              have hK : K = oidN f ((toL s).drop (q1 + 1)) (q1 + 1 - p) false := by
                rw [HMD.out, getQ hz, h46, if_pos rfl]
              have e46 : s[q1].toNat = 46 := by rw [h46]; rfl
              have b46 : (((s[q1].toNat : Nat) : Int) == 46) = true := by rw [e46]; rfl
              have HK := Lib.hid hK; clear hK HMD HOF h46 e46
              go_quiet (fail)
              go_wp2_with fail
              have hfin := (H1.out.1.drewN nq).putN (q := q1 + 1) (x := (q1 : Int) + 1) (by omega) (by omega)
              refine ⟨⟨q1 + 1, rows + 1, by simp, by omega, by omega, by omega, hfin, (H1.out.2.drewN nq).setCell (p := ⟨g, 1, none⟩) (fun _ => rfl) _, f - 1, ?_, ?_⟩, ?_⟩
              · omega
              · rw [show f - 1 + 1 = f by omega, HK.out, show ((rows + 1 : Nat) == 1) = false by simp; omega]
              · rw [HAT.out, rdAt_of (p := q1 + 1) hfin.c1]
                omega
            · have hK : K = if (rows == 1) then (q1 - p, false) else (q1 - p, (toL s)[q1]? == some 61) := by
                rw [HMD.out, if_neg]
                intro h
                by_cases hz : q1 < s.size
                · rw [getQ hz] at h
                  exact hdot ⟨hz, Option.some.inj h⟩
                · rw [getQ_none hz] at h
                  cases h
              clear HMD HOF
              by_cases hz : q1 < s.size
              · have d1 : decide ((q1 : Int) < (s.size : Int)) = true := by simp; omega
                have d2 : (q1 : Int) < (s.size : Int) := by omega
                have d3 : (0 : Int) ≤ (q1 : Int) := by omega
                have b46 : (((s[q1].toNat : Nat) : Int) == 46) = false := u8_ne (c := 46) fun h => hdot ⟨hz, h⟩
                clear hdot
                by_cases hr1 : rows = 1
                · subst hr1
                  have HK := Lib.hid hK; clear hK
                  go_quiet (fail)
                  go_wp2_with (go_at_call 160; with_reducible refine (stuck_any g s q1 bad _ (H1.out.1.drewN _)).mono ?_; rintro e w2 ⟨rfl, hb2⟩)
                  go_ret
                  exact KindPost.no (HK.out.trans (if_pos rfl)) hq3 rfl (hb2.after (H1.out.2.drewN _))
                · rw [if_neg (by simpa using hr1)] at hK
                  have hr2 : ((rows : Int) == 1) = false := by simp; omega
                  have HK := Lib.hid hK; clear hK
                  go_quiet (fail)
                  go_wp2_with fail
                  go_meet
                  exact ⟨q1, hq3, H1.out.1.drewN _, H1.out.2.drewN _, HK.out⟩
              · have d1 : decide ((q1 : Int) < (s.size : Int)) = false := by simp; omega
                clear hdot
                by_cases hr1 : rows = 1
                · subst hr1
                  have HK := Lib.hid hK; clear hK
                  go_quiet (fail)
                  go_wp2_with (go_at_call 160; with_reducible refine (stuck_any g s q1 bad _ (H1.out.1.drewN _)).mono ?_; rintro e w2 ⟨rfl, hb2⟩)
                  go_ret
                  exact KindPost.no (HK.out.trans (if_pos rfl)) hq3 rfl (hb2.after (H1.out.2.drewN _))
                · rw [if_neg (by simpa using hr1)] at hK
                  have hr2 : ((rows : Int) == 1) = false := by simp; omega
                  have HK := Lib.hid hK; clear hK
                  go_quiet (fail)
                  go_wp2_with fail
                  go_meet
                  exact ⟨q1, hq3, H1.out.1.drewN _, H1.out.2.drewN _, HK.out⟩
          · have hdn : dN s q = twEnd dig (toL s) q - q := by
              unfold dN
              rw [if_neg]
              intro h
              by_cases hz : q < s.size
              · rw [getQ hz] at h
                exact h48 ⟨hz, Option.some.inj h⟩
              · rw [getQ_none hz] at h
                cases h
            have hq0 : q ≤ twEnd dig (toL s) q := by unfold twEnd; omega
            by_cases hz : q < s.size
            · have d1 : decide ((q : Int) < (s.size : Int)) = true := by simp; omega
              have d2 : (q : Int) < (s.size : Int) := by omega
              have d3 : (0 : Int) ≤ (q : Int) := by omega
              have b48 : (((s[q].toNat : Nat) : Int) == 48) = false := u8_ne (c := 48) fun h => h48 ⟨hz, h⟩
              clear h48
              generalize hbb : (s[q]'hz) = bb at b48
              go_quiet (fail)
              go_upto_region 8 with fail
              clear d1 d2 d3 b48 e0 e1 ef hbb
              have hsk := skipD_any g s q bad _ (H1.out.1.drewN nq)
              by_cases hd0 : dN s q = 0
              · have hte : twEnd dig (toL s) q = q := by omega
                rw [hte] at hsk
                have hzz : ((q : Nat) : Int) - (q : Nat) = 0 := by omega
                rw [hzz] at hsk
                have hK : K = (q - p, false) := by rw [← HOF.out, oid_step _ hpq, if_pos hd0]
                have HSK := Lib.hid hsk; have HK := Lib.hid hK; clear hsk hK hd0 hdn hq0 hte HOF
                go_wp2_with (go_at_call 157; with_reducible refine HSK.out.mono ?_; rintro e w1 ⟨rfl, hr1, hch1⟩)
                have hch2 := (H1.out.2.drewN nq).trans hch1
                clear hch1 H1
                have e0 := hr1.c0
                have e1 := hr1.c1
                have H1 := Lib.hid (And.intro hr1 hch2); clear hr1 hch2
                go_wp2_with (go_at_call 160; with_reducible refine (stuck_any g s q bad _ H1.out.1).mono ?_; rintro e w2 ⟨rfl, hb2⟩)
                go_ret
                exact KindPost.no HK.out hpq rfl (hb2.after H1.out.2)
              · have hq1 : twEnd dig (toL s) q = q + dN s q := by omega
                generalize hq1d : twEnd dig (toL s) q = q1 at hsk hq1 hdn hq0
                have hb0 : (((q1 : Nat) : Int) - (q : Nat) == 0) = false := by simp; omega
                have HSK := Lib.hid hsk; have HN0 := Lib.hid hd0; clear hsk hdn hq1d hd0
                have HQ1 := Lib.hid hq1; clear hq1
                go_upto_region 11 with (go_at_call 157; with_reducible refine HSK.out.mono ?_; rintro e w1 ⟨rfl, hr1, hch1⟩)
                have hch2 := (H1.out.2.drewN nq).trans hch1
                clear hch1 H1 hb0
                have hqle1 := hr1.le
                have e0 := hr1.c0
                have e1 := hr1.c1
                have ef := hr1.fr 1
                have H1 := Lib.hid (And.intro hr1 hch2); clear hr1 hch2
                have hq1 := HQ1.out; clear HQ1
                have hmd : oidN (f + 1) ((toL s).drop q) (q - p) (rows == 1) = if (toL s)[q1]? = some 46 then oidN f ((toL s).drop (q1 + 1)) (q1 + 1 - p) false else if (rows == 1) then (q1 - p, false) else (q1 - p, (toL s)[q1]? == some 61) := by
                  rw [oid_step _ hpq, if_neg HN0.out, ← hq1]
                have hq2 : q < q1 := by have := HN0.out; omega
                have hq3 : p ≤ q1 := by omega
                rw [HOF.out] at hmd
                have HMD := Lib.hid hmd; clear hmd hq1 HN0
                by_cases hdot : ∃ hz : q1 < s.size, s[q1] = 46
                · obtain ⟨hz, h46⟩ := hdot
                  have d1 : decide ((q1 : Int) < (s.size : Int)) = true := by simp; omega
                  have d2 : (q1 : Int) < (s.size : Int) := by omega
                  have d3 : (0 : Int) ≤ (q1 : Int) := by omega
                  have hK : K = oidN f ((toL s).drop (q1 + 1)) (q1 + 1 - p) false := by
                    rw [HMD.out, getQ hz, h46, if_pos rfl]
                  have e46 : s[q1].toNat = 46 := by rw [h46]; rfl
                  have b46 : (((s[q1].toNat : Nat) : Int) == 46) = true := by rw [e46]; rfl
                  have HK := Lib.hid hK; clear hK HMD HOF h46 e46
                  go_quiet (fail)
                  go_wp2_with fail
                  have hfin := (H1.out.1.drewN nq).putN (q := q1 + 1) (x := (q1 : Int) + 1) (by omega) (by omega)
                  refine ⟨⟨q1 + 1, rows + 1, by simp, by omega, by omega, by omega, hfin, (H1.out.2.drewN nq).setCell (p := ⟨g, 1, none⟩) (fun _ => rfl) _, f - 1, ?_, ?_⟩, ?_⟩
                  · omega
                  · rw [show f - 1 + 1 = f by omega, HK.out, show ((rows + 1 : Nat) == 1) = false by simp; omega]
                  · rw [HAT.out, rdAt_of (p := q1 + 1) hfin.c1]
                    omega
                · have hK : K = if (rows == 1) then (q1 - p, false) else (q1 - p, (toL s)[q1]? == some 61) := by
                    rw [HMD.out, if_neg]
                    intro h
                    by_cases hz : q1 < s.size
                    · rw [getQ hz] at h
                      exact hdot ⟨hz, Option.some.inj h⟩
                    · rw [getQ_none hz] at h
                      cases h
                  clear HMD HOF
                  by_cases hz : q1 < s.size
                  · have d1 : decide ((q1 : Int) < (s.size : Int)) = true := by simp; omega
                    have d2 : (q1 : Int) < (s.size : Int) := by omega
                    have d3 : (0 : Int) ≤ (q1 : Int) := by omega
                    have b46 : (((s[q1].toNat : Nat) : Int) == 46) = false := u8_ne (c := 46) fun h => hdot ⟨hz, h⟩
                    clear hdot
                    by_cases hr1 : rows = 1
                    · subst hr1
                      have HK := Lib.hid hK; clear hK
                      go_quiet (fail)
                      go_wp2_with (go_at_call 160; with_reducible refine (stuck_any g s q1 bad _ (H1.out.1.drewN _)).mono ?_; rintro e w2 ⟨rfl, hb2⟩)
                      go_ret
                      exact KindPost.no (HK.out.trans (if_pos rfl)) hq3 rfl (hb2.after (H1.out.2.drewN _))
                    · rw [if_neg (by simpa using hr1)] at hK
                      have hr2 : ((rows : Int) == 1) = false := by simp; omega
                      have HK := Lib.hid hK; clear hK
                      go_quiet (fail)
                      go_wp2_with fail
                      go_meet
                      exact ⟨q1, hq3, H1.out.1.drewN _, H1.out.2.drewN _, HK.out⟩
                  · have d1 : decide ((q1 : Int) < (s.size : Int)) = false := by simp; omega
                    clear hdot
                    by_cases hr1 : rows = 1
                    · subst hr1
                      have HK := Lib.hid hK; clear hK
                      go_quiet (fail)
                      go_wp2_with (go_at_call 160; with_reducible refine (stuck_any g s q1 bad _ (H1.out.1.drewN _)).mono ?_; rintro e w2 ⟨rfl, hb2⟩)
                      go_ret
                      exact KindPost.no (HK.out.trans (if_pos rfl)) hq3 rfl (hb2.after (H1.out.2.drewN _))
                    · rw [if_neg (by simpa using hr1)] at hK
                      have hr2 : ((rows : Int) == 1) = false := by simp; omega
                      have HK := Lib.hid hK; clear hK
                      go_quiet (fail)
                      go_wp2_with fail
                      go_meet
                      exact ⟨q1, hq3, H1.out.1.drewN _, H1.out.2.drewN _, HK.out⟩
            · have d1 : decide ((q : Int) < (s.size : Int)) = false := by simp; omega
              clear h48
              go_quiet (fail)
              go_upto_region 8 with fail
              clear d1 e0 e1 ef
              have hte : twEnd dig (toL s) q = q := by
                have := tw_out (P := dig) (p := q) hqle
                omega
              have hd0 : dN s q = 0 := by omega
              have hsk := skipD_any g s q bad _ (H1.out.1.drewN nq)
              rw [hte] at hsk
              have hzz : ((q : Nat) : Int) - (q : Nat) = 0 := by omega
              rw [hzz] at hsk
              have hK : K = (q - p, false) := by rw [← HOF.out, oid_step _ hpq, if_pos hd0]
              have HSK := Lib.hid hsk; have HK := Lib.hid hK; clear hsk hK hd0 hdn hq0 hte HOF
              go_wp2_with (go_at_call 157; with_reducible refine HSK.out.mono ?_; rintro e w1 ⟨rfl, hr1, hch1⟩)
              have hch2 := (H1.out.2.drewN nq).trans hch1
              clear hch1 H1
              have e0 := hr1.c0
              have e1 := hr1.c1
              have H1 := Lib.hid (And.intro hr1 hch2); clear hr1 hch2
              go_wp2_with (go_at_call 160; with_reducible refine (stuck_any g s q bad _ H1.out.1).mono ?_; rintro e w2 ⟨rfl, hb2⟩)
              go_ret
              exact KindPost.no HK.out hpq rfl (hb2.after H1.out.2)
    case rest =>
      obtain ⟨q, hpq, hr1, hch, hk⟩ := hcut
      have HK := Lib.hid hk; clear hk HLET HNUM HB1 HB2
      have e0 := hr1.c0
      have e1 := hr1.c1
      have ef := hr1.fr 1
      have hqle := hr1.le
      have H1 := Lib.hid (And.intro hr1 hch); clear hr1 hch
      go_wp2_with fail
      by_cases hz : q < s.size
      · have d1 : decide ((q : Int) = (s.size : Int)) = false := by simp; omega
        have d1' : ((q : Int) == (s.size : Int)) = false := by simp; omega
        have d2 : (q : Int) < (s.size : Int) := by omega
        have d3 : (0 : Int) ≤ (q : Int) := by omega
        by_cases h61 : s[q] = 61
        · have e61 : s[q].toNat = 61 := by rw [h61]; rfl
          have b61 : (((s[q].toNat : Nat) : Int) != 61) = false := by rw [e61]; rfl
          have r1 : (q : Int) + 1 - 1 = (q : Int) := by omega
          have r2 : (p : Int) ≤ (q : Int) := by omega
          have r3 : (q : Int) ≤ (s.size : Int) := by omega
          have H61 := Lib.hid h61; clear h61 e61
          go_quiet (fail)
          go_wp2_with fail
          go_quiet (fail)
          go_wp2_with fail
          go_ret
          exact KindPost.yes HK.out hpq hz H61.out rfl (((H1.out.1.drewN _).putN (by omega) (by omega)).drewN _) (((H1.out.2.drewN _).setCell (p := ⟨g, 1, none⟩) (fun _ => rfl) _).drewN _)
        · have b61 : (((s[q].toNat : Nat) : Int) != 61) = true := by
            have := u8_ne (c := 61) h61
            simpa using this
          have H61 := Lib.hid h61; clear h61
          go_quiet (fail)
          go_wp2_with (go_at_call 160; with_reducible refine (stuck_any g s q bad _ (H1.out.1.drewN _)).mono ?_; rintro e w2 ⟨rfl, hb2⟩)
          go_ret
          exact KindPost.no (kn_no HK.out fun _ => H61.out) hpq rfl (hb2.after (H1.out.2.drewN _))
      · obtain rfl : q = s.size := by omega
        have d1 : decide (((s.size : Nat) : Int) = (s.size : Int)) = true := by simp
        have d1' : (((s.size : Nat) : Int) == (s.size : Int)) = true := by simp
        go_quiet (fail)
        go_wp2_with (go_at_call 160; with_reducible refine (stuck_any g s s.size bad _ (H1.out.1.drewN _)).mono ?_; rintro e w2 ⟨rfl, hb2⟩)
        go_ret
        exact KindPost.no (kn_no HK.out fun h => absurd h (Nat.lt_irrefl _)) hpq rfl (hb2.after (H1.out.2.drewN _))
end Go.Proofs.YtifgmnafjihlkaaGreatDoor
/- A region that draws its order, in which the loaded cells are written only at the end: a condition C on the world holds until operation s0 (the first store) has come up. Laws of my own over the library's moves. -/
namespace Go.Proofs.YtifgmnafjihlkaaGreatDoor
open Go

section
variable {P : Program} {ops : Array Oper} {Q : Exit → Act → World → Prop} {md : Region.Mode} {C : World → Prop} {s0 : Nat}

/-- whatever order is picked from here on; until s0 has come up, C holds behind each operation -/
def wpC (P : Program) (md : Region.Mode) (ops : Array Oper) (Q : Exit → Act → World → Prop) (C : World → Prop) (s0 : Nat) : Nat → Array Bool → Act → World → Prop
  | 0, listed, a, w => Region.ready md ops listed = [] ∧ Q .normal a w
  | fuel + 1, listed, a, w => (Region.ready md ops listed = [] → Q .normal a w) ∧
    ∀ i ∈ Region.ready md ops listed, wpOp P ops Q i (fun a' w' => ((listed.setIfInBounds i true).getD s0 true = false → C w') ∧ wpC P md ops Q C s0 fuel (listed.setIfInBounds i true) a' w') a w

theorem wpAny_of_wpC : ∀ (fuel : Nat) (listed : Array Bool) (a : Act) (w : World), wpC P md ops Q C s0 fuel listed a w → wpAny P md ops Q fuel listed a w
  | 0, _, _, _, h => h
  | fuel + 1, _, _, _, h => ⟨h.1, fun i hi => wpOp_mono (fun a' w' h' => wpAny_of_wpC fuel _ a' w' h'.2) (h.2 i hi)⟩

theorem wp_region_C {id : Nat} {a : Act} {w : World} (hm : P.follows .mixedOrders = true) (hC : C w.drew)
    (h : C w.drew → wpC P .any ops Q C s0 ops.size (Array.replicate ops.size false) a w.drew) : (Code.region id ops true).wp P Q a w :=
  wp_region_any hm (wpAny_of_wpC _ _ _ _ (h hC))

/-- an operation that yields its value in every world that meets Y may be taken first: Y is C where s0 waits for it, or nothing is asked -/
theorem wpC_first {Y : World → Prop} {i : Nat} {oi : Oper} {v : Value} (hi : ops[i]? = some oi) (hsel : ∀ (j : Nat) (o : Oper) cs b, ops[j]? = some o → o.op ≠ .select cs b)
    (hQ : ∀ c a w, Q (.panic c) (a.put oi.dst v) w → Q (.panic c) a w) (his : i ≠ s0)
    (hY : (∀ w, Y w) ∨ ((∀ w, C w → Y w) ∧ ∃ os, ops[s0]? = some os ∧ ∃ e ∈ os.after, Region.binds md e = true ∧ e.on = i)) :
    ∀ (fuel : Nat) (listed : Array Bool) (a : Act) (w : World),
      (∀ j oj, ops[j]? = some oj → j ≠ i → listed.getD j true = false → (∀ e ∈ oj.after, Region.binds md e = true → e.on ≠ i) → oi.apart ops oj = true) →
      i ∈ Region.ready md ops listed → YieldsIf P ops Y oi v a → Y w → (listed.getD s0 true = false → C w) → ((∀ w, Y w) ∨ listed.getD s0 true = false) →
      wpC P md ops Q C s0 fuel (listed.setIfInBounds i true) (a.put oi.dst v) w → wpC P md ops Q C s0 (fuel + 1) listed a w := by
  intro fuel
  have same : ∀ listed : Array Bool, (listed.setIfInBounds i true).getD s0 true = listed.getD s0 true := fun l => getD_set_ne true his
  induction fuel with
  | zero =>
    intro listed a w _ hr hy hyw hC _ H
    refine ⟨fun h => (by rw [h] at hr; cases hr), fun j hj => ?_⟩
    by_cases e : j = i
    · subst e; exact hy.wpOp hi hyw ⟨fun h => hC (by rw [same] at h; exact h), H⟩
    · have := ready_mono hj e
      rw [H.1] at this; cases this
  | succ fuel ih =>
    intro listed a w hfree hr hy hyw hC hlate H
    refine ⟨fun h => (by rw [h] at hr; cases hr), fun j hj => ?_⟩
    by_cases e : j = i
    · subst e; exact hy.wpOp hi hyw ⟨fun h => hC (by rw [same] at h; exact h), H⟩
    · have h1 := H.2 j (ready_mono hj e)
      obtain ⟨hjun, oj, hoj, hall⟩ := mem_ready.1 hj
      have hiun := (mem_ready.1 hr).1
      have waits : ∀ e ∈ oj.after, Region.binds md e = true → e.on ≠ i := fun e he hb heq => by
        have h2 := hall e he hb
        rw [heq] at h2
        rcases Nat.lt_or_ge i listed.size with h' | h'
        · simp [h'] at hiun h2; rw [hiun] at h2; cases h2
        · simp [Array.getElem?_eq_none h'] at h2
      -- the first store does not come up while i waits
      have hjs : (∀ w, Y w) ∨ j ≠ s0 := by
        rcases hY with h | ⟨_, os, hos, e', he', hb', hon⟩
        · exact .inl h
        · refine .inr fun e2 => ?_
          subst e2
          rw [hos] at hoj; cases hoj
          exact waits e' he' hb' hon
      have h2 := wpOp_putIf hoj (hfree j oj hoj e hjun waits) (fun cs b => hsel i oi cs b hi) (fun cs b => hsel j oj cs b hoj) hQ hy h1
      have hfree' : ∀ k ok, ops[k]? = some ok → k ≠ i → (listed.setIfInBounds j true).getD k true = false → (∀ e ∈ ok.after, Region.binds md e = true → e.on ≠ i) → oi.apart ops ok = true := fun k ok hk hki hun hno => by
        refine hfree k ok hk hki ?_ hno
        by_cases hjk : j = k
        · subst hjk; exact hjun
        · rw [getD_set_ne true hjk] at hun; exact hun
      refine wpOp_mono (fun a' w' h3 => ?_) h2
      obtain ⟨hy', hC', hW'⟩ := h3
      have sw : ((listed.setIfInBounds i true).setIfInBounds j true).getD s0 true = (listed.setIfInBounds j true).getD s0 true := by
        rw [Array.setIfInBounds_comm _ _ (Ne.symm e), same]
      have hCj : (listed.setIfInBounds j true).getD s0 true = false → C w' := fun h => hC' (by rw [sw]; exact h)
      have hlate' : (∀ w, Y w) ∨ (listed.setIfInBounds j true).getD s0 true = false := by
        rcases hjs with h | h
        · exact .inl h
        · rcases hlate with h0 | h0
          · exact .inl h0
          · exact .inr (by rw [getD_set_ne true h]; exact h0)
      have hyw' : Y w' := by
        rcases hlate' with h | h
        · exact h _
        · rcases hY with h0 | ⟨h0, _⟩
          · exact h0 _
          · exact h0 _ (hCj h)
      refine ⟨hCj, ih (listed.setIfInBounds j true) a' w' hfree' (ready_mono hr (Ne.symm e)) hy' hyw' hCj hlate' ?_⟩
      rw [Array.setIfInBounds_comm _ _ e]
      exact hW'

/-- a value that hangs on no memory -/
theorem wpC_pure {i : Nat} {oi : Oper} {v : Value} {fuel : Nat} {listed : Array Bool} {a : Act} {w : World} (hi : ops[i]? = some oi) (his : i ≠ s0)
    (hs : Region.noSelect ops = true) (hf : Region.free md ops listed i = true) (hr : (Region.ready md ops listed).contains i = true)
    (hQ : ∀ c a w, Q (.panic c) (a.put oi.dst v) w → Q (.panic c) a w) (hy : YieldsIf P ops (fun _ => True) oi v a) (hC : listed.getD s0 true = false → C w)
    (h : wpC P md ops Q C s0 fuel (listed.setIfInBounds i true) (a.put oi.dst v) w) : wpC P md ops Q C s0 (fuel + 1) listed a w :=
  wpC_first hi (Region.noSelect_spec hs) hQ his (.inl fun _ => trivial) fuel listed a w (Region.free_spec hi hf) (by simpa using hr) hy trivial hC (.inl fun _ => trivial) h
/-- a load ahead of the first store -/
theorem wpC_load {i : Nat} {oi os : Oper} {v : Value} {fuel : Nat} {listed : Array Bool} {a : Act} {w : World} (hi : ops[i]? = some oi) (his : i ≠ s0) (hos : ops[s0]? = some os) (hwait : (os.after.any fun e => Region.binds md e && e.on == i) = true)
    (hs : Region.noSelect ops = true) (hf : Region.free md ops listed i = true) (hr : (Region.ready md ops listed).contains i = true) (hl : listed.getD s0 true = false)
    (hQ : ∀ c a w, Q (.panic c) (a.put oi.dst v) w → Q (.panic c) a w) (hy : YieldsIf P ops C oi v a) (hC : C w)
    (h : wpC P md ops Q C s0 fuel (listed.setIfInBounds i true) (a.put oi.dst v) w) : wpC P md ops Q C s0 (fuel + 1) listed a w := by
  rw [Array.any_eq_true] at hwait
  obtain ⟨k, hk, he⟩ := hwait
  simp only [Bool.and_eq_true, beq_iff_eq] at he
  exact wpC_first hi (Region.noSelect_spec hs) hQ his (.inr ⟨fun _ h => h, os, hos, os.after[k], Array.getElem_mem hk, he.1, he.2⟩) fuel listed a w (Region.free_spec hi hf) (by simpa using hr) hy hC (fun _ => hC) (.inr hl) h
/-- the only one that may come up -/
theorem wpC_step {i : Nat} {o : Oper} {fuel : Nat} {listed : Array Bool} {a : Act} {w : World} (hr : Region.ready md ops listed = [i]) (ho : ops[i]? = some o)
    (h : ∀ K' : Act → World → Prop, Shut (∀ a w, ((listed.setIfInBounds i true).getD s0 true = false → C w) → wpC P md ops Q C s0 fuel (listed.setIfInBounds i true) a w → K' a w) → if Region.wanted o (yielded ops a.tmps) = true then Oper.wp P o a w K' Q else K' (a.put o.dst undef) w) :
    wpC P md ops Q C s0 (fuel + 1) listed a w :=
  ⟨(fun h0 => by rw [hr] at h0; cases h0), fun j hj => by
    rw [hr] at hj
    obtain rfl := List.mem_singleton.1 hj
    exact wpOp_step ho fun K' hK => h K' fun a w h1 h2 => hK a w ⟨h1, h2⟩⟩
theorem wpC_done {listed : Array Bool} {a : Act} {w : World} (hr : Region.ready md ops listed = []) (h : Q .normal a w) : ∀ fuel, wpC P md ops Q C s0 fuel listed a w
  | 0 => ⟨hr, h⟩
  | _ + 1 => ⟨fun _ => h, by rw [hr]; simp⟩
end
end Go.Proofs.YtifgmnafjihlkaaGreatDoor
/- Behind a region's writing call (RegionC) the rest only reads: from there on it is walked once, in the order of the text. Laws of my own. -/
namespace Go.Proofs.YtifgmnafjihlkaaGreatDoor
open Go

section
variable {P : Program} {ops : Array Oper} {Q : Exit → Act → World → Prop} {md : Region.Mode} {C C' : World → Prop} {s0 : Nat}
theorem wpC_of_any : ∀ (fuel : Nat) (listed : Array Bool) (a : Act) (w : World), listed.getD s0 true = true → wpAny P md ops Q fuel listed a w → wpC P md ops Q C s0 fuel listed a w
  | 0, _, _, _, _, h => h
  | fuel + 1, listed, a, w, hl, h => ⟨h.1, fun i hi => wpOp_mono (fun a' w' h' => by
      have hl' : (listed.setIfInBounds i true).getD s0 true = true := by
        by_cases e : i = s0
        · subst e
          by_cases hb : i < listed.size
          · simp [hb]
          · simp [hb]
        · rw [getD_set_ne true e]; exact hl
      exact ⟨fun h0 => absurd (h0.symm.trans hl') (by decide), wpC_of_any fuel _ a' w' hl' h'⟩) (h.2 i hi)⟩
theorem wpC_lex {l : List Oper} {k : Nat} {listed : Array Bool} {a : Act} {w : World} (hs0 : listed.getD s0 true = true) (hs : Region.noSelect ops = true) (hl : l = ops.toList.drop k)
    (hB : Region.lexFrom md ops l.length k listed = true) (hC : C' w) (h : wpQuiet P ops C' (fun a' => ∀ w', C' w' → Q .normal a' w') l a) : wpC P md ops Q C s0 l.length listed a w := by
  refine wpC_of_any _ _ _ _ hs0 (wpAny_of_quiet (Q := fun a' => ∀ w', C' w' → Q .normal a' w') (fun _ w' hw' h => h w' hw') _ _ _ _ hC ?_)
  exact wpAnyQ_lex hs l k listed a (fun j => by rw [hl, List.getElem?_drop]; simp) hB h
end
end Go.Proofs.YtifgmnafjihlkaaGreatDoor
