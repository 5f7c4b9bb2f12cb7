/- Part 29 of the walks and plain laws, joined: ValC. -/
import Derived.Test.YtlmfbjhokkpjhaaGreatDoorNM00
import Derived.Test.YtlmfbjhokkpjhaaGreatDoorNM28
import Derived.Test.YtlmfbjhokkpjhaaGreatDoorNM25
import Derived.BigQuiet
import Derived.BigRegion
import Derived.Deep.DeepCutAuto
import Derived.StillTailTactics
set_option linter.unusedVariables false
set_option linter.unusedSimpArgs false
namespace Go.Proofs.YtlmfbjhokkpjhaaGreatDoor
open Go Go.RowKit
theorem own_after {w : World} {nq : Nat} {w2 : World} {g : Nat} {s : ByteArray} {ft : PFault} {go : Option Nat} {n cap : Nat} {vs : List Value} (h : Own w 5 1 go n cap vs) (hne : ∀ g', go = some g' → g' ≠ g) (hb : RdBad (w.drewN nq) g s ft w2) : Own w2 5 1 go n cap vs := by
 obtain ⟨p2, fb, r1, r2, r3, r4⟩ := hb
 exact h.keep fun g' e => by
  subst e
  exact r4.block g' h.row.lt (hne g' rfl)
set_option maxRecDepth 20000 in
set_option maxHeartbeats 16000000 in
theorem nvalue_any (g : Nat) (s : ByteArray) (p : Nat) (bad : Option Addr) (w : World) (h : Rd w g s p bad) (hS : SynV w) (hgS : ∀ w', Chg (· = g) w w' → SynV w') :
  Calls Tryz.prog 75 #[.pointer (some ⟨g, 0, none⟩)] w (ValPost w g s bad (valR p ((toL s).drop p) p [] none)) := by
 have hsm := h.small
 have hple := h.le
 have hz : (toL s).length = s.size := Lib.size_eq s
 have c1 := h.c1
 have HR := Zh h
 have HS := Zh hgS
 obtain ⟨R, hR⟩ : ∃ R, R = valR p ((toL s).drop p) p [] none := ⟨_, rfl⟩
 rw [← hR]
 have HRR := Zh hR
 have HZ := Zh hz
 clear hR h hS hgS hz
 go_enter Tryz.func75, Tryz.ntmps75
 go_wp2_with fail
 clear c1
 refine wp_loopG 256 (RelVa g s p bad R w) (fun _ wr => s.size - rdAt g wr) ⟨rfl, rfl, ⟨rfl, rfl, ⟨p, [], none, none, 0, rfl, rfl, Zr _, HR.out, Own.nil _ _ _, (fun g' h => by cases h), Chg.refl _ _, HRR.out.symm, (fun x h => by cases h), Nat.zero_le _⟩⟩⟩ ?_
 intro f wr hrel
 obtain ⟨s0, s4, q, b, bare, go, cap, s3, s5, hpq, hrd, hown, hfr, hch, hval, hbar, hbl⟩ := hrel
 rw [frame_va s0 s3 s4 s5]
 have e0 := hrd.c0
 have e1 := hrd.c1
 have hqle := hrd.le
 have HAT := Zh (rdAt_of e1)
 have hI : VaI g s q bad w wr go b cap bare := ⟨hrd, hown, hfr, hch, hbar, hbl⟩
 have H1 := Zh hI
 have HV := Zh hval
 clear s0 s3 s4 s5 hrd hown hfr hch hval hbar hbl hI
 by_cases hq : q < s.size
 ·have hd : (toL s).drop q = s[q] :: (toL s).drop (q + 1) := by unfold toL; exact drop_at s hq
  have d2 : (q : Int) < (s.size : Int) := by omega
  have d3 : (0 : Int) ≤ (q : Int) := by omega
  have d1 : decide ((q : Int) < (s.size : Int)) = true := by simp; omega
  obtain ⟨c, hbb⟩ : ∃ c, s[q]'hq = c := ⟨_, rfl⟩
  rw [hbb] at hd
  by_cases hE : c = 44 ∨ c = 43
  ·have hv := HV.out
   rw [hd, valR_end hE] at hv
   have HV2 := Zh hv
   clear hv HV hd
   rcases hE with h44 | h43
   ·have n44 : (((c.toNat : Nat) : Int) != 44) = false := by rw [h44]; rfl
    go_wp2_with fail
    go_quiet (fail)
    go_upto_region 27 with fail
    obtain ⟨rd2, own2, fr2, ch2, bar2, bl2⟩ := H1.out
    have hcv := own_back (w := wr.drewN nq) own2
    cases bare with
    | none =>
     have i1 : ¬ (0 : Int) ≤ bareI none := by decide
     have hb0 : bareI none = -1 := rfl
     rw [hb0]
     clear rd2 own2 fr2 ch2 bar2 bl2
     go_wp2_with fail
     go_ret
     refine ⟨fun _ => ⟨by rw [← HV2.out]; rfl, by rw [← HV2.out]; exact H1.out.rd.drewN _, H1.out.ch.drewN _⟩, fun c q h => ?_⟩
     rw [← HV2.out] at h; cases h
    | some x =>
     have hx := bar2 x rfl
     have hb0 : bareI (some x) = ((x : Nat) : Int) := rfl
     rw [hb0]
     have i1 : (0 : Int) ≤ (x : Int) := by omega
     clear rd2 own2 fr2 ch2 bar2 bl2
     have hx2 : x ≤ 1099511627777 := by have := H1.out.rd.small; omega
     have hfl := fail_any g s q bad 50 x (wr.drewN nq) (H1.out.rd.drewN _) hx2
     have HFL := Zh hfl
     clear hfl hcv
     go_wp2_with (go_at_call 76; with_reducible refine HFL.out.mono ?_; rintro e w2 ⟨rfl, hb2⟩; have hcv := own_back (own_after H1.out.own (fun g' e => Nat.ne_of_gt (Nat.lt_of_lt_of_le HR.out.lt (H1.out.fr g' e))) hb2); have HB2 := Zh hb2; clear hb2)
     go_ret
     refine ⟨fun h => ?_, fun c q h => ⟨⟨_, rfl⟩, ?_⟩⟩
     ·rw [← HV2.out] at h; cases h
     ·rw [← HV2.out] at h; cases h
      exact HB2.out.after (H1.out.ch.drewN _)
   ·have h44 : c ≠ 44 := by rw [h43]; decide
    have n44 : (((c.toNat : Nat) : Int) != 44) = true := by have := u8_ne (c := 44) h44; simpa using this
    have n43 : (((c.toNat : Nat) : Int) != 43) = false := by rw [h43]; rfl
    go_wp2_with fail
    go_quiet (fail)
    go_upto_region 27 with fail
    obtain ⟨rd2, own2, fr2, ch2, bar2, bl2⟩ := H1.out
    have hcv := own_back (w := wr.drewN nq) own2
    cases bare with
    | none =>
     have i1 : ¬ (0 : Int) ≤ bareI none := by decide
     have hb0 : bareI none = -1 := rfl
     rw [hb0]
     clear rd2 own2 fr2 ch2 bar2 bl2
     go_wp2_with fail
     go_ret
     refine ⟨fun _ => ⟨by rw [← HV2.out]; rfl, by rw [← HV2.out]; exact H1.out.rd.drewN _, H1.out.ch.drewN _⟩, fun c q h => ?_⟩
     rw [← HV2.out] at h; cases h
    | some x =>
     have hx := bar2 x rfl
     have hb0 : bareI (some x) = ((x : Nat) : Int) := rfl
     rw [hb0]
     have i1 : (0 : Int) ≤ (x : Int) := by omega
     clear rd2 own2 fr2 ch2 bar2 bl2
     have hx2 : x ≤ 1099511627777 := by have := H1.out.rd.small; omega
     have hfl := fail_any g s q bad 50 x (wr.drewN nq) (H1.out.rd.drewN _) hx2
     have HFL := Zh hfl
     clear hfl hcv
     go_wp2_with (go_at_call 76; with_reducible refine HFL.out.mono ?_; rintro e w2 ⟨rfl, hb2⟩; have hcv := own_back (own_after H1.out.own (fun g' e => Nat.ne_of_gt (Nat.lt_of_lt_of_le HR.out.lt (H1.out.fr g' e))) hb2); have HB2 := Zh hb2; clear hb2)
     go_ret
     refine ⟨fun h => ?_, fun c q h => ⟨⟨_, rfl⟩, ?_⟩⟩
     ·rw [← HV2.out] at h; cases h
     ·rw [← HV2.out] at h; cases h
      exact HB2.out.after (H1.out.ch.drewN _)
  ·have h44 : c ≠ 44 := fun h => hE (.inl h)
   have h43 : c ≠ 43 := fun h => hE (.inr h)
   have n44 : (((c.toNat : Nat) : Int) != 44) = true := by have := u8_ne (c := 44) h44; simpa using this
   have n43 : (((c.toNat : Nat) : Int) != 43) = true := by have := u8_ne (c := 43) h43; simpa using this
   clear hE
   by_cases h92 : c = 92
   ·subst h92
    go_wp2_with fail
    go_quiet (fail)
    have hI := H1.out.drewN nq
    have e0' := hI.rd.c0
    have e1' := hI.rd.c1
    have hk := (rdAt_of e1' : rdAt g (wr.drewN nq) = q)
    clear e0 e1 H1
    generalize wr.drewN nq = wa at hI e0' e1' hk ⊢
    have H1 := Zh hI
    clear hI hk
    go_wp2_with fail
    go_quiet (fail)
    have hI := H1.out.drewN nq
    have e0 := hI.rd.c0
    have e1 := hI.rd.c1
    have ef := hI.rd.fr 1
    clear e0' e1' H1
    generalize wa.drewN nq = wb at hI e0 e1 ef ⊢
    have H1 := Zh hI
    clear hI
    obtain ⟨q1, hq1⟩ : ∃ q1 : Nat, q1 = q + 1 := ⟨_, rfl⟩
    have r1 : (q : Int) + 1 = (q1 : Int) := by omega
    have HQ1 := Zh hq1
    clear hq1
    by_cases hs1 : q1 < s.size
    ·have i1 : (q1 : Int) < (s.size : Int) := by omega
     have i2 : (0 : Int) ≤ (q1 : Int) := by omega
     have i3 : decide ((q1 : Int) < (s.size : Int)) = true := by simp; omega
     obtain ⟨x, hx⟩ : ∃ x, s[q1]'hs1 = x := ⟨_, rfl⟩
     have hd1 : (toL s).drop (q + 1) = x :: (toL s).drop (q1 + 1) := by
      have := HQ1.out
      subst this
      rw [← hx]; unfold toL; exact drop_at s hs1
     rw [hd1] at hd
     have hix := fun w => Tryz.strings_IndexByte ⟨#[34, 43, 44, 59, 60, 62, 61, 35, 32, 92]⟩ ((x.toNat : Nat) : Int) w
     have hir := index_esc x
     generalize Lib.indexByte (⟨#[34, 43, 44, 59, 60, 62, 61, 35, 32, 92]⟩ : ByteArray).data.toList ((x.toNat : Nat) : Int).toNat.toUInt8 = r at hix hir
     have HIX := Zh hix
     clear hix
     cases hes : escs.contains x with
     | true =>
      rw [hes] at hir
      replace hir : (0 : Int) ≤ r := of_decide_eq_true hir
      have hv := HV.out
      rw [hd, valR_esc hes] at hv
      have HV2 := Zh hv
      clear hv HV hd hd1 hes
      go_wp2_with fail
      go_quiet ((go_at_call 115; exact Calls.quiet_of_same (HIX.out _)))
      have hI := H1.out.drewN nq
      have e0' := hI.rd.c0
      have e1' := hI.rd.c1
      clear e0 e1 ef H1 HIX
      generalize wb.drewN nq = wd at hI e0' e1' ⊢
      have H1 := Zh hI
      clear hI
      go_wp2_with fail
      have wq1 : IntKind.i64.wrap (q1 : Int) = (q1 : Int) := IntWalk.i64_in _ (by omega)
      have hq1 : b.length ≤ 1099511627776 := by have := H1.out.bl; omega
      have hgl := HR.out.lt
      have hk1 : ∀ wz, Below wd.heap.size wd wz → wz.cell? ⟨g, 0, none⟩ = some (.string s) ∧ wz.cell? ⟨g, 1, none⟩ = some (.int .i64 (q : Nat)) := fun wz hb => ⟨(hb.cell (Zb _ _ e0')).trans e0', (hb.cell (Zb _ _ e1')).trans e1'⟩
      have HK1 := Zh hk1
      have HD1 := Zh ((Zl wd.heap.size wd).drew)
      clear hk1
      refine wp_region_C (s0 := 13) (C := fun wz => wz.cell? ⟨g, 0, none⟩ = some (.string s) ∧ wz.cell? ⟨g, 1, none⟩ = some (.int .i64 (q : Nat))) (by kernel_rfl) (HK1.out _ HD1.out) (fun hC => ?_)
      (try simp only [Act.put, Z1, Z2, Z3, Z4, Z5, Z6])
      refine Zu (i := 0) rfl (fun _ => hC) ?rr0
      (try simp only [Act.put, Z1, Z2, Z3, Z4, Z5, Z6])
      refine Zu (i := 1) rfl (fun _ => hC) ?rr1
      (try simp only [Act.put, Z1, Z2, Z3, Z4, Z5, Z6])
      refine Zu (i := 2) rfl (fun _ => hC) ?rr2
      (try simp only [Act.put, Z1, Z2, Z3, Z4, Z5, Z6])
      refine Zu (i := 3) rfl (fun _ => hC) ?rr3
      (try simp only [Act.put, Z1, Z2, Z3, Z4, Z5, Z6])
      refine Zv (i := 4) rfl rfl hC ?rr4
      (try simp only [Act.put, Z1, Z2, Z3, Z4, Z5, Z6])
      refine Zu (i := 5) rfl (fun _ => hC) ?rr5
      (try simp only [Act.put, Z1, Z2, Z3, Z4, Z5, Z6])
      refine Zu (i := 6) rfl (fun _ => hC) ?rr6
      (try simp only [Act.put, Z1, Z2, Z3, Z4, Z5, Z6])
      refine Zu (i := 7) rfl (fun _ => hC) ?rr7
      (try simp only [Act.put, Z1, Z2, Z3, Z4, Z5, Z6])
      refine Zv (i := 8) rfl rfl hC ?rr8
      (try simp only [Act.put, Z1, Z2, Z3, Z4, Z5, Z6])
      refine Zu (i := 9) rfl (fun _ => hC) ?rr9
      (try simp only [Act.put, Z1, Z2, Z3, Z4, Z5, Z6])
      refine Zu (i := 10) rfl (fun _ => hC) ?rr10
      (try simp only [Act.put, Z1, Z2, Z3, Z4, Z5, Z6])
      refine wpC_step (i := 11) (by kernel_rfl) rfl (fun K1 hK1 => ?_)
      go_simp
      have hb8 := ((Zl wd.heap.size wd).alloc (Zr _) (.cells #[.int .u8 ((x.toNat : Nat) : Int)] 5)).drew
      have hnw : ∀ ad, some (⟨wd.heap.size, 0, none⟩ : Addr) = some ad → ∀ j u, ([.int .u8 ((x.toNat : Nat) : Int)] : List Value)[j]? = some u → ((wd.alloc (.cells #[.int .u8 ((x.toNat : Nat) : Int)] 5)).drew).cell? (ad.add j) = some u := news_new wd _ #[.int .u8 ((x.toNat : Nat) : Int)] 5 rfl
      generalize (wd.alloc (.cells #[.int .u8 ((x.toNat : Nat) : Int)] 5)).drew = wa2 at hb8 hnw ⊢
      have HWA := Zh (Zi hb8 hnw); clear hb8 hnw
      refine hK1.out _ _ (fun _ => HK1.out wa2 HWA.out.1) ?_
      clear hK1 K1 hC
      have hC := HK1.out wa2 HWA.out.1
      (try simp only [Act.put, Z1, Z2, Z3, Z4, Z5, Z6])
      refine wpC_step (i := 12) (by kernel_rfl) rfl (fun K1 hK1 => ?_)
      refine step_appE eiU8 ?h1 (.tmp 102) (.tmp 113) ?h2 go b.length cap (bvs b) ?h3 (H1.out.keep HWA.out.1).own (some ⟨wd.heap.size, 0, none⟩) 1 1 [.int .u8 ((x.toNat : Nat) : Int)] ?h4 (fun h => by cases h) rfl HWA.out.2 (fun u hu => by simp at hu; subst hu; rfl) (b.length + 1) rfl (by omega) (by omega) ?_
      case h1 => rfl
      case h2 => rfl
      case h3 => rfl
      case h4 => rfl
      intro g2 cap2 w2 hO hG hat
      have hnx := fun (q' : Nat) (x' : Int) h1 h2 h3 => (H1.out.keep HWA.out.1).nextW (y := x) (bare' := none) (q' := q') (x := x') hgl hO hG hat h1 h2 h3 (fun x h => by cases h)
      have hr2 := (hnx (q + 1) (((q + 1 : Nat) : Int)) (by omega) (by omega) rfl).1
      have u0 := hr2.c0
      have u1 := hr2.c1
      have uf := hr2.fr 1
      have HNX := Zh hnx
      clear hnx hr2 hO hG hat
      refine hK1.out _ _ (fun _ => (Zi u0 u1)) ?_
      clear hK1 K1 hC
      have hC := (Zi u0 u1)
      (try simp only [Act.put, Z1, Z2, Z3, Z4, Z5, Z6])
      refine wpC_step (i := 13) (by kernel_rfl) rfl (fun K1 hK1 => ?_)
      go_simp
      refine hK1.out _ _ (fun h => absurd (h.symm.trans (by kernel_rfl : _ = true)) (by decide)) ?_
      clear hK1 K1
      (try simp only [Act.put, Z1, Z2, Z3, Z4, Z5, Z6])
      refine wpC_done (by kernel_rfl) ?_ _
      have HC2 := Zh hC
      clear u0 u1 hC e0' e1'
      have u0 := HC2.out.1
      have u1 := HC2.out.2
      go_wp2_with fail
      have hn := (HNX.out (q + 2) ((q : Int) + 2) (by omega) (by have := HQ1.out; omega) (by simp)).2
      have hv := HV2.out
      rw [HQ1.out] at hv
      exact ⟨⟨rfl, rfl, ⟨rfl, rfl, ⟨q + 2, b ++ [x], none, some g2, cap2, by rw [List.length_append]; rfl, rfl, by omega, hn.rd, hn.own, hn.fr, hn.ch, hv, hn.bar, hn.bl⟩⟩⟩, by
       show s.size - rdAt g _ < s.size - rdAt g wr
       rw [HAT.out, rdAt_of hn.rd.c1]; omega⟩
     | false =>
      rw [hes] at hir
      replace hir : ¬ (0 : Int) ≤ r := of_decide_eq_false hir
      go_wp2_with fail
      go_quiet ((go_at_call 115; exact Calls.quiet_of_same (HIX.out _)))
      have hI := H1.out.drewN nq
      have e0' := hI.rd.c0
      have e1' := hI.rd.c1
      clear e0 e1 ef H1 HIX
      generalize wb.drewN nq = wd at hI e0' e1' ⊢
      have H1 := Zh hI
      clear hI
      obtain ⟨q2, hq2⟩ : ∃ q2 : Nat, q2 = q + 2 := ⟨_, rfl⟩
      have r2 : (q : Int) + 2 = (q2 : Int) := by omega
      have HQ2 := Zh hq2
      clear hq2
      by_cases hs2 : q2 < s.size
      ·have i4 : (q2 : Int) < (s.size : Int) := by omega
       have i5 : (0 : Int) ≤ (q2 : Int) := by omega
       have i6 : decide ((q2 : Int) < (s.size : Int)) = true := by simp; omega
       obtain ⟨y, hy⟩ : ∃ y, s[q2]'hs2 = y := ⟨_, rfl⟩
       have hd2 : (toL s).drop (q1 + 1) = y :: (toL s).drop (q2 + 1) := by
        have h1 := HQ1.out
        have h2 := HQ2.out
        rw [h1, show q + 1 + 1 = q2 by omega, ← hy]; unfold toL; exact drop_at s hs2
       rw [hd2] at hd
       have HD := Zh hd
       clear hd hd1 hd2
       go_wp2_with fail
       go_quiet (fail)
       have hI := H1.out.drewN nq
       have e0 := hI.rd.c0
       have e1 := hI.rd.c1
       clear e0' e1' H1
       generalize wd.drewN nq = we at hI e0 e1 ⊢
       have H1 := Zh hI
       clear hI
       obtain ⟨q3, hq3⟩ : ∃ q3 : Nat, q3 = q2 + 1 := ⟨_, rfl⟩
       have hex : s.extract q1 q3 = ⟨#[x, y]⟩ := by
        rw [Lib.extract_eq]
        have h1 := HQ1.out
        have h2 := HQ2.out
        rw [show q3 - q1 = 2 by omega]
        have h3 : s.data.toList.drop q1 = x :: y :: s.data.toList.drop (q2 + 1) := by
         rw [← hx, drop_at s hs1, show q1 + 1 = q2 by omega, ← hy, drop_at s hs2]
        rw [h3]; rfl
       have r3 : (q : Int) + 3 = (q3 : Int) := by have h2 := HQ2.out; omega
       have k1 : (q1 : Int) ≤ (q3 : Int) := by have h2 := HQ2.out; have h1 := HQ1.out; omega
       have k2 : (q3 : Int) ≤ (s.size : Int) := by omega
       have k3 : IntKind.i64.wrap (q1 : Int) = (q1 : Int) := IntWalk.i64_in _ (by omega)
       have k4 : IntKind.i64.wrap (q3 : Int) = (q3 : Int) := IntWalk.i64_in _ (by omega)
       have HQ3 := Zh hq3
       clear hq3
       have hpu := pu16_any ⟨#[x, y]⟩ rfl we.drew (HS.out _ (H1.out.ch.drewN 1))
       have HPU := Zh hpu
       have hk1 : ∀ wz, Below we.heap.size we wz → wz.cell? ⟨g, 0, none⟩ = some (.string s) ∧ wz.cell? ⟨g, 1, none⟩ = some (.int .i64 (q : Nat)) := fun wz hb => ⟨(hb.cell (Zb _ _ e0)).trans e0, (hb.cell (Zb _ _ e1)).trans e1⟩
       have HK1 := Zh hk1
       have HD1 := Zh ((Zl we.heap.size we).drew)
       clear hk1 hpu
       go_wp2_with fail
       refine wp_region_C (s0 := 20) (C := fun wz => wz.cell? ⟨g, 0, none⟩ = some (.string s) ∧ wz.cell? ⟨g, 1, none⟩ = some (.int .i64 (q : Nat))) (by kernel_rfl) (HK1.out _ HD1.out) (fun hC => ?_)
       (try simp only [Act.put, Z1, Z2, Z3, Z4, Z5, Z6])
       refine Zu (i := 0) rfl (fun _ => hC) ?rt0
       (try simp only [Act.put, Z1, Z2, Z3, Z4, Z5, Z6])
       refine Zu (i := 1) rfl (fun _ => hC) ?rt1
       (try simp only [Act.put, Z1, Z2, Z3, Z4, Z5, Z6])
       refine Zu (i := 2) rfl (fun _ => hC) ?rt2
       (try simp only [Act.put, Z1, Z2, Z3, Z4, Z5, Z6])
       refine Zv (i := 3) rfl rfl hC ?rt3
       (try simp only [Act.put, Z1, Z2, Z3, Z4, Z5, Z6])
       refine Zu (i := 4) rfl (fun _ => hC) ?rt4
       (try simp only [Act.put, Z1, Z2, Z3, Z4, Z5, Z6])
       refine Zu (i := 5) rfl (fun _ => hC) ?rt5
       (try simp only [Act.put, Z1, Z2, Z3, Z4, Z5, Z6])
       refine Zu (i := 6) rfl (fun _ => hC) ?rt6
       (try simp only [Act.put, Z1, Z2, Z3, Z4, Z5, Z6])
       refine Zv (i := 7) rfl rfl hC ?rt7
       (try simp only [Act.put, Z1, Z2, Z3, Z4, Z5, Z6])
       refine Zu (i := 8) rfl (fun _ => hC) ?rt8
       (try simp only [Act.put, Z1, Z2, Z3, Z4, Z5, Z6])
       refine Zu (i := 9) rfl (fun _ => hC) ?rt9
       (try simp only [Act.put, Z1, Z2, Z3, Z4, Z5, Z6])
       refine Zu (i := 10) rfl (fun _ => hC) ?rt10
       (try simp only [Act.put, Z1, Z2, Z3, Z4, Z5, Z6])
       refine Zu (i := 11) rfl (fun _ => hC) ?rt11
       (try simp only [Act.put, Z1, Z2, Z3, Z4, Z5, Z6])
       refine Zv (i := 12) rfl rfl hC ?rt12
       (try simp only [Act.put, Z1, Z2, Z3, Z4, Z5, Z6])
       refine Zu (i := 13) rfl (fun _ => hC) ?rt13
       (try simp only [Act.put, Z1, Z2, Z3, Z4, Z5, Z6])
       refine Zu (i := 14) rfl (fun _ => hC) ?rt14
       (try simp only [Act.put, Z1, Z2, Z3, Z4, Z5, Z6])
       refine wpC_step (i := 15) (by kernel_rfl) rfl (fun K1 hK1 => ?_)
       go_simp
       go_at_call 121; refine HPU.out.mono ?_; rintro e w6 ⟨v6, ev6, rfl, hok, hno, hb6⟩; have HB6 := Zh (HD1.out.trans (hb6.mono HD1.out.size)); have HOK := Zh (Zi hok hno); clear hok hno hb6
       go_wp2_with fail
       refine hK1.out _ _ (fun _ => (HK1.out w6 HB6.out)) ?_
       clear hK1 K1 hC
       have hC := (HK1.out w6 HB6.out)
       (try simp only [Act.put, Z1, Z2, Z3, Z4, Z5, Z6])
       refine Zu (i := 16) rfl (fun _ => hC) ?rt16
       (try simp only [Act.put, Z1, Z2, Z3, Z4, Z5, Z6])
       refine Zu (i := 17) rfl (fun _ => hC) ?rt17
       (try simp only [Act.put, Z1, Z2, Z3, Z4, Z5, Z6])
       refine Zu (i := 18) rfl (fun _ => hC) ?rt18
       (try simp only [Act.put, Z1, Z2, Z3, Z4, Z5, Z6])
       refine Zu (i := 19) rfl (fun _ => hC) ?rt19
       (try simp only [Act.put, Z1, Z2, Z3, Z4, Z5, Z6])
       refine wpC_step (i := 20) (by kernel_rfl) rfl (fun K1 hK1 => ?_)
       go_simp
       refine hK1.out _ _ (fun h => absurd (h.symm.trans (by kernel_rfl : _ = true)) (by decide)) ?_
       clear hK1 K1
       (try simp only [Act.put, Z1, Z2, Z3, Z4, Z5, Z6])
       refine wpC_done (by kernel_rfl) ?_ _
       have hI := H1.out.keep HB6.out
       have u0 := hI.rd.c0
       have u1 := hI.rd.c1
       clear e0 e1 H1 hC HPU HK1 HD1 HB6
       have H1 := Zh hI
       clear hI
       cases hhx : (hexd x && hexd y) with
       | true =>
        have hpv : puV 0 (toL ⟨#[x, y]⟩) = some (hexv x * 16 + hexv y) := by
         show puV 0 [x, y] = _
         rw [pu_two, if_pos hhx]
        obtain ⟨hv6, hev⟩ := HOK.out.1 _ hpv
        have hv := HV.out
        rw [HD.out, valR_hex hes hhx] at hv
        have hx1 : hexd x = true := by revert hhx; cases hexd x <;> simp
        have hy1 : hexd y = true := by revert hhx; cases hexd y <;> simp
        obtain ⟨m43, m45, m95⟩ := hexd_ne hx1
        obtain ⟨_, _, l95⟩ := hexd_ne hy1
        have b1 := (hexd_facts x).1 hx1
        have b2 := (hexd_facts y).1 hy1
        obtain ⟨z, hz⟩ : ∃ z : UInt8, z = UInt8.ofNat (hexv x * 16 + hexv y) := ⟨_, rfl⟩
        have hzn : z.toNat = hexv x * 16 + hexv y := by rw [hz, UInt8.toNat_ofNat']; omega
        rw [← hz] at hv
        rw [← hzn] at hv6
        subst hv6 hev
        have HV2 := Zh hv
        have t1 : (((x.toNat : Nat) : Int) != 43) = true := by have := u8_ne (c := 43) m43; simpa using this
        have t2 : (((x.toNat : Nat) : Int) != 45) = true := by have := u8_ne (c := 45) m45; simpa using this
        have t3 : (((x.toNat : Nat) : Int) != 95) = true := by have := u8_ne (c := 95) m95; simpa using this
        have t4 : (((y.toNat : Nat) : Int) != 95) = true := by have := u8_ne (c := 95) l95; simpa using this
        have t5 : IntKind.u8.wrap ((z.toNat : Nat) : Int) = ((z.toNat : Nat) : Int) := by have := z.toNat_lt; rw [IntKind.wrap_u8]; omega
        clear hv hhx hpv hes HOK HV HD hx1 hy1 m43 m45 m95 l95 b1 b2 hz hzn r3 k1 k2 k4 hex
        go_wp2_with fail
        go_quiet (fail)
        have hI := H1.out.drewN nq
        have e0 := hI.rd.c0
        have e1 := hI.rd.c1
        clear u0 u1 H1
        generalize w6.drewN nq = w7 at hI e0 e1 ⊢
        have H1 := Zh hI
        clear hI
        have hq1 : b.length ≤ 1099511627776 := by have := H1.out.bl; omega
        have hgl := HR.out.lt
        go_upto_region 19 with (first | (at_builtin; refine push8 H1.out.own rfl _ _ rfl rfl _ rfl hq1 ?_; intro g2 cap2 w2 hO hG hat; have HO := Zh (Zi hO (Zi hG hat)); clear hO hG hat) | fail)
        have hnx := H1.out.next (y := z) (bare' := none) (q' := q + 3) (x := (q : Int) + 3) hgl HO.out.1 HO.out.2.1 HO.out.2.2 (by omega) (by have := HQ2.out; omega) (by simp) (fun x h => by cases h)
        have u0 := hnx.1.c0
        have u1 := hnx.1.c1
        have uf := hnx.1.fr 1
        have HNX := Zh hnx.2
        clear hnx e0 e1
        go_wp2_with fail
        have hn := HNX.out
        have hv := HV2.out
        rw [HQ2.out] at hv
        exact ⟨⟨rfl, rfl, ⟨rfl, rfl, ⟨q + 3, b ++ [z], none, some g2, cap2, by rw [List.length_append]; rfl, rfl, by omega, hn.rd, hn.own, hn.fr, hn.ch, hv, hn.bar, hn.bl⟩⟩⟩, by
         show s.size - rdAt g _ < s.size - rdAt g wr
         rw [HAT.out, rdAt_of hn.rd.c1]; omega⟩
       | false =>
        have hpv : puV 0 (toL ⟨#[x, y]⟩) = none := by
         show puV 0 [x, y] = _
         rw [pu_two, if_neg (by rw [hhx]; decide)]
        obtain ⟨te, pe, rfl⟩ := HOK.out.2 hpv
        have hv := HV.out
        rw [HD.out, va_esc2 hes hhx] at hv
        have HV2 := Zh hv
        clear hv hhx hpv hes HOK HV HD r3 k1 k2 k4 hex
        go_wp2_with fail
        go_quiet (fail)
        have hI := H1.out.drewN nq
        clear H1
        have e0 := hI.rd.c0
        have e1 := hI.rd.c1
        clear u0 u1
        generalize w6.drewN nq = w7 at hI e0 e1 ⊢
        have H1 := Zh hI
        clear hI
        have hq2 : q ≤ 1099511627777 := by have := H1.out.rd.small; omega
        have hfl := fail_any g s q bad 11 q w7 H1.out.rd hq2
        have HFL := Zh hfl
        clear hfl
        go_wp2_with (first | (go_at_call 76; go_loud (with_reducible refine HFL.out.mono ?_); rintro e w2 ⟨rfl, hb2⟩; have HB2 := Zh hb2; clear hb2) | fail)
        go_ret
        refine ⟨fun h => ?_, fun c q h => ⟨⟨_, rfl⟩, ?_⟩⟩
        ·rw [← HV2.out] at h; cases h
        ·rw [← HV2.out] at h; cases h
         exact HB2.out.after H1.out.ch
      ·have i6 : decide ((q2 : Int) < (s.size : Int)) = false := by simp; omega
       have hd3 : (toL s).drop (q1 + 1) = [] := List.drop_eq_nil_of_le (by have h1 := HZ.out; have h2 := HQ1.out; have h3 := HQ2.out; omega)
       have hv := HV.out
       rw [hd, hd3, va_esc1 hes] at hv
       have HV2 := Zh hv
       clear hv hd hd1 hd3 hes HV
       go_wp2_with fail
       go_quiet (fail)
       have hI := H1.out.drewN nq
       clear H1
       have e0 := hI.rd.c0
       have e1 := hI.rd.c1
       clear e0' e1'
       generalize wd.drewN nq = w7 at hI e0 e1 ⊢
       have H1 := Zh hI
       clear hI
       have hq2 : q ≤ 1099511627777 := by have := H1.out.rd.small; omega
       have hfl := fail_any g s q bad 11 q w7 H1.out.rd hq2
       have HFL := Zh hfl
       clear hfl
       go_wp2_with (first | (go_at_call 76; go_loud (with_reducible refine HFL.out.mono ?_); rintro e w2 ⟨rfl, hb2⟩; have HB2 := Zh hb2; clear hb2) | fail)
       go_ret
       refine ⟨fun h => ?_, fun c q h => ⟨⟨_, rfl⟩, ?_⟩⟩
       ·rw [← HV2.out] at h; cases h
       ·rw [← HV2.out] at h; cases h
        exact HB2.out.after H1.out.ch
    ·have i3 : decide ((q1 : Int) < (s.size : Int)) = false := by simp; omega
     obtain ⟨q2, hq2⟩ : ∃ q2 : Nat, q2 = q + 2 := ⟨_, rfl⟩
     have r2 : (q : Int) + 2 = (q2 : Int) := by omega
     have i6 : decide ((q2 : Int) < (s.size : Int)) = false := by have := HQ1.out; simp; omega
     have hd3 : (toL s).drop (q + 1) = [] := List.drop_eq_nil_of_le (by have h1 := HZ.out; have h2 := HQ1.out; omega)
     have hv := HV.out
     rw [hd, hd3, va_esc0] at hv
     have HV2 := Zh hv
     clear hv hd hd3 HV hq2
     go_wp2_with fail
     go_quiet (fail)
     have hI := H1.out.drewN nq
     have e0' := hI.rd.c0
     have e1' := hI.rd.c1
     clear e0 e1 ef H1
     generalize wb.drewN nq = wd at hI e0' e1' ⊢
     have H1 := Zh hI
     clear hI
     go_wp2_with fail
     go_quiet (fail)
     have hI := H1.out.drewN nq
     clear H1
     have e0 := hI.rd.c0
     have e1 := hI.rd.c1
     clear e0' e1'
     generalize wd.drewN nq = w7 at hI e0 e1 ⊢
     have H1 := Zh hI
     clear hI
     have hq2 : q ≤ 1099511627777 := by have := H1.out.rd.small; omega
     have hfl := fail_any g s q bad 11 q w7 H1.out.rd hq2
     have HFL := Zh hfl
     clear hfl
     go_wp2_with (first | (go_at_call 76; go_loud (with_reducible refine HFL.out.mono ?_); rintro e w2 ⟨rfl, hb2⟩; have HB2 := Zh hb2; clear hb2) | fail)
     go_ret
     refine ⟨fun h => ?_, fun c q h => ⟨⟨_, rfl⟩, ?_⟩⟩
     ·rw [← HV2.out] at h; cases h
     ·rw [← HV2.out] at h; cases h
      exact HB2.out.after H1.out.ch
   ·have e92 : (((c.toNat : Nat) : Int) == 92) = false := u8_ne (c := 92) h92
    by_cases hbad : bads.contains c = true ∨ (q = p ∧ (c = 32 ∨ c = 35))
    ·have hv := HV.out
     rw [hd, va_bad h44 h43 h92 hbad] at hv
     have HV2 := Zh hv
     clear hv HV hd
     have hix := fun w => Tryz.strings_IndexByte ⟨#[0, 34, 59, 60, 62]⟩ ((c.toNat : Nat) : Int) w
     have hir := index_bads c
     generalize Lib.indexByte (⟨#[0, 34, 59, 60, 62]⟩ : ByteArray).data.toList ((c.toNat : Nat) : Int).toNat.toUInt8 = r at hix hir
     have HIX := Zh hix
     clear hix
     go_wp2_with fail
     go_quiet (fail)
     have hI := H1.out.drewN nq
     have e0' := hI.rd.c0
     have e1' := hI.rd.c1
     have hk := (rdAt_of e1' : rdAt g (wr.drewN nq) = q)
     clear e0 e1 H1
     generalize wr.drewN nq = wa at hI e0' e1' hk ⊢
     have H1 := Zh hI
     clear hI hk
     go_wp2_with fail
     go_quiet (fail)
     have hI := H1.out.drewN nq
     have e0 := hI.rd.c0
     have e1 := hI.rd.c1
     have ef := hI.rd.fr 1
     clear e0' e1' H1
     generalize wa.drewN nq = wb at hI e0 e1 ef ⊢
     have H1 := Zh hI
     clear hI
     by_cases hbc : bads.contains c = true
     ·rw [hbc] at hir
      have i1 : (0 : Int) ≤ r := of_decide_eq_true hir
      clear hbad hir hbc e0 ef
      have hq2 : q ≤ 1099511627777 := by have := H1.out.rd.small; omega
      have hfl := fail_any g s q bad 50 q wb H1.out.rd hq2
      have HFL := Zh hfl
      clear hfl
      go_wp2_with (first | (go_at_call 115; (first | with_reducible refine (HIX.out _).mono ?_ | refine (HIX.out _).mono ?_); rintro e wj ⟨rfl, rfl⟩) | (go_at_call 76; go_loud (with_reducible refine HFL.out.mono ?_); rintro e w2 ⟨rfl, hb2⟩; have HB2 := Zh hb2; clear hb2) | fail)
      go_ret
      refine ⟨fun h => ?_, fun c q h => ⟨⟨_, rfl⟩, ?_⟩⟩
      ·rw [← HV2.out] at h; cases h
      ·rw [← HV2.out] at h; cases h
       exact HB2.out.after H1.out.ch
     ·replace hir : ¬ (0 : Int) ≤ r := by
       have : bads.contains c = false := by simpa using hbc
       rw [this] at hir; exact of_decide_eq_false hir
      obtain ⟨hqp, hc2⟩ : q = p ∧ (c = 32 ∨ c = 35) := hbad.resolve_left hbc
      clear hbad hbc e0 ef
      subst hqp
      rcases hc2 with h32 | h35
      ·subst h32
       have hq2 : q ≤ 1099511627777 := by have := H1.out.rd.small; omega
       have hfl := fail_any g s q bad 50 q wb H1.out.rd hq2
       have HFL := Zh hfl
       clear hfl
       go_wp2_with (first | (go_at_call 115; (first | with_reducible refine (HIX.out _).mono ?_ | refine (HIX.out _).mono ?_); rintro e wj ⟨rfl, rfl⟩) | (go_at_call 76; go_loud (with_reducible refine HFL.out.mono ?_); rintro e w2 ⟨rfl, hb2⟩; have HB2 := Zh hb2; clear hb2) | fail)
       go_ret
       refine ⟨fun h => ?_, fun c q h => ⟨⟨_, rfl⟩, ?_⟩⟩
       ·rw [← HV2.out] at h; cases h
       ·rw [← HV2.out] at h; cases h
        exact HB2.out.after H1.out.ch
      ·subst h35
       have hq2 : q ≤ 1099511627777 := by have := H1.out.rd.small; omega
       have hfl := fail_any g s q bad 50 q wb H1.out.rd hq2
       have HFL := Zh hfl
       clear hfl
       go_wp2_with (first | (go_at_call 115; (first | with_reducible refine (HIX.out _).mono ?_ | refine (HIX.out _).mono ?_); rintro e wj ⟨rfl, rfl⟩) | (go_at_call 76; go_loud (with_reducible refine HFL.out.mono ?_); rintro e w2 ⟨rfl, hb2⟩; have HB2 := Zh hb2; clear hb2) | fail)
       go_ret
       refine ⟨fun h => ?_, fun c q h => ⟨⟨_, rfl⟩, ?_⟩⟩
       ·rw [← HV2.out] at h; cases h
       ·rw [← HV2.out] at h; cases h
        exact HB2.out.after H1.out.ch
    ·have hv := HV.out
     rw [hd, valR_put h44 h43 h92 (by cases h : bads.contains c with | true => exact absurd (.inl h) hbad | false => rfl) (fun h => hbad (.inr h))] at hv
     have HV2 := Zh hv
     clear hv HV hd
     have hix := fun w => Tryz.strings_IndexByte ⟨#[0, 34, 59, 60, 62]⟩ ((c.toNat : Nat) : Int) w
     have hir := index_bads c
     generalize Lib.indexByte (⟨#[0, 34, 59, 60, 62]⟩ : ByteArray).data.toList ((c.toNat : Nat) : Int).toNat.toUInt8 = r at hix hir
     have HIX := Zh hix
     clear hix
     go_wp2_with fail
     go_quiet (fail)
     have hI := H1.out.drewN nq
     have e0' := hI.rd.c0
     have e1' := hI.rd.c1
     have hk := (rdAt_of e1' : rdAt g (wr.drewN nq) = q)
     clear e0 e1 H1
     generalize wr.drewN nq = wa at hI e0' e1' hk ⊢
     have H1 := Zh hI
     clear hI hk
     go_wp2_with fail
     go_quiet (fail)
     have hI := H1.out.drewN nq
     have e0 := hI.rd.c0
     have e1 := hI.rd.c1
     have ef := hI.rd.fr 1
     clear e0' e1' H1
     generalize wa.drewN nq = wb at hI e0 e1 ef ⊢
     have H1 := Zh hI
     clear hI
     replace hir : ¬ (0 : Int) ≤ r := by
      have : bads.contains c = false := by cases h : bads.contains c with | true => exact absurd (.inl h) hbad | false => rfl
      rw [this] at hir; exact of_decide_eq_false hir
     by_cases h32 : c = 32
     ·have hqp : q ≠ p := fun h => hbad (.inr ⟨h, .inl h32⟩)
      have eqp : ¬ (q : Int) = (p : Int) := by omega
      clear hbad
      subst h32
      have hq1 : b.length ≤ 1099511627776 := by have := H1.out.bl; omega
      have hgl := HR.out.lt
      go_upto_region 10 with (first | (go_at_call 115; (first | with_reducible refine (HIX.out _).mono ?_ | refine (HIX.out _).mono ?_); rintro e wj ⟨rfl, rfl⟩) | (at_builtin; go_loud (refine push8 H1.out.own rfl _ _ rfl rfl _ rfl hq1 ?_); intro g2 cap2 w2 hO hG hat; have HO := Zh (Zi hO (Zi hG hat)); clear hO hG hat) | fail)
      have hnx := fun (bare' : Option Nat) hb' => H1.out.next (y := 32) (bare' := bare') (q' := q + 1) (x := (q : Int) + 1) hgl HO.out.1 HO.out.2.1 HO.out.2.2 (by omega) (by omega) (by simp) hb'
      have hr2 := (hnx none (fun x h => by cases h)).1
      have u0 := hr2.c0
      have u1 := hr2.c1
      have uf := hr2.fr 1
      have HNX := Zh hnx
      clear hnx hr2 e0 e1 ef
      go_wp2_with fail
      have hn := (HNX.out (some q) (fun x h => by cases h; omega)).2
      have hv := HV2.out
      exact ⟨⟨rfl, rfl, ⟨rfl, rfl, ⟨q + 1, b ++ [32], (some q), some g2, cap2, by rw [List.length_append]; rfl, rfl, by omega, hn.rd, hn.own, hn.fr, hn.ch, by first | exact hv | simpa using hv, hn.bar, hn.bl⟩⟩⟩, by
       show s.size - rdAt g _ < s.size - rdAt g wr
       rw [HAT.out, rdAt_of hn.rd.c1]; omega⟩
     ·have e32 : (((c.toNat : Nat) : Int) == 32) = false := u8_ne (c := 32) h32
      have f32 : ¬ c.toNat = 32 := fun h => h32 (UInt8.toNat_inj.1 h)
      have g32 : (c.toNat == 32) = false := by simpa using f32
      have d32 : decide (c.toNat = 32) = false := by simpa using f32
      have k32 : ¬ (c.toNat : Int) = 32 := by omega
      by_cases hqp : q = p
      ·have h35 : c ≠ 35 := fun h => hbad (.inr ⟨hqp, .inr h⟩)
       have e35 : (((c.toNat : Nat) : Int) == 35) = false := u8_ne (c := 35) h35
       have f35 : ¬ c.toNat = 35 := fun h => h35 (UInt8.toNat_inj.1 h)
       have g35 : (c.toNat == 35) = false := by simpa using f35
       have d35 : decide (c.toNat = 35) = false := by simpa using f35
       have k35 : ¬ (c.toNat : Int) = 35 := by omega
       clear hbad
       subst hqp
       have hq1 : b.length ≤ 1099511627776 := by have := H1.out.bl; omega
       have hgl := HR.out.lt
       go_upto_region 10 with (first | (go_at_call 115; (first | with_reducible refine (HIX.out _).mono ?_ | refine (HIX.out _).mono ?_); rintro e wj ⟨rfl, rfl⟩) | (at_builtin; go_loud (refine push8 H1.out.own rfl _ _ rfl rfl _ rfl hq1 ?_); intro g2 cap2 w2 hO hG hat; have HO := Zh (Zi hO (Zi hG hat)); clear hO hG hat) | fail)
       have hnx := fun (bare' : Option Nat) hb' => H1.out.next (y := c) (bare' := bare') (q' := q + 1) (x := (q : Int) + 1) hgl HO.out.1 HO.out.2.1 HO.out.2.2 (by omega) (by omega) (by simp) hb'
       have hr2 := (hnx none (fun x h => by cases h)).1
       have u0 := hr2.c0
       have u1 := hr2.c1
       have uf := hr2.fr 1
       have HNX := Zh hnx
       clear hnx hr2 e0 e1 ef
       go_wp2_with fail
       have hn := (HNX.out none (fun x h => by cases h)).2
       have hv := HV2.out
       exact ⟨⟨rfl, rfl, ⟨rfl, rfl, ⟨q + 1, b ++ [c], none, some g2, cap2, by rw [List.length_append]; rfl, rfl, by omega, hn.rd, hn.own, hn.fr, hn.ch, by first | exact hv | simpa [h32] using hv, hn.bar, hn.bl⟩⟩⟩, by
        show s.size - rdAt g _ < s.size - rdAt g wr
        rw [HAT.out, rdAt_of hn.rd.c1]; omega⟩
      ·have hqp2 : ¬ (q : Int) = (p : Int) := by omega
       clear hbad
       have hq1 : b.length ≤ 1099511627776 := by have := H1.out.bl; omega
       have hgl := HR.out.lt
       go_upto_region 10 with (first | (go_at_call 115; (first | with_reducible refine (HIX.out _).mono ?_ | refine (HIX.out _).mono ?_); rintro e wj ⟨rfl, rfl⟩) | (at_builtin; go_loud (refine push8 H1.out.own rfl _ _ rfl rfl _ rfl hq1 ?_); intro g2 cap2 w2 hO hG hat; have HO := Zh (Zi hO (Zi hG hat)); clear hO hG hat) | fail)
       have hnx := fun (bare' : Option Nat) hb' => H1.out.next (y := c) (bare' := bare') (q' := q + 1) (x := (q : Int) + 1) hgl HO.out.1 HO.out.2.1 HO.out.2.2 (by omega) (by omega) (by simp) hb'
       have hr2 := (hnx none (fun x h => by cases h)).1
       have u0 := hr2.c0
       have u1 := hr2.c1
       have uf := hr2.fr 1
       have HNX := Zh hnx
       clear hnx hr2 e0 e1 ef
       go_wp2_with fail
       have hn := (HNX.out none (fun x h => by cases h)).2
       have hv := HV2.out
       exact ⟨⟨rfl, rfl, ⟨rfl, rfl, ⟨q + 1, b ++ [c], none, some g2, cap2, by rw [List.length_append]; rfl, rfl, by omega, hn.rd, hn.own, hn.fr, hn.ch, by first | exact hv | simpa [h32] using hv, hn.bar, hn.bl⟩⟩⟩, by
        show s.size - rdAt g _ < s.size - rdAt g wr
        rw [HAT.out, rdAt_of hn.rd.c1]; omega⟩
 ·obtain rfl : q = s.size := by omega
  have d1 : decide ((s.size : Int) < (s.size : Int)) = false := by simp
  have hv := HV.out
  rw [List.drop_eq_nil_of_le (by have := HZ.out; omega), valR_nil] at hv
  have HV2 := Zh hv
  clear hv HV
  go_wp2_with fail
  go_quiet (fail)
  go_upto_region 27 with fail
  obtain ⟨rd2, own2, fr2, ch2, bar2, bl2⟩ := H1.out
  have hcv := own_back (w := wr.drewN nq) own2
  cases bare with
  | none =>
   have i1 : ¬ (0 : Int) ≤ bareI none := by decide
   have hb0 : bareI none = -1 := rfl
   rw [hb0]
   clear rd2 own2 fr2 ch2 bar2 bl2
   go_wp2_with fail
   go_ret
   refine ⟨fun _ => ⟨by rw [← HV2.out]; rfl, by rw [← HV2.out]; exact H1.out.rd.drewN _, H1.out.ch.drewN _⟩, fun c q h => ?_⟩
   rw [← HV2.out] at h; cases h
  | some x =>
   have hx := bar2 x rfl
   have hb0 : bareI (some x) = ((x : Nat) : Int) := rfl
   rw [hb0]
   have i1 : (0 : Int) ≤ (x : Int) := by omega
   clear rd2 own2 fr2 ch2 bar2 bl2
   have hx2 : x ≤ 1099511627777 := by have := H1.out.rd.small; omega
   have hfl := fail_any g s s.size bad 50 x (wr.drewN nq) (H1.out.rd.drewN _) hx2
   have HFL := Zh hfl
   clear hfl hcv
   go_wp2_with (go_at_call 76; with_reducible refine HFL.out.mono ?_; rintro e w2 ⟨rfl, hb2⟩; have hcv := own_back (own_after H1.out.own (fun g' e => Nat.ne_of_gt (Nat.lt_of_lt_of_le HR.out.lt (H1.out.fr g' e))) hb2); have HB2 := Zh hb2; clear hb2)
   go_ret
   refine ⟨fun h => ?_, fun c q h => ⟨⟨_, rfl⟩, ?_⟩⟩
   ·rw [← HV2.out] at h; cases h
   ·rw [← HV2.out] at h; cases h
    exact HB2.out.after (H1.out.ch.drewN _)
end Go.Proofs.YtlmfbjhokkpjhaaGreatDoor
