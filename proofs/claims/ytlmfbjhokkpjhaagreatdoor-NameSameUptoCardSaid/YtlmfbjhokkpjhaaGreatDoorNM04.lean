/- Part 4 of the walks and plain laws, joined: TimeDay. -/
import Derived.Test.YtlmfbjhokkpjhaaGreatDoorNM00
import Derived.Test.YtlmfbjhokkpjhaaGreatDoorNM03
import Derived.Deep.DeepCutAuto
import Derived.Deep.CutBlock
set_option linter.unusedVariables false
set_option linter.unusedSimpArgs false
namespace Go.Proofs.YtlmfbjhokkpjhaaGreatDoor
open Go Go.RowKit
noncomputable def timeDay : Code := (Tryz.f195.body.bind (tailOf 5)).getD .skip
set_option maxRecDepth 1000000 in
set_option maxHeartbeats 40000000 in
theorem time_day {w0 w : World} {gd gt : Nat} {Y M D h m s : Int} {v : ByteArray} {c : UInt8} {r : List UInt8} (hd : Civ w0 w gd 239 Y M D) (ht : Civ w0 w gt 238 h m s)
  (hY : 0 ≤ Y ∧ Y ≤ 9999) (hM : 0 ≤ M ∧ M ≤ 99) (hD : 0 ≤ D ∧ D ≤ 99) (hh : 0 ≤ h ∧ h ≤ 99) (hm : 0 ≤ m ∧ m ≤ 99) (hs : 0 ≤ s ∧ s ≤ 99)
  (t : ByteArray) (htt : t = ⟨(c :: r).toArray⟩) (hv : v.extract 14 v.size = t) (hv1 : v.size = r.length + 15) (hv2 : v.size ≤ 65536)
  (u1 u7 u8 u9 u10 u11 u12 u13 u14 u15 u16 u17 u18 u19 u20 u21 u22 u23 u24 u25 u26 u27 u28 u29 u30 u31 u32 u33 u34 u35 u36 u37 u38 u39 u40 u41 u42 u43 u44 u45 u46 u47 u48 u49 u50 u51 u52 u53 u54 u55 u56 u57 u58 u59 u60 u61 u62 u63 u64 u65 u66 u67 u68 u69 u70 u71 u72 u73 u74 u75 u76 u77 u78 u79 u80 u81 u82 u83 u84 u85 u86 u87 u88 u89 u90 u91 u92 u93 u94 u95 u96 u97 u98 u99 u100 u101 u102 u103 u104 u105 u106 u107 u108 u109 u110 u111 u112 u113 u114 u115 u116 u117 u118 u119 u120 u121 u122 u123 u124 u125 u126 u127 u128 u129 u130 u131 u132 u133 u134 u135 u136 u137 u138 u139 u140 u141 u142 u143 u144 u145 u146 u147 : Value) :
  Code.wp Tryz.prog timeDay (bodyPost Tryz.prog Tryz.f195 fun e w' => e = .returned (ret3 (timeT Y M D h m s (c :: r))) ∧ Below w0.heap.size w0 w') { tmps := #[.string v, u1, .int .i64 0, .string ⟨#[]⟩, .bool false, .pointer (some ⟨gd, 0, none⟩), .pointer (some ⟨gt, 0, none⟩), u7, u8, u9, u10, u11, u12, u13, u14, u15, u16, u17, u18, u19, u20, u21, u22, u23, u24, u25, u26, u27, u28, u29, u30, u31, u32, u33, u34, u35, u36, u37, u38, u39, u40, u41, u42, u43, u44, u45, u46, u47, u48, u49, u50, u51, u52, u53, u54, u55, u56, u57, u58, u59, u60, u61, u62, u63, u64, u65, u66, u67, u68, u69, u70, u71, u72, u73, u74, u75, u76, u77, u78, u79, u80, u81, u82, u83, u84, u85, u86, u87, u88, u89, u90, u91, u92, u93, u94, u95, u96, u97, u98, u99, u100, u101, u102, u103, u104, u105, u106, u107, u108, u109, u110, u111, u112, u113, u114, u115, u116, u117, u118, u119, u120, u121, u122, u123, u124, u125, u126, u127, u128, u129, u130, u131, u132, u133, u134, u135, u136, u137, u138, u139, u140, u141, u142, u143, u144, u145, u146, u147], defers := [] } w := by
 conv => arg 2; whnf
 have r14 : 14 ≤ v.size := by omega
 have s14 : (14 : Int) ≤ v.size := by omega
 have hr : r.length ≤ 65535 := by omega
 clear hv1 hv2
 have HTT := Zh htt; clear htt
 refine wp_seq_k fun K hK => ?_
 have HK := Zh hK; clear hK
 have HCd := Zh hd; have HCt := Zh ht
 obtain ⟨e0, e1, e2⟩ := hd.cells
 obtain ⟨f0, f1, f2⟩ := ht.cells
 clear hd ht
 obtain ⟨y0, y1⟩ := hY; obtain ⟨m0, m1⟩ := hM; obtain ⟨d0, d1⟩ := hD; obtain ⟨h0, h1⟩ := hh; obtain ⟨n0, n1⟩ := hm; obtain ⟨s0, s1⟩ := hs
 have hT : timeT Y M D h m s (c :: r) = if M < 1 ∨ 12 < M ∨ D < 1 ∨ dateI (daysI Y M D) ≠ (Y, M, D) ∨ 23 < h ∨ 59 < m ∨ 59 < s then (0, [], false)
  else match fracT (c :: r) with
   | none => (0, [], false)
   | some (rest, z) => timeZ Y M D h m s rest z := rfl
 have HTb := Zh (fun hb => hT.trans (if_pos hb)); have HTg := Zh (fun hb => hT.trans (if_neg hb)); clear hT
 by_cases c1 : M < 1
 ·go_wp2_with fail
  go_quiet (fail)
  go_wp2_with fail
  go_ret3
  exact ⟨by rw [HTb.out (.inl c1)]; rfl, bdrewN HCd.out.below _⟩
 by_cases c2 : 12 < M
 ·go_wp2_with fail
  go_quiet (fail)
  go_wp2_with fail
  go_ret3
  exact ⟨by rw [HTb.out (.inr (.inl c2))]; rfl, bdrewN HCd.out.below _⟩
 by_cases c3 : D < 1
 ·go_wp2_with fail
  go_quiet (fail)
  go_wp2_with fail
  go_ret3
  exact ⟨by rw [HTb.out (.inr (.inr (.inl c3)))]; rfl, bdrewN HCd.out.below _⟩
 have M1 : 1 ≤ M := by omega
 have M2 : M ≤ 12 := by omega
 have D1 : 1 ≤ D := by omega
 have hN := daysI_range y0 y1 M1 M2 D1 d1
 have HND := Zh (fun w => days_any Y M D w ⟨y0, by omega⟩ ⟨M1, M2⟩ ⟨d0, d1⟩)
 have HDA := Zh (fun w => date_any (daysI Y M D) w ⟨by omega, by omega⟩)
 have q1 : decide (M < 1) = false := decide_eq_false c1
 have q2 : decide (12 < M) = false := decide_eq_false c2
 have q3 : decide (D < 1) = false := decide_eq_false c3
 clear c1 c2 c3
 generalize hdt : dateI (daysI Y M D) = dt at HDA HTb HTg
 obtain ⟨a, b, cc⟩ := dt
 simp only [] at HDA
 have hE : ∀ w, (Op.equalIn 10000 239 (.agg #[.int .i64 a, .int .i64 b, .int .i64 cc]) (.agg #[.int .i64 Y, .int .i64 M, .int .i64 D])).run Tryz.prog w = .ok (a == Y && (b == M && cc == D)) w := fun w => eq3 w a b cc Y M D
 clear hdt
 have HE := Zh hE; clear hE
 go_wp2_with fail
 refine wp_region_held_drew (S := fun w' => w'.cell? ⟨gd, 0, none⟩ = some (.int .i64 Y) ∧ w'.cell? ⟨gd, 1, none⟩ = some (.int .i64 M) ∧ w'.cell? ⟨gd, 2, none⟩ = some (.int .i64 D) ∧ w'.cell? ⟨gt, 0, none⟩ = some (.int .i64 h) ∧ w'.cell? ⟨gt, 1, none⟩ = some (.int .i64 m) ∧ w'.cell? ⟨gt, 2, none⟩ = some (.int .i64 s)) (by kernel_rfl) ⟨e0, e1, e2, f0, f1, f2⟩ (fun hHeld => ?_)
 refine Zk (i := 0) rfl ?r1
 (try simp only [Act.put, Z1, Z2, Z3, Z4, Z5])
 refine Zk (i := 1) rfl ?r2
 (try simp only [Act.put, Z1, Z2, Z3, Z4, Z5, Z6])
 refine Zk (i := 2) rfl ?r3
 (try simp only [Act.put, Z1, Z2, Z3, Z4, Z5, Z6])
 refine Zk (i := 3) rfl ?r4
 (try simp only [Act.put, Z1, Z2, Z3, Z4, Z5, Z6])
 refine Zk (i := 4) rfl ?r5
 (try simp only [Act.put, Z1, Z2, Z3, Z4, Z5, Z6])
 refine Zk (i := 5) rfl ?r6
 (try simp only [Act.put, Z1, Z2, Z3, Z4, Z5, Z6])
 refine Zk (i := 6) rfl ?r7
 (try simp only [Act.put, Z1, Z2, Z3, Z4, Z5, Z6])
 refine Zk (i := 7) rfl ?r8
 (try simp only [Act.put, Z1, Z2, Z3, Z4, Z5, Z6])
 refine Zk (i := 8) rfl ?r9
 (try simp only [Act.put, Z1, Z2, Z3, Z4, Z5, Z6])
 refine Zk (i := 9) rfl ?r10
 (try simp only [Act.put, Z1, Z2, Z3, Z4, Z5, Z6])
 refine Zk (i := 10) rfl ?r11
 (try simp only [Act.put, Z1, Z2, Z3, Z4, Z5, Z6])
 refine Zk (i := 11) rfl ?r12
 (try simp only [Act.put, Z1, Z2, Z3, Z4, Z5, Z6])
 refine Zk (i := 12) rfl ?r13
 (try simp only [Act.put, Z1, Z2, Z3, Z4, Z5, Z6])
 refine Zk (i := 13) rfl ?r14
 (try simp only [Act.put, Z1, Z2, Z3, Z4, Z5, Z6])
 refine Zk (i := 14) rfl ?r15
 (try simp only [Act.put, Z1, Z2, Z3, Z4, Z5, Z6])
 refine Zk (i := 17) rfl ?r16
 (try simp only [Act.put, Z1, Z2, Z3, Z4, Z5, Z6])
 refine wpAnyH_ready (rs := [15]) (by kernel_rfl) (by simp) ?_
 refine AllReadyH.cons rfl (fun K1 hK1 => ?_) AllReadyH.nil
 go_simp
 go_at_call 235; refine (HND.out _).mono ?_; rintro e w5 ⟨rfl, hb5⟩; have hb5 := bnext ((Zl _ w).drew) hb5; have H5 := Zh hb5; obtain ⟨i0, i1, i2⟩ := (HCd.out.next (w' := w5) hb5).cells; obtain ⟨j0, j1, j2⟩ := (HCt.out.next (w' := w5) hb5).cells; clear hb5
 go_wp2_with fail
 refine hK1.out _ _ ?_ (fun hHeld => ?_)
 ·exact ⟨i0, i1, i2, j0, j1, j2⟩
 clear hK1 K1
 (try simp only [Act.put, Z1, Z2, Z3, Z4, Z5, Z6])
 refine wpAnyH_ready (rs := [16]) (by kernel_rfl) (by simp) ?_
 refine AllReadyH.cons rfl (fun K1 hK1 => ?_) AllReadyH.nil
 go_simp
 go_at_call 196; refine (HDA.out _).mono ?_; rintro e w6 ⟨rfl, hb6⟩; have hb6 := bnext H5.out hb6; have H6 := Zh hb6; obtain ⟨k0, k1, k2⟩ := (HCd.out.next (w' := w6) hb6).cells; obtain ⟨l0, l1, l2⟩ := (HCt.out.next (w' := w6) hb6).cells; clear hb6
 go_wp2_with fail
 refine hK1.out _ _ ?_ (fun hHeld => ?_)
 ·exact ⟨k0, k1, k2, l0, l1, l2⟩
 clear hK1 K1
 (try simp only [Act.put, Z1, Z2, Z3, Z4, Z5, Z6])
 by_cases hq : a = Y ∧ b = M ∧ cc = D
 ·have hE2 : ∀ w, (Op.equalIn 10000 239 (.agg #[.int .i64 a, .int .i64 b, .int .i64 cc]) (.agg #[.int .i64 Y, .int .i64 M, .int .i64 D])).run Tryz.prog w = .ok true w := fun w => (HE.out w).trans (by rw [hq.1, hq.2.1, hq.2.2]; simp)
  have HQ := Zh hq; clear hq
  refine Zk (i := 18) rfl ?r17
  (try simp only [Act.put, Z1, Z2, Z3, Z4, Z5, Z6])
  refine Zk (i := 19) rfl ?r18
  (try simp only [Act.put, Z1, Z2, Z3, Z4, Z5, Z6])
  refine Zk (i := 20) rfl ?r19
  (try simp only [Act.put, Z1, Z2, Z3, Z4, Z5, Z6])
  clear hE2
  by_cases c5 : 23 < h
  ·have HC5 := Zh c5; clear c5
   have q5 : decide (23 < h) = true := decide_eq_true HC5.out
   refine Zk (i := 21) rfl ?r20
   (try simp only [Act.put, Z1, Z2, Z3, Z4, Z5, Z6])
   refine Zk (i := 22) rfl ?r21
   (try simp only [Act.put, Z1, Z2, Z3, Z4, Z5, Z6])
   refine Zk (i := 23) rfl ?r22
   (try simp only [Act.put, Z1, Z2, Z3, Z4, Z5, Z6])
   refine Zk (i := 24) rfl ?r23
   (try simp only [Act.put, Z1, Z2, Z3, Z4, Z5, Z6])
   refine Zk (i := 25) rfl ?r24
   (try simp only [Act.put, Z1, Z2, Z3, Z4, Z5, Z6])
   refine wpAnyH_take (i := 26) (v := undef) rfl (by kernel_rfl) (by kernel_rfl) (by kernel_rfl) (fun _ _ _ h => h) (Or.inr ⟨by rfl, rfl⟩) (by assumption) ?_
   (try simp only [Act.put, Z1, Z2, Z3, Z4, Z5, Z6])
   refine wpAnyH_take (i := 27) (v := undef) rfl (by kernel_rfl) (by kernel_rfl) (by kernel_rfl) (fun _ _ _ h => h) (Or.inr ⟨by rfl, rfl⟩) (by assumption) ?_
   (try simp only [Act.put, Z1, Z2, Z3, Z4, Z5, Z6])
   refine wpAnyH_take (i := 28) (v := undef) rfl (by kernel_rfl) (by kernel_rfl) (by kernel_rfl) (fun _ _ _ h => h) (Or.inr ⟨by rfl, rfl⟩) (by assumption) ?_
   (try simp only [Act.put, Z1, Z2, Z3, Z4, Z5, Z6])
   refine Zk (i := 29) rfl ?r25
   (try simp only [Act.put, Z1, Z2, Z3, Z4, Z5, Z6])
   refine Zk (i := 30) rfl ?r26
   (try simp only [Act.put, Z1, Z2, Z3, Z4, Z5, Z6])
   refine wpAnyH_take (i := 31) (v := undef) rfl (by kernel_rfl) (by kernel_rfl) (by kernel_rfl) (fun _ _ _ h => h) (Or.inr ⟨by rfl, rfl⟩) (by assumption) ?_
   (try simp only [Act.put, Z1, Z2, Z3, Z4, Z5, Z6])
   refine wpAnyH_take (i := 32) (v := undef) rfl (by kernel_rfl) (by kernel_rfl) (by kernel_rfl) (fun _ _ _ h => h) (Or.inr ⟨by rfl, rfl⟩) (by assumption) ?_
   (try simp only [Act.put, Z1, Z2, Z3, Z4, Z5, Z6])
   refine wpAnyH_take (i := 33) (v := undef) rfl (by kernel_rfl) (by kernel_rfl) (by kernel_rfl) (fun _ _ _ h => h) (Or.inr ⟨by rfl, rfl⟩) (by assumption) ?_
   (try simp only [Act.put, Z1, Z2, Z3, Z4, Z5, Z6])
   refine Zk (i := 34) rfl ?r27
   (try simp only [Act.put, Z1, Z2, Z3, Z4, Z5, Z6])
   refine wpAnyH_done (by kernel_rfl) ?_ _
   go_wp2_with fail
   go_ret3
   exact ⟨by rw [HTb.out (by have := HC5.out; omega)]; rfl, bnext HCd.out.below H6.out⟩
  have HC5 := Zh c5; clear c5
  have q5 : decide (23 < h) = false := decide_eq_false (by have := HC5.out; omega)
  refine Zk (i := 21) rfl ?r28
  (try simp only [Act.put, Z1, Z2, Z3, Z4, Z5, Z6])
  refine Zk (i := 22) rfl ?r29
  (try simp only [Act.put, Z1, Z2, Z3, Z4, Z5, Z6])
  refine Zk (i := 23) rfl ?r30
  (try simp only [Act.put, Z1, Z2, Z3, Z4, Z5, Z6])
  refine Zk (i := 24) rfl ?r31
  (try simp only [Act.put, Z1, Z2, Z3, Z4, Z5, Z6])
  refine Zk (i := 25) rfl ?r32
  (try simp only [Act.put, Z1, Z2, Z3, Z4, Z5, Z6])
  by_cases c6 : 59 < m
  ·have HC6 := Zh c6; clear c6
   have q6 : decide (59 < m) = true := decide_eq_true HC6.out
   refine Zk (i := 26) rfl ?r33
   (try simp only [Act.put, Z1, Z2, Z3, Z4, Z5, Z6])
   refine Zk (i := 27) rfl ?r34
   (try simp only [Act.put, Z1, Z2, Z3, Z4, Z5, Z6])
   refine Zk (i := 28) rfl ?r35
   (try simp only [Act.put, Z1, Z2, Z3, Z4, Z5, Z6])
   refine Zk (i := 29) rfl ?r36
   (try simp only [Act.put, Z1, Z2, Z3, Z4, Z5, Z6])
   refine Zk (i := 30) rfl ?r37
   (try simp only [Act.put, Z1, Z2, Z3, Z4, Z5, Z6])
   refine wpAnyH_take (i := 31) (v := undef) rfl (by kernel_rfl) (by kernel_rfl) (by kernel_rfl) (fun _ _ _ h => h) (Or.inr ⟨by rfl, rfl⟩) (by assumption) ?_
   (try simp only [Act.put, Z1, Z2, Z3, Z4, Z5, Z6])
   refine wpAnyH_take (i := 32) (v := undef) rfl (by kernel_rfl) (by kernel_rfl) (by kernel_rfl) (fun _ _ _ h => h) (Or.inr ⟨by rfl, rfl⟩) (by assumption) ?_
   (try simp only [Act.put, Z1, Z2, Z3, Z4, Z5, Z6])
   refine wpAnyH_take (i := 33) (v := undef) rfl (by kernel_rfl) (by kernel_rfl) (by kernel_rfl) (fun _ _ _ h => h) (Or.inr ⟨by rfl, rfl⟩) (by assumption) ?_
   (try simp only [Act.put, Z1, Z2, Z3, Z4, Z5, Z6])
   refine Zk (i := 34) rfl ?r38
   (try simp only [Act.put, Z1, Z2, Z3, Z4, Z5, Z6])
   refine wpAnyH_done (by kernel_rfl) ?_ _
   go_wp2_with fail
   go_ret3
   exact ⟨by rw [HTb.out (by have := HC6.out; omega)]; rfl, bnext HCd.out.below H6.out⟩
  have HC6 := Zh c6; clear c6
  have q6 : decide (59 < m) = false := decide_eq_false (by have := HC6.out; omega)
  refine Zk (i := 26) rfl ?r39
  (try simp only [Act.put, Z1, Z2, Z3, Z4, Z5, Z6])
  refine Zk (i := 27) rfl ?r40
  (try simp only [Act.put, Z1, Z2, Z3, Z4, Z5, Z6])
  refine Zk (i := 28) rfl ?r41
  (try simp only [Act.put, Z1, Z2, Z3, Z4, Z5, Z6])
  refine Zk (i := 29) rfl ?r42
  (try simp only [Act.put, Z1, Z2, Z3, Z4, Z5, Z6])
  refine Zk (i := 30) rfl ?r43
  (try simp only [Act.put, Z1, Z2, Z3, Z4, Z5, Z6])
  by_cases c7 : 59 < s
  ·have HC7 := Zh c7; clear c7
   have q7 : decide (59 < s) = true := decide_eq_true HC7.out
   refine Zk (i := 31) rfl ?r44
   (try simp only [Act.put, Z1, Z2, Z3, Z4, Z5, Z6])
   refine Zk (i := 32) rfl ?r45
   (try simp only [Act.put, Z1, Z2, Z3, Z4, Z5, Z6])
   refine Zk (i := 33) rfl ?r46
   (try simp only [Act.put, Z1, Z2, Z3, Z4, Z5, Z6])
   refine Zk (i := 34) rfl ?r47
   (try simp only [Act.put, Z1, Z2, Z3, Z4, Z5, Z6])
   refine wpAnyH_done (by kernel_rfl) ?_ _
   go_wp2_with fail
   go_ret3
   exact ⟨by rw [HTb.out (by have := HC7.out; omega)]; rfl, bnext HCd.out.below H6.out⟩
  have HC7 := Zh c7; clear c7
  have q7 : decide (59 < s) = false := decide_eq_false (by have := HC7.out; omega)
  refine Zk (i := 31) rfl ?r48
  (try simp only [Act.put, Z1, Z2, Z3, Z4, Z5, Z6])
  refine Zk (i := 32) rfl ?r49
  (try simp only [Act.put, Z1, Z2, Z3, Z4, Z5, Z6])
  refine Zk (i := 33) rfl ?r50
  (try simp only [Act.put, Z1, Z2, Z3, Z4, Z5, Z6])
  refine Zk (i := 34) rfl ?r51
  (try simp only [Act.put, Z1, Z2, Z3, Z4, Z5, Z6])
  refine wpAnyH_done (by kernel_rfl) ?_ _
  have hT := HTg.out (by have := HC5.out; have := HC6.out; have := HC7.out; have := HQ.out; simp only [ne_eq, Prod.mk.injEq]; omega)
  have HT := Zh hT; clear hT HTb HTg
  clear e0 e1 e2 f0 f1 f2 i0 i1 i2 j0 j1 j2 k0 k1 k2 l0 l1 l2 q1 q2 q3 q5 q6 q7
  have HD6 := Zh (HCd.out.next H6.out); have HT6 := Zh (HCt.out.next H6.out); clear HCd HCt H5 H6
  go_wp2_with fail
  refine HK.out _ _ ?_
  refine wp_seq_k fun K2 hK2 => ?_
  have HK2 := Zh hK2; clear hK2
  go_wp2_with fail
  refine HK2.out _ _ ?_
  rw [HT.out]
  have := time_tail (v := v) HD6.out HT6.out ⟨y0, y1⟩ ⟨M1, M2⟩ ⟨D1, d1⟩ ⟨h0, by have := HC5.out; omega⟩ ⟨n0, by have := HC6.out; omega⟩ ⟨s0, by have := HC7.out; omega⟩ HTT.out hr
  apply this
 ·have hE2 : ∀ w, (Op.equalIn 10000 239 (.agg #[.int .i64 a, .int .i64 b, .int .i64 cc]) (.agg #[.int .i64 Y, .int .i64 M, .int .i64 D])).run Tryz.prog w = .ok false w := fun w => (HE.out w).trans (by
   congr 1; rw [Bool.and_eq_false_iff, Bool.and_eq_false_iff]; simp only [beq_eq_false_iff_ne, ne_eq]; omega)
  have HQ := Zh hq; clear hq
  refine Zk (i := 18) rfl ?r52
  (try simp only [Act.put, Z1, Z2, Z3, Z4, Z5, Z6])
  refine Zk (i := 19) rfl ?r53
  (try simp only [Act.put, Z1, Z2, Z3, Z4, Z5, Z6])
  refine Zk (i := 20) rfl ?r54
  (try simp only [Act.put, Z1, Z2, Z3, Z4, Z5, Z6])
  refine wpAnyH_take (i := 21) (v := undef) rfl (by kernel_rfl) (by kernel_rfl) (by kernel_rfl) (fun _ _ _ h => h) (Or.inr ⟨by rfl, rfl⟩) (by assumption) ?_
  (try simp only [Act.put, Z1, Z2, Z3, Z4, Z5, Z6])
  refine wpAnyH_take (i := 22) (v := undef) rfl (by kernel_rfl) (by kernel_rfl) (by kernel_rfl) (fun _ _ _ h => h) (Or.inr ⟨by rfl, rfl⟩) (by assumption) ?_
  (try simp only [Act.put, Z1, Z2, Z3, Z4, Z5, Z6])
  refine wpAnyH_take (i := 23) (v := undef) rfl (by kernel_rfl) (by kernel_rfl) (by kernel_rfl) (fun _ _ _ h => h) (Or.inr ⟨by rfl, rfl⟩) (by assumption) ?_
  (try simp only [Act.put, Z1, Z2, Z3, Z4, Z5, Z6])
  refine Zk (i := 24) rfl ?r55
  (try simp only [Act.put, Z1, Z2, Z3, Z4, Z5, Z6])
  refine Zk (i := 25) rfl ?r56
  (try simp only [Act.put, Z1, Z2, Z3, Z4, Z5, Z6])
  refine wpAnyH_take (i := 26) (v := undef) rfl (by kernel_rfl) (by kernel_rfl) (by kernel_rfl) (fun _ _ _ h => h) (Or.inr ⟨by rfl, rfl⟩) (by assumption) ?_
  (try simp only [Act.put, Z1, Z2, Z3, Z4, Z5, Z6])
  refine wpAnyH_take (i := 27) (v := undef) rfl (by kernel_rfl) (by kernel_rfl) (by kernel_rfl) (fun _ _ _ h => h) (Or.inr ⟨by rfl, rfl⟩) (by assumption) ?_
  (try simp only [Act.put, Z1, Z2, Z3, Z4, Z5, Z6])
  refine wpAnyH_take (i := 28) (v := undef) rfl (by kernel_rfl) (by kernel_rfl) (by kernel_rfl) (fun _ _ _ h => h) (Or.inr ⟨by rfl, rfl⟩) (by assumption) ?_
  (try simp only [Act.put, Z1, Z2, Z3, Z4, Z5, Z6])
  refine Zk (i := 29) rfl ?r57
  (try simp only [Act.put, Z1, Z2, Z3, Z4, Z5, Z6])
  refine Zk (i := 30) rfl ?r58
  (try simp only [Act.put, Z1, Z2, Z3, Z4, Z5, Z6])
  refine wpAnyH_take (i := 31) (v := undef) rfl (by kernel_rfl) (by kernel_rfl) (by kernel_rfl) (fun _ _ _ h => h) (Or.inr ⟨by rfl, rfl⟩) (by assumption) ?_
  (try simp only [Act.put, Z1, Z2, Z3, Z4, Z5, Z6])
  refine wpAnyH_take (i := 32) (v := undef) rfl (by kernel_rfl) (by kernel_rfl) (by kernel_rfl) (fun _ _ _ h => h) (Or.inr ⟨by rfl, rfl⟩) (by assumption) ?_
  (try simp only [Act.put, Z1, Z2, Z3, Z4, Z5, Z6])
  refine wpAnyH_take (i := 33) (v := undef) rfl (by kernel_rfl) (by kernel_rfl) (by kernel_rfl) (fun _ _ _ h => h) (Or.inr ⟨by rfl, rfl⟩) (by assumption) ?_
  (try simp only [Act.put, Z1, Z2, Z3, Z4, Z5, Z6])
  refine Zk (i := 34) rfl ?r59
  (try simp only [Act.put, Z1, Z2, Z3, Z4, Z5, Z6])
  refine wpAnyH_done (by kernel_rfl) ?_ _
  go_wp2_with fail
  go_ret3
  exact ⟨by rw [HTb.out (.inr (.inr (.inr (.inl (fun e => HQ.out (by simpa using e))))))]; rfl, bnext HCd.out.below H6.out⟩
end Go.Proofs.YtlmfbjhokkpjhaaGreatDoor
