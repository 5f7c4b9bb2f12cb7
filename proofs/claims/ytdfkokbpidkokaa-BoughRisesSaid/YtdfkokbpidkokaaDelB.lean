/- bough.Del at [int, string]. -/
import Derived.Test.YtdfkokbpidkokaaPutB
namespace Go.Proofs.Ytdfkokbpidkokaa
open Go.RowKit

set_option maxRecDepth 20000 in
set_option maxHeartbeats 1000000 in
theorem del_noneB {w : World} {h : Nat} {lo : Option Nat} {cl : Nat} {ls : List (Leaf Int Value)} {o : Int} {q : Nat} (R : RepB w (.func (.func 51) #[] #[.pointer (some ⟨q, 0, none⟩)]) h lo cl ls) (k : Int) (hs : Sorted (cmpI o) (flat ls)) (hsz : (flat ls).length ≤ 4611686018427387903)
    (hh : hasL (cmpI o) (flat ls) k = false) (hq : w.cell? ⟨q, 0, none⟩ = some (.int .i64 o)) :
    Calls Try.prog 48 #[.pointer (some ⟨h, 0, none⟩), .int .i64 k] w fun e w' => e = .returned (.bool false) ∧ ∃ n, w' = w.drewN n := by
  have hS := search_repB R k hs hsz hq
  rw [hh] at hS
  have HS := Lib.hid hS; clear hS hh R
  clear hs hq
  go_enter Try.func48, Try.ntmps48
  go_wp2_with (go_at_call 65; refine HS.out.mono ?_; rintro e w' ⟨rfl, qd, rfl⟩)
  go_ret
  exact ⟨rfl, qd, rfl⟩

set_option maxRecDepth 20000 in
set_option maxHeartbeats 1000000 in
theorem del_foundB {w : World} {h : Nat} {lo : Option Nat} {cl : Nat} {ls : List (Leaf Int Value)} {o : Int} {q : Nat} (R : RepB w (.func (.func 51) #[] #[.pointer (some ⟨q, 0, none⟩)]) h lo cl ls) (k : Int) (hs : Sorted (cmpI o) (flat ls)) (hsz : (flat ls).length ≤ 4611686018427387903)
    (hh : hasL (cmpI o) (flat ls) k = true) (hq : w.cell? ⟨q, 0, none⟩ = some (.int .i64 o)) :
    Calls Try.prog 48 #[.pointer (some ⟨h, 0, none⟩), .int .i64 k] w fun e w' => e = .returned (.bool true) ∧
      Post (.int .i64) 99 107 120 w (.func (.func 51) #[] #[.pointer (some ⟨q, 0, none⟩)]) h lo ls ((flat ls).take (rk (cmpI o) (flat ls) k) ++ (flat ls).drop (rk (cmpI o) (flat ls) k + 1)) (pot ls) w' := by
  have hS := search_repB R k hs hsz hq
  have hlt := hasL_lt (cmpI o) hh
  obtain ⟨s1, s2, s3, s4⟩ := loc_spec ls _ (Nat.le_of_lt hlt)
  have hA : (loc ls (rk (cmpI o) (flat ls) k)).1 < ls.length := by
    rcases Nat.eq_or_lt_of_le s1 with h1 | h1
    · have := (s4 h1).2; omega
    · exact h1
  have hB := s3 hA
  obtain ⟨L, rfl⟩ := R.some_of (by omega)
  have hc1 := R.c1s
  have hc2 := R.c2
  have hf2 := R.hdr.frozen 2
  have hnl := R.nl_le
  have ht1 : 1 ≤ (flat ls).length := by omega
  obtain ⟨d1, d2, d3⟩ := R.nd3
  rw [hh] at hS
  have HS := Lib.hid hS; clear hS hh s3 s4 hlt s1
  clear hs hq
  generalize (loc ls (rk (cmpI o) (flat ls) k)).1 = A at *
  generalize (loc ls (rk (cmpI o) (flat ls) k)).2 = B at *
  have HR := Lib.hid R; clear R
  have HE := Lib.hid s2.symm; clear s2
  have hLh : L ≠ h := Ne.symm d1
  have hbh : (ls[A]).b ≠ h := (d2 _ (List.getElem_mem hA)).1
  have hbL : (ls[A]).b ≠ L := (d2 _ (List.getElem_mem hA)).2
  have HD2 := Lib.hid d2; clear d2
  have HD3 := Lib.hid d3; clear d3
  obtain ⟨p1, p2, p3⟩ := HR.out.pos hA
  have hrow0 : Row w (ls[A]).b 120 2 (ls[A]).c (cells (.int .i64) (ls[A]).ps) := HR.out.row hA
  have hleaf0 : w.cell? ⟨L, A, none⟩ = some (.slice (some ⟨(ls[A]).b, 0, none⟩) (ls[A]).ps.length (ls[A]).c) := HR.out.leaf hA
  have HLEAF := Lib.hid hleaf0; clear hleaf0
  have HROW := Lib.hid hrow0; clear hrow0
  have hone : ∀ u ∈ cells (.int .i64) (ls[A]).ps, u.oneCell' = true := cells_one _ (fun _ => rfl) _ (HR.out.lf _ (List.getElem_mem hA)).2.2.2.2
  have HONE := Lib.hid hone; clear hone
  have hLlt : L < w.heap.size := HR.out.lv.row.lt
  have hblt : (ls[A]).b < w.heap.size := HROW.out.lt
  generalize hlf : ls[A] = lf at *
  obtain ⟨b, cp, ps⟩ := lf
  simp only at *
  have HLF := Lib.hid hlf; clear hlf
  obtain ⟨n, hn⟩ : ∃ n, n = ps.length := ⟨_, rfl⟩
  rw [← hn] at p1 p2 p3 hB
  have HN := Lib.hid hn; clear hn
  go_enter Try.func48, Try.ntmps48
  go_upto_region 7 with ((go_at_call 65; refine HS.out.mono ?_; rintro e w' ⟨rfl, qd, rfl⟩))
  refine wp_abs (fun w2 => Row w2 h 99 3 1 [.func (.func 51) #[] #[.pointer (some ⟨q, 0, none⟩)], .slice (some ⟨L, 0, none⟩) ls.length cl, .int .i64 ((flat ls).length - 1)] ∧ Chg (fun x => x = h) w w2) ⟨?_, ?_⟩ ?_
  · exact (HR.out.hdr.drewN qd).set (j := 2) (by simp) _
  · exact Chg.setCell (S := fun x => x = h) ((Chg.refl _ w).drewN qd) (fun _ => rfl) _
  rintro w2 ⟨hH, hC⟩
  clear hc1 hc2 hf2 HS
  have hc1 : w2.cell? ⟨h, 1, none⟩ = some (.slice (some ⟨L, 0, none⟩) ls.length cl) := hH.cell rfl
  have hc3 : w2.cell? ⟨L, A, none⟩ = some (.slice (some ⟨b, 0, none⟩) n cp) := by
    rw [World.cell?_of_block (w := w) (hC.block L hLlt hLh), HN.out]
    exact HLEAF.out
  have hrow2 : Row w2.drew b 120 2 cp (cells (.int .i64) ps) := (HROW.out.chg hC hbh).drew
  have HH := Lib.hid hH; clear hH
  have HC := Lib.hid hC; clear hC
  have HROW2 := Lib.hid hrow2; clear hrow2
  go_upto_region 8 with fail
  have b1 : (0 : Int) ≤ B := by omega
  have b2 : (B : Int) ≤ cp := by omega
  have b3 : (0 : Int) ≤ (B : Int) + 1 := by omega
  have b4 : (B : Int) + 1 ≤ n := by omega
  have b5 : (n : Int) ≤ cp := by omega
  have b6 : IntKind.i64.wrap ((B : Int) + 1) = B + 1 := IntWalk.i64_in _ (by omega)
  have b7 : ((B : Int) + 1).toNat = B + 1 := by omega
  obtain ⟨m, hm⟩ : ∃ m, B + (n - (B + 1)) = m := ⟨_, rfl⟩
  have hm1 : m + 1 ≤ n := by omega
  have hm2 : n ≤ m + 1 := by omega
  have HM := Lib.hid hm; clear hm
  obtain ⟨i0, hi, hz0, hz1, hz2⟩ := info_parts Try.info120
  have HI := Lib.hid (And.intro hi (And.intro hz0 (And.intro hz1 hz2)))
  clear hi hz0 hz1 hz2
  go_region_law ((refine step_out (kv := .int .i64) (w := w2.drew) rfl (.tmp 36) (.tmp 40) 107 rfl 120 i0 Try.underlying107 HI.out.1 HI.out.2.2.1 b n cp B ps (by go_simp) HROW2.out HN.out hB p3 HONE.out (by go_simp) m HM.out ?_; intro w3 hrow3 hg3))
  go_simp
  go_upto_region 9 with fail
  generalize (if cp = B + 1 then (some (⟨b, 0, none⟩ : Addr)) else some ⟨b, (B + 1) * 2, none⟩) = z1
  clear b1 b2 b3 b4 b5 b6 b7 hc1 hc3
  have hpsl : (ps.take B ++ ps.drop (B + 1)).length = m := by
    rw [List.length_append, List.length_take, List.length_drop, ← HN.out]; omega
  have r1 : Row w3 h 99 3 1 _ := Row.grown (w := w2.drew) HH.out.drew hg3 (by simpa using Ne.symm hbh)
  have r2 : Row w3 L 107 1 cl (ls.map lval) := Row.grown (w := w2.drew) (HR.out.lv.row.chg HC.out hLh).drew hg3 (by simpa using Ne.symm hbL)
  have r4 : Chg (fun x => x = h ∨ x = L ∨ x = b) w w3 := (HC.out.mono (T := fun x => x = h ∨ x = L ∨ x = b) fun k _ e => .inl e).drew.grown hg3 (fun k e _ => .inr (.inr (by simpa using e.symm)))
  obtain ⟨ps', hps'⟩ : ∃ ps', ps' = ps.take B ++ ps.drop (B + 1) := ⟨_, rfl⟩
  rw [← hps'] at hpsl hrow3
  have hc1 : w3.cell? ⟨h, 1, none⟩ = some (.slice (some ⟨L, 0, none⟩) ls.length cl) := r1.cell rfl
  have hc3 : w3.cell? ⟨L, A, none⟩ = some (lval ls[A]) := r2.cell (by simp [hA])
  have hc4 := r2.frozen A
  rw [HLF.out] at hc3
  simp only [lval] at hc3
  have R1 := Lib.hid r1; clear r1
  have R2 := Lib.hid r2; clear r2
  have R3 := Lib.hid hrow3; clear hrow3
  have R4 := Lib.hid r4; clear r4
  have HG3 := Lib.hid hg3; clear hg3
  have HPS := Lib.hid hps'; clear hps'
  have HPL := Lib.hid hpsl; clear hpsl
  go_upto_region 10 with fail
  refine wp_abs (StB w · h L cl ls.length ((flat ls).length - 1) ((ls.map lval).set A (.slice (some ⟨b, 0, none⟩) m cp)) b cp (cells (.int .i64) ps') b q) ⟨?_, ?_, ?_, ?_⟩ ?_
  · exact R1.out.setNe (Ne.symm hLh) _
  · exact R2.out.set (by simp [hA]) _
  · exact R3.out.setNe hbL _
  · exact R4.out.setCell (p := ⟨L, A, none⟩) (fun _ => .inr (.inl rfl)) _
  rintro w4 hst
  obtain ⟨q1, q2, q3, q4⟩ := hst
  clear hc1 hc3 hc4
  have hc1 : w4.cell? ⟨h, 1, none⟩ = some (.slice (some ⟨L, 0, none⟩) ls.length cl) := q1.cell rfl
  have hf1 := q1.frozen 1
  have hc3 : w4.cell? ⟨L, A, none⟩ = some (.slice (some ⟨b, 0, none⟩) m cp) := q2.cell (by simp [hA])
  have hf3 := q2.frozen A
  have hA2 : Hid ((ls[A]).ps = ps) := by unfold Hid; rw [HLF.out]
  have hA3 : Hid ((ls[A]).b = b) := by unfold Hid; rw [HLF.out]
  have hA4 : Hid ((ls[A]).c = cp) := by unfold Hid; rw [HLF.out]
  have Q1 := Lib.hid q1; clear q1
  have Q2 := Lib.hid q2; clear q2
  have Q3 := Lib.hid q3; clear q3
  have Q4 := Lib.hid q4; clear q4
  have HCAP := HR.out.lv.le
  have HBL : Hid (B < ps.length) := by unfold Hid; rw [← HN.out]; exact hB
  -- the leaf stays
  have stay : ∀ hne : 0 < m, Post (.int .i64) 99 107 120 w (.func (.func 51) #[] #[.pointer (some ⟨q, 0, none⟩)]) h (some L) ls ((flat ls).take (rk (cmpI o) (flat ls) k) ++ (flat ls).drop (rk (cmpI o) (flat ls) k + 1)) (pot ls) w4 := fun hne =>
    BRep.del1 (ps' := ps') HR.out hA HE.out (by rw [hA2.out]; exact HBL.out) (by rw [hA2.out]; exact HPS.out) (by rw [HPL.out]; exact hne) Q1.out (by rw [HPL.out, hA3.out, hA4.out]; exact Q2.out) (by rw [hA3.out, hA4.out]; exact Q3.out) (by rw [hA3.out]; exact Q4.out)
  have STAY := Lib.hid stay; clear stay
  by_cases h8 : 8 ≤ m
  · go_wp2_with fail
    go_ret
    exact ⟨rfl, STAY.out (by omega)⟩
  · -- less than eight: does the next leaf fit in?
    have b1 : IntKind.i64.wrap ((A : Int) + 1) = A + 1 := IntWalk.i64_in _ (by omega)
    by_cases hA1 : A + 1 < ls.length
    · have hlf2 : w4.cell? ⟨L, A + 1, none⟩ = some (lval (ls[A + 1])) := Q2.out.cell (by simp [hA1])
      simp only [lval] at hlf2
      obtain ⟨n2, hn2⟩ : ∃ n2, n2 = (ls[A + 1]).ps.length := ⟨_, rfl⟩
      rw [← hn2] at hlf2
      obtain ⟨p4, p5, p6⟩ := HR.out.pos hA1
      rw [← hn2] at p4 p5 p6
      have HN2 := Lib.hid hn2; clear hn2
      by_cases h32 : m + n2 ≤ 32
      · obtain ⟨ps2, hps2⟩ : ∃ ps2, ps2 = (ls[A + 1]).ps := ⟨_, rfl⟩
        have HPS2 := Lib.hid hps2
        have hn2 : n2 = ps2.length := by rw [hps2]; exact HN2.out
        have hrow5 : Row w4 (ls[A + 1]).b 120 2 (ls[A + 1]).c (cells (.int .i64) ps2) := by
          rw [hps2]
          refine (HR.out.row hA1).chg Q4.out ?_
          have e1 := HD2.out _ (List.getElem_mem hA1)
          rintro (e | e | e)
          · exact e1.1 e
          · exact e1.2 e
          · have e2 := (List.pairwise_iff_getElem.1 HD3.out) A (A + 1) (by simpa using hA) (by simpa using hA1) (by omega)
            simp only [List.getElem_map] at e2
            rw [hA3.out] at e2
            exact e2 e.symm
        have hone2 : ∀ u ∈ cells (.int .i64) ps2, u.oneCell' = true := by
          rw [hps2]
          exact cells_one _ (fun _ => rfl) _ (HR.out.lf _ (List.getElem_mem hA1)).2.2.2.2
        have HROW5 := Lib.hid hrow5.drew; clear hrow5
        have HONE2 := Lib.hid hone2; clear hone2
        have HNN2 := Lib.hid hn2; clear hn2 hps2
        have hpl2 : (ps' ++ ps2).length = m + n2 := by rw [List.length_append, HPL.out, ← HNN2.out]
        have HPL2 := Lib.hid hpl2; clear hpl2
        have HO4 : Hid (Own w4.drew 120 2 (some b) m cp (cells (.int .i64) ps')) := Own.mk Q3.out.drew (by rw [cells_length, HPL.out]) (by omega)
        obtain ⟨i2, hi, hz0, hz1, hz2⟩ := info_parts Try.info120
        have HI2 := Lib.hid (And.intro hi (And.intro hz0 (And.intro hz1 hz2)))
        clear hi hz0 hz1 hz2
        have hby2 : (m + n2) * 24 ≤ 140737488355328 := by omega
        have hpos2 : 0 < m + n2 ∨ ∃ g, some b = some g := .inr ⟨b, rfl⟩
        have HBY2 := Lib.hid hby2
        have HPOS2 := Lib.hid hpos2
        clear hby2 hpos2
        generalize (ls[A + 1]).b = b2 at *
        generalize (ls[A + 1]).c = cp2 at *
        have c0 : (0 : Int) ≤ (A : Int) + 1 := by omega
        have c1 : (A : Int) + 1 < ls.length := by omega
        have c2 : ((A : Int) + 1).toNat = A + 1 := by omega
        have c3 : (0 : Int) ≤ A := by omega
        have c4 : (A : Int) < ls.length := by omega
        go_upto_region 13 with fail
        go_cut [8] (fun s8 wx => s8 = .slice (some ⟨b, 0, none⟩) m cp ∧ ∃ g cp5 : Nat, Row wx h 99 3 1 [.func (.func 51) #[] #[.pointer (some ⟨q, 0, none⟩)], .slice (some ⟨L, 0, none⟩) ls.length cl, .int .i64 ((flat ls).length - 1)] ∧ Row wx L 107 1 cl ((ls.map lval).set A (.slice (some ⟨g, 0, none⟩) (m + n2) cp5)) ∧
          Row wx g 120 2 cp5 (cells (.int .i64) (ps' ++ ps2)) ∧ m + n2 ≤ cp5 ∧ Chg (fun x => x = h ∨ x = L ∨ x = b) w wx ∧ (g = b ∨ w.heap.size ≤ g) ∧ g ≠ h ∧ g ≠ L)
        case first =>
          go_region_law ((refine step_app (w := w4.drew) rfl (.tmp 80) (.tmp 88) 107 rfl 120 i2 (.agg #[.int .i64 0, .string ByteArray.empty]) 2 24 Try.underlying107 HI2.out.1 HI2.out.2.1 HI2.out.2.2.1 HI2.out.2.2.2 rfl (by decide) (by decide) (some b) m cp (cells (.int .i64) ps') (by go_simp; rfl) HO4.out (some ⟨b2, 0, none⟩) n2 cp2 (cells (.int .i64) ps2) (by go_simp) (fun e => nomatch e) (by rw [cells_length, ← HNN2.out]) (news_row HROW5.out) HONE2.out HBY2.out HPOS2.out ?_; intro g cp5 w5 hO5 hG5 hat5; have k1 := hG5.cell (a := ⟨h, 1, none⟩) (w := w4.drew) hc1 (by simpa using Ne.symm hbh); have k2 := hG5.cell (a := ⟨L, A, none⟩) (w := w4.drew) hc3 (by simpa using Ne.symm hbL); have k3 := (grown_frozen hG5 (a := ⟨L, A, none⟩) (by exact Q2.out.lt) (by simpa using Ne.symm hbL)).trans hf3; have O5 := Lib.hid hO5; have G5 := Lib.hid hG5; have A5 := Lib.hid hat5; clear hO5 hG5 hat5))
          all_goals
            go_simp
            go_wp2_with fail
            go_meet
            have hle5 := O5.out.le
            have hws4 : w.heap.size ≤ w4.heap.size := Q4.out.size
            have hgw : g = b ∨ w.heap.size ≤ g := by
              rcases A5.out with e | e
              · exact .inl (Option.some.inj e).symm
              · exact .inr (by rw [e]; exact hws4)
            have hgh : g ≠ h := by
              rcases hgw with rfl | e
              · exact hbh
              · have := HR.out.hdr.lt; omega
            have hgL : g ≠ L := by
              rcases hgw with rfl | e
              · exact hbL
              · omega
            have e2 := ((Row.grown (w := w4.drew) Q2.out.drew G5.out (by simpa using Ne.symm hbL)).set (j := A) (by simp [hA]) (.slice (some ⟨g, 0, none⟩) (m + n2) cp5))
            rw [List.set_set] at e2
            refine ⟨rfl, g, cp5, (Row.grown (w := w4.drew) Q1.out.drew G5.out (by simpa using Ne.symm hbh)).setNe (Ne.symm hLh) _, e2, ?_, hle5, ?_, hgw, hgh, hgL⟩
            · rw [cells_append]; exact O5.out.row.setNe hgL _
            · exact (Q4.out.drew.grown G5.out (fun k e _ => .inr (.inr (by simpa using e.symm)))).setCell (p := ⟨L, A, none⟩) (fun _ => .inr (.inl rfl)) _
        case rest =>
          obtain ⟨rfl, g, cp5, q1, q2, q3, hle5, q4, hgw, hgh, hgL⟩ := hcut
          clear hc1 hf1 hc3 hf3 hlf2 c0 c1 c2 c3 c4
          have hc1 : wc.cell? ⟨h, 1, none⟩ = some (.slice (some ⟨L, 0, none⟩) ls.length cl) := q1.cell rfl
          have hf1 := q1.frozen 1
          have T1 := Lib.hid q1; clear q1
          have T2 := Lib.hid q2; clear q2
          have T3 := Lib.hid q3; clear q3
          have T4 := Lib.hid q4; clear q4
          go_upto_region 17 with fail
          have c0 : (0 : Int) ≤ (A + 1) := by omega
          have c1 : ((A + 1) : Int) ≤ cl := by omega
          have c2 : (0 : Int) ≤ ((A + 1) : Int) + 1 := by omega
          have c3 : ((A + 1) : Int) + 1 ≤ ls.length := by omega
          have c4 : (ls.length : Int) ≤ cl := by omega
          have c5 : IntKind.i64.wrap ((A : Int) + 1 + 1) = A + 2 := (IntWalk.i64_in _ (by omega)).trans (by omega)
          have c6 : ((A : Int) + 2).toNat = A + 2 := by omega
          have c7 : ((A : Int) + 1).toNat = A + 1 := by omega
          have c8 : (A : Int) + 2 ≤ ls.length := by omega
          have c9 : (0 : Int) ≤ (A : Int) + 2 := by omega
          obtain ⟨i1, hi, hz0, hz1, hz2⟩ := info_parts Try.info107
          have HI1 := Lib.hid (And.intro hi hz1)
          clear hi hz0 hz1 hz2
          have HLV1 : Hid (∀ u ∈ (ls.map lval).set A (.slice (some ⟨g, 0, none⟩) (m + n2) cp5), u.oneCell' = true) := fun u hu => by
            rcases List.mem_or_eq_of_mem_set hu with hu | rfl
            · exact lval_one ls u hu
            · rfl
          have HRD : Hid (Row wc.drew L 107 1 cl ((ls.map lval).set A (.slice (some ⟨g, 0, none⟩) (m + n2) cp5))) := T2.out.drew
          go_region_law ((refine step_out1 (w := wc.drew) rfl (.tmp 102) (.tmp 109) 97 rfl 107 i1 Try.underlying97 HI1.out.1 HI1.out.2 L ls.length cl (A + 1) ((ls.map lval).set A (.slice (some ⟨g, 0, none⟩) (m + n2) cp5)) (by go_simp) HRD.out (by simp) (by omega) HCAP HLV1.out (by go_simp) (ls.length - 1) (by omega) ?_; intro wx hrx hgx; have k1 := hgx.cell (a := ⟨h, 1, none⟩) (w := wc.drew) hc1 (by simpa using Ne.symm hLh); have k2 := (grown_frozen hgx (a := ⟨h, 1, none⟩) (by exact T1.out.lt) (by simpa using Ne.symm hLh)).trans hf1; have hkx := Lib.hid hgx; have HRX := Lib.hid hrx; clear hgx hrx))
          all_goals
            have hfx : Hid (Row wx h 99 3 1 _) := Row.grown (w := wc.drew) T1.out.drew hkx.out (by simpa using Ne.symm hLh)
            generalize (if cl = A + 2 then (some (⟨L, 0, none⟩ : Addr)) else some ⟨L, A + 2, none⟩) = z9
            go_simp
            go_wp2_with fail
            all_goals
              go_ret
              refine ⟨rfl, ?_⟩
              have hy := HRX.out.setNe (a := ⟨h, 1, none⟩) hLh (.slice (some ⟨L, 0, none⟩) (ls.length - 1) cl)
              rw [set_out1 _ _ (by simpa using hA1)] at hy
              exact BRep.del2 (ps' := ps' ++ ps2) HR.out hA1 HE.out (by rw [hA2.out]; exact HBL.out) (by rw [hA2.out, HPS.out, HPS2.out]) (by rw [HPL2.out]; exact h32) (hfx.out.set (j := 1) (by simp) _) (by rw [HPL2.out]; exact hy)
                (Row.setNe (Row.grown (w := wc.drew) T3.out.drew hkx.out (by simpa using hgL)) hgh _) (by rw [HPL2.out]; exact hle5) (by rw [hA3.out]; exact hgw)
                (by rw [hA3.out]; exact (T4.out.drew.grown hkx.out (fun k e _ => .inr (.inl (by simpa using e.symm)))).setCell (p := ⟨h, 1, none⟩) (fun _ => .inl rfl) _)
      · go_upto_region 15 with fail
        by_cases hm0 : 0 < m
        · go_wp2_with fail
          go_ret
          exact ⟨rfl, STAY.out hm0⟩
        · go_upto_region 17 with fail
          have c0 : (0 : Int) ≤ A := by omega
          have c1 : (A : Int) ≤ cl := by omega
          have c2 : (0 : Int) ≤ (A : Int) + 1 := by omega
          have c3 : (A : Int) + 1 ≤ ls.length := by omega
          have c4 : (ls.length : Int) ≤ cl := by omega
          have c5 : ((A : Int) + 1).toNat = A + 1 := by omega
          obtain ⟨i1, hi, hz0, hz1, hz2⟩ := info_parts Try.info107
          have HI1 := Lib.hid (And.intro hi hz1)
          clear hi hz0 hz1 hz2
          have HLV1 : Hid (∀ u ∈ (ls.map lval).set A (.slice (some ⟨b, 0, none⟩) m cp), u.oneCell' = true) := fun u hu => by
            rcases List.mem_or_eq_of_mem_set hu with hu | rfl
            · exact lval_one ls u hu
            · rfl
          have HRD : Hid (Row w4.drew L 107 1 cl ((ls.map lval).set A (.slice (some ⟨b, 0, none⟩) m cp))) := Q2.out.drew
          go_region_law ((refine step_out1 (w := w4.drew) rfl (.tmp 102) (.tmp 109) 97 rfl 107 i1 Try.underlying97 HI1.out.1 HI1.out.2 L ls.length cl (A) ((ls.map lval).set A (.slice (some ⟨b, 0, none⟩) m cp)) (by go_simp) HRD.out (by simp) (by omega) HCAP HLV1.out (by go_simp) (ls.length - 1) (by omega) ?_; intro wx hrx hgx; have k1 := hgx.cell (a := ⟨h, 1, none⟩) (w := w4.drew) hc1 (by simpa using Ne.symm hLh); have k2 := (grown_frozen hgx (a := ⟨h, 1, none⟩) (by exact Q1.out.lt) (by simpa using Ne.symm hLh)).trans hf1; have hkx := Lib.hid hgx; have HRX := Lib.hid hrx; clear hgx hrx))
          all_goals
            have hfx : Hid (Row wx h 99 3 1 _) := Row.grown (w := w4.drew) Q1.out.drew hkx.out (by simpa using Ne.symm hLh)
            generalize (if cl = A + 1 then (some (⟨L, 0, none⟩ : Addr)) else some ⟨L, A + 1, none⟩) = z9
            go_simp
            go_wp2_with fail
            all_goals
              go_ret
              refine ⟨rfl, ?_⟩
              have hy := HRX.out.setNe (a := ⟨h, 1, none⟩) hLh (.slice (some ⟨L, 0, none⟩) (ls.length - 1) cl)
              rw [set_out _ _ (by simpa using hA)] at hy
              exact BRep.del3 HR.out hA (by rw [HE.out]; omega) (by rw [hA2.out, ← HN.out]; omega) (hfx.out.set (j := 1) (by simp) _) hy
                (by rw [hA3.out]; exact (Q4.out.drew.grown hkx.out (fun k e _ => .inr (.inl (by simpa using e.symm)))).setCell (p := ⟨h, 1, none⟩) (fun _ => .inl rfl) _)
    · have hd : decide (A + 1 < ls.length) = false := by simpa using hA1
      go_upto_region 15 with fail
      by_cases hm0 : 0 < m
      · go_wp2_with fail
        go_ret
        exact ⟨rfl, STAY.out hm0⟩
      · go_upto_region 17 with fail
        have c0 : (0 : Int) ≤ A := by omega
        have c1 : (A : Int) ≤ cl := by omega
        have c2 : (0 : Int) ≤ (A : Int) + 1 := by omega
        have c3 : (A : Int) + 1 ≤ ls.length := by omega
        have c4 : (ls.length : Int) ≤ cl := by omega
        have c5 : ((A : Int) + 1).toNat = A + 1 := by omega
        obtain ⟨i1, hi, hz0, hz1, hz2⟩ := info_parts Try.info107
        have HI1 := Lib.hid (And.intro hi hz1)
        clear hi hz0 hz1 hz2
        have HLV1 : Hid (∀ u ∈ (ls.map lval).set A (.slice (some ⟨b, 0, none⟩) m cp), u.oneCell' = true) := fun u hu => by
          rcases List.mem_or_eq_of_mem_set hu with hu | rfl
          · exact lval_one ls u hu
          · rfl
        have HRD : Hid (Row w4.drew L 107 1 cl ((ls.map lval).set A (.slice (some ⟨b, 0, none⟩) m cp))) := Q2.out.drew
        go_region_law ((refine step_out1 (w := w4.drew) rfl (.tmp 102) (.tmp 109) 97 rfl 107 i1 Try.underlying97 HI1.out.1 HI1.out.2 L ls.length cl (A) ((ls.map lval).set A (.slice (some ⟨b, 0, none⟩) m cp)) (by go_simp) HRD.out (by simp) (by omega) HCAP HLV1.out (by go_simp) (ls.length - 1) (by omega) ?_; intro wx hrx hgx; have k1 := hgx.cell (a := ⟨h, 1, none⟩) (w := w4.drew) hc1 (by simpa using Ne.symm hLh); have k2 := (grown_frozen hgx (a := ⟨h, 1, none⟩) (by exact Q1.out.lt) (by simpa using Ne.symm hLh)).trans hf1; have hkx := Lib.hid hgx; have HRX := Lib.hid hrx; clear hgx hrx))
        all_goals
          have hfx : Hid (Row wx h 99 3 1 _) := Row.grown (w := w4.drew) Q1.out.drew hkx.out (by simpa using Ne.symm hLh)
          generalize (if cl = A + 1 then (some (⟨L, 0, none⟩ : Addr)) else some ⟨L, A + 1, none⟩) = z9
          go_simp
          go_wp2_with fail
          all_goals
            go_ret
            refine ⟨rfl, ?_⟩
            have hy := HRX.out.setNe (a := ⟨h, 1, none⟩) hLh (.slice (some ⟨L, 0, none⟩) (ls.length - 1) cl)
            rw [set_out _ _ (by simpa using hA)] at hy
            exact BRep.del3 HR.out hA (by rw [HE.out]; omega) (by rw [hA2.out, ← HN.out]; omega) (hfx.out.set (j := 1) (by simp) _) hy
              (by rw [hA3.out]; exact (Q4.out.drew.grown hkx.out (fun k e _ => .inr (.inl (by simpa using e.symm)))).setCell (p := ⟨h, 1, none⟩) (fun _ => .inl rfl) _)

theorem del_repB {w : World} {h : Nat} {lo : Option Nat} {cl : Nat} {ls : List (Leaf Int Value)} {o : Int} {q : Nat} (R : RepB w (.func (.func 51) #[] #[.pointer (some ⟨q, 0, none⟩)]) h lo cl ls) (k : Int) (hs : Sorted (cmpI o) (flat ls)) (hsz : (flat ls).length ≤ 4611686018427387903) (hq : w.cell? ⟨q, 0, none⟩ = some (.int .i64 o)) :
    Calls Try.prog 48 #[.pointer (some ⟨h, 0, none⟩), .int .i64 k] w fun e w' => e = .returned (.bool (hasL (cmpI o) (flat ls) k)) ∧
      Post (.int .i64) 99 107 120 w (.func (.func 51) #[] #[.pointer (some ⟨q, 0, none⟩)]) h lo ls (delL (cmpI o) (flat ls) k) (pot ls) w' := by
  unfold delL
  cases hh : hasL (cmpI o) (flat ls) k
  case true =>
    exact del_foundB R k hs hsz hh hq
  case false =>
    refine (del_noneB R k hs hsz hh hq).mono ?_
    rintro e w' ⟨rfl, n, rfl⟩
    exact ⟨rfl, lo, cl, ls, R.drewN n, rfl, Nat.le_refl _, (Chg.refl _ w).drewN n, fun x hx => .inl hx⟩
end Go.Proofs.Ytdfkokbpidkokaa
