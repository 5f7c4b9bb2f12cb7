/- bough.Put at [int, int]. -/
import Derived.Test.YtdfkokbpidkokaaRankC
import Derived.Deep.CutRange
import Derived.Deep.DeepCutAuto
namespace Go.Proofs.Ytdfkokbpidkokaa
open Go.RowKit

/-- the state of a Put under way: header, leaves, one leaf -/
def StC (w wx : World) (h L cl nl : Nat) (t : Int) (lvs : List Value) (g cp : Nat) (cs : List Value) (b : Nat) (q : Nat) : Prop :=
  Row wx h 111 3 1 [.func (.func 51) #[] #[.pointer (some ⟨q, 0, none⟩)], .slice (some ⟨L, 0, none⟩) nl cl, .int .i64 t] ∧ Row wx L 112 1 cl lvs ∧ Row wx g 114 2 cp cs ∧ Chg (fun x => x = h ∨ x = L ∨ x = b) w wx

theorem Try.info112 : (Try.prog.info? 112).map (fun i => (i.zero, i.size, i.bytes)) = some (some (.slice none 0 0), 1, 24) := by kernel_rfl
theorem Try.info114 : (Try.prog.info? 114).map (fun i => (i.zero, i.size, i.bytes)) = some (some (.agg #[.int .i64 0, .int .i64 0]), 2, 16) := by kernel_rfl

set_option maxRecDepth 20000 in
set_option maxHeartbeats 1000000 in
theorem put_insC {w : World} {h : Nat} {lo : Option Nat} {cl : Nat} {ls : List (Leaf Int Value)} {o : Int} {q : Nat} (R : RepC w (.func (.func 51) #[] #[.pointer (some ⟨q, 0, none⟩)]) h lo cl ls) (k : Int) (z : Int) (hs : Sorted (cmpI o) (flat ls)) (hsz : (flat ls).length ≤ 4611686018427387903)
    (hh : hasL (cmpI o) (flat ls) k = false) (hnl : 0 < ls.length) (hby : (ls.length + 1) * 24 ≤ 140737488355328) (hq : w.cell? ⟨q, 0, none⟩ = some (.int .i64 o)) :
    Calls Try.prog 32 #[.pointer (some ⟨h, 0, none⟩), .int .i64 k, .int .i64 z] w fun e w' => e = .returned (.bool true) ∧
      Post (.int .i64) 111 112 114 w (.func (.func 51) #[] #[.pointer (some ⟨q, 0, none⟩)]) h lo ls ((flat ls).take (rk (cmpI o) (flat ls) k) ++ (k, .int .i64 z) :: (flat ls).drop (rk (cmpI o) (flat ls) k)) (pot ls + 1) w' := by
  have hS := search_repC R k hs hsz hq
  obtain ⟨s1, s2, s3, s4⟩ := loc_spec ls _ (rk_le (cmpI o) (flat ls) k)
  obtain ⟨L, rfl⟩ := R.some_of hnl
  rw [hh] at hS
  have HS := Lib.hid hS; clear hS
  have hc1 := R.c1s
  have hc2 := R.c2
  have hf2 := R.hdr.frozen 2
  have hnt := R.nl_le
  have hLh : L ≠ h := fun e => by have := R.nd; simp [blocks, e] at this
  have HR := Lib.hid R; clear R
  clear hs hq
  generalize hA : (loc ls (rk (cmpI o) (flat ls) k)).1 = A at *
  generalize hB : (loc ls (rk (cmpI o) (flat ls) k)).2 = B at *
  have HE := Lib.hid s2; clear s2
  have H3 := Lib.hid s3; clear s3
  have H4 := Lib.hid s4; clear s4 hA hB hh
  have t0 : ((ls.length : Int) == 0) = false := by rw [beq_eq_false_iff_ne]; omega
  go_enter Try.func32, Try.ntmps32
  go_upto_region 8 with ((go_at_call 62; refine HS.out.mono ?_; rintro e w' ⟨rfl, qd, rfl⟩))
  refine wp_abs (fun w2 => Row w2 h 111 3 1 [.func (.func 51) #[] #[.pointer (some ⟨q, 0, none⟩)], .slice (some ⟨L, 0, none⟩) ls.length cl, .int .i64 ((flat ls).length + 1)] ∧ Chg (fun x => x = h) w w2) ⟨?_, ?_⟩ ?_
  · exact (HR.out.hdr.drewN qd).set (j := 2) (by simp) _
  · exact Chg.setCell (S := fun x => x = h) ((Chg.refl _ w).drewN qd) (fun _ => rfl) _
  rintro w2 ⟨hH, hC⟩
  clear hc1 hc2 hf2 HS
  have hc1 : w2.cell? ⟨h, 1, none⟩ = some (.slice (some ⟨L, 0, none⟩) ls.length cl) := hH.cell rfl
  have HH := Lib.hid hH; clear hH
  have HC := Lib.hid hC; clear hC
  go_upto_if 66 with fail
  go_cut [7, 8] (fun s7 s8 wx => ∃ A' B' : Nat, s7 = .int .i64 A' ∧ s8 = .int .i64 B' ∧ wx = w2 ∧ (∃ h : A' < ls.length, B' ≤ (ls[A']).ps.length ∧ rk (cmpI o) (flat ls) k = off ls A' + B'))
  case first =>
    by_cases hAl : A = ls.length
    · have hi : A - 1 < ls.length := by omega
      have hc3 : w2.cell? ⟨L, A - 1, none⟩ = some (.slice (some ⟨(ls[A - 1]).b, 0, none⟩) (ls[A - 1]).ps.length (ls[A - 1]).c) := by
        rw [World.cell?_of_block (w := w) (HC.out.block L (HR.out.lt L (by simp [blocks])) hLh)]
        exact HR.out.leaf hi
      have t1 : ((A : Int) == ls.length) = true := by simp; omega
      have hA1 : 1 ≤ A := by omega
      have HA := Lib.hid hAl; clear hAl
      go_wp2_with fail
      go_meet
      refine ⟨A - 1, _, by congr 1; omega, rfl, rfl, hi, Nat.le_refl _, ?_⟩
      have h1 := off_succ hi
      have h2 := off_all ls
      rw [← HA.out] at h2
      have h3 : A - 1 + 1 = A := by omega
      rw [h3] at h1
      rw [(H4.out HA.out).2]; omega
    · have t1 : ((A : Int) == ls.length) = false := by rw [beq_eq_false_iff_ne]; omega
      go_wp2_with fail
      go_meet
      exact ⟨A, B, rfl, rfl, rfl, by omega, Nat.le_of_lt (H3.out (by omega)), HE.out.symm⟩
  case rest =>
    obtain ⟨A', B', rfl, rfl, rfl, hA', hB', hE'⟩ := hcut
    have hc3 : wc.cell? ⟨L, A', none⟩ = some (.slice (some ⟨(ls[A']).b, 0, none⟩) (ls[A']).ps.length (ls[A']).c) := by
      rw [World.cell?_of_block (w := w) (HC.out.block L (HR.out.lt L (by simp [blocks])) hLh)]
      exact HR.out.leaf hA'
    have hp := HR.out.pos hA'
    have hrow := HR.out.row hA'
    have hbh : (ls[A']).b ≠ h := fun e => by
      have := HR.out.nd
      simp only [blocks, List.nodup_cons, List.mem_append, List.mem_map] at this
      exact this.1 (.inr ⟨_, List.getElem_mem hA', e⟩)
    have hbL : (ls[A']).b ≠ L := fun e => by
      have := HR.out.nd
      simp only [blocks, List.nodup_cons, List.nodup_append, List.mem_map, Option.toList_some, List.mem_singleton] at this
      exact this.2.2.2 L rfl _ ⟨_, List.getElem_mem hA', rfl⟩ e.symm
    have hlt := HR.out.lt
    have hrow2 : Row wc (ls[A']).b 114 2 (ls[A']).c (cells (.int .i64) (ls[A']).ps) := hrow.chg HC.out hbh
    have HE' := Lib.hid hE'; clear hE'
    have HROW := Lib.hid hrow2; clear hrow2 hrow
    have hone : ∀ u ∈ cells (.int .i64) (ls[A']).ps, u.oneCell' = true := cells_one _ (fun _ => rfl) _ (HR.out.lf _ (List.getElem_mem hA')).2.2.2.2
    have HONE := Lib.hid hone; clear hone
    have HLT := Lib.hid hlt; clear hlt
    generalize hlf : ls[A'] = lf at *
    obtain ⟨b, cp, ps⟩ := lf
    have HLF := Lib.hid hlf; clear hlf
    obtain ⟨n, hn⟩ : ∃ n, n = ps.length := ⟨_, rfl⟩
    simp only at hc3 hp hbh hbL hB'
    rw [← hn] at hc3 hp hB'
    have HN := Lib.hid hn; clear hn
    obtain ⟨i0, hi, hz0, hz1, hz2⟩ := info_parts Try.info114
    have HI := Lib.hid (And.intro hi (And.intro hz0 (And.intro hz1 hz2)))
    clear hi hz0 hz1 hz2
    go_wp2_with (at_builtin; refine wpList_app rfl _ _ _ rfl 114 i0 (.agg #[.int .i64 0, .int .i64 0]) 2 16 Try.underlying112 HI.out.1 HI.out.2.1 HI.out.2.2.1 HI.out.2.2.2 rfl (by decide) (by decide) (some b) n cp (cells (.int .i64) ps) (by rfl) ?c1 _ 1 1 [.int .i64 0, .int .i64 0] (by rfl) ?c2 rfl (news_new _ _ _ _ rfl) ?c4 ?c5 (by omega) ?_)
    case c1 => exact Own.mk (HROW.out.alloc _) (by rw [cells_length, HN.out]) (by omega)
    case c4 => first | exact ⟨rfl, rfl⟩ | exact rfl
    case c5 => omega
    intro g cap' w4 hO hG hat
    have hcap : n + 1 ≤ cap' := hO.le
    have HO := Lib.hid hO; clear hO
    have HG := Lib.hid hG; clear hG
    go_upto_region 15 with fail
    have b1 : (B' + 1 : Int) ≤ n + 1 := by omega
    have b2 : (B' : Int) ≤ n + 1 := by omega
    have b3 : (n + 1 : Int) ≤ cap' := by omega
    have b4 : (0 : Int) ≤ B' := by omega
    have b7 : (0 : Int) ≤ (B' : Int) + 1 := by omega
    have b5 : IntKind.i64.wrap ((B' : Int) + 1) = B' + 1 := IntWalk.i64_in _ (by omega)
    have b6 : ((B' : Int) + 1).toNat = B' + 1 := by omega
    obtain ⟨i0, hi, hz0, hz1, hz2⟩ := info_parts Try.info114
    have hrw : Row w4.drew g 114 2 cap' _ := HO.out.row.keep rfl
    have HSP := Lib.hid hrw; clear hrw
    have HI2 := Lib.hid (And.intro hi hz1); clear hi hz0 hz1 hz2
    go_region_law ((refine step_gap (kv := .int .i64) (w := w4.drew) rfl (.tmp 90) (.tmp 93) 112 rfl 114 i0 Try.underlying112 HI2.out.1 HI2.out.2 g cap' n B' ps _ _ HSP.out HN.out hB' hcap HONE.out (by go_simp) (by go_simp) ?_; intro r5 w5 hgap hg5))
    generalize (if cap' = B' + 1 then (some (⟨g, 0, none⟩ : Addr)) else some ⟨g, (B' + 1) * 2, none⟩) = z1
    generalize (if cap' = B' then (some (⟨g, 0, none⟩ : Addr)) else some ⟨g, B' * 2, none⟩) = z2
    have hsz2 : w.heap.size ≤ wc.heap.size := HC.out.size
    have hgh : g ≠ h := by
      have h1 := HLT.out h (by simp [blocks])
      rcases hat with rfl | rfl
      · exact hbh
      · omega
    have hgL : g ≠ L := by
      have h1 := HLT.out L (by simp [blocks])
      rcases hat with rfl | rfl
      · exact hbL
      · omega
    have r1 : Row w5 h 111 3 1 _ := Row.grown (w := w4.drew) (((HH.out.alloc _).grown HG.out (by simp [Ne.symm hbh])).keep rfl) hg5 (by simp [Ne.symm hgh])
    have r2 : Row w5 L 112 1 cl _ := Row.grown (w := w4.drew) ((((HR.out.lv.row.chg HC.out hLh).alloc _).grown HG.out (by simp [Ne.symm hbL])).keep rfl) hg5 (by simp [Ne.symm hgL])
    have r3 : Chg (fun x => x = h ∨ x = L ∨ x = b) w w5 := by
      have e1 : Chg (fun x => x = h ∨ x = L ∨ x = b) w w4 := ((HC.out.mono (T := fun x => x = h ∨ x = L ∨ x = b) fun k _ e => .inl e).alloc _).grown HG.out (fun k e _ => .inr (.inr (by simpa using e.symm)))
      have e2 : Chg (fun x => x = h ∨ x = L ∨ x = b) w w4.drew := ⟨e1.os, e1.tape, e1.output, e1.size, e1.block⟩
      refine e2.grown hg5 (fun k e hk => ?_)
      obtain rfl : g = k := by simpa using e
      rcases hat with rfl | rfl
      · exact .inr (.inr rfl)
      · omega
    obtain ⟨x0, y0, hgap⟩ := hgap
    have hlen : (cells (.int .i64) (ps.take B')).length = B' * 2 := by rw [cells_length, List.length_take, ← HN.out]; congr 1; omega
    have s1 : w5.cell? ⟨g, B' * 2, none⟩ = some x0 := hgap.cell (by rw [List.getElem?_append_right (by omega), hlen]; simp)
    have s2 : w5.cell? ⟨g, B' * 2 + 1, none⟩ = some y0 := hgap.cell (by rw [List.getElem?_append_right (by omega), hlen]; simp)
    have s3 := hgap.frozen (B' * 2)
    have s4 := hgap.frozen (B' * 2 + 1)
    have HGAP := Lib.hid hgap; clear hgap
    have HR1 := Lib.hid r1; clear r1
    have HR2 := Lib.hid r2; clear r2
    have HR3 := Lib.hid r3; clear r3
    have HLEN := Lib.hid hlen; clear hlen
    clear hc1 hc3 b1 b2 b3 b4 b5 b6 b7
    have b1 : (B' : Int) < n + 1 := by omega
    go_upto_region 17 with fail
    refine wp_abs (StC w · h L cl ls.length ((flat ls).length + 1) (ls.map lval) g cap' (cells (.int .i64) (ps.take B' ++ (k, .int .i64 z) :: ps.drop B')) b q) ⟨?_, ?_, ?_, ?_⟩ ?_
    · exact (HR1.out.setNe (Ne.symm hgh) _).setNe (Ne.symm hgh) _
    · exact (HR2.out.setNe (Ne.symm hgL) _).setNe (Ne.symm hgL) _
    · have e := (HGAP.out.set (j := B' * 2) (by simp [HLEN.out]) (.int .i64 k)).set (j := B' * 2 + 1) (by simp [HLEN.out]) (.int .i64 z)
      have e2 : (cells (.int .i64) (ps.take B') ++ x0 :: y0 :: cells (.int .i64) (ps.drop B')).set (B' * 2) (.int .i64 k) = cells (.int .i64) (ps.take B') ++ (.int .i64 k) :: y0 :: cells (.int .i64) (ps.drop B') := by
        rw [List.set_append_right _ _ (by rw [HLEN.out]; omega), HLEN.out, Nat.sub_self]; rfl
      have e3 : (cells (.int .i64) (ps.take B') ++ (.int .i64 k) :: y0 :: cells (.int .i64) (ps.drop B')).set (B' * 2 + 1) (.int .i64 z) = cells (.int .i64) (ps.take B') ++ (.int .i64 k) :: (.int .i64 z) :: cells (.int .i64) (ps.drop B') := by
        rw [List.set_append_right _ _ (by rw [HLEN.out]; omega), HLEN.out, Nat.add_sub_cancel_left]; rfl
      rw [e2, e3] at e
      rw [cells_append, cells_cons]
      exact e
    · have hS : g < w.heap.size → g = h ∨ g = L ∨ g = b := fun hlt => by
        rcases hat with rfl | rfl
        · exact .inr (.inr rfl)
        · omega
      exact (HR3.out.setCell (p := ⟨g, B' * 2, none⟩) hS _).setCell (p := ⟨g, B' * 2 + 1, none⟩) hS _
    rintro w6 hst
    have HPS : Hid (∃ ps', ps' = ps.take B' ++ (k, .int .i64 z) :: ps.drop B') := ⟨_, rfl⟩
    obtain ⟨ps', hps'⟩ := HPS.out
    rw [← hps'] at hst
    have hpl : ps'.length = n + 1 := by rw [hps', HN.out]; simp; have := HN.out; omega
    have HPS := Lib.hid hps'; clear hps'
    have HPL := Lib.hid hpl; clear hpl
    obtain ⟨q1, q2, q3, q4⟩ := hst
    have hc1 : w6.cell? ⟨h, 1, none⟩ = some (.slice (some ⟨L, 0, none⟩) ls.length cl) := q1.cell rfl
    have hc3 : w6.cell? ⟨L, A', none⟩ = some (lval ls[A']) := q2.cell (by simp [hA'])
    have hc4 := q2.frozen A'
    have Q1 := Lib.hid q1; clear q1
    have Q2 := Lib.hid q2; clear q2
    have Q3 := Lib.hid q3; clear q3
    have Q4 := Lib.hid q4; clear q4
    clear s1 s2 s3 s4 b1
    rw [HLF.out] at hc3
    simp only [lval] at hc3
    go_upto_region 18 with fail
    refine wp_abs (StC w · h L cl ls.length ((flat ls).length + 1) ((ls.map lval).set A' (.slice (some ⟨g, 0, none⟩) (n + 1) cap')) g cap' (cells (.int .i64) ps') b q) ⟨?_, ?_, ?_, ?_⟩ ?_
    · exact Q1.out.setNe (Ne.symm hLh) _
    · exact Q2.out.set (by simp [hA']) _
    · exact Q3.out.setNe hgL _
    · exact Q4.out.setCell (p := ⟨L, A', none⟩) (fun _ => .inr (.inl rfl)) _
    rintro w7 hst
    obtain ⟨q1, q2, q3, q4⟩ := hst
    clear hc1 hc3 hc4
    have Q1 := Lib.hid q1
    have Q2 := Lib.hid q2
    have Q3 := Lib.hid q3
    have Q4 := Lib.hid q4
    by_cases h32 : n + 1 ≤ 32
    · clear q1 q2 q3 q4
      go_wp2_with fail
      all_goals
        go_ret
        refine ⟨rfl, ?_⟩
        have hA2 : (ls[A']).ps = ps := by rw [HLF.out]
        have hA3 : (ls[A']).b = b := by rw [HLF.out]
        have hg2 : g = b ∨ w.heap.size ≤ g := by
          rcases hat with h1 | h1
          · exact .inl h1.symm
          · exact .inr (by omega)
        exact BRep.put1 HR.out hA' HE'.out (by rw [hA2, ← HN.out]; exact hB') rfl (by rw [hA2]; exact HPS.out) Q1.out (by rw [HPL.out]; exact Q2.out) Q3.out (by rw [HPL.out]; exact hcap) (by rw [HPL.out]; exact h32) (by rw [hA3]; exact Q4.out) (by rw [hA3]; exact hg2)
    · have hn32 : n = 32 := by omega
      subst hn32
      obtain ⟨i0, hi, hz0, hz1, hz2⟩ := info_parts Try.info114
      have HI3 := Lib.hid (And.intro hi (And.intro hz0 (And.intro hz1 hz2)))
      clear hi hz0 hz1 hz2 q1 q2 q3 q4
      have b1 : (16 : Int) ≤ 32 + 1 := by omega
      have b2 : (32 + 1 : Int) ≤ cap' := by omega
      have b3 : ¬ cap' = 16 := by omega
      go_wp2_with (at_builtin; refine wpList_app rfl (.const (.slice none 0 0)) (.tmp 115) 112 rfl 114 i0 (.agg #[.int .i64 0, .int .i64 0]) 2 16 Try.underlying112 HI3.out.1 HI3.out.2.1 HI3.out.2.2.1 HI3.out.2.2.2 rfl (by decide) (by decide) none 0 0 [] rfl ?e1 (some ⟨g, 32, none⟩) 17 (cap' - 16) (cells (.int .i64) (ps'.drop 16)) rfl ?e2 ?e3 ?e4 ?e5 (by decide) (by decide) ?_)
      case e1 => exact Own.nil _ _ _
      case e2 => intro e; cases e
      case e3 => rw [cells_length, List.length_drop, HPL.out]
      case e4 =>
        intro ad had j u hu
        obtain rfl := Option.some.inj had
        rw [Addr.add_lit]
        rw [← cells_drop, List.getElem?_drop] at hu
        exact Q3.out.cell hu
      case e5 =>
        intro u hu
        rw [← cells_drop] at hu
        have hone2 : ∀ u ∈ cells (.int .i64) ps', u.oneCell' = true := by
          rw [HPS.out, cells_append, cells_cons]
          intro u hu
          have e1 := cells_take (.int .i64) ps B'
          have e2 := cells_drop (.int .i64) ps B'
          rw [List.mem_append, List.mem_cons, List.mem_cons, ← e1, ← e2] at hu
          rcases hu with hu | rfl | rfl | hu
          · exact HONE.out u (List.mem_of_mem_take hu)
          · rfl
          · rfl
          · exact HONE.out u (List.mem_of_mem_drop hu)
        exact hone2 u (List.mem_of_mem_drop hu)
      intro g2 c2 w8 hO8 hG8 hg2
      have hc17 := hO8.le
      have hg2a : w7.heap.size ≤ g2 := by omega
      have hg2b : g2 ≤ w7.heap.size := by omega
      clear hg2
      have r1 := Q1.out.grown hG8 (by simp)
      have r2 := Q2.out.grown hG8 (by simp)
      have r3 := Q3.out.grown hG8 (by simp)
      have r4 := Q4.out.grown hG8 (fun k e => by cases e)
      have hws : w.heap.size ≤ w7.heap.size := Q4.out.size
      have hgs : g < w7.heap.size := Q3.out.lt
      have hLs : L < w7.heap.size := Q2.out.lt
      have hhs : h < w7.heap.size := Q1.out.lt
      have hc1 : w8.cell? ⟨h, 1, none⟩ = some (.slice (some ⟨L, 0, none⟩) ls.length cl) := r1.cell rfl
      have hc3 : w8.cell? ⟨L, A', none⟩ = some (.slice (some ⟨g, 0, none⟩) 33 cap') := r2.cell (by simp [hA'])
      have hc4 := r2.frozen A'
      have R1 := Lib.hid r1; clear r1
      have R2 := Lib.hid r2; clear r2
      have R3 := Lib.hid r3; clear r3
      have R4 := Lib.hid r4; clear r4
      have O8 := Lib.hid hO8; clear hO8
      have G8 := Lib.hid hG8; clear hG8
      go_upto_region 20 with fail
      go_region
      all_goals go_upto_region 21 with fail
      refine wp_abs (fun w9 => Row w9 h 111 3 1 [.func (.func 51) #[] #[.pointer (some ⟨q, 0, none⟩)], .slice (some ⟨L, 0, none⟩) ls.length cl, .int .i64 ((flat ls).length + 1)] ∧ Row w9 L 112 1 cl ((ls.map lval).set A' (.slice (some ⟨g, 0, none⟩) 16 16)) ∧
        Row w9 g 114 2 16 (cells (.int .i64) (ps'.take 16)) ∧ Row w9 g2 114 2 c2 (cells (.int .i64) (ps'.drop 16)) ∧ Chg (fun x => x = h ∨ x = L ∨ x = b) w w9 ∧ w7.heap.size ≤ w9.heap.size) ⟨?_, ?_, ?_, ?_, ?_, ?_⟩ ?_
      · exact (R1.out.setNe (Ne.symm hLh) _).drew
      · have e := (R2.out.set (j := A') (by simp [hA']) (.slice (some ⟨g, 0, none⟩) 16 16)).drew
        rw [List.set_set] at e
        exact e
      · have e := ((R3.out.setNe (a := ⟨L, A', none⟩) hgL (.slice (some ⟨g, 0, none⟩) 16 16)).drew.take 32).cap (cap' := 16) (by omega)
        rwa [show 32 = 16 * 2 from rfl, cells_take] at e
      · exact (O8.out.row.setNe (by simp only; omega) _).drew
      · exact (R4.out.setCell (p := ⟨L, A', none⟩) (fun _ => .inr (.inl rfl)) _).drew
      · have e := G8.out.size
        have e2 : (w8.setCell ⟨L, A', none⟩ (.slice (some ⟨g, 0, none⟩) 16 16)).drew.heap.size = w8.heap.size := by simp [World.setCell, World.drew]
        omega
      rintro w9 ⟨q1, q2, q3, q4, q5, q6⟩
      clear hc1 hc3 hc4 b1 b2 b3
      have hc1 : w9.cell? ⟨h, 1, none⟩ = some (.slice (some ⟨L, 0, none⟩) ls.length cl) := q1.cell rfl
      have hf1 := q1.frozen 1
      have S1 := Lib.hid q1; clear q1
      have S2 := Lib.hid q2; clear q2
      have S3 := Lib.hid q3; clear q3
      have S4 := Lib.hid q4; clear q4
      have S5 := Lib.hid q5; clear q5
      have hlcl := HR.out.lv.le
      obtain ⟨i1, hi, hz0, hz1, hz2⟩ := info_parts Try.info112
      have HI4 := Lib.hid (And.intro hi (And.intro hz0 (And.intro hz1 hz2)))
      clear hi hz0 hz1 hz2
      go_wp2_with (at_builtin; refine wpList_app rfl (.tmp 135) (.tmp 136) 109 rfl 112 i1 (.slice none 0 0) 1 24 Try.underlying109 HI4.out.1 HI4.out.2.1 HI4.out.2.2.1 HI4.out.2.2.2 rfl (by decide) (by decide) (some L) ls.length cl ((ls.map lval).set A' (.slice (some ⟨g, 0, none⟩) 16 16)) rfl ?f1 (some ⟨w9.heap.size, 0, none⟩) 1 1 [.slice none 0 0] rfl ?f2 rfl ?f3 ?f4 hby ?f6 ?_)
      case f1 => exact Own.mk (S2.out.alloc _) (by simp) hlcl
      case f2 => intro e; cases e
      case f3 =>
        intro ad had j u hu
        obtain rfl := Option.some.inj had
        rw [Addr.add_lit, World.cell?_alloc_new]
        simpa using hu
      case f4 => intro u hu; simp at hu; subst hu; rfl
      case f6 => omega
      intro L2 cl2 w10 hO hG hat2
      have hws9 : w.heap.size ≤ w9.heap.size := S5.out.size
      have hg2s : g2 < w9.heap.size := S4.out.lt
      have hle2 := hO.le
      have hL2h : L2 ≠ h := by
        rcases hat2 with rfl | rfl
        · exact hLh
        · omega
      have hL2g : L2 ≠ g := by
        rcases hat2 with rfl | rfl
        · exact Ne.symm hgL
        · omega
      have hL2g2 : L2 ≠ g2 := by
        rcases hat2 with rfl | rfl
        · omega
        · omega
      have hL2w : L2 = L ∨ w.heap.size ≤ L2 := by
        rcases hat2 with rfl | rfl
        · exact .inl rfl
        · exact .inr (by omega)
      have r1 := (S1.out.alloc (.cells #[.slice none 0 0] 112)).grown hG (by simp [Ne.symm hLh])
      have r3 := (S3.out.alloc (.cells #[.slice none 0 0] 112)).grown hG (by simp [hgL])
      have r4 := (S4.out.alloc (.cells #[.slice none 0 0] 112)).grown hG (by simp; omega)
      have r5 := (S5.out.alloc (.cells #[.slice none 0 0] 112)).grown hG (fun k e _ => .inr (.inl (by simpa using e.symm)))
      have r2 := hO.row
      clear hc1 hf1
      have hc1 : w10.cell? ⟨h, 1, none⟩ = some (.slice (some ⟨L, 0, none⟩) ls.length cl) := r1.cell rfl
      have hf1 := r1.frozen 1
      have T1 := Lib.hid r1; clear r1
      have T2 := Lib.hid r2; clear r2
      have T3 := Lib.hid r3; clear r3
      have T4 := Lib.hid r4; clear r4
      have T5 := Lib.hid r5; clear r5
      have HO2 := Lib.hid hO; clear hO
      have HG2 := Lib.hid hG; clear hG
      go_upto_region 22 with fail
      refine wp_abs (fun wb => Row wb h 111 3 1 [.func (.func 51) #[] #[.pointer (some ⟨q, 0, none⟩)], .slice (some ⟨L2, 0, none⟩) (ls.length + 1) cl2, .int .i64 ((flat ls).length + 1)] ∧ Row wb L2 112 1 cl2 ((ls.map lval).set A' (.slice (some ⟨g, 0, none⟩) 16 16) ++ [.slice none 0 0]) ∧
        Row wb g 114 2 16 (cells (.int .i64) (ps'.take 16)) ∧ Row wb g2 114 2 c2 (cells (.int .i64) (ps'.drop 16)) ∧ Chg (fun x => x = h ∨ x = L ∨ x = b) w wb) ⟨?_, ?_, ?_, ?_, ?_⟩ ?_
      · exact T1.out.set (j := 1) (by simp) _
      · exact T2.out.setNe hL2h _
      · exact T3.out.setNe hgh _
      · exact T4.out.setNe (by simp only; omega) _
      · exact T5.out.setCell (p := ⟨h, 1, none⟩) (fun _ => .inl rfl) _
      rintro w11 ⟨q1, q2, q3, q4, q5⟩
      clear hc1 hf1
      have hc1 : w11.cell? ⟨h, 1, none⟩ = some (.slice (some ⟨L2, 0, none⟩) (ls.length + 1) cl2) := q1.cell rfl
      have U1 := Lib.hid q1; clear q1
      have U2 := Lib.hid q2.drew; clear q2
      have U3 := Lib.hid q3; clear q3
      have U4 := Lib.hid q4; clear q4
      have U5 := Lib.hid q5; clear q5
      have b0 : (0 : Int) ≤ A' := by omega
      have b1 : (0 : Int) ≤ (A' : Int) + 1 := by omega
      have b2 : (0 : Int) ≤ (A' : Int) + 2 := by omega
      have b3 : (A' : Int) + 1 ≤ (ls.length : Int) + 1 := by omega
      have b4 : (A' : Int) + 2 ≤ (ls.length : Int) + 1 := by omega
      have b5 : IntKind.i64.wrap ((A' : Int) + 1) = A' + 1 := IntWalk.i64_in _ (by omega)
      have b6 : IntKind.i64.wrap ((A' : Int) + 2) = A' + 2 := IntWalk.i64_in _ (by omega)
      have b7 : ((A' : Int) + 1).toNat = A' + 1 := by omega
      have b8 : ((A' : Int) + 2).toNat = A' + 2 := by omega
      have b9 : (ls.length : Int) + 1 ≤ cl2 := by omega
      have hlv1 : ∀ u ∈ (ls.map lval).set A' (.slice (some ⟨g, 0, none⟩) 16 16), u.oneCell' = true := by
        intro u hu
        rcases List.mem_or_eq_of_mem_set hu with hu | rfl
        · obtain ⟨l, _, rfl⟩ := List.mem_map.1 hu; rfl
        · rfl
      have HLV1 := Lib.hid hlv1; clear hlv1
      have HA1 : Hid (A' + 1 ≤ ls.length) := hA'
      go_region_held3 (fun w' => w'.cell? ⟨h, 1, none⟩ = some (.slice (some ⟨L2, 0, none⟩) (ls.length + 1) cl2)) (first | go_keep | exact hg12.cell (a := ⟨h, 1, none⟩) (w := w11.drew) hc1 (by simpa using Ne.symm hL2h))
        ((refine step_gap1 (w := w11.drew) rfl (.tmp 146) (.tmp 153) 109 rfl 112 i1 Try.underlying109 HI4.out.1 HI4.out.2.2.1 L2 cl2 ls.length (A' + 1) _ _ U2.out (by simp) HA1.out hle2 HLV1.out (by go_simp) (by go_simp) ?_; intro r12 w12 hgap2 hg12))
      obtain ⟨x1, hgap2⟩ := hgap2
      have htl : (((ls.map lval).set A' (.slice (some ⟨g, 0, none⟩) 16 16)).take (A' + 1)).length = A' + 1 := by simp; omega
      have hgs2 : g < w9.heap.size := by omega
      have hL2s : L2 < w11.heap.size := U2.out.lt
      have hc1' : w12.cell? ⟨h, 1, none⟩ = some (.slice (some ⟨L2, 0, none⟩) (ls.length + 1) cl2) := hg12.cell (a := ⟨h, 1, none⟩) (w := w11.drew) hc1 (by simpa using Ne.symm hL2h)
      have hc3 : w12.cell? ⟨L2, A' + 1, none⟩ = some x1 := hgap2.cell (by rw [List.getElem?_append_right (by omega), htl]; simp)
      have hc4 := hgap2.frozen (A' + 1)
      have V1 : Hid (Row w12 h 111 3 1 _) := Row.grown (w := w11.drew) U1.out.drew hg12 (by simpa using Ne.symm hL2h)
      have V3 : Hid (Row w12 g 114 2 16 _) := Row.grown (w := w11.drew) U3.out.drew hg12 (by simpa using Ne.symm hL2g)
      have V4 : Hid (Row w12 g2 114 2 c2 _) := Row.grown (w := w11.drew) U4.out.drew hg12 (by simpa using Ne.symm hL2g2)
      have V5 : Hid (Chg (fun x => x = h ∨ x = L ∨ x = b) w w12) := U5.out.drew.grown hg12 (fun k e hk => by
        obtain rfl : L2 = k := by simpa using e
        rcases hL2w with rfl | hge
        · exact .inr (.inl rfl)
        · omega)
      have V2 := Lib.hid hgap2; clear hgap2
      have HTL := Lib.hid htl; clear htl
      have HH12 := Lib.hid hg12; clear hg12
      clear hc1 b5 b6 b7 b8
      clear HA1
      go_wp2_with fail
      all_goals
        go_ret
        refine ⟨rfl, ?_⟩
        have hA2 : (ls[A']).ps = ps := by rw [HLF.out]
        have hA3 : (ls[A']).b = b := by rw [HLF.out]
        have hgw : g = b ∨ w.heap.size ≤ g := by
          rcases hat with h1 | h1
          · exact .inl h1.symm
          · exact .inr (by omega)
        have hV2 := V2.out.set (j := A' + 1) (by simp; omega) (.slice (some ⟨g2, 0, none⟩) 17 c2)
        have e1 : (((ls.map lval).set A' (.slice (some ⟨g, 0, none⟩) 16 16)).take (A' + 1) ++ x1 :: ((ls.map lval).set A' (.slice (some ⟨g, 0, none⟩) 16 16)).drop (A' + 1)).set (A' + 1) (.slice (some ⟨g2, 0, none⟩) 17 c2)
            = (ls.map lval).take A' ++ .slice (some ⟨g, 0, none⟩) 16 16 :: .slice (some ⟨g2, 0, none⟩) 17 c2 :: (ls.map lval).drop (A' + 1) := set_gap _ _ (by rw [List.length_map]; exact hA') _ _ _
        rw [e1] at hV2
        exact BRep.put2 HR.out hA' HE'.out (by rw [hA2, ← HN.out]; exact hB') rfl (by rw [hA2]; exact HPS.out) (by rw [hA2]; exact HN.out.symm) (V1.out.setNe (Ne.symm hL2h) _) hV2 hle2 (V3.out.setNe (Ne.symm hL2g) _) (V4.out.setNe (Ne.symm hL2g2) _) hc17
          (by rw [hA3]; exact V5.out.setCell (p := ⟨L2, A' + 1, none⟩) (fun hlt => by have hlt2 : L2 < w.heap.size := hlt; rcases hL2w with rfl | hge; exact .inr (.inl rfl); omega) _) (by rw [hA3]; exact hgw) (by omega) (by omega) (hL2w.elim .inl fun hge => .inr ⟨hge, hL2g, hL2g2⟩)

set_option maxRecDepth 20000 in
set_option maxHeartbeats 1000000 in
theorem put_foundC {w : World} {h : Nat} {lo : Option Nat} {cl : Nat} {ls : List (Leaf Int Value)} {o : Int} {q : Nat} (R : RepC w (.func (.func 51) #[] #[.pointer (some ⟨q, 0, none⟩)]) h lo cl ls) (k : Int) (z : Int) (hs : Sorted (cmpI o) (flat ls)) (hsz : (flat ls).length ≤ 4611686018427387903)
    (hh : hasL (cmpI o) (flat ls) k = true) (hq : w.cell? ⟨q, 0, none⟩ = some (.int .i64 o)) :
    Calls Try.prog 32 #[.pointer (some ⟨h, 0, none⟩), .int .i64 k, .int .i64 z] w fun e w' => e = .returned (.bool false) ∧
      Post (.int .i64) 111 112 114 w (.func (.func 51) #[] #[.pointer (some ⟨q, 0, none⟩)]) h lo ls ((flat ls).set (rk (cmpI o) (flat ls) k) (k, .int .i64 z)) (pot ls + 1) w' := by
  have hS := search_repC R k hs hsz hq
  have hlt := hasL_lt (cmpI o) hh
  obtain ⟨s1, s2, s3, s4⟩ := loc_spec ls _ (Nat.le_of_lt hlt)
  have hA : (loc ls (rk (cmpI o) (flat ls) k)).1 < ls.length := by
    rcases Nat.eq_or_lt_of_le s1 with h1 | h1
    · have := (s4 h1).2; omega
    · exact h1
  have hB := s3 hA
  obtain ⟨L, rfl⟩ := R.some_of (by omega)
  have hc1 := R.c1s
  have hnl := R.nl_le
  rw [hh] at hS
  have HS := Lib.hid hS; clear hS hh s3 s4 hlt s1
  clear hs hq
  generalize (loc ls (rk (cmpI o) (flat ls) k)).1 = A at *
  generalize (loc ls (rk (cmpI o) (flat ls) k)).2 = B at *
  have hc3 : w.cell? ⟨L, A, none⟩ = some (.slice (some ⟨(ls[A]).b, 0, none⟩) (ls[A]).ps.length (ls[A]).c) := R.leaf hA
  have hc4 := R.key hA hB
  have hc5 := R.val hA hB
  have hf4 := (R.row hA).frozen (B * 2)
  have hf5 := (R.row hA).frozen (B * 2 + 1)
  obtain ⟨p1, p2, p3⟩ := R.pos hA
  have HROW := Lib.hid (R.row hA)
  have HR := Lib.hid R; clear R
  have HE := Lib.hid s2.symm; clear s2
  have HA : Hid _ := hA
  have HB : Hid _ := hB
  have hlen : (cells (.int .i64) (ls[A]).ps).length = (ls[A]).ps.length * 2 := cells_length _ _
  have HLEN := Lib.hid hlen; clear hlen
  have HCS := fun v => Lib.hid (cells_set (.int .i64) (ls[A]).ps B hB k v)
  have hb1 : B * 2 < (ls[A]).ps.length * 2 := by omega
  have hb2 : B * 2 + 1 < (ls[A]).ps.length * 2 := by omega
  have HFIN := fun (w' : World) h3 h4 => Lib.hid (BRep.put0 HR.out hA HE.out hB (k := k) (v := .int .i64 z) rfl (w' := w') h3 h4)
  generalize ls[A] = lf at *
  obtain ⟨b, cp, ps⟩ := lf
  simp only at *
  go_enter Try.func32, Try.ntmps32
  go_wp2_with (go_at_call 62; refine HS.out.mono ?_; rintro e w' ⟨rfl, qd, rfl⟩)
  go_ret
  refine ⟨rfl, ?_⟩
  refine (HFIN _ ?_ ?_).out
  · rw [← (HCS _).out]
    exact ((HROW.out.drewN qd).set (by rw [HLEN.out]; exact hb1) _).set (by rw [List.length_set, HLEN.out]; exact hb2) _
  · exact Chg.setCell (S := fun x => x = b) (Chg.setCell (S := fun x => x = b) ((Chg.refl _ w).drewN qd) (p := ⟨b, B * 2, none⟩) (fun _ => rfl) _) (p := ⟨b, B * 2 + 1, none⟩) (fun _ => rfl) _

set_option maxRecDepth 20000 in
set_option maxHeartbeats 1000000 in
theorem put_firstC {w : World} {h : Nat} {lo : Option Nat} {cl : Nat} {ls : List (Leaf Int Value)} {o : Int} {q : Nat} (R : RepC w (.func (.func 51) #[] #[.pointer (some ⟨q, 0, none⟩)]) h lo cl ls) (k : Int) (z : Int) (h0 : ls = []) (hq : w.cell? ⟨q, 0, none⟩ = some (.int .i64 o)) :
    Calls Try.prog 32 #[.pointer (some ⟨h, 0, none⟩), .int .i64 k, .int .i64 z] w fun e w' => e = .returned (.bool true) ∧
      Post (.int .i64) 111 112 114 w (.func (.func 51) #[] #[.pointer (some ⟨q, 0, none⟩)]) h lo ls [(k, .int .i64 z)] 16 w' := by
  have hS := search_repC R k (by rw [h0]; exact sorted_nil) (by rw [h0]; simp) hq
  have hc2a := R.c2
  have hf2 := R.hdr.frozen 2
  have hhl := R.hdr.lt
  have HS : Hid (Calls Try.prog 62 #[.pointer (some ⟨h, 0, none⟩), .int .i64 k] w fun e w' => e = .returned (.tuple #[.int .i64 0, .int .i64 0, .bool false]) ∧ ∃ n, w' = w.drewN n) := by
    have e : hasL (cmpI o) (flat ls) k = false := by rw [h0]; rfl
    rw [e, h0] at hS
    exact hS
  clear hS hq
  have HR := Lib.hid R
  have HE := Lib.hid h0
  have hnl : ls.length = 0 := by rw [h0]; rfl
  have hc2 : w.cell? ⟨h, 2, none⟩ = some (.int .i64 0) := by rw [hc2a, h0]; rfl
  have hdr0 : Row w h 111 3 1 [.func (.func 51) #[] #[.pointer (some ⟨q, 0, none⟩)], sv lo 0 cl, .int .i64 0] := by have := R.hdr; rw [h0] at this; exact this
  have lv0 : Own w 112 1 lo 0 cl [] := by have := R.lv; rw [h0] at this; exact this
  have hlh : ∀ L, lo = some L → L ≠ h ∧ L < w.heap.size := fun L hL => ⟨fun e => by have := R.nd; simp [blocks, hL, e] at this, R.lt L (by simp [blocks, hL])⟩
  clear R h0 hnl hc2a
  have HD := Lib.hid hdr0; clear hdr0
  have HLV := Lib.hid lv0; clear lv0
  have HLH := Lib.hid hlh; clear hlh
  go_enter Try.func32, Try.ntmps32
  go_upto_region 8 with ((go_at_call 62; refine HS.out.mono ?_; rintro e w' ⟨rfl, qd, rfl⟩))
  refine wp_abs (fun w2 => Row w2 h 111 3 1 [.func (.func 51) #[] #[.pointer (some ⟨q, 0, none⟩)], sv lo 0 cl, .int .i64 1] ∧ Chg (fun x => x = h) w w2) ⟨?_, ?_⟩ ?_
  · exact (HD.out.drewN qd).set (j := 2) (by simp) _
  · exact Chg.setCell (S := fun x => x = h) ((Chg.refl _ w).drewN qd) (fun _ => rfl) _
  rintro w2 ⟨g1, g2⟩
  clear hc2 hf2
  have hf1 := g1.frozen 1
  have hws : w.heap.size ≤ w2.heap.size := g2.size
  have hh2 : h < w2.heap.size := g1.lt
  obtain ⟨i1, hi, hz0, hz1, hz2⟩ := info_parts Try.info112
  have HI4 := Lib.hid (And.intro hi (And.intro hz0 (And.intro hz1 hz2)))
  clear hi hz0 hz1 hz2
  have hc1 : w2.cell? ⟨h, 1, none⟩ = some (sv lo 0 cl) := g1.cell rfl
  have G1 := Lib.hid g1; clear g1
  have G2 := Lib.hid g2; clear g2
  have hlo2 : Hid (Own w2 112 1 lo 0 cl []) := HLV.out.keep fun g hg => G2.out.block g (HLH.out g hg).2 (HLH.out g hg).1
  have hex : (lo = none ∧ cl = 0) ∨ ∃ L, lo = some L := by
    cases lo with
    | none => exact .inl ⟨rfl, HLV.out.2.2⟩
    | some L => exact .inr ⟨L, rfl⟩
  rcases hex with ⟨rfl, rfl⟩ | ⟨L, rfl⟩
  · simp only [sv, Option.map_none] at hc1
    go_wp2_with (at_builtin; refine wpList_app rfl (.tmp 51) (.tmp 56) 109 rfl 112 i1 (.slice none 0 0) 1 24 Try.underlying109 HI4.out.1 HI4.out.2.1 HI4.out.2.2.1 HI4.out.2.2.2 rfl (by decide) (by decide) none 0 0 [] rfl ?f1 (some ⟨w2.heap.size + 1, 0, none⟩) 1 1 [.slice (some ⟨w2.heap.size, 0, none⟩) 1 1] rfl ?f2 rfl ?f3 ?f4 (by decide) (by decide) ?_)
    case f1 => exact hlo2.out.keep (fun g hg => by
      have := (HLH.out g hg).2
      rw [Below.heap_alloc _ _ _ (by simp; omega), Below.heap_alloc _ _ _ (by omega)])
    case f2 => intro e; cases e
    case f3 =>
      intro ad had j u hu
      obtain rfl := Option.some.inj had
      rw [Addr.add_lit]
      rw [World.cell?_alloc_at _ _ _ _ (by simp)]
      simpa using hu
    case f4 => intro u hu; simp at hu; subst hu; rfl
    intro L' cl' w3 hO hG hat
    have hle := hO.le
    have r1 := ((G1.out.alloc (.cells #[.int .i64 k, .int .i64 z] 114)).alloc (.cells #[.slice (some ⟨w2.heap.size, 0, none⟩) 1 1] 112)).grown hG (by simp)
    have r3 := ((Row.made (w := w2) (e := 114) (sz := 2) (cap := 1) (xs := #[.int .i64 k, .int .i64 z]) rfl (by decide)).alloc (.cells #[.slice (some ⟨w2.heap.size, 0, none⟩) 1 1] 112)).grown hG (by simp)
    have r4 := (((G2.out.mono (T := fun x => x = h ∨ none = some x) fun k _ e => .inl e).alloc (.cells #[.int .i64 k, .int .i64 z] 114)).alloc (.cells #[.slice (some ⟨w2.heap.size, 0, none⟩) 1 1] 112)).grown hG (fun k e _ => .inr e)
    have hc1b : w3.cell? ⟨h, 1, none⟩ = _ := r1.cell rfl
    have hf1b := r1.frozen 1
    have hLh : L' ≠ h := by omega
    have hLw : Hid (none = some L' ∨ (w.heap.size ≤ L' ∧ L' ≠ w2.heap.size)) := by
      exact .inr ⟨by omega, by omega⟩
    have T1 := Lib.hid r1; clear r1
    have T3 := Lib.hid r3; clear r3
    have T4 := Lib.hid r4; clear r4
    have O3 := Lib.hid hO; clear hO
    clear hG hat hc1 hf1
    go_wp2_with fail
    go_ret
    refine ⟨rfl, ?_⟩
    exact BRep.putN HR.out HE.out rfl (T1.out.set (j := 1) (by simp) _) (O3.out.row.setNe hLh _) hle (T3.out.setNe (by simp only; omega) _) (T4.out.setCell (p := ⟨h, 1, none⟩) (fun _ => .inl rfl) _) hws hLw.out
  · simp only [sv, Option.map_some] at hc1
    have hLL := HLH.out L rfl
    go_wp2_with (at_builtin; refine wpList_app rfl (.tmp 51) (.tmp 56) 109 rfl 112 i1 (.slice none 0 0) 1 24 Try.underlying109 HI4.out.1 HI4.out.2.1 HI4.out.2.2.1 HI4.out.2.2.2 rfl (by decide) (by decide) (some L) 0 cl [] rfl ?f1 (some ⟨w2.heap.size + 1, 0, none⟩) 1 1 [.slice (some ⟨w2.heap.size, 0, none⟩) 1 1] rfl ?f2 rfl ?f3 ?f4 (by decide) (by decide) ?_)
    case f1 => exact hlo2.out.keep (fun g hg => by
      have := (HLH.out g hg).2
      rw [Below.heap_alloc _ _ _ (by simp; omega), Below.heap_alloc _ _ _ (by omega)])
    case f2 => intro e; cases e
    case f3 =>
      intro ad had j u hu
      obtain rfl := Option.some.inj had
      rw [Addr.add_lit]
      rw [World.cell?_alloc_at _ _ _ _ (by simp)]
      simpa using hu
    case f4 => intro u hu; simp at hu; subst hu; rfl
    intro L' cl' w3 hO hG hat
    have hle := hO.le
    have r1 := ((G1.out.alloc (.cells #[.int .i64 k, .int .i64 z] 114)).alloc (.cells #[.slice (some ⟨w2.heap.size, 0, none⟩) 1 1] 112)).grown hG (by simp; exact Ne.symm hLL.1)
    have r3 := ((Row.made (w := w2) (e := 114) (sz := 2) (cap := 1) (xs := #[.int .i64 k, .int .i64 z]) rfl (by decide)).alloc (.cells #[.slice (some ⟨w2.heap.size, 0, none⟩) 1 1] 112)).grown hG (by simp; omega)
    have r4 := (((G2.out.mono (T := fun x => x = h ∨ some L = some x) fun k _ e => .inl e).alloc (.cells #[.int .i64 k, .int .i64 z] 114)).alloc (.cells #[.slice (some ⟨w2.heap.size, 0, none⟩) 1 1] 112)).grown hG (fun k e _ => .inr e)
    have hc1b : w3.cell? ⟨h, 1, none⟩ = _ := r1.cell rfl
    have hf1b := r1.frozen 1
    have hLh : L' ≠ h := by omega
    have hLw : Hid (some L = some L' ∨ (w.heap.size ≤ L' ∧ L' ≠ w2.heap.size)) := by
      rcases hat with rfl | hx
      · exact .inl rfl
      · exact .inr ⟨by omega, by omega⟩
    have T1 := Lib.hid r1; clear r1
    have T3 := Lib.hid r3; clear r3
    have T4 := Lib.hid r4; clear r4
    have O3 := Lib.hid hO; clear hO
    clear hG hat hc1 hf1
    go_wp2_with fail
    go_ret
    refine ⟨rfl, ?_⟩
    exact BRep.putN HR.out HE.out rfl (T1.out.set (j := 1) (by simp) _) (O3.out.row.setNe hLh _) hle (T3.out.setNe (by simp only; omega) _) (T4.out.setCell (p := ⟨h, 1, none⟩) (fun _ => .inl rfl) _) hws hLw.out

theorem put_repC {w : World} {h : Nat} {lo : Option Nat} {cl : Nat} {ls : List (Leaf Int Value)} {o : Int} {q : Nat} (R : RepC w (.func (.func 51) #[] #[.pointer (some ⟨q, 0, none⟩)]) h lo cl ls) (k : Int) (z : Int) (hs : Sorted (cmpI o) (flat ls)) (hsz : (flat ls).length ≤ 4611686018427387903)
    (hby : (ls.length + 1) * 24 ≤ 140737488355328) (hq : w.cell? ⟨q, 0, none⟩ = some (.int .i64 o)) :
    Calls Try.prog 32 #[.pointer (some ⟨h, 0, none⟩), .int .i64 k, .int .i64 z] w fun e w' => e = .returned (.bool (!hasL (cmpI o) (flat ls) k)) ∧
      Post (.int .i64) 111 112 114 w (.func (.func 51) #[] #[.pointer (some ⟨q, 0, none⟩)]) h lo ls (putL (cmpI o) (flat ls) k (.int .i64 z)) (max 16 (pot ls + 1)) w' := by
  cases hh : hasL (cmpI o) (flat ls) k
  case true =>
    refine (put_foundC R k z hs hsz hh hq).mono ?_
    rintro e w' ⟨rfl, hp⟩
    refine ⟨rfl, ?_⟩
    unfold putL
    rw [if_pos hh]
    exact hp.mono (by omega)
  case false =>
    have hput : putL (cmpI o) (flat ls) k (.int .i64 z) = (flat ls).take (rk (cmpI o) (flat ls) k) ++ (k, .int .i64 z) :: (flat ls).drop (rk (cmpI o) (flat ls) k) := by
      unfold putL; rw [if_neg (by rw [hh]; exact Bool.false_ne_true)]
    rw [hput]
    by_cases h0 : ls = []
    · refine (put_firstC R k z h0 hq).mono ?_
      rintro e w' ⟨rfl, hp⟩
      refine ⟨rfl, ?_⟩
      subst h0
      exact hp.mono (by omega)
    · refine (put_insC R k z hs hsz hh (by cases ls <;> simp_all) hby hq).mono ?_
      rintro e w' ⟨rfl, hp⟩
      exact ⟨rfl, hp.mono (by omega)⟩
end Go.Proofs.Ytdfkokbpidkokaa
