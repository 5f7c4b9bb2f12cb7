/- bough.UpTo at [int, int]: the pairs up to a key, backwards. -/
import Derived.Test.YtdfkokbpidkokaaLiveC
import Derived.Test.YtdfkokbpidkokaaUp0
namespace Go.Proofs.Ytdfkokbpidkokaa
open Go.RowKit

set_option maxRecDepth 20000 in
set_option maxHeartbeats 2000000 in
theorem up_repC {w : World} {h : Nat} {lo : Option Nat} {cl : Nat} {ls : List (Leaf Int Value)} {o : Int} {q : Nat} (R : RepC w (.func (.func 51) #[] #[.pointer (some ⟨q, 0, none⟩)]) h lo cl ls) (k : Int) (hs : Sorted (cmpI o) (flat ls))
    (hby : 16 * (flat ls).length ≤ 281474976710656) (hq : w.cell? ⟨q, 0, none⟩ = some (.int .i64 o)) :
    Calls Try.prog 39 #[.pointer (some ⟨h, 0, none⟩), .int .i64 k] w (GivesIterC w ((flat ls).take (upL (cmpI o) (flat ls) k)).reverse) := by
  have hr := row_repC R hby
  have hrk := rk_le (cmpI o) (flat ls) k
  have hon : ∀ p ∈ flat ls, p.2.oneCell' = true := by
    intro p hp
    obtain ⟨m, hm, hp⟩ := List.mem_flatten.1 hp
    obtain ⟨l, hl, rfl⟩ := List.mem_map.1 hm
    exact (R.lf l hl).2.2.2.2 p hp
  have HON := Lib.hid hon; clear hon
  have HR := Lib.hid hr; clear hr
  have HRR := Lib.hid R; clear R
  have HQ := Lib.hid hq; clear hq
  have HS := Lib.hid hs; clear hs
  go_enter Try.func39, Try.ntmps39
  go_wp2_with fail
  refine HR.out.mono ?_
  rintro e w1 ⟨rfl, hrow, hch⟩
  have hR1 : RepC w1 (.func (.func 51) #[] #[.pointer (some ⟨q, 0, none⟩)]) h lo cl ls := HRR.out.chg hch (fun _ _ h => h)
  have hq1 : w1.cell? ⟨q, 0, none⟩ = some (.int .i64 o) := (World.cell?_of_block (hch.block q (World.block_lt_of_cell? w _ HQ.out) (fun h => h))).trans HQ.out
  have hK := rank_repC hR1 k HS.out (by omega) hq1
  have HX := Lib.hid (And.intro hrow hch); clear hrow hch
  have HK := Lib.hid hK; clear hK
  have HR1 := Lib.hid hR1; clear hR1
  have HQ1 := Lib.hid hq1; clear hq1
  have HHL := Lib.hid (hasL_at (cmpI o) (flat ls) k)
  have HNL := Lib.hid (hasL_end (cmpI o) (flat ls) k)
  have HMN := Lib.hid (upL_le (cmpI o) (flat ls) k)
  have HUP : Hid (upL (cmpI o) (flat ls) k = if hasL (cmpI o) (flat ls) k then rk (cmpI o) (flat ls) k + 1 else rk (cmpI o) (flat ls) k) := rfl
  clear HS HQ HRR HR
  generalize flat ls = ps at *
  generalize hr : rk (cmpI o) ps k = r at *
  generalize hN : ps.length = N at *
  generalize hm : upL (cmpI o) ps k = m at *
  have HN := Lib.hid hN; clear hN hr hm
  go_wp2_with fail
  refine HK.out.mono ?_
  rintro e w2 ⟨rfl, qd, rfl⟩
  have hc0 : (w1.drewN qd).cell? ⟨h, 0, none⟩ = some (.func (.func 51) #[] #[.pointer (some ⟨q, 0, none⟩)]) := HR1.out.c0
  have hq2 : (w1.drewN qd).cell? ⟨q, 0, none⟩ = some (.int .i64 o) := HQ1.out
  have hX2 : Row (w1.drewN qd) w.heap.size 114 2 N (cells (.int .i64) ps) ∧ Chg (fun _ => False) w (w1.drewN qd) := ⟨HX.out.1.drewN qd, HX.out.2.drewN qd⟩
  generalize w1.drewN qd = w2 at hc0 hq2 hX2 ⊢
  have HX2 := Lib.hid hX2; clear hX2 HX
  clear HK HR1 HQ1
  go_upto_region 3 with fail
  go_cut [31] (fun s31 wx => s31 = .bool (hasL (cmpI o) ps k) ∧ ∃ n, wx = w2.drewN n)
  case first =>
    by_cases hlt : r < N
    · have hl2 : r < ps.length := by have := HN.out; omega
      have hh := HHL.out _ (List.getElem?_eq_getElem hl2)
      have hlt2 : ((r : Int) < N) := by omega
      have hr0 : (0 : Int) ≤ r := by omega
      have hck := HX2.out.1.cell (cells_key (.int .i64) ps r hl2)
      generalize (ps[r]'hl2).1 = y at hck hh
      clear hl2
      go_quiet ((go_at_call 51; exact quiet_eq (order_cmp q o _ _ _ hq2)))
      go_wp2_with fail
      go_meet
      exact ⟨by rw [hh], _, rfl⟩
    · have hd : decide ((r : Int) < N) = false := by simp; omega
      have hh := HNL.out hlt
      go_quiet ((go_at_call 51; exact quiet_eq (order_cmp q o _ _ _ hq2)))
      go_wp2_with fail
      go_meet
      exact ⟨by rw [hh], _, rfl⟩
  case rest =>
    obtain ⟨rfl, nq, rfl⟩ := hcut
    have hX3 : Row (w2.drewN nq) w.heap.size 114 2 N (cells (.int .i64) ps) ∧ Chg (fun _ => False) w (w2.drewN nq) := ⟨HX2.out.1.drewN nq, HX2.out.2.drewN nq⟩
    generalize w2.drewN nq = w3 at hX3 ⊢
    have hlt3 := hX3.1.lt
    have HX3 := Lib.hid hX3; clear hX3 HX2 hc0 hq2 HHL HNL
    have hm0 : (0 : Int) ≤ m := by omega
    have hmN : (m : Int) ≤ N := by have := HMN.out; omega
    have hwm : IntKind.i64.wrap ((m : Int) - 1) = m - 1 := IntWalk.i64_in _ (by omega)
    go_upto_if 31 with fail
    go_cut [6] (fun s6 wx => s6 = .int .i64 m ∧ wx = w3)
    case first =>
      cases hz : hasL (cmpI o) ps k
      · have hm : r = m := by rw [HUP.out, hz]; rfl
        have HM := Lib.hid hm; clear hm hz
        go_wp2_with fail
        go_meet
        exact ⟨by rw [HM.out], rfl⟩
      · have hm : r + 1 = m := by rw [HUP.out, hz]; rfl
        have HM := Lib.hid hm; clear hm hz
        have hw : IntKind.i64.wrap ((r : Int) + 1) = r + 1 := IntWalk.i64_in _ (by omega)
        go_wp2_with fail
        go_meet
        exact ⟨by rw [← HM.out]; rfl, rfl⟩
    case rest =>
      obtain ⟨rfl, rfl⟩ := hcut
      clear HUP
      go_wp2
      go_loopw [7, 8] (fun iv jv wr => ∃ (i : Nat) (ps' : List (Int × Value)), iv = .int .i64 i ∧ jv = .int .i64 ((m : Int) - 1 - i) ∧ i ≤ m ∧ Turning ps m i ps' ∧ Row wr w.heap.size 114 2 N (cells (.int .i64) ps') ∧ Chg (fun x => x = w.heap.size) wc wr ∧ ∀ p ∈ ps', p.2.oneCell' = true)
        (fun iv _ _ => (m - intOf iv).toNat)
      case atStart => exact ⟨0, ps, rfl, by simp, Nat.zero_le _, Turning.zero _ _, HX3.out.1, Chg.refl _ _, HON.out⟩
      case round =>
        obtain ⟨i, ps', rfl, rfl, hi, hT, hrow, hch, hone⟩ := hrel
        by_cases hlt : i < m - 1 - i
        · obtain ⟨j, hj⟩ : ∃ j, j = m - 1 - i := ⟨_, rfl⟩
          have hj2 : (m : Int) - 1 - i = j := by omega
          rw [hj2]
          have hps : ps'.length = N := by rw [hT.1]; exact HN.out
          have hmN' := HMN.out
          have hi2 : i < ps'.length := by omega
          have hjn : j < ps'.length := by omega
          have b1 : ((i : Int) < j) := by omega
          have b2 : ((i : Int) < m) := by omega
          have b3 : ((j : Int) < m) := by omega
          have b4 : (0 : Int) ≤ i := by omega
          have b5 : (0 : Int) ≤ j := by omega
          have c1 := hrow.cell (cells_key (.int .i64) ps' i hi2)
          have c2 := hrow.cell (cells_val (.int .i64) ps' i hi2)
          have c3 := hrow.cell (cells_key (.int .i64) ps' j hjn)
          have c4 := hrow.cell (cells_val (.int .i64) ps' j hjn)
          have f1 := hrow.frozen (i * 2)
          have f2 := hrow.frozen (i * 2 + 1)
          have f3 := hrow.frozen (j * 2)
          have f4 := hrow.frozen (j * 2 + 1)
          have hx1 := List.getElem?_eq_getElem hi2
          have hx2 := List.getElem?_eq_getElem hjn
          have v1 := hone _ (List.getElem_mem hi2)
          have v2 := hone _ (List.getElem_mem hjn)
          generalize ps'[i] = x at c1 c2 hx1 v1
          generalize ps'[j] = y at c3 c4 hx2 v2
          obtain ⟨x1, x2⟩ := x
          obtain ⟨y1, y2⟩ := y
          have HT := Lib.hid (And.intro hT (And.intro hrow (And.intro hch (And.intro hx1 (And.intro hx2 hone))))); clear hT hrow hch hx1 hx2 hone
          dsimp only at c1 c2 c3 c4 v1 v2
          have HJ := Lib.hid hj; clear hj hj2
          have HPS := Lib.hid hps; clear hps
          have s1 := fun (W : World) (a : Addr) (m : Mode) => run_store Try.prog W a x2 m v1
          have s2 := fun (W : World) (a : Addr) (m : Mode) => run_store Try.prog W a y2 m v2
          go_upto_region 9 with fail
          have v1' := v1
          have v2' := v2
          clear v1 v2
          go_region
          clear s1 s2 c1 c2 c3 c4 f1 f2 f3 f4
          have hw2 := IntWalk.i64_in ((j : Int) - 1) (by omega)
          have hi3 : (i : Int) + 1 ≤ 9223372036854775807 := by omega
          go_wp2
          go_roundw
          case rel =>
            obtain ⟨hT, hrow, hch, hx1, hx2, hone⟩ := HT.out
            have hj := HJ.out
            have hj2 : (m : Int) - 1 - i = j := by omega
            refine ⟨i + 1, (ps'.set i (y1, y2)).set j (x1, x2), by go_num, ?_, by omega, ?_, swap_row hrow hi2 hjn, swap_chg hch, swap_one v1' v2' hone⟩
            · first | (congr 1; omega) | go_num
            · rw [hj]
              exact hT.step (by rw [HN.out]; exact HMN.out) hlt hx1 (by rw [← hj]; exact hx2)
          case measure => simp [intOf]; omega
        · have hps : ps'.length = N := by rw [hT.1]; exact HN.out
          have hD := hT.done (by rw [HN.out]; exact HMN.out) hlt
          have b1 : ¬ ((i : Int) < (m : Int) - 1 - i) := by omega
          have HD := Lib.hid (And.intro hD (And.intro hrow (And.intro hch hone))); clear hD hrow hch hone hT
          have HPS := Lib.hid hps; clear hps
          go_wp2_with fail
          refine (over_anyC _ _ _ _).mono ?_
          rintro e w4 ⟨rfl, rfl⟩
          go_wp2_with fail
          go_ret
          obtain ⟨hD, hrow, hch, hone⟩ := HD.out
          have hlt := hrow.lt
          have hsz := HX3.out.2.size
          have hsz2 := hch.size
          have hps := HPS.out
          have hmN' := HMN.out
          refine ⟨wr.heap.size, w.heap.size, rfl, ?_, by omega, Nat.le_refl _, by simp, by simp; omega, (HX3.out.2.then (T := fun x => x = w.heap.size) hch (fun k hk e => by omega)).alloc _⟩
          have e1 := IterAt.mk (kv := .int .i64) (q := wr.heap.size) (r := 0) (n := m) (c := N) ((hrow.front m).alloc (.cells #[.slice (some ⟨w.heap.size, 0, none⟩) m N] 112))
            (by rw [World.cell?_alloc_new]; simp [hps, Nat.min_eq_left hmN']) (by simp; omega)
          rw [List.drop_zero, hD] at e1
          exact e1

theorem up_hasC {o : Int} {w : World} {h : Nat} {fl : List (Int × Value)} {p : Nat} {F : List Nat} (H : HasC o w h fl p F) (k : Int) (hs : Sorted (cmpI o) fl) (hby : 16 * fl.length ≤ 281474976710656) :
    Calls Try.prog 39 #[.pointer (some ⟨h, 0, none⟩), .int .i64 k] w (GivesIterC w (fl.take (upL (cmpI o) fl k)).reverse) := by
  obtain ⟨q, lo, cl, ls, R, rfl, hpp, rfl, hq, hqn⟩ := H
  exact up_repC R k hs hby hq
theorem up_liveC {o : Int} {w0 w : World} {h : Nat} {fl : List (Int × Value)} {p : Nat} (H : LiveC o w0 w h fl p) (k : Int) (hs : Sorted (cmpI o) fl) (hby : 16 * fl.length ≤ 281474976710656) :
    Calls Try.prog 39 #[.pointer (some ⟨h, 0, none⟩), .int .i64 k] w fun e w' => GivesIterC w (fl.take (upL (cmpI o) fl k)).reverse e w' ∧ LiveC o w0 w' h fl p := by
  obtain ⟨F, h1, h2, h3⟩ := id H
  refine (up_hasC h1 k hs hby).mono ?_
  rintro e w' ⟨q, g, he, r⟩
  exact ⟨⟨q, g, he, r⟩, H.chg r.2.2.2.2.2⟩
end Go.Proofs.Ytdfkokbpidkokaa
