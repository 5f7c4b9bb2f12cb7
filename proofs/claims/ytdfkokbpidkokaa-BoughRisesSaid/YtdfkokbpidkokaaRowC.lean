/- bough.row at [int, int]: all pairs in new memory. -/
import Derived.Test.YtdfkokbpidkokaaDelC
namespace Go.Proofs.Ytdfkokbpidkokaa
open Go.RowKit

set_option maxRecDepth 20000 in
set_option maxHeartbeats 1000000 in
theorem row_repC {w : World} {cv : Value} {h : Nat} {lo : Option Nat} {cl : Nat} {ls : List (Leaf Int Value)} (R : RepC w cv h lo cl ls)
    (hby : 16 * (flat ls).length ≤ 281474976710656) :
    Calls Try.prog 64 #[.pointer (some ⟨h, 0, none⟩)] w fun e w' => e = .returned (.slice (some ⟨w.heap.size, 0, none⟩) (flat ls).length (flat ls).length) ∧
      Row w' w.heap.size 114 2 (flat ls).length (cells (.int .i64) (flat ls)) ∧ Chg (fun _ => False) w w' := by
  have hc2 := R.c2
  have HR := Lib.hid R; clear R
  have hnl := HR.out.nl_le
  have hN : (flat ls).length ≤ maxLen := by simp only [maxLen]; omega
  obtain ⟨i0, hi, hz0, hz1, hz2⟩ := info_parts Try.info114
  have HI := Lib.hid (And.intro hi (And.intro hz0 (And.intro hz1 hz2)))
  clear hi hz0 hz1 hz2
  have hby2 : i0.bytes * (flat ls).length ≤ 281474976710656 := by rw [HI.out.2.2.2]; exact hby
  have HBY := Lib.hid hby2; clear hby2
  go_enter Try.func64, Try.ntmps64
  go_wp2_with (at_make; refine wpList_make_own _ rfl _ _ 112 rfl 0 114 i0 (.agg #[.int .i64 0, .int .i64 0]) 2 Try.underlying112 HI.out.1 HI.out.2.1 HI.out.2.2.1 _ _ _ (flat ls).length rfl rfl rfl HBY.out hN (Nat.zero_le _) ?_)
  intro w1 hown hgrow
  have hrow1 : Row w1 w.heap.size 114 2 (flat ls).length [] := Row.of_owns hown
  have hch1 : Chg (fun _ => False) w w1 := (Chg.refl _ w).grown hgrow (fun k e => by cases e)
  have hR1 : RepC w1 cv h lo cl ls := HR.out.chg hch1 (fun _ _ h => h)
  have hc1 := hR1.c1
  simp only [sv] at hc1
  have hlt1 : w.heap.size < w1.heap.size := hrow1.lt
  have hgb : w.heap.size ∉ blocks h lo ls := fun hm => by have := HR.out.lt _ hm; omega
  have HROW1 := Lib.hid hrow1; clear hrow1
  have HCH1 := Lib.hid hch1; clear hch1
  have HR1 := Lib.hid hR1; clear hR1
  have HGB := Lib.hid hgb; clear hgb
  clear hown hgrow hc2
  go_wp2
  clear hc1
  go_loopw [3, 18] (fun lv iv wr => ∃ i : Nat, iv = .int .i64 i ∧ i ≤ ls.length ∧ lv = .slice (some ⟨w.heap.size, 0, none⟩) (off ls i) (flat ls).length ∧ Row wr w.heap.size 114 2 (flat ls).length (cells (.int .i64) (flat (ls.take i))) ∧ Chg (fun x => x = w.heap.size) w1 wr)
    (fun _ iv _ => (ls.length - intOf iv).toNat)
  case atStart => exact ⟨0, rfl, Nat.zero_le _, by rw [off_zero], by simpa using HROW1.out, Chg.refl _ _⟩
  case round =>
    obtain ⟨i, rfl, hi, rfl, hrow, hch⟩ := hrel
    have hRr : RepC wr cv h lo cl ls := HR1.out.chg hch (fun x hx e => HGB.out (e ▸ hx))
    have hos := off_le ls i
    by_cases hlt : i < ls.length
    · obtain ⟨L, rfl⟩ := hRr.some_of (by omega)
      simp only [Option.map_some]
      have hc2 : wr.cell? ⟨L, i, none⟩ = some (.slice (some ⟨(ls[i]).b, 0, none⟩) (ls[i]).ps.length (ls[i]).c) := hRr.leaf hlt
      have hlrow : Row wr (ls[i]).b 114 2 (ls[i]).c (cells (.int .i64) (ls[i]).ps) := hRr.row hlt
      have hone : ∀ u ∈ cells (.int .i64) (ls[i]).ps, u.oneCell' = true := cells_one _ (fun _ => rfl) _ (hRr.lf _ (List.getElem_mem hlt)).2.2.2.2
      have hsucc := off_succ hlt
      have hsl := off_le ls (i + 1)
      have hlen0 : (cells (.int .i64) (flat (ls.take i))).length = off ls i * 2 := by rw [cells_length]; rfl
      have hlen1 : (cells (.int .i64) (ls[i]).ps).length = (ls[i]).ps.length * 2 := cells_length _ _
      have hroom : off ls i + (ls[i]).ps.length ≤ (flat ls).length := by omega
      have hcat : cells (.int .i64) (flat (ls.take i)) ++ cells (.int .i64) (ls[i]).ps = cells (.int .i64) (flat (ls.take (i + 1))) := by
        rw [List.take_succ_eq_append_getElem hlt, flat_append, cells_append, flat_cons, flat_nil, List.append_nil]
      have hnews : 0 < (cells (.int .i64) (ls[i]).ps).length → ∃ ad, some (⟨(ls[i]).b, 0, none⟩ : Addr) = some ad ∧ ∀ j u, (cells (.int .i64) (ls[i]).ps)[j]? = some u → wr.cell? (ad.add j) = some u := fun _ => ⟨_, rfl, news_row hlrow _ rfl⟩
      have HX := Lib.hid (And.intro hlen0 (And.intro hlen1 (And.intro hroom (And.intro hnews hone))))
      have HROW := Lib.hid hrow; clear hrow
      have HCH := Lib.hid hch; clear hch
      have HCAT := Lib.hid hcat; clear hcat
      have HSU := Lib.hid hsucc
      clear hRr hlrow hone hsucc hsl hlen0 hlen1 hroom hnews
      go_wp2_with (at_builtin; refine wpList_app_room rfl (.tmp 22) (.tmp 23) 112 rfl 114 i0 2 Try.underlying112 HI.out.1 HI.out.2.2.1 w.heap.size (off ls i) (flat ls).length (cells (.int .i64) (flat (ls.take i))) rfl HROW.out HX.out.1 (some ⟨(ls[i]).b, 0, none⟩) (ls[i]).ps.length (ls[i]).c (cells (.int .i64) (ls[i]).ps) rfl HX.out.2.1 HX.out.2.2.1 HX.out.2.2.2.1 HX.out.2.2.2.2 (by decide) ?_)
      intro w3 hrow3 hg3
      rw [HCAT.out] at hrow3
      have hch3 : Chg (fun x => x = w.heap.size) w1 w3 := HCH.out.grown hg3 (fun k e _ => by simpa using e.symm)
      have H3 := Lib.hid (And.intro hrow3 hch3)
      clear hrow3 hch3 hg3
      go_wp2
      go_roundw
      case rel => exact ⟨i + 1, by go_num, hlt, by rw [HSU.out], H3.out.1, H3.out.2⟩
      case measure => simp [intOf]; omega
    · obtain rfl : i = ls.length := by omega
      have hoa := off_all ls
      have hrow2 : Row wr w.heap.size 114 2 (flat ls).length (cells (.int .i64) (flat ls)) := by rw [List.take_length] at hrow; exact hrow
      have HF := Lib.hid (And.intro hrow2 hch)
      have HOA := Lib.hid hoa
      clear hrow2 hch hrow hoa hRr
      go_wp2
      go_ret
      refine ⟨by rw [HOA.out]; rfl, HF.out.1, HCH1.out.then HF.out.2 (fun k hk e => ?_)⟩
      have e2 : k = w.heap.size := e
      omega
end Go.Proofs.Ytdfkokbpidkokaa
