/- rosterref12.Texts.Put: a key that is not there. -/
import Derived.Test.YtdfkokbpidkokaaTxtPut
namespace Go.Proofs.Ytdfkokbpidkokaa
open Go.RowKit

section
variable {w : World} {t : Nat} {l : List (ByteArray × Int)} {kg cg : Option Nat} {kc cc : Nat}
set_option maxRecDepth 20000 in
set_option maxHeartbeats 2000000 in
theorem put_txt_lt {r g1 g2 : Nat} (T : TRep w t l (some g1) kc (some g2) cc) (k : ByteArray) (i : Int) (hl : (l.length + 1) * 16 ≤ 140737488355328) (hlt : r < l.length) (z : ByteArray) (hk : w.cell? ⟨g1, r, none⟩ = some (.string z)) (hb2 : (z.toList == k.toList) = false)
    (HR : Hid (Calls Try.prog 18 #[.pointer (some ⟨t, 0, none⟩), .string k] w fun e w' => e = .returned (.int .i64 r) ∧ w = w')) :
    Calls Try.prog 11 #[.pointer (some ⟨t, 0, none⟩), .string k, .int .i64 i] w fun e w' => e = .returned (.bool true) ∧ TPost w t (some g1) (some g2) (l.take r ++ (k, i) :: l.drop r) w' := by
  obtain ⟨i9, hi, hz0, hz1, hz2⟩ := info_parts Try.info9
  have HI9 := Lib.hid (And.intro hi (And.intro hz0 (And.intro hz1 hz2)))
  clear hi hz0 hz1 hz2
  obtain ⟨i3, hi, hz0, hz1, hz2⟩ := info_parts Try.info3
  have HI3 := Lib.hid (And.intro hi (And.intro hz0 (And.intro hz1 hz2)))
  clear hi hz0 hz1 hz2
  have hc0 := T.c0
  have hc1 := T.c1
  simp only [sv, Option.map_some] at hc0 hc1
  have hlk := T.k.le
  have hlc := T.c.le
  have hr0 : (0 : Int) ≤ r := by omega
  have hr1 : (r : Int) ≤ l.length := by omega
  have hr2 : (r : Int) < l.length := by omega
  have HT := Lib.hid T; clear T
  have HS := Lib.hid (put_split l r k i)
  have hln1 : ((ky l).take r).length = r * 1 := by simp; omega
  have hln2 : ((cl l).take r).length = r * 1 := by simp; omega
  have hln3 : (((ky l).drop r) : List Value).length = (l.length - r) * 1 := by simp
  have hln4 : (((cl l).drop r) : List Value).length = (l.length - r) * 1 := by simp
  have HLN := Lib.hid (And.intro hln1 (And.intro hln2 (And.intro hln3 hln4))); clear hln1 hln2 hln3 hln4
  have hby : (0 + r) * 16 ≤ 140737488355328 ∧ (r + 1) * 16 ≤ 140737488355328 ∧ (r + 1 + (l.length - r)) * 16 ≤ 140737488355328 ∧ (0 + r) * 8 ≤ 140737488355328 ∧ (r + 1) * 8 ≤ 140737488355328 ∧ (r + 1 + (l.length - r)) * 8 ≤ 140737488355328 := by omega
  have HBY := Lib.hid hby; clear hby
  go_enter Try.func11, Try.ntmps11
  go_wp2_with fail
  refine HR.out.mono ?_
  rintro e w1 ⟨rfl, rfl⟩
  have HN1 := Lib.hid (news_own HT.out.k r)
  go_wp2_with (at_builtin; refine wpList_app0 rfl (.tmp 38) (.tmp 44) 28 rfl 9 i9 (.string ByteArray.empty) 1 16 Try.underlying28 HI9.out.1 HI9.out.2.1 HI9.out.2.2.1 HI9.out.2.2.2 rfl (by decide) (by decide) none 0 0 [] rfl (Own.nil _ _ _) _ r _ ((ky l).take r) rfl (fun h => by cases h) HLN.out.1 HN1.out (fun u hu => ky_one _ u (List.mem_of_mem_take hu)) HBY.out.1 ?_)
  intro a1 ac1 w1 o1 g1' f1
  try simp only [Nat.zero_add, List.nil_append] at o1
  have hch1 : Chg (fun _ => False) w w1 := (Chg.refl _ w).grown g1' (fun k e => by cases e)
  have hfr1 : Fresh w a1 := (Fresh.none w).step (Nat.le_refl _) f1
  have ho1 : Own (w1.alloc (.cells #[.string k] 9)) 9 1 a1 r ac1 ((ky l).take r) := o1.news ((Chg.refl _ w1).alloc _)
  have H1 := Lib.hid (And.intro hch1 (And.intro hfr1 ho1)); clear o1 g1' f1 hch1 hfr1 ho1
  have HN2 := Lib.hid (news_new w1 [.string k] #[.string k] 9 rfl)
  go_wp2_with (at_builtin; refine wpList_app0 rfl (.tmp 46) (.tmp 48) 28 rfl 9 i9 (.string ByteArray.empty) 1 16 Try.underlying28 HI9.out.1 HI9.out.2.1 HI9.out.2.2.1 HI9.out.2.2.2 rfl (by decide) (by decide) a1 r ac1 ((ky l).take r) rfl H1.out.2.2 _ 1 _ [Value.string k] rfl (fun h => by cases h) rfl HN2.out (fun u hu => by simp at hu; subst hu; rfl) HBY.out.2.1 ?_)
  intro a2 ac2 w2 o2 g2' f2
  have hch2 : Chg (fun _ => False) w w2 := (H1.out.1.alloc _).grown g2' (fun k' e hk' => by have := H1.out.2.1 k' e; omega)
  have hfr2 : Fresh w a2 := H1.out.2.1.step (w1 := w1.alloc (.cells #[.string k] 9)) (by have := H1.out.1.size; simp; omega) (by simpa using f2)
  have T2 := HT.out.chg hch2 (fun h => h) (fun _ _ h => h) (fun _ _ h => h)
  have hc1' := T2.c1
  simp only [sv, Option.map_some] at hc1'
  have H2 := Lib.hid (And.intro hch2 (And.intro hfr2 (And.intro o2 T2))); clear o2 g2' f2 hch2 hfr2 T2 hc0 hc1
  have HN3 := Lib.hid (news_own H2.out.2.2.2.c r)
  go_wp2_with (at_builtin; refine wpList_app0 rfl (.tmp 50) (.tmp 56) 25 rfl 3 i3 (.int .i64 0) 1 8 Try.underlying25 HI3.out.1 HI3.out.2.1 HI3.out.2.2.1 HI3.out.2.2.2 rfl (by decide) (by decide) none 0 0 [] rfl (Own.nil _ _ _) _ r _ ((cl l).take r) rfl (fun h => by cases h) HLN.out.2.1 HN3.out (fun u hu => cl_one _ u (List.mem_of_mem_take hu)) HBY.out.2.2.2.1 ?_)
  intro b1 bc1 w3 o3 g3' f3
  try simp only [Nat.zero_add, List.nil_append] at o3
  have hch3 : Chg (fun _ => False) w2 w3 := (Chg.refl _ w2).grown g3' (fun k e => by cases e)
  have hfr3 : Fresh w2 b1 := (Fresh.none w2).step (Nat.le_refl _) f3
  have ho3 : Own (w3.alloc (.cells #[.int .i64 i] 3)) 3 1 b1 r bc1 ((cl l).take r) := o3.news ((Chg.refl _ w3).alloc _)
  have H3 := Lib.hid (And.intro hch3 (And.intro hfr3 ho3)); clear o3 g3' f3 hch3 hfr3 ho3 hc1'
  have HN4 := Lib.hid (news_new w3 [.int .i64 i] #[.int .i64 i] 3 rfl)
  go_wp2_with (at_builtin; refine wpList_app0 rfl (.tmp 58) (.tmp 60) 25 rfl 3 i3 (.int .i64 0) 1 8 Try.underlying25 HI3.out.1 HI3.out.2.1 HI3.out.2.2.1 HI3.out.2.2.2 rfl (by decide) (by decide) b1 r bc1 ((cl l).take r) rfl H3.out.2.2 _ 1 _ [Value.int .i64 i] rfl (fun h => by cases h) rfl HN4.out (fun u hu => by simp at hu; subst hu; rfl) HBY.out.2.2.2.2.1 ?_)
  intro b2 bc2 w4 o4 g4' f4
  have hch4 : Chg (fun _ => False) w2 w4 := (H3.out.1.alloc _).grown g4' (fun k' e hk' => by have := H3.out.2.1 k' e; omega)
  have hfr4 : Fresh w2 b2 := H3.out.2.1.step (w1 := w3.alloc (.cells #[.int .i64 i] 3)) (by have := H3.out.1.size; simp; omega) (by simpa using f4)
  have T4 := H2.out.2.2.2.chg hch4 (fun h => h) (fun _ _ h => h) (fun _ _ h => h)
  have o2' := H2.out.2.2.1.news hch4
  have hc0 := T4.c0
  simp only [sv, Option.map_some] at hc0
  have hf0 := T4.fr 0
  have hal2 : ∀ g, a2 = some g → g < w2.heap.size := fun g e => by have := H2.out.2.2.1; rw [e] at this; exact this.row.lt
  have H4 := Lib.hid (And.intro hch4 (And.intro hfr4 (And.intro o4 (And.intro T4 (And.intro o2' hal2))))); clear o4 g4' f4 hch4 hfr4 T4 o2' hal2
  have HN5 := Lib.hid (news_tail1 H4.out.2.2.2.1.k r)
  go_wp2_with (at_builtin; refine wpList_app0 rfl (.tmp 63) (.tmp 69) 28 rfl 9 i9 (.string ByteArray.empty) 1 16 Try.underlying28 HI9.out.1 HI9.out.2.1 HI9.out.2.2.1 HI9.out.2.2.2 rfl (by decide) (by decide) a2 (r + 1) ac2 (((ky l).take r) ++ [Value.string k]) rfl H4.out.2.2.2.2.1 _ (l.length - r) _ ((ky l).drop r) rfl (fun h => by cases h) HLN.out.2.2.1 HN5.out (fun u hu => ky_one _ u (List.mem_of_mem_drop hu)) HBY.out.2.2.1 ?_)
  intro a3 ac3 w5 o5 g5' f5
  have hch5 : Chg (fun _ => False) w w5 := (H2.out.1.trans H4.out.1).grown g5' (fun k' e hk' => by have := H2.out.2.1 k' e; omega)
  have hch45 : Chg (fun x => w.heap.size ≤ x) w4 w5 := Chg.grown (Chg.refl _ w4) g5' (fun k' e hk' => H2.out.2.1 k' e)
  have hfr5 : Fresh w a3 := H2.out.2.1.step (w1 := w4) (H2.out.1.trans H4.out.1).size f5
  have hne : ∀ g, a3 = some g → b2 ≠ some g := by
    intro g e hb
    have h1 := H4.out.2.1 g hb
    rcases f5 with f5 | f5
    · have := H4.out.2.2.2.2.2 g (by rw [← f5]; exact e); omega
    · rw [f5] at e
      simp only [Option.some.injEq] at e
      have h2 := H4.out.2.2.1
      rw [hb] at h2
      have := h2.row.lt
      omega
  have T5 := H4.out.2.2.2.1.chg (Chg.grown (S := fun x => w.heap.size ≤ x ∧ a2 = some x) (Chg.refl _ w4) g5' (fun k' e hk' => ⟨H2.out.2.1 k' e, e⟩)) (fun h => by have := HT.out.lt; omega) (fun g e h => by have := HT.out.klt g e; omega) (fun g e h => by have := HT.out.clt g e; omega)
  have ob5 : Own w5 3 1 b2 (r + 1) bc2 (((cl l).take r) ++ [.int .i64 i]) := H4.out.2.2.1.chg (Chg.grown (S := fun x => a2 = some x) (Chg.refl _ w4) g5' (fun k' e hk' => e)) (fun g e h => by have h1 := H4.out.2.1 g e; have h2 := H4.out.2.2.2.2.2 g h; omega)
  have hc0' : w5.cell? ⟨t, 0, none⟩ = some _ := T5.c0
  have hf0' := T5.fr 0
  have hc1' := T5.c1
  have hset6 : Chg (fun x => x = t) w5 (w5.setCell ⟨t, 0, none⟩ (sv a3 (r + 1 + (l.length - r)) ac3)) := Chg.setCell (S := fun x => x = t) (Chg.refl _ w5) (p := ⟨t, 0, none⟩) (fun _ => rfl) _
  have oc6 := T5.c.chg hset6 (fun g e h => T5.tc g e h)
  have ob6 := ob5.chg hset6 (fun g e h => by have h1 := H4.out.2.1 g e; have h2 := HT.out.lt; have h3 := H2.out.1.size; omega)
  have oa6 := o5.chg hset6 (fun g e h => by have h1 := hfr5 g e; have h2 := HT.out.lt; omega)
  have ht6 := heap_setCell_same w5 t 0 _ 30 (sv a3 (r + 1 + (l.length - r)) ac3) T5.hd
  have hch6 : Chg (fun x => x = t) w (w5.setCell ⟨t, 0, none⟩ (sv a3 (r + 1 + (l.length - r)) ac3)) := (hch5.mono fun _ _ h => h.elim).trans hset6
  have hsz6 : (w5.setCell ⟨t, 0, none⟩ (sv a3 (r + 1 + (l.length - r)) ac3)).heap.size = w5.heap.size := by simp [World.setCell]
  have hal5 : ∀ g, a3 = some g → g < w5.heap.size := fun g e => by have := o5; rw [e] at this; exact this.row.lt
  have H5 := Lib.hid (And.intro hfr5 (And.intro oc6 (And.intro ob6 (And.intro oa6 (And.intro ht6 (And.intro hch6 (And.intro hsz6 (And.intro hne hal5)))))))); clear o5 g5' f5 hch5 hch45 hfr5 T5 ob5 hne hc0 hf0 hset6 oc6 ob6 oa6 ht6 hch6 hsz6 hal5
  simp only [sv, Option.map_some] at hc0' hc1'
  simp only [sv]

  have HN6 := Lib.hid (news_tail1 H5.out.2.1 r)
  go_wp2_with (at_builtin; refine wpList_app0 rfl (.tmp 74) (.tmp 80) 25 rfl 3 i3 (.int .i64 0) 1 8 Try.underlying25 HI3.out.1 HI3.out.2.1 HI3.out.2.2.1 HI3.out.2.2.2 rfl (by decide) (by decide) b2 (r + 1) bc2 (((cl l).take r) ++ [Value.int .i64 i]) rfl H5.out.2.2.1 _ (l.length - r) _ ((cl l).drop r) rfl (fun h => by cases h) HLN.out.2.2.2 HN6.out (fun u hu => cl_one _ u (List.mem_of_mem_drop hu)) HBY.out.2.2.2.2.2 ?_)
  intro b3 bc3 w7 o7 g7' f7
  have hN : (l.take r ++ (k, i) :: l.drop r).length = r + 1 + (l.length - r) := by simp <;> omega
  have h5 := H5.out
  have hch7 : Chg (fun x => x = t) w w7 := h5.2.2.2.2.2.1.grown g7' (fun k' e hk' => by have h1 := H4.out.2.1 k' e; have h2 := H2.out.1.size; omega)
  have hb2t : b2 ≠ some t := fun e => by have h1 := H4.out.2.1 t e; have h2 := H2.out.1.size; have h3 := HT.out.lt; omega
  have ht7 := (g7'.block t (Nat.lt_of_lt_of_le HT.out.lt h5.2.2.2.2.2.1.size) (fun e => hb2t e.symm)).trans h5.2.2.2.2.1
  have oa7 := h5.2.2.2.1.chg (Chg.grown (S := fun x => b2 = some x) (Chg.refl _ _) g7' (fun k' e hk' => e)) (fun g e h => h5.2.2.2.2.2.2.2.1 g e h)
  have hfr7 : Fresh w b3 := fun g e => by
    rcases f7 with f7 | f7
    · have h1 := H4.out.2.1 g (by rw [← f7]; exact e); have h2 := H2.out.1.size; omega
    · rw [f7] at e; have h1 := h5.2.2.2.2.2.1.size; simp only [Option.some.injEq] at e; omega
  have hne7 : ∀ g, a3 = some g → b3 ≠ some g := fun g e hb => by
    rcases f7 with f7 | f7
    · exact h5.2.2.2.2.2.2.2.1 g e (by rw [← f7]; exact hb)
    · rw [f7] at hb; have h1 := h5.2.2.2.2.2.2.2.2 g e; have h3 := h5.2.2.2.2.2.2.1; simp only [Option.some.injEq] at hb; omega
  obtain ⟨v7, ht7⟩ : ∃ v, w7.heap[t]? = some (.cells #[sv a3 (r + 1 + (l.length - r)) ac3, v] 30 (0, 0)) := ⟨_, ht7⟩
  have hc7 : w7.cell? ⟨t, 1, none⟩ = some v7 := by rw [cell_of_row _ _ 1 _ _ (0, 0) ht7]; rfl
  have hf7 := frozen_of_row w7 t 1 _ _ ht7
  have hfin := put_fin HT.out (l.take r ++ (k, i) :: l.drop r) (w7 := w7) (a := a3) (b := b3) (ac := ac3) (bc := bc3) (v := v7) hch7
    (by rw [hN]; exact ht7) (by rw [hN, HS.out.1]; simpa using oa7) (by rw [hN, HS.out.2]; simpa using o7) h5.1 hfr7 hne7
  rw [hN] at hfin
  have HFIN := Lib.hid hfin; clear hfin hN h5 hch7 hb2t ht7 oa7 hfr7 hne7 o7 g7' f7 hc0' hf0' hc1'
  simp only [sv]
  go_wp2
  go_ret
  exact ⟨rfl, HFIN.out⟩
set_option maxRecDepth 20000 in
set_option maxHeartbeats 2000000 in
theorem put_txt_eq {r g1 g2 : Nat} (T : TRep w t l (some g1) kc (some g2) cc) (k : ByteArray) (i : Int) (hl : (l.length + 1) * 16 ≤ 140737488355328) (hlt : r = l.length)
    (HR : Hid (Calls Try.prog 18 #[.pointer (some ⟨t, 0, none⟩), .string k] w fun e w' => e = .returned (.int .i64 r) ∧ w = w')) :
    Calls Try.prog 11 #[.pointer (some ⟨t, 0, none⟩), .string k, .int .i64 i] w fun e w' => e = .returned (.bool true) ∧ TPost w t (some g1) (some g2) (l.take r ++ (k, i) :: l.drop r) w' := by
  obtain ⟨i9, hi, hz0, hz1, hz2⟩ := info_parts Try.info9
  have HI9 := Lib.hid (And.intro hi (And.intro hz0 (And.intro hz1 hz2)))
  clear hi hz0 hz1 hz2
  obtain ⟨i3, hi, hz0, hz1, hz2⟩ := info_parts Try.info3
  have HI3 := Lib.hid (And.intro hi (And.intro hz0 (And.intro hz1 hz2)))
  clear hi hz0 hz1 hz2
  have hc0 := T.c0
  have hc1 := T.c1
  simp only [sv, Option.map_some] at hc0 hc1
  have hlk := T.k.le
  have hlc := T.c.le
  subst hlt
  have hr1 : decide ((l.length : Int) < l.length) = false := by simp
  rcases Decidable.em (kc = l.length) with rfl | e1 <;> rcases Decidable.em (cc = l.length) with rfl | e2
  all_goals
    have HT := Lib.hid T; clear T
    have HS := Lib.hid (put_split_end l k i)
    have hln1 : ((ky l).take l.length).length = l.length * 1 := by simp
    have hln2 : ((cl l).take l.length).length = l.length * 1 := by simp
    have hln3 : ([] : List Value).length = 0 * 1 := by simp
    have hln4 : ([] : List Value).length = 0 * 1 := by simp
    have HLN := Lib.hid (And.intro hln1 (And.intro hln2 (And.intro hln3 hln4))); clear hln1 hln2 hln3 hln4
    have hby : (0 + l.length) * 16 ≤ 140737488355328 ∧ (l.length + 1) * 16 ≤ 140737488355328 ∧ (l.length + 1 + 0) * 16 ≤ 140737488355328 ∧ (0 + l.length) * 8 ≤ 140737488355328 ∧ (l.length + 1) * 8 ≤ 140737488355328 ∧ (l.length + 1 + 0) * 8 ≤ 140737488355328 := by omega
    have HBY := Lib.hid hby; clear hby
    go_enter Try.func11, Try.ntmps11
    go_wp2_with fail
    refine HR.out.mono ?_
    rintro e w1 ⟨rfl, rfl⟩
    have HN1 := Lib.hid (news_own HT.out.k l.length)
    go_wp2_with (at_builtin; refine wpList_app0 rfl (.tmp 38) (.tmp 44) 28 rfl 9 i9 (.string ByteArray.empty) 1 16 Try.underlying28 HI9.out.1 HI9.out.2.1 HI9.out.2.2.1 HI9.out.2.2.2 rfl (by decide) (by decide) none 0 0 [] rfl (Own.nil _ _ _) _ l.length _ ((ky l).take l.length) rfl (fun h => by cases h) HLN.out.1 HN1.out (fun u hu => ky_one _ u (List.mem_of_mem_take hu)) HBY.out.1 ?_)
    intro a1 ac1 w1 o1 g1' f1
    try simp only [Nat.zero_add, List.nil_append] at o1
    have hch1 : Chg (fun _ => False) w w1 := (Chg.refl _ w).grown g1' (fun k e => by cases e)
    have hfr1 : Fresh w a1 := (Fresh.none w).step (Nat.le_refl _) f1
    have ho1 : Own (w1.alloc (.cells #[.string k] 9)) 9 1 a1 l.length ac1 ((ky l).take l.length) := o1.news ((Chg.refl _ w1).alloc _)
    have H1 := Lib.hid (And.intro hch1 (And.intro hfr1 ho1)); clear o1 g1' f1 hch1 hfr1 ho1
    have HN2 := Lib.hid (news_new w1 [.string k] #[.string k] 9 rfl)
    go_wp2_with (at_builtin; refine wpList_app0 rfl (.tmp 46) (.tmp 48) 28 rfl 9 i9 (.string ByteArray.empty) 1 16 Try.underlying28 HI9.out.1 HI9.out.2.1 HI9.out.2.2.1 HI9.out.2.2.2 rfl (by decide) (by decide) a1 l.length ac1 ((ky l).take l.length) rfl H1.out.2.2 _ 1 _ [Value.string k] rfl (fun h => by cases h) rfl HN2.out (fun u hu => by simp at hu; subst hu; rfl) HBY.out.2.1 ?_)
    intro a2 ac2 w2 o2 g2' f2
    have hch2 : Chg (fun _ => False) w w2 := (H1.out.1.alloc _).grown g2' (fun k' e hk' => by have := H1.out.2.1 k' e; omega)
    have hfr2 : Fresh w a2 := H1.out.2.1.step (w1 := w1.alloc (.cells #[.string k] 9)) (by have := H1.out.1.size; simp; omega) (by simpa using f2)
    have T2 := HT.out.chg hch2 (fun h => h) (fun _ _ h => h) (fun _ _ h => h)
    have hc1' := T2.c1
    simp only [sv, Option.map_some] at hc1'
    have H2 := Lib.hid (And.intro hch2 (And.intro hfr2 (And.intro o2 T2))); clear o2 g2' f2 hch2 hfr2 T2 hc0 hc1
    have HN3 := Lib.hid (news_own H2.out.2.2.2.c l.length)
    go_wp2_with (at_builtin; refine wpList_app0 rfl (.tmp 50) (.tmp 56) 25 rfl 3 i3 (.int .i64 0) 1 8 Try.underlying25 HI3.out.1 HI3.out.2.1 HI3.out.2.2.1 HI3.out.2.2.2 rfl (by decide) (by decide) none 0 0 [] rfl (Own.nil _ _ _) _ l.length _ ((cl l).take l.length) rfl (fun h => by cases h) HLN.out.2.1 HN3.out (fun u hu => cl_one _ u (List.mem_of_mem_take hu)) HBY.out.2.2.2.1 ?_)
    intro b1 bc1 w3 o3 g3' f3
    try simp only [Nat.zero_add, List.nil_append] at o3
    have hch3 : Chg (fun _ => False) w2 w3 := (Chg.refl _ w2).grown g3' (fun k e => by cases e)
    have hfr3 : Fresh w2 b1 := (Fresh.none w2).step (Nat.le_refl _) f3
    have ho3 : Own (w3.alloc (.cells #[.int .i64 i] 3)) 3 1 b1 l.length bc1 ((cl l).take l.length) := o3.news ((Chg.refl _ w3).alloc _)
    have H3 := Lib.hid (And.intro hch3 (And.intro hfr3 ho3)); clear o3 g3' f3 hch3 hfr3 ho3 hc1'
    have HN4 := Lib.hid (news_new w3 [.int .i64 i] #[.int .i64 i] 3 rfl)
    go_wp2_with (at_builtin; refine wpList_app0 rfl (.tmp 58) (.tmp 60) 25 rfl 3 i3 (.int .i64 0) 1 8 Try.underlying25 HI3.out.1 HI3.out.2.1 HI3.out.2.2.1 HI3.out.2.2.2 rfl (by decide) (by decide) b1 l.length bc1 ((cl l).take l.length) rfl H3.out.2.2 _ 1 _ [Value.int .i64 i] rfl (fun h => by cases h) rfl HN4.out (fun u hu => by simp at hu; subst hu; rfl) HBY.out.2.2.2.2.1 ?_)
    intro b2 bc2 w4 o4 g4' f4
    have hch4 : Chg (fun _ => False) w2 w4 := (H3.out.1.alloc _).grown g4' (fun k' e hk' => by have := H3.out.2.1 k' e; omega)
    have hfr4 : Fresh w2 b2 := H3.out.2.1.step (w1 := w3.alloc (.cells #[.int .i64 i] 3)) (by have := H3.out.1.size; simp; omega) (by simpa using f4)
    have T4 := H2.out.2.2.2.chg hch4 (fun h => h) (fun _ _ h => h) (fun _ _ h => h)
    have o2' := H2.out.2.2.1.news hch4
    have hc0 := T4.c0
    simp only [sv, Option.map_some] at hc0
    have hf0 := T4.fr 0
    have hal2 : ∀ g, a2 = some g → g < w2.heap.size := fun g e => by have := H2.out.2.2.1; rw [e] at this; exact this.row.lt
    have H4 := Lib.hid (And.intro hch4 (And.intro hfr4 (And.intro o4 (And.intro T4 (And.intro o2' hal2))))); clear o4 g4' f4 hch4 hfr4 T4 o2' hal2
    go_wp2_with (at_builtin; refine wpList_app0 rfl (.tmp 63) (.tmp 69) 28 rfl 9 i9 (.string ByteArray.empty) 1 16 Try.underlying28 HI9.out.1 HI9.out.2.1 HI9.out.2.2.1 HI9.out.2.2.2 rfl (by decide) (by decide) a2 (l.length + 1) ac2 (((ky l).take l.length) ++ [Value.string k]) rfl H4.out.2.2.2.2.1 _ 0 _ [] rfl (by first | (intro h; cases h; done) | (intro h; split at h <;> cases h; done)) HLN.out.2.2.1 (fun _ _ _ _ h => by simp at h) (fun u hu => by cases hu) HBY.out.2.2.1 ?_)
    intro a3 ac3 w5 o5 g5' f5
    have hch5 : Chg (fun _ => False) w w5 := (H2.out.1.trans H4.out.1).grown g5' (fun k' e hk' => by have := H2.out.2.1 k' e; omega)
    have hch45 : Chg (fun x => w.heap.size ≤ x) w4 w5 := Chg.grown (Chg.refl _ w4) g5' (fun k' e hk' => H2.out.2.1 k' e)
    have hfr5 : Fresh w a3 := H2.out.2.1.step (w1 := w4) (H2.out.1.trans H4.out.1).size f5
    have hne : ∀ g, a3 = some g → b2 ≠ some g := by
      intro g e hb
      have h1 := H4.out.2.1 g hb
      rcases f5 with f5 | f5
      · have := H4.out.2.2.2.2.2 g (by rw [← f5]; exact e); omega
      · rw [f5] at e
        simp only [Option.some.injEq] at e
        have h2 := H4.out.2.2.1
        rw [hb] at h2
        have := h2.row.lt
        omega
    have T5 := H4.out.2.2.2.1.chg (Chg.grown (S := fun x => w.heap.size ≤ x ∧ a2 = some x) (Chg.refl _ w4) g5' (fun k' e hk' => ⟨H2.out.2.1 k' e, e⟩)) (fun h => by have := HT.out.lt; omega) (fun g e h => by have := HT.out.klt g e; omega) (fun g e h => by have := HT.out.clt g e; omega)
    have ob5 : Own w5 3 1 b2 (l.length + 1) bc2 (((cl l).take l.length) ++ [.int .i64 i]) := H4.out.2.2.1.chg (Chg.grown (S := fun x => a2 = some x) (Chg.refl _ w4) g5' (fun k' e hk' => e)) (fun g e h => by have h1 := H4.out.2.1 g e; have h2 := H4.out.2.2.2.2.2 g h; omega)
    have hc0' : w5.cell? ⟨t, 0, none⟩ = some _ := T5.c0
    have hf0' := T5.fr 0
    have hc1' := T5.c1
    have hset6 : Chg (fun x => x = t) w5 (w5.setCell ⟨t, 0, none⟩ (sv a3 (l.length + 1 + 0) ac3)) := Chg.setCell (S := fun x => x = t) (Chg.refl _ w5) (p := ⟨t, 0, none⟩) (fun _ => rfl) _
    have oc6 := T5.c.chg hset6 (fun g e h => T5.tc g e h)
    have ob6 := ob5.chg hset6 (fun g e h => by have h1 := H4.out.2.1 g e; have h2 := HT.out.lt; have h3 := H2.out.1.size; omega)
    have oa6 := o5.chg hset6 (fun g e h => by have h1 := hfr5 g e; have h2 := HT.out.lt; omega)
    have ht6 := heap_setCell_same w5 t 0 _ 30 (sv a3 (l.length + 1 + 0) ac3) T5.hd
    have hch6 : Chg (fun x => x = t) w (w5.setCell ⟨t, 0, none⟩ (sv a3 (l.length + 1 + 0) ac3)) := (hch5.mono fun _ _ h => h.elim).trans hset6
    have hsz6 : (w5.setCell ⟨t, 0, none⟩ (sv a3 (l.length + 1 + 0) ac3)).heap.size = w5.heap.size := by simp [World.setCell]
    have hal5 : ∀ g, a3 = some g → g < w5.heap.size := fun g e => by have := o5; rw [e] at this; exact this.row.lt
    have H5 := Lib.hid (And.intro hfr5 (And.intro oc6 (And.intro ob6 (And.intro oa6 (And.intro ht6 (And.intro hch6 (And.intro hsz6 (And.intro hne hal5)))))))); clear o5 g5' f5 hch5 hch45 hfr5 T5 ob5 hne hc0 hf0 hset6 oc6 ob6 oa6 ht6 hch6 hsz6 hal5
    simp only [sv, Option.map_some] at hc0' hc1'
    simp only [sv]

    go_wp2_with (at_builtin; refine wpList_app0 rfl (.tmp 74) (.tmp 80) 25 rfl 3 i3 (.int .i64 0) 1 8 Try.underlying25 HI3.out.1 HI3.out.2.1 HI3.out.2.2.1 HI3.out.2.2.2 rfl (by decide) (by decide) b2 (l.length + 1) bc2 (((cl l).take l.length) ++ [Value.int .i64 i]) rfl H5.out.2.2.1 _ 0 _ [] rfl (by first | (intro h; cases h; done) | (intro h; split at h <;> cases h; done)) HLN.out.2.2.2 (fun _ _ _ _ h => by simp at h) (fun u hu => by cases hu) HBY.out.2.2.2.2.2 ?_)
    intro b3 bc3 w7 o7 g7' f7
    have hN : (l.take l.length ++ (k, i) :: l.drop l.length).length = l.length + 1 + 0 := by simp <;> omega
    have h5 := H5.out
    have hch7 : Chg (fun x => x = t) w w7 := h5.2.2.2.2.2.1.grown g7' (fun k' e hk' => by have h1 := H4.out.2.1 k' e; have h2 := H2.out.1.size; omega)
    have hb2t : b2 ≠ some t := fun e => by have h1 := H4.out.2.1 t e; have h2 := H2.out.1.size; have h3 := HT.out.lt; omega
    have ht7 := (g7'.block t (Nat.lt_of_lt_of_le HT.out.lt h5.2.2.2.2.2.1.size) (fun e => hb2t e.symm)).trans h5.2.2.2.2.1
    have oa7 := h5.2.2.2.1.chg (Chg.grown (S := fun x => b2 = some x) (Chg.refl _ _) g7' (fun k' e hk' => e)) (fun g e h => h5.2.2.2.2.2.2.2.1 g e h)
    have hfr7 : Fresh w b3 := fun g e => by
      rcases f7 with f7 | f7
      · have h1 := H4.out.2.1 g (by rw [← f7]; exact e); have h2 := H2.out.1.size; omega
      · rw [f7] at e; have h1 := h5.2.2.2.2.2.1.size; simp only [Option.some.injEq] at e; omega
    have hne7 : ∀ g, a3 = some g → b3 ≠ some g := fun g e hb => by
      rcases f7 with f7 | f7
      · exact h5.2.2.2.2.2.2.2.1 g e (by rw [← f7]; exact hb)
      · rw [f7] at hb; have h1 := h5.2.2.2.2.2.2.2.2 g e; have h3 := h5.2.2.2.2.2.2.1; simp only [Option.some.injEq] at hb; omega
    obtain ⟨v7, ht7⟩ : ∃ v, w7.heap[t]? = some (.cells #[sv a3 (l.length + 1 + 0) ac3, v] 30 (0, 0)) := ⟨_, ht7⟩
    have hc7 : w7.cell? ⟨t, 1, none⟩ = some v7 := by rw [cell_of_row _ _ 1 _ _ (0, 0) ht7]; rfl
    have hf7 := frozen_of_row w7 t 1 _ _ ht7
    have hfin := put_fin HT.out (l.take l.length ++ (k, i) :: l.drop l.length) (w7 := w7) (a := a3) (b := b3) (ac := ac3) (bc := bc3) (v := v7) hch7
      (by rw [hN]; exact ht7) (by rw [hN, HS.out.1]; simpa using oa7) (by rw [hN, HS.out.2]; simpa using o7) h5.1 hfr7 hne7
    rw [hN] at hfin
    have HFIN := Lib.hid hfin; clear hfin hN h5 hch7 hb2t ht7 oa7 hfr7 hne7 o7 g7' f7 hc0' hf0' hc1'
    simp only [sv]
    go_wp2
    go_ret
    exact ⟨rfl, HFIN.out⟩
set_option maxRecDepth 20000 in
set_option maxHeartbeats 2000000 in
theorem put_txt_nil (T : TRep w t l kg kc cg cc) (k : ByteArray) (i : Int) (hl : (l.length + 1) * 16 ≤ 140737488355328) (hlt : l = []) (r : Nat) (hrz : r = 0)
    (HR : Hid (Calls Try.prog 18 #[.pointer (some ⟨t, 0, none⟩), .string k] w fun e w' => e = .returned (.int .i64 r) ∧ w = w')) :
    Calls Try.prog 11 #[.pointer (some ⟨t, 0, none⟩), .string k, .int .i64 i] w fun e w' => e = .returned (.bool true) ∧ TPost w t kg cg (l.take r ++ (k, i) :: l.drop r) w' := by
  obtain ⟨i9, hi, hz0, hz1, hz2⟩ := info_parts Try.info9
  have HI9 := Lib.hid (And.intro hi (And.intro hz0 (And.intro hz1 hz2)))
  clear hi hz0 hz1 hz2
  obtain ⟨i3, hi, hz0, hz1, hz2⟩ := info_parts Try.info3
  have HI3 := Lib.hid (And.intro hi (And.intro hz0 (And.intro hz1 hz2)))
  clear hi hz0 hz1 hz2
  subst hrz
  subst hlt
  have hc0 := T.c0
  have hc1 := T.c1
  simp only [sv, List.length_nil] at hc0 hc1
  have hk0 : kg = none → kc = 0 := fun e => by have := T.k; rw [e] at this; exact this.2.2
  have hk1 : cg = none → cc = 0 := fun e => by have := T.c; rw [e] at this; exact this.2.2
  rcases kg with _ | g1 <;> rcases cg with _ | g2
  all_goals
    try obtain rfl := hk0 rfl
    try obtain rfl := hk1 rfl
    clear hk0 hk1
    simp only [Option.map_some, Option.map_none] at hc0 hc1
    have HT := Lib.hid T; clear T
    have HS := Lib.hid (put_split ([] : List (ByteArray × Int)) 0 k i)
    have hby : (0 + 0) * 16 ≤ 140737488355328 ∧ (0 + 1) * 16 ≤ 140737488355328 ∧ (0 + 1 + 0) * 16 ≤ 140737488355328 ∧ (0 + 0) * 8 ≤ 140737488355328 ∧ (0 + 1) * 8 ≤ 140737488355328 ∧ (0 + 1 + 0) * 8 ≤ 140737488355328 := by simp
    have HBY := Lib.hid hby; clear hby
    go_enter Try.func11, Try.ntmps11
    go_wp2_with fail
    refine HR.out.mono ?_
    rintro e w1 ⟨rfl, rfl⟩
    go_wp2_with (at_builtin; refine wpList_app0 rfl (.tmp 38) (.tmp 44) 28 rfl 9 i9 (.string ByteArray.empty) 1 16 Try.underlying28 HI9.out.1 HI9.out.2.1 HI9.out.2.2.1 HI9.out.2.2.2 rfl (by decide) (by decide) none 0 0 [] rfl (Own.nil _ _ _) _ 0 _ [] rfl (by first | (intro h; cases h; done) | (intro _; exact ⟨rfl, rfl⟩) | (intro h; split at h <;> cases h; done)) rfl (fun _ _ _ _ h => by simp at h) (fun u hu => by cases hu) HBY.out.1 ?_)
    intro a1 ac1 w1 o1 g1' f1
    try simp only [Nat.zero_add, List.nil_append] at o1
    have hch1 : Chg (fun _ => False) w w1 := (Chg.refl _ w).grown g1' (fun k e => by cases e)
    have hfr1 : Fresh w a1 := (Fresh.none w).step (Nat.le_refl _) f1
    have ho1 : Own (w1.alloc (.cells #[.string k] 9)) 9 1 a1 0 ac1 [] := o1.news ((Chg.refl _ w1).alloc _)
    have H1 := Lib.hid (And.intro hch1 (And.intro hfr1 ho1)); clear o1 g1' f1 hch1 hfr1 ho1
    have HN2 := Lib.hid (news_new w1 [.string k] #[.string k] 9 rfl)
    go_wp2_with (at_builtin; refine wpList_app0 rfl (.tmp 46) (.tmp 48) 28 rfl 9 i9 (.string ByteArray.empty) 1 16 Try.underlying28 HI9.out.1 HI9.out.2.1 HI9.out.2.2.1 HI9.out.2.2.2 rfl (by decide) (by decide) a1 0 ac1 [] rfl H1.out.2.2 _ 1 _ [Value.string k] rfl (fun h => by cases h) rfl HN2.out (fun u hu => by simp at hu; subst hu; rfl) HBY.out.2.1 ?_)
    intro a2 ac2 w2 o2 g2' f2
    have hch2 : Chg (fun _ => False) w w2 := (H1.out.1.alloc _).grown g2' (fun k' e hk' => by have := H1.out.2.1 k' e; omega)
    have hfr2 : Fresh w a2 := H1.out.2.1.step (w1 := w1.alloc (.cells #[.string k] 9)) (by have := H1.out.1.size; simp; omega) (by simpa using f2)
    have T2 := HT.out.chg hch2 (fun h => h) (fun _ _ h => h) (fun _ _ h => h)
    have hc1' := T2.c1
    simp only [sv, Option.map_some, Option.map_none, List.length_nil] at hc1'
    have H2 := Lib.hid (And.intro hch2 (And.intro hfr2 (And.intro o2 T2))); clear o2 g2' f2 hch2 hfr2 T2 hc0 hc1
    go_wp2_with (at_builtin; refine wpList_app0 rfl (.tmp 50) (.tmp 56) 25 rfl 3 i3 (.int .i64 0) 1 8 Try.underlying25 HI3.out.1 HI3.out.2.1 HI3.out.2.2.1 HI3.out.2.2.2 rfl (by decide) (by decide) none 0 0 [] rfl (Own.nil _ _ _) _ 0 _ [] rfl (by first | (intro h; cases h; done) | (intro _; exact ⟨rfl, rfl⟩) | (intro h; split at h <;> cases h; done)) rfl (fun _ _ _ _ h => by simp at h) (fun u hu => by cases hu) HBY.out.2.2.2.1 ?_)
    intro b1 bc1 w3 o3 g3' f3
    try simp only [Nat.zero_add, List.nil_append] at o3
    have hch3 : Chg (fun _ => False) w2 w3 := (Chg.refl _ w2).grown g3' (fun k e => by cases e)
    have hfr3 : Fresh w2 b1 := (Fresh.none w2).step (Nat.le_refl _) f3
    have ho3 : Own (w3.alloc (.cells #[.int .i64 i] 3)) 3 1 b1 0 bc1 [] := o3.news ((Chg.refl _ w3).alloc _)
    have H3 := Lib.hid (And.intro hch3 (And.intro hfr3 ho3)); clear o3 g3' f3 hch3 hfr3 ho3 hc1'
    have HN4 := Lib.hid (news_new w3 [.int .i64 i] #[.int .i64 i] 3 rfl)
    go_wp2_with (at_builtin; refine wpList_app0 rfl (.tmp 58) (.tmp 60) 25 rfl 3 i3 (.int .i64 0) 1 8 Try.underlying25 HI3.out.1 HI3.out.2.1 HI3.out.2.2.1 HI3.out.2.2.2 rfl (by decide) (by decide) b1 0 bc1 [] rfl H3.out.2.2 _ 1 _ [Value.int .i64 i] rfl (fun h => by cases h) rfl HN4.out (fun u hu => by simp at hu; subst hu; rfl) HBY.out.2.2.2.2.1 ?_)
    intro b2 bc2 w4 o4 g4' f4
    have hch4 : Chg (fun _ => False) w2 w4 := (H3.out.1.alloc _).grown g4' (fun k' e hk' => by have := H3.out.2.1 k' e; omega)
    have hfr4 : Fresh w2 b2 := H3.out.2.1.step (w1 := w3.alloc (.cells #[.int .i64 i] 3)) (by have := H3.out.1.size; simp; omega) (by simpa using f4)
    have T4 := H2.out.2.2.2.chg hch4 (fun h => h) (fun _ _ h => h) (fun _ _ h => h)
    have o2' := H2.out.2.2.1.news hch4
    have hc0 := T4.c0
    simp only [sv, Option.map_some, Option.map_none, List.length_nil] at hc0
    have hf0 := T4.fr 0
    have hal2 : ∀ g, a2 = some g → g < w2.heap.size := fun g e => by have := H2.out.2.2.1; rw [e] at this; exact this.row.lt
    have H4 := Lib.hid (And.intro hch4 (And.intro hfr4 (And.intro o4 (And.intro T4 (And.intro o2' hal2))))); clear o4 g4' f4 hch4 hfr4 T4 o2' hal2
    go_wp2_with (at_builtin; refine wpList_app0 rfl (.tmp 63) (.tmp 69) 28 rfl 9 i9 (.string ByteArray.empty) 1 16 Try.underlying28 HI9.out.1 HI9.out.2.1 HI9.out.2.2.1 HI9.out.2.2.2 rfl (by decide) (by decide) a2 (0 + 1) ac2 ([] ++ [Value.string k]) rfl H4.out.2.2.2.2.1 _ 0 _ [] rfl (by first | (intro h; cases h; done) | (intro _; exact ⟨rfl, rfl⟩) | (intro h; split at h <;> cases h; done)) rfl (fun _ _ _ _ h => by simp at h) (fun u hu => by cases hu) HBY.out.2.2.1 ?_)
    intro a3 ac3 w5 o5 g5' f5
    have hch5 : Chg (fun _ => False) w w5 := (H2.out.1.trans H4.out.1).grown g5' (fun k' e hk' => by have := H2.out.2.1 k' e; omega)
    have hch45 : Chg (fun x => w.heap.size ≤ x) w4 w5 := Chg.grown (Chg.refl _ w4) g5' (fun k' e hk' => H2.out.2.1 k' e)
    have hfr5 : Fresh w a3 := H2.out.2.1.step (w1 := w4) (H2.out.1.trans H4.out.1).size f5
    have hne : ∀ g, a3 = some g → b2 ≠ some g := by
      intro g e hb
      have h1 := H4.out.2.1 g hb
      rcases f5 with f5 | f5
      · have := H4.out.2.2.2.2.2 g (by rw [← f5]; exact e); omega
      · rw [f5] at e
        simp only [Option.some.injEq] at e
        have h2 := H4.out.2.2.1
        rw [hb] at h2
        have := h2.row.lt
        omega
    have T5 := H4.out.2.2.2.1.chg (Chg.grown (S := fun x => w.heap.size ≤ x ∧ a2 = some x) (Chg.refl _ w4) g5' (fun k' e hk' => ⟨H2.out.2.1 k' e, e⟩)) (fun h => by have := HT.out.lt; omega) (fun g e h => by have := HT.out.klt g e; omega) (fun g e h => by have := HT.out.clt g e; omega)
    have ob5 : Own w5 3 1 b2 (0 + 1) bc2 ([] ++ [.int .i64 i]) := H4.out.2.2.1.chg (Chg.grown (S := fun x => a2 = some x) (Chg.refl _ w4) g5' (fun k' e hk' => e)) (fun g e h => by have h1 := H4.out.2.1 g e; have h2 := H4.out.2.2.2.2.2 g h; omega)
    have hc0' : w5.cell? ⟨t, 0, none⟩ = some _ := T5.c0
    have hf0' := T5.fr 0
    have hc1' := T5.c1
    have hset6 : Chg (fun x => x = t) w5 (w5.setCell ⟨t, 0, none⟩ (sv a3 (0 + 1 + 0) ac3)) := Chg.setCell (S := fun x => x = t) (Chg.refl _ w5) (p := ⟨t, 0, none⟩) (fun _ => rfl) _
    have oc6 := T5.c.chg hset6 (fun g e h => T5.tc g e h)
    have ob6 := ob5.chg hset6 (fun g e h => by have h1 := H4.out.2.1 g e; have h2 := HT.out.lt; have h3 := H2.out.1.size; omega)
    have oa6 := o5.chg hset6 (fun g e h => by have h1 := hfr5 g e; have h2 := HT.out.lt; omega)
    have ht6 := heap_setCell_same w5 t 0 _ 30 (sv a3 (0 + 1 + 0) ac3) T5.hd
    have hch6 : Chg (fun x => x = t) w (w5.setCell ⟨t, 0, none⟩ (sv a3 (0 + 1 + 0) ac3)) := (hch5.mono fun _ _ h => h.elim).trans hset6
    have hsz6 : (w5.setCell ⟨t, 0, none⟩ (sv a3 (0 + 1 + 0) ac3)).heap.size = w5.heap.size := by simp [World.setCell]
    have hal5 : ∀ g, a3 = some g → g < w5.heap.size := fun g e => by have := o5; rw [e] at this; exact this.row.lt
    have H5 := Lib.hid (And.intro hfr5 (And.intro oc6 (And.intro ob6 (And.intro oa6 (And.intro ht6 (And.intro hch6 (And.intro hsz6 (And.intro hne hal5)))))))); clear o5 g5' f5 hch5 hch45 hfr5 T5 ob5 hne hc0 hf0 hset6 oc6 ob6 oa6 ht6 hch6 hsz6 hal5
    simp only [sv, Option.map_some, Option.map_none, List.length_nil] at hc0' hc1'
    simp only [sv]

    go_wp2_with (at_builtin; refine wpList_app0 rfl (.tmp 74) (.tmp 80) 25 rfl 3 i3 (.int .i64 0) 1 8 Try.underlying25 HI3.out.1 HI3.out.2.1 HI3.out.2.2.1 HI3.out.2.2.2 rfl (by decide) (by decide) b2 (0 + 1) bc2 ([] ++ [Value.int .i64 i]) rfl H5.out.2.2.1 _ 0 _ [] rfl (by first | (intro h; cases h; done) | (intro _; exact ⟨rfl, rfl⟩) | (intro h; split at h <;> cases h; done)) rfl (fun _ _ _ _ h => by simp at h) (fun u hu => by cases hu) HBY.out.2.2.2.2.2 ?_)
    intro b3 bc3 w7 o7 g7' f7
    have hN : (([] : List (ByteArray × Int)).take 0 ++ (k, i) :: ([] : List (ByteArray × Int)).drop 0).length = 0 + 1 + 0 := by simp
    have h5 := H5.out
    have hch7 : Chg (fun x => x = t) w w7 := h5.2.2.2.2.2.1.grown g7' (fun k' e hk' => by have h1 := H4.out.2.1 k' e; have h2 := H2.out.1.size; omega)
    have hb2t : b2 ≠ some t := fun e => by have h1 := H4.out.2.1 t e; have h2 := H2.out.1.size; have h3 := HT.out.lt; omega
    have ht7 := (g7'.block t (Nat.lt_of_lt_of_le HT.out.lt h5.2.2.2.2.2.1.size) (fun e => hb2t e.symm)).trans h5.2.2.2.2.1
    have oa7 := h5.2.2.2.1.chg (Chg.grown (S := fun x => b2 = some x) (Chg.refl _ _) g7' (fun k' e hk' => e)) (fun g e h => h5.2.2.2.2.2.2.2.1 g e h)
    have hfr7 : Fresh w b3 := fun g e => by
      rcases f7 with f7 | f7
      · have h1 := H4.out.2.1 g (by rw [← f7]; exact e); have h2 := H2.out.1.size; omega
      · rw [f7] at e; have h1 := h5.2.2.2.2.2.1.size; simp only [Option.some.injEq] at e; omega
    have hne7 : ∀ g, a3 = some g → b3 ≠ some g := fun g e hb => by
      rcases f7 with f7 | f7
      · exact h5.2.2.2.2.2.2.2.1 g e (by rw [← f7]; exact hb)
      · rw [f7] at hb; have h1 := h5.2.2.2.2.2.2.2.2 g e; have h3 := h5.2.2.2.2.2.2.1; simp only [Option.some.injEq] at hb; omega
    obtain ⟨v7, ht7⟩ : ∃ v, w7.heap[t]? = some (.cells #[sv a3 (0 + 1 + 0) ac3, v] 30 (0, 0)) := ⟨_, ht7⟩
    have hc7 : w7.cell? ⟨t, 1, none⟩ = some v7 := by rw [cell_of_row _ _ 1 _ _ (0, 0) ht7]; rfl
    have hf7 := frozen_of_row w7 t 1 _ _ ht7
    have hfin := put_fin HT.out (([] : List (ByteArray × Int)).take 0 ++ (k, i) :: ([] : List (ByteArray × Int)).drop 0) (w7 := w7) (a := a3) (b := b3) (ac := ac3) (bc := bc3) (v := v7) hch7
      (by rw [hN]; exact ht7) (by rw [hN, HS.out.1]; simpa [ky] using oa7) (by rw [hN, HS.out.2]; simpa [cl] using o7) h5.1 hfr7 hne7
    rw [hN] at hfin
    have HFIN := Lib.hid hfin; clear hfin hN h5 hch7 hb2t ht7 oa7 hfr7 hne7 o7 g7' f7 hc0' hf0' hc1'
    simp only [sv]
    go_wp2
    go_ret
    exact ⟨rfl, HFIN.out⟩
end
end Go.Proofs.Ytdfkokbpidkokaa
