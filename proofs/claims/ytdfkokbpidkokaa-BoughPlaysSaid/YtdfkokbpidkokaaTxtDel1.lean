/- rosterref12.Texts.Del: a key that is there. -/
import Derived.Test.YtdfkokbpidkokaaTxtPut
namespace Go.Proofs.Ytdfkokbpidkokaa
open Go.RowKit

theorem del_split (l : List (ByteArray × Int)) (r : Nat) :
    ky (l.take r ++ l.drop (r + 1)) = (ky l).take r ++ (ky l).drop (r + 1) ∧ cl (l.take r ++ l.drop (r + 1)) = (cl l).take r ++ (cl l).drop (r + 1) := by
  simp [ky, cl, List.map_take, List.map_drop]
theorem del_split_end (l : List (ByteArray × Int)) (r : Nat) (h : r + 1 = l.length) :
    ky (l.take r ++ l.drop (r + 1)) = (ky l).take r ++ [] ∧ cl (l.take r ++ l.drop (r + 1)) = (cl l).take r ++ [] := by
  obtain ⟨h1, h2⟩ := del_split l r
  rw [h1, h2, h]
  simp

section
variable {w : World} {t : Nat} {l : List (ByteArray × Int)} {kg cg : Option Nat} {kc cc : Nat}
set_option maxRecDepth 20000 in
set_option maxHeartbeats 2000000 in
theorem del_txt_lt {r g1 g2 : Nat} (T : TRep w t l (some g1) kc (some g2) cc) (k : ByteArray) (hl : (l.length + 1) * 16 ≤ 140737488355328) (hlt : r + 1 < l.length) (z : ByteArray) (hk : w.cell? ⟨g1, r, none⟩ = some (.string z)) (hb2 : (z.toList == k.toList) = true)
    (HR : Hid (Calls Try.prog 18 #[.pointer (some ⟨t, 0, none⟩), .string k] w fun e w' => e = .returned (.int .i64 r) ∧ w = w')) :
    Calls Try.prog 13 #[.pointer (some ⟨t, 0, none⟩), .string k] w fun e w' => e = .returned (.bool true) ∧ TPost w t (some g1) (some g2) (l.take r ++ l.drop (r + 1)) w' := by
  obtain ⟨i9, hi, hz0, hz1, hz2⟩ := info_parts Try.info9
  have HI9 := Lib.hid (And.intro hi (And.intro hz0 (And.intro hz1 hz2)))
  clear hi hz0 hz1 hz2
  obtain ⟨i3, hi, hz0, hz1, hz2⟩ := info_parts Try.info3
  have HI3 := Lib.hid (And.intro hi (And.intro hz0 (And.intro hz1 hz2)))
  clear hi hz0 hz1 hz2
  have hc0 := T.c0
  have hc1 := T.c1
  simp only [sv, Option.map_some] at hc0 hc1
  have hlk := T.k.le
  have hlc := T.c.le
  have hr0 : (0 : Int) ≤ r := by omega
  have hr2 : (r : Int) < l.length := by omega
  have hr3 : (((r : Nat) : Int) == l.length) = false := by simp; omega
  have hr4 : (0 : Int) ≤ (r : Int) + 1 := by omega
  have hr5 : (r : Int) + 1 ≤ l.length := by omega
  have HT := Lib.hid T; clear T
  have HS := Lib.hid (del_split l r)
  have hln1 : ((ky l).take r).length = r * 1 := by simp <;> omega
  have hln2 : ((cl l).take r).length = r * 1 := by simp <;> omega
  have hln3 : (((ky l).drop (r + 1)) : List Value).length = (l.length - (r + 1)) * 1 := by simp
  have hln4 : (((cl l).drop (r + 1)) : List Value).length = (l.length - (r + 1)) * 1 := by simp
  have HLN := Lib.hid (And.intro hln1 (And.intro hln2 (And.intro hln3 hln4))); clear hln1 hln2 hln3 hln4
  have hby : (0 + r) * 16 ≤ 140737488355328 ∧ (r + (l.length - (r + 1))) * 16 ≤ 140737488355328 ∧ (0 + r) * 8 ≤ 140737488355328 ∧ (r + (l.length - (r + 1))) * 8 ≤ 140737488355328 := by omega
  have HBY := Lib.hid hby; clear hby
  go_enter Try.func13, Try.ntmps13
  go_wp2_with fail
  refine HR.out.mono ?_
  rintro e w1 ⟨rfl, rfl⟩
  have HN1 := Lib.hid (news_own HT.out.k r)
  go_wp2_with (at_builtin; refine wpList_app0 rfl (.tmp 29) (.tmp 35) 28 rfl 9 i9 (.string ByteArray.empty) 1 16 Try.underlying28 HI9.out.1 HI9.out.2.1 HI9.out.2.2.1 HI9.out.2.2.2 rfl (by decide) (by decide) none 0 0 [] rfl (Own.nil _ _ _) _ r _ ((ky l).take r) rfl (fun h => by cases h) HLN.out.1 HN1.out (fun u hu => ky_one _ u (List.mem_of_mem_take hu)) HBY.out.1 ?_)
  intro a2 ac2 w2 o2 g2' f2
  try simp only [Nat.zero_add, List.nil_append] at o2
  have hch2 : Chg (fun _ => False) w w2 := (Chg.refl _ w).grown g2' (fun k e => by cases e)
  have hfr2 : Fresh w a2 := (Fresh.none w).step (Nat.le_refl _) f2
  have T2 := HT.out.chg hch2 (fun h => h) (fun _ _ h => h) (fun _ _ h => h)
  have hc1' := T2.c1
  simp only [sv, Option.map_some] at hc1'
  have H2 := Lib.hid (And.intro hch2 (And.intro hfr2 (And.intro o2 T2))); clear o2 g2' f2 hch2 hfr2 T2 hc0 hc1
  have HN3 := Lib.hid (news_own H2.out.2.2.2.c r)
  go_wp2_with (at_builtin; refine wpList_app0 rfl (.tmp 37) (.tmp 43) 25 rfl 3 i3 (.int .i64 0) 1 8 Try.underlying25 HI3.out.1 HI3.out.2.1 HI3.out.2.2.1 HI3.out.2.2.2 rfl (by decide) (by decide) none 0 0 [] rfl (Own.nil _ _ _) _ r _ ((cl l).take r) rfl (fun h => by cases h) HLN.out.2.1 HN3.out (fun u hu => cl_one _ u (List.mem_of_mem_take hu)) HBY.out.2.2.1 ?_)
  intro b2 bc2 w4 o4 g4' f4
  try simp only [Nat.zero_add, List.nil_append] at o4
  have hch4 : Chg (fun _ => False) w2 w4 := (Chg.refl _ w2).grown g4' (fun k e => by cases e)
  have hfr4 : Fresh w2 b2 := (Fresh.none w2).step (Nat.le_refl _) f4
  have T4 := H2.out.2.2.2.chg hch4 (fun h => h) (fun _ _ h => h) (fun _ _ h => h)
  have o2' := H2.out.2.2.1.news hch4
  have hc0 := T4.c0
  simp only [sv, Option.map_some] at hc0
  have hf0 := T4.fr 0
  have hal2 : ∀ g, a2 = some g → g < w2.heap.size := fun g e => by have := H2.out.2.2.1; rw [e] at this; exact this.row.lt
  have H4 := Lib.hid (And.intro hch4 (And.intro hfr4 (And.intro o4 (And.intro T4 (And.intro o2' hal2))))); clear o4 g4' f4 hch4 hfr4 T4 o2' hal2 hc1' 
  have HN5 := Lib.hid (news_tail1 H4.out.2.2.2.1.k (r + 1))
  go_wp2_with (at_builtin; refine wpList_app0 rfl (.tmp 46) (.tmp 53) 28 rfl 9 i9 (.string ByteArray.empty) 1 16 Try.underlying28 HI9.out.1 HI9.out.2.1 HI9.out.2.2.1 HI9.out.2.2.2 rfl (by decide) (by decide) a2 r ac2 ((ky l).take r) rfl H4.out.2.2.2.2.1 _ (l.length - (r + 1)) _ ((ky l).drop (r + 1)) rfl (fun h => by cases h) HLN.out.2.2.1 HN5.out (fun u hu => ky_one _ u (List.mem_of_mem_drop hu)) HBY.out.2.1 ?_)
  intro a3 ac3 w5 o5 g5' f5
  have hch5 : Chg (fun _ => False) w w5 := (H2.out.1.trans H4.out.1).grown g5' (fun k' e hk' => by have := H2.out.2.1 k' e; omega)
  have hfr5 : Fresh w a3 := H2.out.2.1.step (w1 := w4) (H2.out.1.trans H4.out.1).size f5
  have hne : ∀ g, a3 = some g → b2 ≠ some g := by
    intro g e hb
    have h1 := H4.out.2.1 g hb
    rcases f5 with f5 | f5
    · have := H4.out.2.2.2.2.2 g (by rw [← f5]; exact e); omega
    · rw [f5] at e
      simp only [Option.some.injEq] at e
      have h2 := H4.out.2.2.1
      rw [hb] at h2
      have := h2.row.lt
      omega
  have T5 := H4.out.2.2.2.1.chg (Chg.grown (S := fun x => w.heap.size ≤ x ∧ a2 = some x) (Chg.refl _ w4) g5' (fun k' e hk' => ⟨H2.out.2.1 k' e, e⟩)) (fun h => by have := HT.out.lt; omega) (fun g e h => by have := HT.out.klt g e; omega) (fun g e h => by have := HT.out.clt g e; omega)
  have ob5 : Own w5 3 1 b2 r bc2 ((cl l).take r) := H4.out.2.2.1.chg (Chg.grown (S := fun x => a2 = some x) (Chg.refl _ w4) g5' (fun k' e hk' => e)) (fun g e h => by have h1 := H4.out.2.1 g e; have h2 := H4.out.2.2.2.2.2 g h; omega)
  have hc0' : w5.cell? ⟨t, 0, none⟩ = some _ := T5.c0
  have hf0' := T5.fr 0
  have hc1' := T5.c1
  have hset6 : Chg (fun x => x = t) w5 (w5.setCell ⟨t, 0, none⟩ (sv a3 (r + (l.length - (r + 1))) ac3)) := Chg.setCell (S := fun x => x = t) (Chg.refl _ w5) (p := ⟨t, 0, none⟩) (fun _ => rfl) _
  have oc6 := T5.c.chg hset6 (fun g e h => T5.tc g e h)
  have ob6 := ob5.chg hset6 (fun g e h => by have h1 := H4.out.2.1 g e; have h2 := HT.out.lt; have h3 := H2.out.1.size; omega)
  have oa6 := o5.chg hset6 (fun g e h => by have h1 := hfr5 g e; have h2 := HT.out.lt; omega)
  have ht6 := heap_setCell_same w5 t 0 _ 30 (sv a3 (r + (l.length - (r + 1))) ac3) T5.hd
  have hch6 : Chg (fun x => x = t) w (w5.setCell ⟨t, 0, none⟩ (sv a3 (r + (l.length - (r + 1))) ac3)) := (hch5.mono fun _ _ h => h.elim).trans hset6
  have hsz6 : (w5.setCell ⟨t, 0, none⟩ (sv a3 (r + (l.length - (r + 1))) ac3)).heap.size = w5.heap.size := by simp [World.setCell]
  have hal5 : ∀ g, a3 = some g → g < w5.heap.size := fun g e => by have := o5; rw [e] at this; exact this.row.lt
  have H5 := Lib.hid (And.intro hfr5 (And.intro oc6 (And.intro ob6 (And.intro oa6 (And.intro ht6 (And.intro hch6 (And.intro hsz6 (And.intro hne hal5)))))))); clear o5 g5' f5 hch5 hfr5 T5 ob5 hne hc0 hf0 hset6 oc6 ob6 oa6 ht6 hch6 hsz6 hal5
  simp only [sv, Option.map_some] at hc0' hc1'
  simp only [sv]
  have HN6 := Lib.hid (news_tail1 H5.out.2.1 (r + 1))
  go_wp2_with (at_builtin; refine wpList_app0 rfl (.tmp 58) (.tmp 65) 25 rfl 3 i3 (.int .i64 0) 1 8 Try.underlying25 HI3.out.1 HI3.out.2.1 HI3.out.2.2.1 HI3.out.2.2.2 rfl (by decide) (by decide) b2 r bc2 ((cl l).take r) rfl H5.out.2.2.1 _ (l.length - (r + 1)) _ ((cl l).drop (r + 1)) rfl (fun h => by cases h) HLN.out.2.2.2 HN6.out (fun u hu => cl_one _ u (List.mem_of_mem_drop hu)) HBY.out.2.2.2 ?_)
  intro b3 bc3 w7 o7 g7' f7
  have hN : (l.take r ++ l.drop (r + 1)).length = r + (l.length - (r + 1)) := by simp <;> omega
  have h5 := H5.out
  have hch7 : Chg (fun x => x = t) w w7 := h5.2.2.2.2.2.1.grown g7' (fun k' e hk' => by have h1 := H4.out.2.1 k' e; have h2 := H2.out.1.size; omega)
  have hb2t : b2 ≠ some t := fun e => by have h1 := H4.out.2.1 t e; have h2 := H2.out.1.size; have h3 := HT.out.lt; omega
  have ht7 := (g7'.block t (Nat.lt_of_lt_of_le HT.out.lt h5.2.2.2.2.2.1.size) (fun e => hb2t e.symm)).trans h5.2.2.2.2.1
  have oa7 := h5.2.2.2.1.chg (Chg.grown (S := fun x => b2 = some x) (Chg.refl _ _) g7' (fun k' e hk' => e)) (fun g e h => h5.2.2.2.2.2.2.2.1 g e h)
  have hfr7 : Fresh w b3 := fun g e => by
    rcases f7 with f7 | f7
    · have h1 := H4.out.2.1 g (by rw [← f7]; exact e); have h2 := H2.out.1.size; omega
    · rw [f7] at e; have h1 := h5.2.2.2.2.2.1.size; simp only [Option.some.injEq] at e; omega
  have hne7 : ∀ g, a3 = some g → b3 ≠ some g := fun g e hb => by
    rcases f7 with f7 | f7
    · exact h5.2.2.2.2.2.2.2.1 g e (by rw [← f7]; exact hb)
    · rw [f7] at hb; have h1 := h5.2.2.2.2.2.2.2.2 g e; have h3 := h5.2.2.2.2.2.2.1; simp only [Option.some.injEq] at hb; omega
  obtain ⟨v7, ht7⟩ : ∃ v, w7.heap[t]? = some (.cells #[sv a3 (r + (l.length - (r + 1))) ac3, v] 30 (0, 0)) := ⟨_, ht7⟩
  have hc7 : w7.cell? ⟨t, 1, none⟩ = some v7 := by rw [cell_of_row _ _ 1 _ _ (0, 0) ht7]; rfl
  have hf7 := frozen_of_row w7 t 1 _ _ ht7
  have hfin := put_fin HT.out (l.take r ++ l.drop (r + 1)) (w7 := w7) (a := a3) (b := b3) (ac := ac3) (bc := bc3) (v := v7) hch7
    (by rw [hN]; exact ht7) (by rw [hN, HS.out.1]; simpa using oa7) (by rw [hN, HS.out.2]; simpa using o7) h5.1 hfr7 hne7
  rw [hN] at hfin
  have HFIN := Lib.hid hfin; clear hfin hN h5 hch7 hb2t ht7 oa7 hfr7 hne7 o7 g7' f7 hc0' hf0' hc1'
  simp only [sv]
  go_wp2
  go_ret
  exact ⟨rfl, HFIN.out⟩
set_option maxRecDepth 20000 in
set_option maxHeartbeats 2000000 in
theorem del_txt_eq {r g1 g2 : Nat} (T : TRep w t l (some g1) kc (some g2) cc) (k : ByteArray) (hl : (l.length + 1) * 16 ≤ 140737488355328) (hlt : r + 1 = l.length) (z : ByteArray) (hk : w.cell? ⟨g1, r, none⟩ = some (.string z)) (hb2 : (z.toList == k.toList) = true)
    (HR : Hid (Calls Try.prog 18 #[.pointer (some ⟨t, 0, none⟩), .string k] w fun e w' => e = .returned (.int .i64 r) ∧ w = w')) :
    Calls Try.prog 13 #[.pointer (some ⟨t, 0, none⟩), .string k] w fun e w' => e = .returned (.bool true) ∧ TPost w t (some g1) (some g2) (l.take r ++ l.drop (r + 1)) w' := by
  obtain ⟨i9, hi, hz0, hz1, hz2⟩ := info_parts Try.info9
  have HI9 := Lib.hid (And.intro hi (And.intro hz0 (And.intro hz1 hz2)))
  clear hi hz0 hz1 hz2
  obtain ⟨i3, hi, hz0, hz1, hz2⟩ := info_parts Try.info3
  have HI3 := Lib.hid (And.intro hi (And.intro hz0 (And.intro hz1 hz2)))
  clear hi hz0 hz1 hz2
  have hc0 := T.c0
  have hc1 := T.c1
  simp only [sv, Option.map_some] at hc0 hc1
  have hlk := T.k.le
  have hlc := T.c.le
  have hr0 : (0 : Int) ≤ r := by omega
  have hr2 : (r : Int) < l.length := by omega
  have hr3 : (((r : Nat) : Int) == l.length) = false := by simp; omega
  have hr4 : (0 : Int) ≤ (r : Int) + 1 := by omega
  have hr5 : (r : Int) + 1 ≤ l.length := by omega
  have HLT := Lib.hid hlt; clear hlt
  have hle : r + 1 ≤ l.length := by have := HLT.out; omega
  have hz0 : l.length - (r + 1) = 0 := by have := HLT.out; omega
  rcases Decidable.em (kc = r + 1) with rfl | e1 <;> rcases Decidable.em (cc = r + 1) with rfl | e2
  all_goals
    have HT := Lib.hid T; clear T
    have HS := Lib.hid (del_split_end l r HLT.out)
    have hln1 : ((ky l).take r).length = r * 1 := by simp <;> omega
    have hln2 : ((cl l).take r).length = r * 1 := by simp <;> omega
    have hln3 : ([] : List Value).length = 0 * 1 := by simp
    have hln4 : ([] : List Value).length = 0 * 1 := by simp
    have HLN := Lib.hid (And.intro hln1 (And.intro hln2 (And.intro hln3 hln4))); clear hln1 hln2 hln3 hln4
    have hby : (0 + r) * 16 ≤ 140737488355328 ∧ (r + 0) * 16 ≤ 140737488355328 ∧ (0 + r) * 8 ≤ 140737488355328 ∧ (r + 0) * 8 ≤ 140737488355328 := by omega
    have HBY := Lib.hid hby; clear hby
    go_enter Try.func13, Try.ntmps13
    go_wp2_with fail
    refine HR.out.mono ?_
    rintro e w1 ⟨rfl, rfl⟩
    have HN1 := Lib.hid (news_own HT.out.k r)
    go_wp2_with (at_builtin; refine wpList_app0 rfl (.tmp 29) (.tmp 35) 28 rfl 9 i9 (.string ByteArray.empty) 1 16 Try.underlying28 HI9.out.1 HI9.out.2.1 HI9.out.2.2.1 HI9.out.2.2.2 rfl (by decide) (by decide) none 0 0 [] rfl (Own.nil _ _ _) _ r _ ((ky l).take r) rfl (fun h => by cases h) HLN.out.1 HN1.out (fun u hu => ky_one _ u (List.mem_of_mem_take hu)) HBY.out.1 ?_)
    intro a2 ac2 w2 o2 g2' f2
    try simp only [Nat.zero_add, List.nil_append] at o2
    have hch2 : Chg (fun _ => False) w w2 := (Chg.refl _ w).grown g2' (fun k e => by cases e)
    have hfr2 : Fresh w a2 := (Fresh.none w).step (Nat.le_refl _) f2
    have T2 := HT.out.chg hch2 (fun h => h) (fun _ _ h => h) (fun _ _ h => h)
    have hc1' := T2.c1
    simp only [sv, Option.map_some] at hc1'
    have H2 := Lib.hid (And.intro hch2 (And.intro hfr2 (And.intro o2 T2))); clear o2 g2' f2 hch2 hfr2 T2 hc0 hc1
    have HN3 := Lib.hid (news_own H2.out.2.2.2.c r)
    go_wp2_with (at_builtin; refine wpList_app0 rfl (.tmp 37) (.tmp 43) 25 rfl 3 i3 (.int .i64 0) 1 8 Try.underlying25 HI3.out.1 HI3.out.2.1 HI3.out.2.2.1 HI3.out.2.2.2 rfl (by decide) (by decide) none 0 0 [] rfl (Own.nil _ _ _) _ r _ ((cl l).take r) rfl (fun h => by cases h) HLN.out.2.1 HN3.out (fun u hu => cl_one _ u (List.mem_of_mem_take hu)) HBY.out.2.2.1 ?_)
    intro b2 bc2 w4 o4 g4' f4
    try simp only [Nat.zero_add, List.nil_append] at o4
    have hch4 : Chg (fun _ => False) w2 w4 := (Chg.refl _ w2).grown g4' (fun k e => by cases e)
    have hfr4 : Fresh w2 b2 := (Fresh.none w2).step (Nat.le_refl _) f4
    have T4 := H2.out.2.2.2.chg hch4 (fun h => h) (fun _ _ h => h) (fun _ _ h => h)
    have o2' := H2.out.2.2.1.news hch4
    have hc0 := T4.c0
    simp only [sv, Option.map_some] at hc0
    have hf0 := T4.fr 0
    have hal2 : ∀ g, a2 = some g → g < w2.heap.size := fun g e => by have := H2.out.2.2.1; rw [e] at this; exact this.row.lt
    have H4 := Lib.hid (And.intro hch4 (And.intro hfr4 (And.intro o4 (And.intro T4 (And.intro o2' hal2))))); clear o4 g4' f4 hch4 hfr4 T4 o2' hal2 hc1' 
    go_wp2_with (at_builtin; refine wpList_app0 rfl (.tmp 46) (.tmp 53) 28 rfl 9 i9 (.string ByteArray.empty) 1 16 Try.underlying28 HI9.out.1 HI9.out.2.1 HI9.out.2.2.1 HI9.out.2.2.2 rfl (by decide) (by decide) a2 r ac2 ((ky l).take r) rfl H4.out.2.2.2.2.1 _ 0 _ [] rfl (by first | (intro h; cases h; done) | (intro h; split at h <;> cases h; done)) HLN.out.2.2.1 (fun _ _ _ _ h => by simp at h) (fun u hu => by cases hu) HBY.out.2.1 ?_)
    intro a3 ac3 w5 o5 g5' f5
    have hch5 : Chg (fun _ => False) w w5 := (H2.out.1.trans H4.out.1).grown g5' (fun k' e hk' => by have := H2.out.2.1 k' e; omega)
    have hfr5 : Fresh w a3 := H2.out.2.1.step (w1 := w4) (H2.out.1.trans H4.out.1).size f5
    have hne : ∀ g, a3 = some g → b2 ≠ some g := by
      intro g e hb
      have h1 := H4.out.2.1 g hb
      rcases f5 with f5 | f5
      · have := H4.out.2.2.2.2.2 g (by rw [← f5]; exact e); omega
      · rw [f5] at e
        simp only [Option.some.injEq] at e
        have h2 := H4.out.2.2.1
        rw [hb] at h2
        have := h2.row.lt
        omega
    have T5 := H4.out.2.2.2.1.chg (Chg.grown (S := fun x => w.heap.size ≤ x ∧ a2 = some x) (Chg.refl _ w4) g5' (fun k' e hk' => ⟨H2.out.2.1 k' e, e⟩)) (fun h => by have := HT.out.lt; omega) (fun g e h => by have := HT.out.klt g e; omega) (fun g e h => by have := HT.out.clt g e; omega)
    have ob5 : Own w5 3 1 b2 r bc2 ((cl l).take r) := H4.out.2.2.1.chg (Chg.grown (S := fun x => a2 = some x) (Chg.refl _ w4) g5' (fun k' e hk' => e)) (fun g e h => by have h1 := H4.out.2.1 g e; have h2 := H4.out.2.2.2.2.2 g h; omega)
    have hc0' : w5.cell? ⟨t, 0, none⟩ = some _ := T5.c0
    have hf0' := T5.fr 0
    have hc1' := T5.c1
    have hset6 : Chg (fun x => x = t) w5 (w5.setCell ⟨t, 0, none⟩ (sv a3 (r + 0) ac3)) := Chg.setCell (S := fun x => x = t) (Chg.refl _ w5) (p := ⟨t, 0, none⟩) (fun _ => rfl) _
    have oc6 := T5.c.chg hset6 (fun g e h => T5.tc g e h)
    have ob6 := ob5.chg hset6 (fun g e h => by have h1 := H4.out.2.1 g e; have h2 := HT.out.lt; have h3 := H2.out.1.size; omega)
    have oa6 := o5.chg hset6 (fun g e h => by have h1 := hfr5 g e; have h2 := HT.out.lt; omega)
    have ht6 := heap_setCell_same w5 t 0 _ 30 (sv a3 (r + 0) ac3) T5.hd
    have hch6 : Chg (fun x => x = t) w (w5.setCell ⟨t, 0, none⟩ (sv a3 (r + 0) ac3)) := (hch5.mono fun _ _ h => h.elim).trans hset6
    have hsz6 : (w5.setCell ⟨t, 0, none⟩ (sv a3 (r + 0) ac3)).heap.size = w5.heap.size := by simp [World.setCell]
    have hal5 : ∀ g, a3 = some g → g < w5.heap.size := fun g e => by have := o5; rw [e] at this; exact this.row.lt
    have H5 := Lib.hid (And.intro hfr5 (And.intro oc6 (And.intro ob6 (And.intro oa6 (And.intro ht6 (And.intro hch6 (And.intro hsz6 (And.intro hne hal5)))))))); clear o5 g5' f5 hch5 hfr5 T5 ob5 hne hc0 hf0 hset6 oc6 ob6 oa6 ht6 hch6 hsz6 hal5
    simp only [sv, Option.map_some] at hc0' hc1'
    simp only [sv]
    go_wp2_with (at_builtin; refine wpList_app0 rfl (.tmp 58) (.tmp 65) 25 rfl 3 i3 (.int .i64 0) 1 8 Try.underlying25 HI3.out.1 HI3.out.2.1 HI3.out.2.2.1 HI3.out.2.2.2 rfl (by decide) (by decide) b2 r bc2 ((cl l).take r) rfl H5.out.2.2.1 _ 0 _ [] rfl (by first | (intro h; cases h; done) | (intro h; split at h <;> cases h; done)) HLN.out.2.2.2 (fun _ _ _ _ h => by simp at h) (fun u hu => by cases hu) HBY.out.2.2.2 ?_)
    intro b3 bc3 w7 o7 g7' f7
    have hN : (l.take r ++ l.drop (r + 1)).length = r + 0 := by have := HLT.out; simp <;> omega
    have h5 := H5.out
    have hch7 : Chg (fun x => x = t) w w7 := h5.2.2.2.2.2.1.grown g7' (fun k' e hk' => by have h1 := H4.out.2.1 k' e; have h2 := H2.out.1.size; omega)
    have hb2t : b2 ≠ some t := fun e => by have h1 := H4.out.2.1 t e; have h2 := H2.out.1.size; have h3 := HT.out.lt; omega
    have ht7 := (g7'.block t (Nat.lt_of_lt_of_le HT.out.lt h5.2.2.2.2.2.1.size) (fun e => hb2t e.symm)).trans h5.2.2.2.2.1
    have oa7 := h5.2.2.2.1.chg (Chg.grown (S := fun x => b2 = some x) (Chg.refl _ _) g7' (fun k' e hk' => e)) (fun g e h => h5.2.2.2.2.2.2.2.1 g e h)
    have hfr7 : Fresh w b3 := fun g e => by
      rcases f7 with f7 | f7
      · have h1 := H4.out.2.1 g (by rw [← f7]; exact e); have h2 := H2.out.1.size; omega
      · rw [f7] at e; have h1 := h5.2.2.2.2.2.1.size; simp only [Option.some.injEq] at e; omega
    have hne7 : ∀ g, a3 = some g → b3 ≠ some g := fun g e hb => by
      rcases f7 with f7 | f7
      · exact h5.2.2.2.2.2.2.2.1 g e (by rw [← f7]; exact hb)
      · rw [f7] at hb; have h1 := h5.2.2.2.2.2.2.2.2 g e; have h3 := h5.2.2.2.2.2.2.1; simp only [Option.some.injEq] at hb; omega
    obtain ⟨v7, ht7⟩ : ∃ v, w7.heap[t]? = some (.cells #[sv a3 (r + 0) ac3, v] 30 (0, 0)) := ⟨_, ht7⟩
    have hc7 : w7.cell? ⟨t, 1, none⟩ = some v7 := by rw [cell_of_row _ _ 1 _ _ (0, 0) ht7]; rfl
    have hf7 := frozen_of_row w7 t 1 _ _ ht7
    have hfin := put_fin HT.out (l.take r ++ l.drop (r + 1)) (w7 := w7) (a := a3) (b := b3) (ac := ac3) (bc := bc3) (v := v7) hch7
      (by rw [hN]; exact ht7) (by rw [hN, HS.out.1]; simpa using oa7) (by rw [hN, HS.out.2]; simpa using o7) h5.1 hfr7 hne7
    rw [hN] at hfin
    have HFIN := Lib.hid hfin; clear hfin hN h5 hch7 hb2t ht7 oa7 hfr7 hne7 o7 g7' f7 hc0' hf0' hc1'
    simp only [sv]
    go_wp2
    go_ret
    exact ⟨rfl, HFIN.out⟩
end
end Go.Proofs.Ytdfkokbpidkokaa
