/- rosterref12.Bough: Put (53), Del (54), From (58), All (27). Printed by gen_pput.py. -/
import Derived.Test.YtdfkokbpidkokaaPRef
import Derived.Test.YtdfkokbpidkokaaTxtPut
import Derived.Laws.EntriesVeiled
namespace Go.Proofs.Ytdfkokbpidkokaa
open Go.RowKit

theorem Try.info105 : (Try.prog.info? 105).map (fun i => (i.zero, i.size, i.bytes)) = some (some (.agg #[.int .i64 0, .string ByteArray.empty]), 2, 24) := by kernel_rfl
/-- what Put and Del leave -/
def PPost (o : Int) (w : World) (t : Nat) (pg : Option Nat) (l' : List (Int × ByteArray)) (w' : World) : Prop :=
  ∃ pg' pc', PRep w' o t l' pg' pc' ∧ Chg (fun x => x = t ∨ pg = some x) w w' ∧ (∀ g, pg' = some g → pg = some g ∨ w.heap.size ≤ g)

section
variable {w : World} {o : Int} {t : Nat} {l : List (Int × ByteArray)} {pg : Option Nat} {pc : Nat}
theorem PRep.head {g : Nat} (T : PRep w o t l (some g) pc) (r : Nat) :
    ∀ ad, some (⟨g, 0, none⟩ : Addr) = some ad → ∀ j u, (pcl (l.take r))[j]? = some u → w.cell? (ad.add j) = some u :=
  news_row (by rw [← pcl_take]; exact T.r.row.take _)
theorem PRep.tail {g : Nat} (T : PRep w o t l (some g) pc) (r : Nat) (z : Option Addr) (hz : z = if pc = r then some (⟨g, 0, none⟩ : Addr) else some ⟨g, r * 2, none⟩) :
    ∀ ad, z = some ad → ∀ j u, (pcl (l.drop r))[j]? = some u → w.cell? (ad.add j) = some u := by
  intro ad had j u hu
  subst hz
  rw [← pcl_drop, List.getElem?_drop] at hu
  split at had
  · rename_i hc
    have h1 := T.le
    have := (List.getElem?_eq_some_iff.1 hu).1
    simp at this
    omega
  · simp only [Option.some.injEq] at had
    subst had
    rw [Addr.add_lit]
    exact T.r.row.cell hu
theorem pput_fin {w7 : World} (T : PRep w o t l pg pc) (l' : List (Int × ByteArray)) {a : Option Nat} {ac : Nat}
    (hc : Chg (fun _ => False) w w7) (ha : Own w7 105 2 a l'.length ac (pcl l')) (fa : Fresh w a) {n : Nat} (hn : n = l'.length) :
    PPost o w t pg l' (w7.setCell ⟨t, 1, none⟩ (sv a n ac)) := by
  subst hn
  have hlt := T.lt
  have hs : Chg (fun x => x = t) w7 (w7.setCell ⟨t, 1, none⟩ (sv a l'.length ac)) := Chg.setCell (S := fun x => x = t) (Chg.refl _ w7) (p := ⟨t, 1, none⟩) (fun _ => rfl) _
  have T7 := T.chg hc (fun h => h) (fun _ _ h => h)
  refine ⟨a, ac, ⟨?_, ?_, fun g e h => ?_⟩, ((hc.mono fun _ _ h => h.elim).trans hs).mono fun _ _ h => .inl h, fun g e => .inr (fa g e)⟩
  · exact heap_setCell_same w7 t 1 _ 102 _ T7.hd
  · exact ha.chg hs (fun g e h => by have := fa g e; omega)
  · have := fa g e; omega
theorem pput_split (l : List (Int × ByteArray)) (r : Nat) (k : Int) (v : ByteArray) : (pcl (l.take r) ++ [.int .i64 k, .string v]) ++ pcl (l.drop r) = pcl (l.take r ++ (k, v) :: l.drop r) := by
  simp [pcl, onV]
theorem pdel_split (l : List (Int × ByteArray)) (r : Nat) : pcl (l.take r) ++ pcl (l.drop (r + 1)) = pcl (l.take r ++ l.drop (r + 1)) := by simp [pcl]
theorem Own.news2 {w : World} {e n c sz : Nat} {go : Option Nat} {xs : List Value} (h : Own w e sz go n c xs) {w' : World} (hc : Chg (fun _ => False) w w') : Own w' e sz go n c xs := h.chg hc (fun _ _ h => h)

set_option maxRecDepth 20000 in
set_option maxHeartbeats 2000000 in
theorem put_p_ne {r g : Nat} (T : PRep w o t l (some g) pc) (hz : ¬ pc = r) (k : Int) (v : ByteArray) (hl : (l.length + 1) * 24 ≤ 140737488355328) (hr : r ≤ l.length)
    (HA : Hid (Calls Try.prog 67 #[.pointer (some ⟨t, 0, none⟩), .int .i64 k] w fun e w' => e = .returned (.int .i64 (-1)) ∧ ∃ n, w' = w.drewN n))
    (HR : Hid (∀ m, Calls Try.prog 56 #[.pointer (some ⟨t, 0, none⟩), .int .i64 k] (w.drewN m) fun e w' => e = .returned (.int .i64 r) ∧ ∃ n, w' = (w.drewN m).drewN n)) :
    Calls Try.prog 53 #[.pointer (some ⟨t, 0, none⟩), .int .i64 k, .string v] w fun e w' => e = .returned (.bool true) ∧ PPost o w t (some g) (l.take r ++ (k, v) :: l.drop r) w' := by
  obtain ⟨i5, hi, hz0, hz1, hz2⟩ := info_parts Try.info105
  have HI := Lib.hid (And.intro hi (And.intro hz0 (And.intro hz1 hz2)))
  clear hi hz0 hz1 hz2
  have hlk := T.le
  have hr0 : (0 : Int) ≤ r := by omega
  have hr1 : (r : Int) ≤ l.length := by omega
  have hr2 : (r : Int) ≤ pc := by omega
  have hr3 : (l.length : Int) ≤ pc := by omega
  have HT := Lib.hid T; clear T
  have hby : (0 + r) * 24 ≤ 140737488355328 ∧ (r + 1) * 24 ≤ 140737488355328 ∧ (r + 1 + (l.length - r)) * 24 ≤ 140737488355328 := by omega
  have HBY := Lib.hid hby; clear hby
  have hln : (pcl (l.take r)).length = r * 2 ∧ (pcl (l.drop r)).length = (l.length - r) * 2 ∧ (l.take r ++ (k, v) :: l.drop r).length = r + 1 + (l.length - r) := by simp <;> omega
  have HLN := Lib.hid hln; clear hln
  have HSP : Hid ((pcl (l.take r) ++ [.int .i64 k, .string v]) ++ pcl (l.drop r) = pcl (l.take r ++ (k, v) :: l.drop r)) := by simp [Hid, pcl, onV]
  go_enter Try.func53, Try.ntmps53
  go_wp2_with fail
  refine HA.out.mono ?_
  rintro e w1 ⟨rfl, n1, rfl⟩
  go_wp2_with fail
  refine (HR.out n1).mono ?_
  rintro e w2 ⟨rfl, n2, rfl⟩
  have hch0 : Chg (fun _ => False) w ((w.drewN n1).drewN n2) := ((Chg.refl _ w).drewN n1).drewN n2
  generalize (w.drewN n1).drewN n2 = W at hch0 ⊢
  have T1 := HT.out.chg hch0 (fun h => h) (fun _ _ h => h)
  have hc1 := T1.c1
  simp only [sv, Option.map_some] at hc1
  have HT1 := Lib.hid T1; clear T1
  have HC0 := Lib.hid hch0; clear hch0 HA HR
  have HN1 := Lib.hid (HT1.out.head r)
  go_wp2_with (at_builtin; refine wpList_app0 rfl (.tmp 27) (.tmp 33) 53 rfl 105 i5 (.agg #[.int .i64 0, .string ByteArray.empty]) 2 24 Try.underlying53 HI.out.1 HI.out.2.1 HI.out.2.2.1 HI.out.2.2.2 rfl (by decide) (by decide) none 0 0 [] rfl (Own.nil _ _ _) (some ⟨g, 0, none⟩) r _ (pcl (l.take r)) rfl (fun h => by cases h) HLN.out.1 HN1.out (pcl_one _) HBY.out.1 ?_)
  intro a1 ac1 w1 o1 g1 f1
  try simp only [Nat.zero_add, List.nil_append] at o1
  have hch1 : Chg (fun _ => False) w w1 := HC0.out.grown g1 (fun k e => by cases e)
  have hfr1 : Fresh w a1 := (Fresh.none w).step HC0.out.size f1
  have ho1 : Own (w1.alloc (.cells #[.int .i64 k, .string v] 105)) 105 2 a1 r ac1 (pcl (l.take r)) := o1.news2 ((Chg.refl _ w1).alloc _)
  have H1 := Lib.hid (And.intro hch1 (And.intro hfr1 ho1)); clear o1 g1 f1 hch1 hfr1 ho1
  have HN2 := Lib.hid (news_new w1 [.int .i64 k, .string v] #[.int .i64 k, .string v] 105 rfl)
  clear hc1
  try simp only [Nat.zero_add]
  go_wp2_with (at_builtin; refine wpList_app0 rfl (.tmp 35) (.tmp 39) 53 rfl 105 i5 (.agg #[.int .i64 0, .string ByteArray.empty]) 2 24 Try.underlying53 HI.out.1 HI.out.2.1 HI.out.2.2.1 HI.out.2.2.2 rfl (by decide) (by decide) a1 r ac1 (pcl (l.take r)) rfl H1.out.2.2 (some ⟨w1.heap.size, 0, none⟩) 1 1 [.int .i64 k, .string v] rfl (fun h => by cases h) rfl HN2.out (fun u hu => by simp at hu; rcases hu with rfl | rfl <;> rfl) HBY.out.2.1 ?_)
  intro a2 ac2 w2 o2 g2 f2
  have hch2 : Chg (fun _ => False) w w2 := (H1.out.1.alloc _).grown g2 (fun k' e hk' => by have := H1.out.2.1 k' e; omega)
  have hfr2 : Fresh w a2 := H1.out.2.1.step (w1 := w1.alloc (.cells #[.int .i64 k, .string v] 105)) (by have := H1.out.1.size; simp; omega) (by simpa using f2)
  have T2 := HT.out.chg hch2 (fun h => h) (fun _ _ h => h)
  have hc1 := T2.c1
  simp only [sv, Option.map_some] at hc1
  have hf1 := T2.fr 1
  have H2 := Lib.hid (And.intro hch2 (And.intro hfr2 (And.intro o2 T2))); clear o2 g2 f2 hch2 hfr2 T2
  have HK : Hid (∀ (w3 : World), w2.grownBy w3 a2 → w3.frozen? ⟨t, 1, none⟩ = false ∧ ∃ u, w3.cell? ⟨t, 1, none⟩ = some u) := fun w3 g3 => by
    have hch := H2.out.1.grown g3 (fun k' e hk' => by have := H2.out.2.1 k' e; omega)
    have T3 := HT.out.chg hch (fun h => h) (fun _ _ h => h)
    exact ⟨T3.fr 1, _, T3.c1⟩
  have HN3 := Lib.hid (H2.out.2.2.2.tail r (some ⟨g, r * 2, none⟩) ((if_neg hz).symm))
  go_wp2_with (at_builtin; refine wpList_app0 rfl (.tmp 42) (.tmp 48) 53 rfl 105 i5 (.agg #[.int .i64 0, .string ByteArray.empty]) 2 24 Try.underlying53 HI.out.1 HI.out.2.1 HI.out.2.2.1 HI.out.2.2.2 rfl (by decide) (by decide) a2 (r + 1) ac2 (pcl (l.take r) ++ [.int .i64 k, .string v]) rfl H2.out.2.2.1 (some ⟨g, r * 2, none⟩) (l.length - r) _ (pcl (l.drop r)) rfl (fun h => by cases h) HLN.out.2.1 HN3.out (pcl_one _) HBY.out.2.2 ?_)
  intro a3 ac3 w3 o3 g3 f3
  obtain ⟨hf3, u3, hc3⟩ := HK.out w3 g3
  have hch3 : Chg (fun _ => False) w w3 := H2.out.1.grown g3 (fun k' e hk' => by have := H2.out.2.1 k' e; omega)
  have hfr3 : Fresh w a3 := H2.out.2.1.step H2.out.1.size f3
  have hfin := pput_fin HT.out (l.take r ++ (k, v) :: l.drop r) (w7 := w3) (a := a3) (ac := ac3) hch3 (by rw [← HSP.out, HLN.out.2.2]; simpa [pcl] using o3) hfr3 HLN.out.2.2.symm
  have HFIN := Lib.hid hfin; clear hfin hch3 hfr3 o3 g3 f3 hc1 hf1
  simp only [sv] at HFIN
  simp only [sv]
  go_wp2
  go_ret
  exact ⟨rfl, HFIN.out⟩
set_option maxRecDepth 20000 in
set_option maxHeartbeats 2000000 in
theorem put_p_eq {r g : Nat} (T : PRep w o t l (some g) pc) (hz : pc = r) (k : Int) (v : ByteArray) (hl : (l.length + 1) * 24 ≤ 140737488355328) (hr : r ≤ l.length)
    (HA : Hid (Calls Try.prog 67 #[.pointer (some ⟨t, 0, none⟩), .int .i64 k] w fun e w' => e = .returned (.int .i64 (-1)) ∧ ∃ n, w' = w.drewN n))
    (HR : Hid (∀ m, Calls Try.prog 56 #[.pointer (some ⟨t, 0, none⟩), .int .i64 k] (w.drewN m) fun e w' => e = .returned (.int .i64 r) ∧ ∃ n, w' = (w.drewN m).drewN n)) :
    Calls Try.prog 53 #[.pointer (some ⟨t, 0, none⟩), .int .i64 k, .string v] w fun e w' => e = .returned (.bool true) ∧ PPost o w t (some g) (l.take r ++ (k, v) :: l.drop r) w' := by
  obtain ⟨i5, hi, hz0, hz1, hz2⟩ := info_parts Try.info105
  have HI := Lib.hid (And.intro hi (And.intro hz0 (And.intro hz1 hz2)))
  clear hi hz0 hz1 hz2
  obtain rfl := hz.symm
  have hlk := T.le
  have hr0 : (0 : Int) ≤ r := by omega
  have hr1 : (r : Int) ≤ l.length := by omega
  have hr3 : (l.length : Int) ≤ r := by omega
  have HT := Lib.hid T; clear T
  have hby : (0 + r) * 24 ≤ 140737488355328 ∧ (r + 1) * 24 ≤ 140737488355328 ∧ (r + 1 + 0) * 24 ≤ 140737488355328 := by omega
  have HBY := Lib.hid hby; clear hby
  have hln : (pcl (l.take r)).length = r * 2 ∧ (([] : List Value)).length = 0 * 2 ∧ (l.take r ++ (k, v) :: l.drop r).length = r + 1 + 0 := by simp <;> omega
  have HLN := Lib.hid hln; clear hln
  have HSP : Hid ((pcl (l.take r) ++ [.int .i64 k, .string v]) ++ ([] : List Value) = pcl (l.take r ++ (k, v) :: l.drop r)) := by have hdr := List.drop_eq_nil_of_le (show l.length ≤ r by omega); simp [Hid, pcl, onV, hdr]
  go_enter Try.func53, Try.ntmps53
  go_wp2_with fail
  refine HA.out.mono ?_
  rintro e w1 ⟨rfl, n1, rfl⟩
  go_wp2_with fail
  refine (HR.out n1).mono ?_
  rintro e w2 ⟨rfl, n2, rfl⟩
  have hch0 : Chg (fun _ => False) w ((w.drewN n1).drewN n2) := ((Chg.refl _ w).drewN n1).drewN n2
  generalize (w.drewN n1).drewN n2 = W at hch0 ⊢
  have T1 := HT.out.chg hch0 (fun h => h) (fun _ _ h => h)
  have hc1 := T1.c1
  simp only [sv, Option.map_some] at hc1
  have HT1 := Lib.hid T1; clear T1
  have HC0 := Lib.hid hch0; clear hch0 HA HR
  have HN1 := Lib.hid (HT1.out.head r)
  go_wp2_with (at_builtin; refine wpList_app0 rfl (.tmp 27) (.tmp 33) 53 rfl 105 i5 (.agg #[.int .i64 0, .string ByteArray.empty]) 2 24 Try.underlying53 HI.out.1 HI.out.2.1 HI.out.2.2.1 HI.out.2.2.2 rfl (by decide) (by decide) none 0 0 [] rfl (Own.nil _ _ _) (some ⟨g, 0, none⟩) r _ (pcl (l.take r)) rfl (fun h => by cases h) HLN.out.1 HN1.out (pcl_one _) HBY.out.1 ?_)
  intro a1 ac1 w1 o1 g1 f1
  try simp only [Nat.zero_add, List.nil_append] at o1
  have hch1 : Chg (fun _ => False) w w1 := HC0.out.grown g1 (fun k e => by cases e)
  have hfr1 : Fresh w a1 := (Fresh.none w).step HC0.out.size f1
  have ho1 : Own (w1.alloc (.cells #[.int .i64 k, .string v] 105)) 105 2 a1 r ac1 (pcl (l.take r)) := o1.news2 ((Chg.refl _ w1).alloc _)
  have H1 := Lib.hid (And.intro hch1 (And.intro hfr1 ho1)); clear o1 g1 f1 hch1 hfr1 ho1
  have HN2 := Lib.hid (news_new w1 [.int .i64 k, .string v] #[.int .i64 k, .string v] 105 rfl)
  clear hc1
  try simp only [Nat.zero_add]
  go_wp2_with (at_builtin; refine wpList_app0 rfl (.tmp 35) (.tmp 39) 53 rfl 105 i5 (.agg #[.int .i64 0, .string ByteArray.empty]) 2 24 Try.underlying53 HI.out.1 HI.out.2.1 HI.out.2.2.1 HI.out.2.2.2 rfl (by decide) (by decide) a1 r ac1 (pcl (l.take r)) rfl H1.out.2.2 (some ⟨w1.heap.size, 0, none⟩) 1 1 [.int .i64 k, .string v] rfl (fun h => by cases h) rfl HN2.out (fun u hu => by simp at hu; rcases hu with rfl | rfl <;> rfl) HBY.out.2.1 ?_)
  intro a2 ac2 w2 o2 g2 f2
  have hch2 : Chg (fun _ => False) w w2 := (H1.out.1.alloc _).grown g2 (fun k' e hk' => by have := H1.out.2.1 k' e; omega)
  have hfr2 : Fresh w a2 := H1.out.2.1.step (w1 := w1.alloc (.cells #[.int .i64 k, .string v] 105)) (by have := H1.out.1.size; simp; omega) (by simpa using f2)
  have T2 := HT.out.chg hch2 (fun h => h) (fun _ _ h => h)
  have hc1 := T2.c1
  simp only [sv, Option.map_some] at hc1
  have hf1 := T2.fr 1
  have H2 := Lib.hid (And.intro hch2 (And.intro hfr2 (And.intro o2 T2))); clear o2 g2 f2 hch2 hfr2 T2
  have HK : Hid (∀ (w3 : World), w2.grownBy w3 a2 → w3.frozen? ⟨t, 1, none⟩ = false ∧ ∃ u, w3.cell? ⟨t, 1, none⟩ = some u) := fun w3 g3 => by
    have hch := H2.out.1.grown g3 (fun k' e hk' => by have := H2.out.2.1 k' e; omega)
    have T3 := HT.out.chg hch (fun h => h) (fun _ _ h => h)
    exact ⟨T3.fr 1, _, T3.c1⟩
  go_wp2_with (at_builtin; refine wpList_app0 rfl (.tmp 42) (.tmp 48) 53 rfl 105 i5 (.agg #[.int .i64 0, .string ByteArray.empty]) 2 24 Try.underlying53 HI.out.1 HI.out.2.1 HI.out.2.2.1 HI.out.2.2.2 rfl (by decide) (by decide) a2 (r + 1) ac2 (pcl (l.take r) ++ [.int .i64 k, .string v]) rfl H2.out.2.2.1 _ 0 _ [] rfl (fun h => by cases h) rfl (fun _ _ _ _ h => by simp at h) (fun u hu => by cases hu) HBY.out.2.2 ?_)
  intro a3 ac3 w3 o3 g3 f3
  obtain ⟨hf3, u3, hc3⟩ := HK.out w3 g3
  have hch3 : Chg (fun _ => False) w w3 := H2.out.1.grown g3 (fun k' e hk' => by have := H2.out.2.1 k' e; omega)
  have hfr3 : Fresh w a3 := H2.out.2.1.step H2.out.1.size f3
  have hfin := pput_fin HT.out (l.take r ++ (k, v) :: l.drop r) (w7 := w3) (a := a3) (ac := ac3) hch3 (by rw [← HSP.out, HLN.out.2.2]; simpa [pcl] using o3) hfr3 HLN.out.2.2.symm
  have HFIN := Lib.hid hfin; clear hfin hch3 hfr3 o3 g3 f3 hc1 hf1
  simp only [sv] at HFIN
  simp only [sv]
  go_wp2
  go_ret
  exact ⟨rfl, HFIN.out⟩
set_option maxRecDepth 20000 in
set_option maxHeartbeats 2000000 in
theorem put_p_nil (T : PRep w o t ([] : List (Int × ByteArray)) none 0) (k : Int) (v : ByteArray)
    (HA : Hid (Calls Try.prog 67 #[.pointer (some ⟨t, 0, none⟩), .int .i64 k] w fun e w' => e = .returned (.int .i64 (-1)) ∧ ∃ n, w' = w.drewN n))
    (HR : Hid (∀ m, Calls Try.prog 56 #[.pointer (some ⟨t, 0, none⟩), .int .i64 k] (w.drewN m) fun e w' => e = .returned (.int .i64 ((0 : Nat) : Int)) ∧ ∃ n, w' = (w.drewN m).drewN n)) :
    Calls Try.prog 53 #[.pointer (some ⟨t, 0, none⟩), .int .i64 k, .string v] w fun e w' => e = .returned (.bool true) ∧ PPost o w t none (([] : List (Int × ByteArray)).take 0 ++ (k, v) :: ([] : List (Int × ByteArray)).drop 0) w' := by
  obtain ⟨i5, hi, hz0, hz1, hz2⟩ := info_parts Try.info105
  have HI := Lib.hid (And.intro hi (And.intro hz0 (And.intro hz1 hz2)))
  clear hi hz0 hz1 hz2
  have HT := Lib.hid T; clear T
  have hby : (0 + 0) * 24 ≤ 140737488355328 ∧ (0 + 1) * 24 ≤ 140737488355328 ∧ (0 + 1 + 0) * 24 ≤ 140737488355328 := by simp
  have HBY := Lib.hid hby; clear hby
  have hln : (pcl (([] : List (Int × ByteArray)).take 0)).length = 0 * 2 ∧ (([] : List Value)).length = 0 * 2 ∧ (([] : List (Int × ByteArray)).take 0 ++ (k, v) :: ([] : List (Int × ByteArray)).drop 0).length = 0 + 1 + 0 := by simp
  have HLN := Lib.hid hln; clear hln
  have HSP : Hid ((pcl (([] : List (Int × ByteArray)).take 0) ++ [.int .i64 k, .string v]) ++ ([] : List Value) = pcl (([] : List (Int × ByteArray)).take 0 ++ (k, v) :: ([] : List (Int × ByteArray)).drop 0)) := by simp [Hid, pcl, onV]
  go_enter Try.func53, Try.ntmps53
  go_wp2_with fail
  refine HA.out.mono ?_
  rintro e w1 ⟨rfl, n1, rfl⟩
  go_wp2_with fail
  refine (HR.out n1).mono ?_
  rintro e w2 ⟨rfl, n2, rfl⟩
  have hch0 : Chg (fun _ => False) w ((w.drewN n1).drewN n2) := ((Chg.refl _ w).drewN n1).drewN n2
  generalize (w.drewN n1).drewN n2 = W at hch0 ⊢
  have T1 := HT.out.chg hch0 (fun h => h) (fun _ _ h => h)
  have hc1 := T1.c1
  simp only [sv, Option.map_none, List.length_nil] at hc1
  have HT1 := Lib.hid T1; clear T1
  have HC0 := Lib.hid hch0; clear hch0 HA HR
  go_wp2_with (at_builtin; refine wpList_app0 rfl (.tmp 27) (.tmp 33) 53 rfl 105 i5 (.agg #[.int .i64 0, .string ByteArray.empty]) 2 24 Try.underlying53 HI.out.1 HI.out.2.1 HI.out.2.2.1 HI.out.2.2.2 rfl (by decide) (by decide) none 0 0 [] rfl (Own.nil _ _ _) none 0 0 [] rfl (fun _ => ⟨rfl, rfl⟩) rfl (fun _ h => by cases h) (fun u hu => by cases hu) HBY.out.1 ?_)
  intro a1 ac1 w1 o1 g1 f1
  try simp only [Nat.zero_add, List.nil_append] at o1
  have hch1 : Chg (fun _ => False) w w1 := HC0.out.grown g1 (fun k e => by cases e)
  have hfr1 : Fresh w a1 := (Fresh.none w).step HC0.out.size f1
  have ho1 : Own (w1.alloc (.cells #[.int .i64 k, .string v] 105)) 105 2 a1 0 ac1 [] := o1.news2 ((Chg.refl _ w1).alloc _)
  have H1 := Lib.hid (And.intro hch1 (And.intro hfr1 ho1)); clear o1 g1 f1 hch1 hfr1 ho1
  have HN2 := Lib.hid (news_new w1 [.int .i64 k, .string v] #[.int .i64 k, .string v] 105 rfl)
  clear hc1
  try simp only [Nat.zero_add]
  go_wp2_with (at_builtin; refine wpList_app0 rfl (.tmp 35) (.tmp 39) 53 rfl 105 i5 (.agg #[.int .i64 0, .string ByteArray.empty]) 2 24 Try.underlying53 HI.out.1 HI.out.2.1 HI.out.2.2.1 HI.out.2.2.2 rfl (by decide) (by decide) a1 0 ac1 [] rfl H1.out.2.2 (some ⟨w1.heap.size, 0, none⟩) 1 1 [.int .i64 k, .string v] rfl (fun h => by cases h) rfl HN2.out (fun u hu => by simp at hu; rcases hu with rfl | rfl <;> rfl) HBY.out.2.1 ?_)
  intro a2 ac2 w2 o2 g2 f2
  have hch2 : Chg (fun _ => False) w w2 := (H1.out.1.alloc _).grown g2 (fun k' e hk' => by have := H1.out.2.1 k' e; omega)
  have hfr2 : Fresh w a2 := H1.out.2.1.step (w1 := w1.alloc (.cells #[.int .i64 k, .string v] 105)) (by have := H1.out.1.size; simp; omega) (by simpa using f2)
  have T2 := HT.out.chg hch2 (fun h => h) (fun _ _ h => h)
  have hc1 := T2.c1
  simp only [sv, Option.map_none, List.length_nil] at hc1
  have hf1 := T2.fr 1
  have H2 := Lib.hid (And.intro hch2 (And.intro hfr2 (And.intro o2 T2))); clear o2 g2 f2 hch2 hfr2 T2
  have HK : Hid (∀ (w3 : World), w2.grownBy w3 a2 → w3.frozen? ⟨t, 1, none⟩ = false ∧ ∃ u, w3.cell? ⟨t, 1, none⟩ = some u) := fun w3 g3 => by
    have hch := H2.out.1.grown g3 (fun k' e hk' => by have := H2.out.2.1 k' e; omega)
    have T3 := HT.out.chg hch (fun h => h) (fun _ _ h => h)
    exact ⟨T3.fr 1, _, T3.c1⟩
  go_wp2_with (at_builtin; refine wpList_app0 rfl (.tmp 42) (.tmp 48) 53 rfl 105 i5 (.agg #[.int .i64 0, .string ByteArray.empty]) 2 24 Try.underlying53 HI.out.1 HI.out.2.1 HI.out.2.2.1 HI.out.2.2.2 rfl (by decide) (by decide) a2 (0 + 1) ac2 ([] ++ [.int .i64 k, .string v]) rfl H2.out.2.2.1 none 0 0 [] rfl (fun _ => ⟨rfl, rfl⟩) rfl (fun _ h => by cases h) (fun u hu => by cases hu) HBY.out.2.2 ?_)
  intro a3 ac3 w3 o3 g3 f3
  obtain ⟨hf3, u3, hc3⟩ := HK.out w3 g3
  have hch3 : Chg (fun _ => False) w w3 := H2.out.1.grown g3 (fun k' e hk' => by have := H2.out.2.1 k' e; omega)
  have hfr3 : Fresh w a3 := H2.out.2.1.step H2.out.1.size f3
  have hfin := pput_fin HT.out (([] : List (Int × ByteArray)).take 0 ++ (k, v) :: ([] : List (Int × ByteArray)).drop 0) (w7 := w3) (a := a3) (ac := ac3) hch3 (by rw [← HSP.out, HLN.out.2.2]; simpa [pcl] using o3) hfr3 HLN.out.2.2.symm
  have HFIN := Lib.hid hfin; clear hfin hch3 hfr3 o3 g3 f3 hc1 hf1
  simp only [sv] at HFIN
  simp only [sv]
  go_wp2
  go_ret
  exact ⟨rfl, HFIN.out⟩
set_option maxRecDepth 20000 in
set_option maxHeartbeats 2000000 in
theorem del_p_ne {r g : Nat} (T : PRep w o t l (some g) pc) (hz : ¬ pc = r + 1) (k : Int) (hl : (l.length + 1) * 24 ≤ 140737488355328) (hr : r < l.length)
    (HA : Hid (Calls Try.prog 67 #[.pointer (some ⟨t, 0, none⟩), .int .i64 k] w fun e w' => e = .returned (.int .i64 r) ∧ ∃ n, w' = w.drewN n)) :
    Calls Try.prog 54 #[.pointer (some ⟨t, 0, none⟩), .int .i64 k] w fun e w' => e = .returned (.bool true) ∧ PPost o w t (some g) (l.take r ++ l.drop (r + 1)) w' := by
  obtain ⟨i5, hi, hz0, hz1, hz2⟩ := info_parts Try.info105
  have HI := Lib.hid (And.intro hi (And.intro hz0 (And.intro hz1 hz2)))
  clear hi hz0 hz1 hz2
  have hlk := T.le
  have hr0 : (0 : Int) ≤ r := by omega
  have hr1 : (r : Int) + 1 ≤ l.length := by omega
  have hr2 : (r : Int) + 1 ≤ pc := by omega
  have hr3 : (l.length : Int) ≤ pc := by omega
  have hlt := hr
  have HT := Lib.hid T; clear T
  have hby : (0 + r) * 24 ≤ 140737488355328 ∧ (r + (l.length - (r + 1))) * 24 ≤ 140737488355328 := by omega
  have HBY := Lib.hid hby; clear hby
  have hln : (pcl (l.take r)).length = r * 2 ∧ (pcl (l.drop (r + 1))).length = (l.length - (r + 1)) * 2 ∧ (l.take r ++ l.drop (r + 1)).length = r + (l.length - (r + 1)) := by simp <;> omega
  have HLN := Lib.hid hln; clear hln
  have HSP : Hid (pcl (l.take r) ++ pcl (l.drop (r + 1)) = pcl (l.take r ++ l.drop (r + 1))) := by simp [Hid, pcl]
  go_enter Try.func54, Try.ntmps54
  go_wp2_with fail
  refine HA.out.mono ?_
  rintro e w1 ⟨rfl, n1, rfl⟩
  have hch0 : Chg (fun _ => False) w (w.drewN n1) := (Chg.refl _ w).drewN n1
  generalize w.drewN n1 = W at hch0 ⊢
  have T1 := HT.out.chg hch0 (fun h => h) (fun _ _ h => h)
  have hc1 := T1.c1
  simp only [sv, Option.map_some] at hc1
  have HT1 := Lib.hid T1; clear T1
  have HC0 := Lib.hid hch0; clear hch0 HA
  have HN1 := Lib.hid (HT1.out.head r)
  go_wp2_with (at_builtin; refine wpList_app0 rfl (.tmp 12) (.tmp 18) 53 rfl 105 i5 (.agg #[.int .i64 0, .string ByteArray.empty]) 2 24 Try.underlying53 HI.out.1 HI.out.2.1 HI.out.2.2.1 HI.out.2.2.2 rfl (by decide) (by decide) none 0 0 [] rfl (Own.nil _ _ _) (some ⟨g, 0, none⟩) r _ (pcl (l.take r)) rfl (fun h => by cases h) HLN.out.1 HN1.out (pcl_one _) HBY.out.1 ?_)
  intro a2 ac2 w2 o2 g2 f2
  try simp only [Nat.zero_add, List.nil_append] at o2
  have hch2 : Chg (fun _ => False) w w2 := HC0.out.grown g2 (fun k e => by cases e)
  have hfr2 : Fresh w a2 := (Fresh.none w).step HC0.out.size f2
  have T2 := HT.out.chg hch2 (fun h => h) (fun _ _ h => h)
  clear hc1
  have hc1 := T2.c1
  simp only [sv, Option.map_some] at hc1
  have hf1 := T2.fr 1
  have H2 := Lib.hid (And.intro hch2 (And.intro hfr2 (And.intro o2 T2))); clear o2 g2 f2 hch2 hfr2 T2
  have HK : Hid (∀ (w3 : World), w2.grownBy w3 a2 → w3.frozen? ⟨t, 1, none⟩ = false ∧ ∃ u, w3.cell? ⟨t, 1, none⟩ = some u) := fun w3 g3 => by
    have hch := H2.out.1.grown g3 (fun k' e hk' => by have := H2.out.2.1 k' e; omega)
    have T3 := HT.out.chg hch (fun h => h) (fun _ _ h => h)
    exact ⟨T3.fr 1, _, T3.c1⟩
  have HN3 := Lib.hid (H2.out.2.2.2.tail (r + 1) (some ⟨g, (r + 1) * 2, none⟩) ((if_neg hz).symm))
  try simp only [Nat.zero_add]
  go_wp2_with (at_builtin; refine wpList_app0 rfl (.tmp 21) (.tmp 28) 53 rfl 105 i5 (.agg #[.int .i64 0, .string ByteArray.empty]) 2 24 Try.underlying53 HI.out.1 HI.out.2.1 HI.out.2.2.1 HI.out.2.2.2 rfl (by decide) (by decide) a2 r ac2 (pcl (l.take r)) rfl H2.out.2.2.1 (some ⟨g, (r + 1) * 2, none⟩) (l.length - (r + 1)) _ (pcl (l.drop (r + 1))) rfl (fun h => by cases h) HLN.out.2.1 HN3.out (pcl_one _) HBY.out.2 ?_)
  intro a3 ac3 w3 o3 g3 f3
  obtain ⟨hf3, u3, hc3⟩ := HK.out w3 g3
  have hch3 : Chg (fun _ => False) w w3 := H2.out.1.grown g3 (fun k' e hk' => by have := H2.out.2.1 k' e; omega)
  have hfr3 : Fresh w a3 := H2.out.2.1.step H2.out.1.size f3
  have hfin := pput_fin HT.out (l.take r ++ l.drop (r + 1)) (w7 := w3) (a := a3) (ac := ac3) hch3 (by rw [← HSP.out, HLN.out.2.2]; simpa [pcl] using o3) hfr3 HLN.out.2.2.symm
  have HFIN := Lib.hid hfin; clear hfin hch3 hfr3 o3 g3 f3 hc1 hf1
  simp only [sv] at HFIN
  simp only [sv]
  go_wp2
  go_ret
  exact ⟨rfl, HFIN.out⟩
set_option maxRecDepth 20000 in
set_option maxHeartbeats 2000000 in
theorem del_p_eq {r g : Nat} (T : PRep w o t l (some g) pc) (hz : pc = r + 1) (k : Int) (hl : (l.length + 1) * 24 ≤ 140737488355328) (hr : r < l.length)
    (HA : Hid (Calls Try.prog 67 #[.pointer (some ⟨t, 0, none⟩), .int .i64 k] w fun e w' => e = .returned (.int .i64 r) ∧ ∃ n, w' = w.drewN n)) :
    Calls Try.prog 54 #[.pointer (some ⟨t, 0, none⟩), .int .i64 k] w fun e w' => e = .returned (.bool true) ∧ PPost o w t (some g) (l.take r ++ l.drop (r + 1)) w' := by
  obtain ⟨i5, hi, hz0, hz1, hz2⟩ := info_parts Try.info105
  have HI := Lib.hid (And.intro hi (And.intro hz0 (And.intro hz1 hz2)))
  clear hi hz0 hz1 hz2
  subst hz
  have hlk := T.le
  have hr0 : (0 : Int) ≤ r := by omega
  have hr1 : (r : Int) + 1 ≤ l.length := by omega
  have hr3 : (l.length : Int) ≤ (r : Int) + 1 := by omega
  have hlt := hr
  have HT := Lib.hid T; clear T
  have hby : (0 + r) * 24 ≤ 140737488355328 ∧ (r + 0) * 24 ≤ 140737488355328 := by omega
  have HBY := Lib.hid hby; clear hby
  have hln : (pcl (l.take r)).length = r * 2 ∧ (([] : List Value)).length = 0 * 2 ∧ (l.take r ++ l.drop (r + 1)).length = r + 0 := by simp <;> omega
  have HLN := Lib.hid hln; clear hln
  have HSP : Hid (pcl (l.take r) ++ ([] : List Value) = pcl (l.take r ++ l.drop (r + 1))) := by have hdr := List.drop_eq_nil_of_le (show l.length ≤ r + 1 by omega); simp [Hid, pcl, hdr]
  go_enter Try.func54, Try.ntmps54
  go_wp2_with fail
  refine HA.out.mono ?_
  rintro e w1 ⟨rfl, n1, rfl⟩
  have hch0 : Chg (fun _ => False) w (w.drewN n1) := (Chg.refl _ w).drewN n1
  generalize w.drewN n1 = W at hch0 ⊢
  have T1 := HT.out.chg hch0 (fun h => h) (fun _ _ h => h)
  have hc1 := T1.c1
  simp only [sv, Option.map_some] at hc1
  have HT1 := Lib.hid T1; clear T1
  have HC0 := Lib.hid hch0; clear hch0 HA
  have HN1 := Lib.hid (HT1.out.head r)
  go_wp2_with (at_builtin; refine wpList_app0 rfl (.tmp 12) (.tmp 18) 53 rfl 105 i5 (.agg #[.int .i64 0, .string ByteArray.empty]) 2 24 Try.underlying53 HI.out.1 HI.out.2.1 HI.out.2.2.1 HI.out.2.2.2 rfl (by decide) (by decide) none 0 0 [] rfl (Own.nil _ _ _) (some ⟨g, 0, none⟩) r _ (pcl (l.take r)) rfl (fun h => by cases h) HLN.out.1 HN1.out (pcl_one _) HBY.out.1 ?_)
  intro a2 ac2 w2 o2 g2 f2
  try simp only [Nat.zero_add, List.nil_append] at o2
  have hch2 : Chg (fun _ => False) w w2 := HC0.out.grown g2 (fun k e => by cases e)
  have hfr2 : Fresh w a2 := (Fresh.none w).step HC0.out.size f2
  have T2 := HT.out.chg hch2 (fun h => h) (fun _ _ h => h)
  clear hc1
  have hc1 := T2.c1
  simp only [sv, Option.map_some] at hc1
  have hf1 := T2.fr 1
  have H2 := Lib.hid (And.intro hch2 (And.intro hfr2 (And.intro o2 T2))); clear o2 g2 f2 hch2 hfr2 T2
  have HK : Hid (∀ (w3 : World), w2.grownBy w3 a2 → w3.frozen? ⟨t, 1, none⟩ = false ∧ ∃ u, w3.cell? ⟨t, 1, none⟩ = some u) := fun w3 g3 => by
    have hch := H2.out.1.grown g3 (fun k' e hk' => by have := H2.out.2.1 k' e; omega)
    have T3 := HT.out.chg hch (fun h => h) (fun _ _ h => h)
    exact ⟨T3.fr 1, _, T3.c1⟩
  try simp only [Nat.zero_add]
  go_wp2_with (at_builtin; refine wpList_app0 rfl (.tmp 21) (.tmp 28) 53 rfl 105 i5 (.agg #[.int .i64 0, .string ByteArray.empty]) 2 24 Try.underlying53 HI.out.1 HI.out.2.1 HI.out.2.2.1 HI.out.2.2.2 rfl (by decide) (by decide) a2 r ac2 (pcl (l.take r)) rfl H2.out.2.2.1 _ 0 _ [] rfl (fun h => by cases h) rfl (fun _ _ _ _ h => by simp at h) (fun u hu => by cases hu) HBY.out.2 ?_)
  intro a3 ac3 w3 o3 g3 f3
  obtain ⟨hf3, u3, hc3⟩ := HK.out w3 g3
  have hch3 : Chg (fun _ => False) w w3 := H2.out.1.grown g3 (fun k' e hk' => by have := H2.out.2.1 k' e; omega)
  have hfr3 : Fresh w a3 := H2.out.2.1.step H2.out.1.size f3
  have hfin := pput_fin HT.out (l.take r ++ l.drop (r + 1)) (w7 := w3) (a := a3) (ac := ac3) hch3 (by rw [← HSP.out, HLN.out.2.2]; simpa [pcl] using o3) hfr3 HLN.out.2.2.symm
  have HFIN := Lib.hid hfin; clear hfin hch3 hfr3 o3 g3 f3 hc1 hf1
  simp only [sv] at HFIN
  simp only [sv]
  go_wp2
  go_ret
  exact ⟨rfl, HFIN.out⟩
end
end Go.Proofs.Ytdfkokbpidkokaa
