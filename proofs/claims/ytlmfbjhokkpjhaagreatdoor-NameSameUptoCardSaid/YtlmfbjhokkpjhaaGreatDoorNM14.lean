/- Part 14 of the walks and plain laws, joined: Twin. -/
import Derived.Test.YtlmfbjhokkpjhaaGreatDoorNM00
import Derived.Test.YtlmfbjhokkpjhaaGreatDoorNM11
import Derived.Test.YtlmfbjhokkpjhaaGreatDoorNM13
import Derived.Deep.RegionHeld3
import Derived.Deep.RegionLaw
import Derived.Deep.QuietTactic
import Derived.BigQuiet
import Derived.IntWalk
set_option linter.unusedVariables false
set_option linter.unusedSimpArgs false
namespace Go.Proofs.YtlmfbjhokkpjhaaGreatDoor
open Go Go.RowKit Go.Maps
structure Zed (w : World) (Z : Nat) : Prop where
 f0 : w.frozen? ⟨Z, 0, none⟩ = false
 f1 : w.frozen? ⟨Z, 1, none⟩ = false
 c0 : w.cell? ⟨Z, 0, none⟩ = some (.slice none 0 0)
 c1 : w.cell? ⟨Z, 1, none⟩ = some (.slice none 0 0)
 ff : ∀ j, w.frozen? ⟨Z, j, none⟩ = false
theorem Zed.made (W : World) (T : TypeId) : Zed (W.alloc (.cells #[.slice none 0 0, .slice none 0 0] T)) W.heap.size where
 f0 := frozen_of_row _ _ 0 _ _ (heap_alloc_new _ _)
 f1 := frozen_of_row _ _ 1 _ _ (heap_alloc_new _ _)
 c0 := by rw [World.cell?_alloc_new]; rfl
 c1 := by rw [World.cell?_alloc_new]; rfl
 ff := fun j => frozen_of_row _ _ j _ _ (heap_alloc_new _ _)
theorem Zed.keep {w w' : World} {Z : Nat} (h : Zed w Z) (k : Below w.heap.size w w') : Zed w' Z where
 f0 := by rw [k.frozen (Zb w _ h.c0)]; exact h.f0
 f1 := by rw [k.frozen (Zb w _ h.c1)]; exact h.f1
 c0 := by rw [k.cell (Zb w _ h.c0)]; exact h.c0
 c1 := by rw [k.cell (Zb w _ h.c1)]; exact h.c1
 ff := fun j => by rw [k.frozen (p := ⟨Z, j, none⟩) (show Z < _ from Zb w _ h.c0)]; exact h.ff j
theorem TwinX.of {S : PSchema} {n n2 c5 c6 Z : Nat} {a5 a6 : Option Addr} {w1 w6 : World} (hb : Below w1.heap.size w1 w6) (hz : w1.heap.size ≤ Z) (hZ : Zed w6 Z) (ht : Types w6.heap.size w6 a5 n c5 S.types) (hc : Classes w6.heap.size w6 a6 n2 c6 S.classes)
  (f5 : ∀ ad, a5 = some ad → w1.heap.size ≤ ad.block ∧ ad.block ≠ Z ∧ ∀ j, w6.frozen? ⟨ad.block, j, none⟩ = false) (f6 : ∀ ad, a6 = some ad → w1.heap.size ≤ ad.block ∧ ad.block ≠ Z ∧ ∀ j, w6.frozen? ⟨ad.block, j, none⟩ = false)
  (hne : ∀ ad ad2, a5 = some ad → a6 = some ad2 → ad.block ≠ ad2.block) :
  TwinX S n n2 w1 ((w6.setCell ⟨Z, 0, none⟩ (.slice a5 n c5)).setCell ⟨Z, 1, none⟩ (.slice a6 n2 c6)) Z a5 c5 a6 c6 := by
 have i0 : IsSl w6 ⟨Z, 0, none⟩ := ⟨_, _, _, hZ.c0⟩
 have h0 : (w6.setCell ⟨Z, 0, none⟩ (.slice a5 n c5)).cell? ⟨Z, 0, none⟩ = some (.slice a5 n c5) := World.cell?_setCell_same _ _ _ hZ.c0
 have h1 : (w6.setCell ⟨Z, 0, none⟩ (.slice a5 n c5)).cell? ⟨Z, 1, none⟩ = some (.slice none 0 0) := cell_set_ne hZ.c1 (by intro e; injection e with _ e2 _; omega)
 have i1 : IsSl (w6.setCell ⟨Z, 0, none⟩ (.slice a5 n c5)) ⟨Z, 1, none⟩ := ⟨_, _, _, h1⟩
 have hs : ((w6.setCell ⟨Z, 0, none⟩ (.slice a5 n c5)).setCell ⟨Z, 1, none⟩ (.slice a6 n2 c6)).heap.size = w6.heap.size := by simp [World.setCell]
 refine ⟨hz, by rw [hs]; exact Zb w6 _ hZ.c0, (hb.setCell hz _).setCell hz _, cell_set_ne h0 (by intro e; injection e with _ e2 _; omega), World.cell?_setCell_same _ _ _ h1, ?_, ?_, fun ad e => ⟨(f5 ad e).1, (f5 ad e).2.1, fun j => by rw [World.frozen?_setCell, World.frozen?_setCell]; exact (f5 ad e).2.2 j⟩, fun ad e => ⟨(f6 ad e).1, (f6 ad e).2.1, fun j => by rw [World.frozen?_setCell, World.frozen?_setCell]; exact (f6 ad e).2.2 j⟩, hne⟩
 ·rw [hs]; exact (ht.set i0 _ fun ad e => (f5 ad e).2.1).set i1 _ fun ad e => (f5 ad e).2.1
 ·rw [hs]; exact (hc.set i0 _ fun ad e => (f6 ad e).2.1).set i1 _ fun ad e => (f6 ad e).2.1
theorem TwinX.of2 {S : PSchema} {n n2 c5 c6 : Nat} {a5 a6 : Option Addr} {w1 w6 : World} {T : TypeId} (hb : Below w1.heap.size w1 w6) (ht : Types w6.heap.size w6 a5 n c5 S.types) (hc : Classes w6.heap.size w6 a6 n2 c6 S.classes)
  (f5 : ∀ ad, a5 = some ad → w1.heap.size ≤ ad.block ∧ ∀ j, w6.frozen? ⟨ad.block, j, none⟩ = false) (f6 : ∀ ad, a6 = some ad → w1.heap.size ≤ ad.block ∧ ∀ j, w6.frozen? ⟨ad.block, j, none⟩ = false)
  (hne : ∀ ad ad2, a5 = some ad → a6 = some ad2 → ad.block ≠ ad2.block) :
  TwinX S n n2 w1 (w6.alloc (.cells #[.slice a5 n c5, .slice a6 n2 c6] T)) w6.heap.size a5 c5 a6 c6 := by
 have hk : Below w6.heap.size w6 (w6.alloc (.cells #[.slice a5 n c5, .slice a6 n2 c6] T)) := (Zl _ _).alloc (Zr _) _
 refine ⟨hb.size, by simp, hb.alloc hb.size _, by rw [World.cell?_alloc_new]; rfl, by rw [World.cell?_alloc_new]; rfl, ht.keep hk hk.size, hc.keep hk hk.size, fun ad e => ⟨(f5 ad e).1, ?_, fun j => ?_⟩, fun ad e => ⟨(f6 ad e).1, ?_, fun j => ?_⟩, hne⟩
 ·have := ht.lies.lt _ e; omega
 ·rw [hk.frozen (p := ⟨ad.block, j, none⟩) (show ad.block < _ from ht.lies.lt _ e)]; exact (f5 ad e).2 j
 ·have := hc.lies.lt _ e; omega
 ·rw [hk.frozen (p := ⟨ad.block, j, none⟩) (show ad.block < _ from hc.lies.lt _ e)]; exact (f6 ad e).2 j
set_option maxRecDepth 20000 in
set_option maxHeartbeats 40000000 in
theorem twin_new (S : PSchema) (B : Nat) (a a2 : Option Addr) (n c n2 c2 : Nat) (w : World) (h : Types B w a n c S.types) (h2 : Classes B w a2 n2 c2 S.classes) (hB : B ≤ w.heap.size) (hn : n ≤ 1024) (hn2 : n2 ≤ 1024) :
  Calls Tryz.prog 43 #[.agg #[.slice a n c, .slice a2 n2 c2]] w fun e w' => ∃ a' c' a2' c2', e = .returned (.agg #[.slice a' n c', .slice a2' n2 c2']) ∧ Types w'.heap.size w' a' n c' S.types ∧ Classes w'.heap.size w' a2' n2 c2' S.classes ∧ Below w.heap.size w w' ∧ (∀ ad, a' = some ad → w.heap.size ≤ ad.block) ∧ (∀ ad, a2' = some ad → w.heap.size ≤ ad.block) := by
 have hb0 : Below w.heap.size w ((w.alloc (.cells #[.slice a n c, .slice a2 n2 c2] 25)).alloc (.cells #[.slice none 0 0, .slice none 0 0] 25)) := ((Zl _ w).alloc (Zr _) _).alloc (by simp) _
 have hz : ((w.alloc (.cells #[.slice a n c, .slice a2 n2 c2] 25)).alloc (.cells #[.slice none 0 0, .slice none 0 0] 25)).heap.size = w.heap.size + 2 := by simp
 go_enter Tryz.func43, Tryz.ntmps43
 go_wp2_with fail
 have hx0 : ((w.alloc (.cells #[.slice a n c, .slice a2 n2 c2] 25)).alloc (.cells #[.slice none 0 0, .slice none 0 0] 25)).cell? ⟨w.heap.size, 0, none⟩ = some (.slice a n c) := by rw [World.cell?_alloc_lt _ _ _ (by simp), World.cell?_alloc_new]; rfl
 have hx1 : ((w.alloc (.cells #[.slice a n c, .slice a2 n2 c2] 25)).alloc (.cells #[.slice none 0 0, .slice none 0 0] 25)).cell? ⟨w.heap.size, 1, none⟩ = some (.slice a2 n2 c2) := by rw [World.cell?_alloc_lt _ _ _ (by simp), World.cell?_alloc_new]; rfl
 have hyz : Zed ((w.alloc (.cells #[.slice a n c, .slice a2 n2 c2] 25)).alloc (.cells #[.slice none 0 0, .slice none 0 0] 25)) (w.heap.size + 1) := by
  have := Zed.made (w.alloc (.cells #[.slice a n c, .slice a2 n2 c2] 25)) 25
  rw [show (w.alloc (.cells #[.slice a n c, .slice a2 n2 c2] 25)).heap.size = w.heap.size + 1 by simp] at this
  exact this
 generalize (w.alloc (.cells #[.slice a n c, .slice a2 n2 c2] 25)).alloc (.cells #[.slice none 0 0, .slice none 0 0] 25) = w1 at hb0 hz hx0 hx1 hyz ⊢
 have HY := Zh hyz; clear hyz
 have ct : ∀ wr, Below w1.heap.size w1 wr → _ := fun wr hb => cloneT_any B a n c S.types wr (h.keep ((hb0.mono hB).trans (hb.mono (Nat.le_trans hB hb0.size))) (Zr _)) (Nat.le_trans hB (Nat.le_trans hb0.size hb.size)) hn
 have cc : ∀ wr, Below w1.heap.size w1 wr → _ := fun wr hb => cloneC_any B a2 n2 c2 S.classes wr (h2.keep ((hb0.mono hB).trans (hb.mono (Nat.le_trans hB hb0.size))) (Zr _)) (Nat.le_trans hB (Nat.le_trans hb0.size hb.size)) hn2
 have CT := Zh ct; have CC := Zh cc; have HB0 := Zh hb0; have HZ := Zh hz; clear ct cc h h2 hB hb0 hz
 go_upto_region 2 with fail
 go_cut [3] from 7 to 13 (fun zv wr => ∃ Z a5 c5 a6 c6, zv = .pointer (some ⟨Z, 0, none⟩) ∧ TwinX S n n2 w1 wr Z a5 c5 a6 c6)
 case first =>
  have hx : ∀ w3, Below w1.heap.size w1 w3 → w3.cell? ⟨w.heap.size, 0, none⟩ = some (.slice a n c) ∧ w3.cell? ⟨w.heap.size, 1, none⟩ = some (.slice a2 n2 c2) := fun w3 hb => ⟨by rw [hb.cell (Zb w1 _ hx0)]; exact hx0, by rw [hb.cell (Zb w1 _ hx1)]; exact hx1⟩
  have HX := Zh hx; clear hx
  have hd1 : Below w1.heap.size w1 w1.drew := (Zl _ w1).drew
  have HD1 := Zh (Zi hd1 (hd1.alloc (Zr _) (.cells #[.slice none 0 0, .slice none 0 0] 25))); clear hd1
  go_region_held3 (fun w3 => w3.cell? ⟨w.heap.size, 0, none⟩ = some (.slice a n c) ∧ w3.cell? ⟨w.heap.size, 1, none⟩ = some (.slice a2 n2 c2))
   (first
    | exact HX.out _ HD1.out.1 | exact HX.out _ HD1.out.2
    | exact HX.out _ H5.out.1 | exact HX.out _ (H5.out.1.alloc H5.out.1.size _)
    | exact HX.out _ H6.out.1 | exact HX.out _ (H6.out.1.alloc H6.out.1.size _)
    | exact HX.out _ ((H6.out.1.setCell (by first | exact Zr _ | exact H5.out.1.size) _).setCell (by first | exact Zr _ | exact H5.out.1.size) _)
    | exact HX.out _ (H6.out.1.setCell (by first | exact Zr _ | exact H5.out.1.size) _)
    | fail)
   (first
    | (go_at_call 87; refine (CT.out _ (by first | exact HD1.out.1 | exact HD1.out.2)).mono ?_; rintro e w5 ⟨a5, c5, rfl, hb5, ht5, hf5⟩; (first | ((have zz : Zed w5 w1.heap.size := Zed.keep (w := w1.drew.alloc (.cells #[.slice none 0 0, .slice none 0 0] 25)) (Zed.made w1.drew 25) hb5); (have Z5 := Zh zz); clear zz) | skip); have H5 := Zh (Zi ((by first | exact bnext HD1.out.1 hb5 | exact bnext HD1.out.2 hb5) : Below w1.heap.size w1 w5) (Zi ht5 hf5)); clear hb5 ht5 hf5)
    | (go_at_call 88; refine (CC.out _ (by first | exact H5.out.1 | exact H5.out.1.alloc H5.out.1.size _)).mono ?_; rintro e w6 ⟨a6, c6, rfl, hb6, ht6, hf6⟩; (first | ((have zz : Zed w6 w5.heap.size := by with_reducible exact (Zed.made w5 25).keep hb6); (have ZD := Zh zz); (obtain ⟨zf0, zf1, zc0, zc1, zff⟩ := zz); clear zff) | ((have zz := Z5.out.keep hb6); (have ZD := Zh zz); (obtain ⟨zf0, zf1, zc0, zc1, zff⟩ := zz); clear zff) | skip); have H6 := Zh (Zi ((by first | exact bnext H5.out.1 hb6 | exact bnext (H5.out.1.alloc H5.out.1.size _) hb6) : Below w1.heap.size w1 w6) (Zi ((by first | exact hb6 | exact bnext ((Zl _ w5).alloc (Zr _) _) hb6) : Below w5.heap.size w5 w6) (Zi ht6 hf6))); clear hb6 ht6 hf6)
    | fail)
  all_goals go_wp2_with fail
  ·go_meet
   obtain ⟨b15, ht5, f5⟩ := H5.out
   obtain ⟨b16, b56, ht6, f6⟩ := H6.out
   refine ⟨w6.heap.size, a5, c5, a6, c6, rfl, TwinX.of2 b16 (ht5.keep b56 b56.size) ht6 (fun ad e => ⟨(f5 ad e).1, fun j => ?_⟩) (fun ad e => ⟨Nat.le_trans b15.size (f6 ad e).1, (f6 ad e).2⟩) (fun ad ad2 e e2 => ?_)⟩
   ·rw [b56.frozen (p := ⟨ad.block, j, none⟩) (show ad.block < _ from ht5.lies.lt _ e)]; exact (f5 ad e).2 j
   ·have h1 := ht5.lies.lt _ e; have h2 := (f6 ad2 e2).1; omega
  ·go_meet
   obtain ⟨b15, ht5, f5⟩ := H5.out
   obtain ⟨b16, b56, ht6, f6⟩ := H6.out
   refine ⟨w5.heap.size, a5, c5, a6, c6, rfl, TwinX.of b16 b15.size ZD.out (ht5.keep b56 b56.size) ht6 (fun ad e => ⟨(f5 ad e).1, ?_, fun j => ?_⟩) (fun ad e => ⟨?_, ?_, (f6 ad e).2⟩) (fun ad ad2 e e2 => ?_)⟩
   ·have := ht5.lies.lt _ e; omega
   ·rw [b56.frozen (p := ⟨ad.block, j, none⟩) (show ad.block < _ from ht5.lies.lt _ e)]; exact (f5 ad e).2 j
   ·have := (f6 ad e).1; have := b15.size; simp at *; omega
   ·have := (f6 ad e).1; simp at *; omega
   ·have h1 := ht5.lies.lt _ e; have h2 := (f6 ad2 e2).1; simp at h2; omega
  ·go_meet
   obtain ⟨b15, ht5, f5⟩ := H5.out
   obtain ⟨b16, b56, ht6, f6⟩ := H6.out
   refine ⟨w1.heap.size, a5, c5, a6, c6, rfl, TwinX.of b16 (Zr _) ZD.out (ht5.keep b56 b56.size) ht6 (fun ad e => ⟨?_, ?_, fun j => ?_⟩) (fun ad e => ⟨?_, ?_, (f6 ad e).2⟩) (fun ad ad2 e e2 => ?_)⟩
   ·have := (f5 ad e).1; simp at *; omega
   ·have := (f5 ad e).1; simp at *; omega
   ·rw [b56.frozen (p := ⟨ad.block, j, none⟩) (show ad.block < _ from ht5.lies.lt _ e)]; exact (f5 ad e).2 j
   ·have := (f6 ad e).1; have := b15.size; omega
   ·have h1 := (f6 ad e).1; have h2 := Zb w5 _ Z5.out.c0; simp only at h2; omega
   ·have h1 := ht5.lies.lt _ e; have h2 := (f6 ad2 e2).1; omega
 case rest =>
  obtain ⟨Z, a5, c5, a6, c6, rfl, hZ⟩ := hcut
  have HZA := Zh hZ; clear hZ
  clear HZ CT CC hx0 hx1
  have ht0 := HZA.out.t0
  go_wp2_with fail
  clear ht0
  go_loopw [17] (fun iv wr => ∃ i : Nat, iv = .int .i64 i ∧ i ≤ n ∧ TwinX S n n2 w1 wr Z a5 c5 a6 c6) (fun iv _ => n - (intOf iv).toNat)
  case atStart => exact ⟨0, rfl, Nat.zero_le _, HZA.out⟩
  case round =>
   clear HZA
   obtain ⟨i, rfl, hi, hx⟩ := hrel
   have HX := Zh hx; clear hx
   by_cases hlt : i < n
   ·obtain ⟨tb, tx, rfl, _⟩ := HX.out.types.lies.ptr (by omega)
    have hli : i < S.types.length := by have := HX.out.types.len; omega
    have hT := HX.out.types.cell tb tx rfl i _ (List.getElem?_eq_getElem hli)
    obtain ⟨na, nn, nc, e1, hte⟩ := hT.c1
    have e0 := HX.out.t0
    have ef := (HX.out.tf _ rfl).2.2 (tx + i * 9 + 1)
    have hcp := fun wr2 (hb : Below wr.heap.size wr wr2) => copied_any wr.heap.size na nn nc (S.types[i]).names wr2 (hte.keep hb (Zr _))
    have HCP := Zh hcp; clear hcp hT hte
    have hti : (0 : Int) ≤ (i : Int) := by omega
    have hkp : ∀ w5, Below wr.heap.size wr w5 → w5.cell? ⟨Z, 0, none⟩ = some (.slice (some ⟨tb, tx, none⟩) n c5) ∧ w5.cell? ⟨tb, tx + i * 9 + 1, none⟩ = some (.slice na nn nc) ∧ w5.frozen? ⟨tb, tx + i * 9 + 1, none⟩ = false := fun w5 hb =>
     ⟨by rw [hb.cell (Zb wr _ e0)]; exact e0, by rw [hb.cell (Zb wr _ e1)]; exact e1, by rw [hb.frozen (Zb wr _ e1)]; exact ef⟩
    have HKP := Zh hkp; clear hkp
    have hzn : (⟨Z, 0, none⟩ : Addr) ≠ ⟨tb, tx + i * 9 + 1, none⟩ := fun e => (HX.out.tf _ rfl).2.1 (by injection e with e1 _ _; exact e1.symm)
    have HZN := Zh hzn; clear hzn
    go_wp2_with fail
    go_region_law ((go_simp; go_at_call 63; refine (HCP.out _ ((Zl _ wr).drew)).mono ?_; rintro e w5 ⟨v, rfl, hv⟩; obtain ⟨va, vn, vc, rfl, hvt, hvf, hvb⟩ := hv; have hb5 := bnext ((Zl _ wr).drew) hvb; obtain ⟨i0, i1, i2⟩ := HKP.out w5 hb5; have H5 := Zh (Zi hb5 hvt); clear hb5 hvt hvf hvb))
    all_goals go_wp2_with fail
    all_goals exact ⟨⟨i + 1, by simp, by omega, (HX.out.next H5.out.1).setT (List.getElem?_eq_getElem hli) H5.out.2⟩, by simp [intOf]; omega⟩
   ·have ht1 := HX.out.t1
    go_wp2_with fail
    clear ht1
    go_loopw [36] (fun iv wr => ∃ i : Nat, iv = .int .i64 i ∧ i ≤ n2 ∧ TwinX S n n2 w1 wr Z a5 c5 a6 c6) (fun iv _ => n2 - (intOf iv).toNat)
    case atStart => exact ⟨0, rfl, Nat.zero_le _, HX.out⟩
    case round =>
     clear HX
     obtain ⟨k, rfl, hk, hx⟩ := hrel
     have HX := Zh hx; clear hx
     by_cases hlt2 : k < n2
     ·obtain ⟨tb, tx, rfl, _⟩ := HX.out.classes.lies.ptr (by omega)
      have hli : k < S.classes.length := by have := HX.out.classes.len; omega
      have e0 := HX.out.t1
      have hT := HX.out.classes.cell tb tx rfl k _ (List.getElem?_eq_getElem hli)
      obtain ⟨a1, m1, d1, e1, q1⟩ := hT.c1
      obtain ⟨a2', m2, d2, e2, q2⟩ := hT.c2
      obtain ⟨a4, m4, d4, e4, q4⟩ := hT.c4
      obtain ⟨a5', m5, d5, e5, q5⟩ := hT.c5
      have hti : (0 : Int) ≤ (k : Int) := by omega
      have hkp : ∀ w5, Below wr.heap.size wr w5 → (w5.cell? ⟨tb, tx + k * 6 + 1, none⟩ = some (.slice a1 m1 d1) ∧ w5.cell? ⟨tb, tx + k * 6 + 2, none⟩ = some (.slice a2' m2 d2) ∧ w5.cell? ⟨tb, tx + k * 6 + 4, none⟩ = some (.slice a4 m4 d4) ∧ w5.cell? ⟨tb, tx + k * 6 + 5, none⟩ = some (.slice a5' m5 d5)) ∧ ∀ j, w5.frozen? ⟨tb, j, none⟩ = false := fun w5 hb =>
       ⟨⟨by rw [hb.cell (Zb wr _ e1)]; exact e1, by rw [hb.cell (Zb wr _ e2)]; exact e2, by rw [hb.cell (Zb wr _ e4)]; exact e4, by rw [hb.cell (Zb wr _ e5)]; exact e5⟩,
        fun j => by rw [hb.frozen (p := ⟨tb, j, none⟩) (show tb < _ from Zb wr _ e1)]; exact (HX.out.cf _ rfl).2.2 j⟩
      have HKP := Zh hkp; clear hkp
      have C1 := Zh (fun wr2 (hb : Below wr.heap.size wr wr2) => copied_any wr.heap.size a1 m1 d1 _ wr2 (q1.keep hb (Zr _)))
      have C2 := Zh (fun wr2 (hb : Below wr.heap.size wr wr2) => copied_any wr.heap.size a2' m2 d2 _ wr2 (q2.keep hb (Zr _)))
      have C4 := Zh (fun wr2 (hb : Below wr.heap.size wr wr2) => copied_any wr.heap.size a4 m4 d4 _ wr2 (q4.keep hb (Zr _)))
      have C5 := Zh (fun wr2 (hb : Below wr.heap.size wr wr2) => copied_any wr.heap.size a5' m5 d5 _ wr2 (q5.keep hb (Zr _)))
      clear q1 q2 q4 q5 hT
      go_wp2_with fail
      clear e0
      refine wp_region_C (s0 := 26) (C := fun w5 => w5.cell? ⟨tb, tx + k * 6 + 1, none⟩ = some (.slice a1 m1 d1) ∧ w5.cell? ⟨tb, tx + k * 6 + 2, none⟩ = some (.slice a2' m2 d2) ∧ w5.cell? ⟨tb, tx + k * 6 + 4, none⟩ = some (.slice a4 m4 d4) ∧ w5.cell? ⟨tb, tx + k * 6 + 5, none⟩ = some (.slice a5' m5 d5)) (by kernel_rfl) (HKP.out _ ((Zl _ wr).drew)).1 (fun hC => ?_)
      refine Zu (i := 0) rfl (fun _ => hC) ?r0
      (try simp only [Act.put, Z1, Z2, Z3, Z4, Z5, Z6])
      refine Zu (i := 1) rfl (fun _ => hC) ?r1
      (try simp only [Act.put, Z1, Z2, Z3, Z4, Z5, Z6])
      refine Zu (i := 2) rfl (fun _ => hC) ?r2
      (try simp only [Act.put, Z1, Z2, Z3, Z4, Z5, Z6])
      refine Zu (i := 3) rfl (fun _ => hC) ?r3
      (try simp only [Act.put, Z1, Z2, Z3, Z4, Z5, Z6])
      refine Zu (i := 4) rfl (fun _ => hC) ?r4
      (try simp only [Act.put, Z1, Z2, Z3, Z4, Z5, Z6])
      refine Zu (i := 5) rfl (fun _ => hC) ?r5
      (try simp only [Act.put, Z1, Z2, Z3, Z4, Z5, Z6])
      refine Zu (i := 6) rfl (fun _ => hC) ?r6
      (try simp only [Act.put, Z1, Z2, Z3, Z4, Z5, Z6])
      refine Zv (i := 7) rfl rfl hC ?r7
      (try simp only [Act.put, Z1, Z2, Z3, Z4, Z5, Z6])
      refine Zu (i := 9) rfl (fun _ => hC) ?r9
      (try simp only [Act.put, Z1, Z2, Z3, Z4, Z5, Z6])
      refine Zu (i := 10) rfl (fun _ => hC) ?r10
      (try simp only [Act.put, Z1, Z2, Z3, Z4, Z5, Z6])
      refine Zu (i := 11) rfl (fun _ => hC) ?r11
      (try simp only [Act.put, Z1, Z2, Z3, Z4, Z5, Z6])
      refine Zv (i := 12) rfl rfl hC ?r12
      (try simp only [Act.put, Z1, Z2, Z3, Z4, Z5, Z6])
      refine Zu (i := 14) rfl (fun _ => hC) ?r14
      (try simp only [Act.put, Z1, Z2, Z3, Z4, Z5, Z6])
      refine Zu (i := 15) rfl (fun _ => hC) ?r15
      (try simp only [Act.put, Z1, Z2, Z3, Z4, Z5, Z6])
      refine Zu (i := 16) rfl (fun _ => hC) ?r16
      (try simp only [Act.put, Z1, Z2, Z3, Z4, Z5, Z6])
      refine Zv (i := 17) rfl rfl hC ?r17
      (try simp only [Act.put, Z1, Z2, Z3, Z4, Z5, Z6])
      refine Zu (i := 19) rfl (fun _ => hC) ?r19
      (try simp only [Act.put, Z1, Z2, Z3, Z4, Z5, Z6])
      refine Zu (i := 20) rfl (fun _ => hC) ?r20
      (try simp only [Act.put, Z1, Z2, Z3, Z4, Z5, Z6])
      refine Zu (i := 21) rfl (fun _ => hC) ?r21
      (try simp only [Act.put, Z1, Z2, Z3, Z4, Z5, Z6])
      refine Zv (i := 22) rfl rfl hC ?r22
      (try simp only [Act.put, Z1, Z2, Z3, Z4, Z5, Z6])
      refine wpC_step (i := 8) (by kernel_rfl) rfl (fun K1 hK1 => ?_)
      go_simp
      go_at_call 63; refine (C1.out _ ((Zl _ wr).drew)).mono ?_; rintro e x1 ⟨v, rfl, hv⟩; obtain ⟨va1, vn1, vc1, rfl, hvt, hvf, hvb⟩ := hv; have hb5 := bnext ((Zl _ wr).drew) hvb; have H1 := Zh (Zi hb5 (Zi hvt hvb)); clear hb5 hvt hvf hvb
      go_wp2_with fail
      refine hK1.out _ _ (fun _ => (HKP.out _ H1.out.1).1) ?_
      clear hK1 K1 hC
      have hC := (HKP.out _ H1.out.1).1
      (try simp only [Act.put, Z1, Z2, Z3, Z4, Z5, Z6])
      refine wpC_step (i := 13) (by kernel_rfl) rfl (fun K1 hK1 => ?_)
      go_simp
      go_at_call 63; refine (C2.out _ (H1.out.1)).mono ?_; rintro e x2 ⟨v, rfl, hv⟩; obtain ⟨va2, vn2, vc2, rfl, hvt, hvf, hvb⟩ := hv; have hb5 := bnext (H1.out.1) hvb; have H2 := Zh (Zi hb5 (Zi hvt hvb)); clear hb5 hvt hvf hvb
      go_wp2_with fail
      refine hK1.out _ _ (fun _ => (HKP.out _ H2.out.1).1) ?_
      clear hK1 K1 hC
      have hC := (HKP.out _ H2.out.1).1
      (try simp only [Act.put, Z1, Z2, Z3, Z4, Z5, Z6])
      refine wpC_step (i := 18) (by kernel_rfl) rfl (fun K1 hK1 => ?_)
      go_simp
      go_at_call 63; refine (C4.out _ (H2.out.1)).mono ?_; rintro e x4 ⟨v, rfl, hv⟩; obtain ⟨va4, vn4, vc4, rfl, hvt, hvf, hvb⟩ := hv; have hb5 := bnext (H2.out.1) hvb; have H4 := Zh (Zi hb5 (Zi hvt hvb)); clear hb5 hvt hvf hvb
      go_wp2_with fail
      refine hK1.out _ _ (fun _ => (HKP.out _ H4.out.1).1) ?_
      clear hK1 K1 hC
      have hC := (HKP.out _ H4.out.1).1
      (try simp only [Act.put, Z1, Z2, Z3, Z4, Z5, Z6])
      refine wpC_step (i := 23) (by kernel_rfl) rfl (fun K1 hK1 => ?_)
      go_simp
      go_at_call 63; refine (C5.out _ (H4.out.1)).mono ?_; rintro e x5 ⟨v, rfl, hv⟩; obtain ⟨va5, vn5, vc5, rfl, hvt, hvf, hvb⟩ := hv; have hb5 := bnext (H4.out.1) hvb; have H5 := Zh (Zi hb5 (Zi hvt hvb)); clear hb5 hvt hvf hvb
      go_wp2_with fail
      refine hK1.out _ _ (fun _ => (HKP.out _ H5.out.1).1) ?_
      clear hK1 K1 hC
      have hC := (HKP.out _ H5.out.1).1
      (try simp only [Act.put, Z1, Z2, Z3, Z4, Z5, Z6])
      refine Zu (i := 24) rfl (fun _ => hC) ?r24
      (try simp only [Act.put, Z1, Z2, Z3, Z4, Z5, Z6])
      refine Zu (i := 25) rfl (fun _ => hC) ?r25
      (try simp only [Act.put, Z1, Z2, Z3, Z4, Z5, Z6])
      have lf := (HKP.out _ H5.out.1).2
      have f1 := lf (tx + k * 6 + 1); have f2 := lf (tx + k * 6 + 2); have f4 := lf (tx + k * 6 + 4); have f5 := lf (tx + k * 6 + 5)
      obtain ⟨l1, l2, l4, l5⟩ := hC
      clear lf
      refine wpC_step (i := 26) (by kernel_rfl) rfl (fun K1 hK1 => ?_)
      go_simp
      refine hK1.out _ _ (fun h => absurd (h.symm.trans (by kernel_rfl : _ = true)) (by decide)) ?_
      clear hK1 K1
      (try simp only [Act.put, Z1, Z2, Z3, Z4, Z5, Z6])
      refine Zu (i := 27) rfl (fun h => absurd (h.symm.trans (by kernel_rfl : _ = true)) (by decide)) ?r27
      (try simp only [Act.put, Z1, Z2, Z3, Z4, Z5, Z6])
      refine Zu (i := 28) rfl (fun h => absurd (h.symm.trans (by kernel_rfl : _ = true)) (by decide)) ?r28
      (try simp only [Act.put, Z1, Z2, Z3, Z4, Z5, Z6])
      refine wpC_step (i := 29) (by kernel_rfl) rfl (fun K1 hK1 => ?_)
      go_simp
      refine hK1.out _ _ (fun h => absurd (h.symm.trans (by kernel_rfl : _ = true)) (by decide)) ?_
      clear hK1 K1
      (try simp only [Act.put, Z1, Z2, Z3, Z4, Z5, Z6])
      refine Zu (i := 30) rfl (fun h => absurd (h.symm.trans (by kernel_rfl : _ = true)) (by decide)) ?r30
      (try simp only [Act.put, Z1, Z2, Z3, Z4, Z5, Z6])
      refine Zu (i := 31) rfl (fun h => absurd (h.symm.trans (by kernel_rfl : _ = true)) (by decide)) ?r31
      (try simp only [Act.put, Z1, Z2, Z3, Z4, Z5, Z6])
      refine wpC_step (i := 32) (by kernel_rfl) rfl (fun K1 hK1 => ?_)
      go_simp
      refine hK1.out _ _ (fun h => absurd (h.symm.trans (by kernel_rfl : _ = true)) (by decide)) ?_
      clear hK1 K1
      (try simp only [Act.put, Z1, Z2, Z3, Z4, Z5, Z6])
      refine Zu (i := 33) rfl (fun h => absurd (h.symm.trans (by kernel_rfl : _ = true)) (by decide)) ?r33
      (try simp only [Act.put, Z1, Z2, Z3, Z4, Z5, Z6])
      refine Zu (i := 34) rfl (fun h => absurd (h.symm.trans (by kernel_rfl : _ = true)) (by decide)) ?r34
      (try simp only [Act.put, Z1, Z2, Z3, Z4, Z5, Z6])
      refine wpC_step (i := 35) (by kernel_rfl) rfl (fun K1 hK1 => ?_)
      go_simp
      refine hK1.out _ _ (fun h => absurd (h.symm.trans (by kernel_rfl : _ = true)) (by decide)) ?_
      clear hK1 K1
      (try simp only [Act.put, Z1, Z2, Z3, Z4, Z5, Z6])
      refine wpC_done (by kernel_rfl) ?_ _
      clear f1 f2 f4 f5 l1 l2 l4 l5
      go_wp2_with fail
      obtain ⟨b1, t1, _⟩ := H1.out; obtain ⟨b2, t2, n2'⟩ := H2.out; obtain ⟨b4, t4, n4'⟩ := H4.out; obtain ⟨b5, t5, n5'⟩ := H5.out
      have g0 := HX.out.next b5
      refine ⟨⟨k + 1, by simp, by omega, g0.setC4 (List.getElem?_eq_getElem hli) ((t1.keep n2' n2'.size |>.keep n4' n4'.size).keep n5' n5'.size) ((t2.keep n4' n4'.size).keep n5' n5'.size) (t4.keep n5' n5'.size) t5⟩, by simp [intOf]; omega⟩
     ·have ht2 := HX.out.t0
      have ht3 := HX.out.t1
      have hy0 : wr.cell? ⟨w.heap.size + 1, 0, none⟩ = some (.slice none 0 0) := by rw [HX.out.below.cell (Zb w1 _ HY.out.c0)]; exact HY.out.c0
      have hy1 : wr.cell? ⟨w.heap.size + 1, 1, none⟩ = some (.slice none 0 0) := by rw [HX.out.below.cell (Zb w1 _ HY.out.c1)]; exact HY.out.c1
      have hf0 : wr.frozen? ⟨w.heap.size + 1, 0, none⟩ = false := by rw [HX.out.below.frozen (Zb w1 _ HY.out.c0)]; exact HY.out.f0
      have hf1 : wr.frozen? ⟨w.heap.size + 1, 1, none⟩ = false := by rw [HX.out.below.frozen (Zb w1 _ HY.out.c1)]; exact HY.out.f1
      go_wp2_with fail
      refine bodyPost_ret (v := .agg #[.slice a5 n c5, .slice a6 n2 c6]) (by simp [results, Tryz.results43, go_sem, *]) rfl ?_
      have i0 : IsSl wr ⟨w.heap.size + 1, 0, none⟩ := ⟨_, _, _, hy0⟩
      have hy1' : (wr.setCell ⟨w.heap.size + 1, 0, none⟩ (.slice a5 n c5)).cell? ⟨w.heap.size + 1, 1, none⟩ = some (.slice none 0 0) := cell_set_ne hy1 (by intro e; injection e with _ e2 _; omega)
      have i1 : IsSl (wr.setCell ⟨w.heap.size + 1, 0, none⟩ (.slice a5 n c5)) ⟨w.heap.size + 1, 1, none⟩ := ⟨_, _, _, hy1'⟩
      have hr : ∀ ad : Addr, w1.heap.size ≤ ad.block → ad.block ≠ (w.heap.size + 1) := fun ad h => by have := Zb w1 _ HY.out.c0; simp only at this; omega
      refine ⟨a5, c5, a6, c6, rfl, ?_, ?_, ?_, fun ad e => Nat.le_trans HB0.out.size (HX.out.tf ad e).1, fun ad e => Nat.le_trans HB0.out.size (HX.out.cf ad e).1⟩
      ·rw [size_set, size_set]; exact (HX.out.types.set i0 _ (fun ad e => hr ad (HX.out.tf ad e).1)).set i1 _ (fun ad e => hr ad (HX.out.tf ad e).1)
      ·rw [size_set, size_set]; exact (HX.out.classes.set i0 _ (fun ad e => hr ad (HX.out.cf ad e).1)).set i1 _ (fun ad e => hr ad (HX.out.cf ad e).1)
      ·have hb := HB0.out.trans (HX.out.below.mono HB0.out.size)
       exact (hb.setCell (by simp) _).setCell (by simp) _
theorem twin_any (S : PSchema) (B : Nat) (a a2 : Option Addr) (n c n2 c2 : Nat) (w : World) (h : Types B w a n c S.types) (h2 : Classes B w a2 n2 c2 S.classes) (hB : B ≤ w.heap.size) (hn : n ≤ 1024) (hn2 : n2 ≤ 1024) :
  Calls Tryz.prog 43 #[.agg #[.slice a n c, .slice a2 n2 c2]] w fun e w' => ∃ a' c' a2' c2', e = .returned (.agg #[.slice a' n c', .slice a2' n2 c2']) ∧ Types w'.heap.size w' a' n c' S.types ∧ Classes w'.heap.size w' a2' n2 c2' S.classes ∧ Below w.heap.size w w' :=
 (twin_new S B a a2 n c n2 c2 w h h2 hB hn hn2).mono fun e w' ⟨a', c', a2', c2', h1, h3, h4, h5, _, _⟩ => ⟨a', c', a2', c2', h1, h3, h4, h5⟩
end Go.Proofs.YtlmfbjhokkpjhaaGreatDoor
