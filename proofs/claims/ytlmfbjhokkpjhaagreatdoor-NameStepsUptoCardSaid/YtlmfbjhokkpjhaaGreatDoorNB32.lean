/- Part 32 of the walks and plain laws, joined: KeyD, SameV. -/
import Derived.Test.YtlmfbjhokkpjhaaGreatDoorNB00
import Derived.Test.YtlmfbjhokkpjhaaGreatDoorNB31
import Derived.Test.YtlmfbjhokkpjhaaGreatDoorNB26
import Derived.Test.YtlmfbjhokkpjhaaGreatDoorNB15
set_option linter.unusedVariables false
set_option linter.unusedSimpArgs false
namespace Go.Proofs.YtlmfbjhokkpjhaaGreatDoor
open Go Go.RowKit Go.Maps
def ReadAt (S : PSchema) (g : Nat) (w : World) (u : Str) : Prop := ∀ (wz : World) (v : ByteArray), Below w.heap.size w wz → toL v = u → Calls Tryz.prog 122 #[.pointer (some ⟨g, 0, none⟩), .string v] wz fun e w' => e = .returned (ret2 (rdK S u)) ∧ Below wz.heap.size wz w'
theorem ReadAt.next {S : PSchema} {g : Nat} {w w' : World} {u : Str} (h : ReadAt S g w u) (k : Below w.heap.size w w') : ReadAt S g w' u := fun wz v hb hv => h wz v (k.trans (hb.mono k.size)) hv
theorem Sch.rng {w : World} {g : Nat} {S : PSchema} (h : Sch w g S) (t : Nat) : -128 ≤ (fullT S t).eq ∧ (fullT S t).eq ≤ 127 := by
 obtain ⟨_, _, _, _, ht⟩ := h.base.types
 refine (inheritT_range S (fun t => ?_) t _).1
 by_cases hl : t < S.types.length
 ·have hx : tyAt S t = S.types[t] := by unfold tyAt; rw [List.getD_eq_getElem?_getD, List.getElem?_eq_getElem hl]; rfl
  have := ht.ok _ (List.getElem_mem hl)
  rw [hx]
  exact ⟨this.eq, this.ord, this.part⟩
 ·have hx : tyAt S t = zeroT := by unfold tyAt; rw [List.getD_eq_getElem?_getD, List.getElem?_eq_none (by omega)]; rfl
  rw [hx]; decide
def formEs : List MapEntry := [⟨.int .i8 0, .int .i8 1, 0⟩, ⟨.int .i8 1, .int .i8 2, 1⟩, ⟨.int .i8 2, .int .i8 3, 2⟩, ⟨.int .i8 3, .int .i8 4, 3⟩, ⟨.int .i8 4, .int .i8 5, 4⟩, ⟨.int .i8 5, .int .i8 6, 5⟩, ⟨.int .i8 6, .int .i8 7, 6⟩, ⟨.int .i8 8, .int .i8 8, 7⟩]
theorem formEs_look (s : Int) (h0 : 0 ≤ s) (h8 : s ≤ 8) (h7 : s ≠ 7) : ∃ i, Instr.findNow (.int .i8) (.int .i8 s) formEs 0 = some (some (i, .int .i8 (formV s))) := by
 rcases (by omega : s = 0 ∨ s = 1 ∨ s = 2 ∨ s = 3 ∨ s = 4 ∨ s = 5 ∨ s = 6 ∨ s = 8) with rfl | rfl | rfl | rfl | rfl | rfl | rfl | rfl
 ·exact ⟨0, rfl⟩
 ·exact ⟨1, rfl⟩
 ·exact ⟨2, rfl⟩
 ·exact ⟨3, rfl⟩
 ·exact ⟨4, rfl⟩
 ·exact ⟨5, rfl⟩
 ·exact ⟨6, rfl⟩
 ·exact ⟨7, rfl⟩
def byEs : List MapEntry := [⟨.int .i8 19, .func (.func 122) #[] #[], 0⟩, ⟨.int .i8 20, .func (.func 123) #[] #[], 1⟩]
theorem byEs_none (s : Int) (h : s ≠ 19) (h2 : s ≠ 20) : Instr.findNow (.int .i8) (.int .i8 s) byEs 0 = some none := by
 have e1 : (s == 19) = false := beq_eq_false_iff_ne.2 h
 have e2 : (s == 20) = false := beq_eq_false_iff_ne.2 h2
 simp [Instr.findNow, Instr.sameNow, byEs, e1, e2]
theorem i8_key (s : Int) : Go.MapKept.IsKey (.int .i8) (.int .i8 s) := by simp [Go.MapKept.IsKey]
theorem forms_upd (W : World) : (Instr.mapUpdate 184 (.map (some W.heap.size)) (.int .i8 0) (.int .i8 1)).run Tryz.prog (MapW W (formEs.take 0)) = .ok () (MapW W (formEs.take 1)) ∧
  (Instr.mapUpdate 184 (.map (some W.heap.size)) (.int .i8 1) (.int .i8 2)).run Tryz.prog (MapW W (formEs.take 1)) = .ok () (MapW W (formEs.take 2)) ∧
  (Instr.mapUpdate 184 (.map (some W.heap.size)) (.int .i8 2) (.int .i8 3)).run Tryz.prog (MapW W (formEs.take 2)) = .ok () (MapW W (formEs.take 3)) ∧
  (Instr.mapUpdate 184 (.map (some W.heap.size)) (.int .i8 3) (.int .i8 4)).run Tryz.prog (MapW W (formEs.take 3)) = .ok () (MapW W (formEs.take 4)) ∧
  (Instr.mapUpdate 184 (.map (some W.heap.size)) (.int .i8 4) (.int .i8 5)).run Tryz.prog (MapW W (formEs.take 4)) = .ok () (MapW W (formEs.take 5)) ∧
  (Instr.mapUpdate 184 (.map (some W.heap.size)) (.int .i8 5) (.int .i8 6)).run Tryz.prog (MapW W (formEs.take 5)) = .ok () (MapW W (formEs.take 6)) ∧
  (Instr.mapUpdate 184 (.map (some W.heap.size)) (.int .i8 6) (.int .i8 7)).run Tryz.prog (MapW W (formEs.take 6)) = .ok () (MapW W (formEs.take 7)) ∧
  (Instr.mapUpdate 184 (.map (some W.heap.size)) (.int .i8 8) (.int .i8 8)).run Tryz.prog (MapW W (formEs.take 7)) = .ok () (MapW W (formEs.take 8)) :=
 ⟨MapW.upd Tryz.underlying184 Tryz.underlying26 W (formEs.take 0) _ _ (i8_key _) rfl, MapW.upd Tryz.underlying184 Tryz.underlying26 W (formEs.take 1) _ _ (i8_key _) rfl, MapW.upd Tryz.underlying184 Tryz.underlying26 W (formEs.take 2) _ _ (i8_key _) rfl, MapW.upd Tryz.underlying184 Tryz.underlying26 W (formEs.take 3) _ _ (i8_key _) rfl, MapW.upd Tryz.underlying184 Tryz.underlying26 W (formEs.take 4) _ _ (i8_key _) rfl, MapW.upd Tryz.underlying184 Tryz.underlying26 W (formEs.take 5) _ _ (i8_key _) rfl, MapW.upd Tryz.underlying184 Tryz.underlying26 W (formEs.take 6) _ _ (i8_key _) rfl, MapW.upd Tryz.underlying184 Tryz.underlying26 W (formEs.take 7) _ _ (i8_key _) rfl⟩
theorem by_upd (W : World) : (Instr.mapUpdate 182 (.map (some W.heap.size)) (.int .i8 19) (.func (.func 122) #[] #[])).run Tryz.prog (MapW W (byEs.take 0)) = .ok () (MapW W (byEs.take 1)) ∧
  (Instr.mapUpdate 182 (.map (some W.heap.size)) (.int .i8 20) (.func (.func 123) #[] #[])).run Tryz.prog (MapW W (byEs.take 1)) = .ok () (MapW W (byEs.take 2)) :=
 ⟨MapW.upd Tryz.underlying182 Tryz.underlying26 W (byEs.take 0) _ _ (i8_key _) rfl, MapW.upd Tryz.underlying182 Tryz.underlying26 W (byEs.take 1) _ _ (i8_key _) rfl⟩
theorem by_some (W : World) : (Instr.lookup 182 (.map (some W.heap.size)) (.int .i8 19) true).run Tryz.prog (MapW W (byEs.take 2)) = .ok (.tuple #[.func (.func 122) #[] #[], .bool true]) (MapW W (byEs.take 2)) ∧
    (Instr.lookup 182 (.map (some W.heap.size)) (.int .i8 20) true).run Tryz.prog (MapW W (byEs.take 2)) = .ok (.tuple #[.func (.func 123) #[] #[], .bool true]) (MapW W (byEs.take 2)) :=
  ⟨(look_g Tryz.underlying182 Tryz.underlying26 (MapW.heap W byEs) (.int .i8 19) (i8_key _) .nilFunc (by kernel_rfl) (a := some (0, .func (.func 122) #[] #[])) rfl).1,
   (look_g Tryz.underlying182 Tryz.underlying26 (MapW.heap W byEs) (.int .i8 20) (i8_key _) .nilFunc (by kernel_rfl) (a := some (1, .func (.func 123) #[] #[])) rfl).1⟩
theorem by_none (W : World) (s : Int) (h : s ≠ 19) (h2 : s ≠ 20) : (Instr.lookup 182 (.map (some W.heap.size)) (.int .i8 s) true).run Tryz.prog (MapW W (byEs.take 2)) = .ok (.tuple #[.nilFunc, .bool false]) (MapW W (byEs.take 2)) :=
 (look_g Tryz.underlying182 Tryz.underlying26 (MapW.heap W byEs) (.int .i8 s) (i8_key _) .nilFunc (by kernel_rfl) (a := none) (byEs_none s h h2)).1
theorem forms_look (W : World) (s : Int) (h0 : 0 ≤ s) (h8 : s ≤ 8) (h7 : s ≠ 7) : (Instr.lookup 184 (.map (some W.heap.size)) (.int .i8 s) false).run Tryz.prog (MapW W (formEs.take 8)) = .ok (.int .i8 (formV s)) (MapW W (formEs.take 8)) := by
 obtain ⟨i, hi⟩ := formEs_look s h0 h8 h7
 exact (look_g Tryz.underlying184 Tryz.underlying26 (MapW.heap W formEs) (.int .i8 s) (i8_key _) (.int .i8 0) (by kernel_rfl) hi).2
set_option maxRecDepth 20000 in
set_option maxHeartbeats 4000000 in
theorem nkey_of (S : PSchema) (g : Nat) (t : Nat) (v : ByteArray) (w : World) (h : Sch w g S) (hE : EnvK w) (ht : t < S.types.length) (hr : ReadAt S g w (toL v)) :
  Calls Tryz.prog 77 #[.pointer (some ⟨g, 0, none⟩), .int .i64 (t : Nat), .string v] w fun e w' => e = .returned (ret2 (valK (rdK S) S (fullT S t) (toL v))) ∧ Below w.heap.size w w' := by
 have hok : OkS S := newE_ok (by rw [h.ok])
 have hsy := hok.syn ht
 have hrg := h.rng t
 have hfu := full_any S g (t : Int) w h
 have hti : typeI S (t : Int) = fullT S t := by unfold typeI; rw [if_pos (by omega)]; rfl
 rw [hti] at hfu
 unfold FullPost tyAgg at hfu
 obtain ⟨x, hx⟩ : ∃ x, fullT S t = x := ⟨_, rfl⟩
 rw [hx] at hfu hsy hrg ⊢
 have HFU := Zh hfu
 have HR := Zh hr
 have HS := Zh (Zi h hE)
 clear hfu hti hx hr h hE hok ht
 go_enter Tryz.func77, Tryz.ntmps77
 go_upto_region 2 with (go_at_call 22; (with_reducible refine HFU.out.mono ?_); rintro e w1 ⟨hb1, a3, n3, c3, rfl, _⟩; have HB1 := Zh hb1; clear hb1)
 have hbW := HB1.out.alloc HB1.out.size (.cells #[.string x.oid, .slice a3 n3 c3, .string x.sup, .int .i8 x.syn, .int .i8 x.eq, .int .i8 x.ord, .int .i8 x.part, .bool x.single, .int .u8 x.index] 46)
 have hh := heap_alloc_new w1 (.cells #[.string x.oid, .slice a3 n3 c3, .string x.sup, .int .i8 x.syn, .int .i8 x.eq, .int .i8 x.ord, .int .i8 x.part, .bool x.single, .int .u8 x.index] 46)
 have hz := World.size_alloc w1 (.cells #[.string x.oid, .slice a3 n3 c3, .string x.sup, .int .i8 x.syn, .int .i8 x.eq, .int .i8 x.ord, .int .i8 x.part, .bool x.single, .int .u8 x.index] 46)
 generalize w1.alloc (.cells #[.string x.oid, .slice a3 n3 c3, .string x.sup, .int .i8 x.syn, .int .i8 x.eq, .int .i8 x.ord, .int .i8 x.part, .bool x.single, .int .u8 x.index] 46) = W at hbW hh hz ⊢
 have k3 := Lib.cell_of_heap hh 3
 have k4 := Lib.cell_of_heap hh 4
 have hX : ∀ wz, Below W.heap.size W wz → wz.cell? ⟨w1.heap.size, 3, none⟩ = some (.int .i8 x.syn) ∧ wz.cell? ⟨w1.heap.size, 4, none⟩ = some (.int .i8 x.eq) := fun wz hb =>
  ⟨(hb.cell (Zb W ⟨w1.heap.size, 3, none⟩ k3)).trans k3, (hb.cell (Zb W ⟨w1.heap.size, 4, none⟩ k4)).trans k4⟩
 have HX := Zh hX
 have HW := Zh hbW
 clear hbW hh hX hz
 obtain ⟨bk, hbk⟩ : ∃ bk, bk = w1.heap.size := ⟨_, rfl⟩
 rw [← hbk] at k3 k4 HX ⊢
 clear hbk
 by_cases he0 : x.eq = 0
 ·have n0 : (x.eq != 0) = false := by rw [he0]; rfl
  by_cases h7 : x.syn = 7
  ·have b7 : (x.syn == 7) = true := by rw [h7]; rfl
   have hv : valK (rdK S) S x (toL v) = if (rdK S (toL v)).2 then (toL v, true) else ([], false) := by unfold valK; rw [if_neg (by omega), if_neg (by omega), if_neg (by omega), if_pos h7]
   have hrd := HR.out
   unfold ReadAt at hrd
   generalize rdK S (toL v) = K at hv hrd
   obtain ⟨kk, ok⟩ := K
   have HV := Zh hv
   have HRD := Zh hrd
   clear hv hrd HR h7 he0
   unfold ret2 at HRD
   cases ok with
   | true =>
    go_wp2_with (go_at_call 122; (with_reducible refine (HRD.out _ v HW.out rfl).mono ?_); rintro e w2 ⟨rfl, hb2⟩; have HB2 := Zh hb2; clear hb2)
    go_ret2
    exact ⟨by rw [HV.out]; show _ = Ending.returned (.tuple #[.string (baOf (toL v)), .bool true]); rw [baOf_toL]; rfl, HW.out.trans (HB2.out.mono HW.out.size)⟩
   | false =>
    go_wp2_with (go_at_call 122; (with_reducible refine (HRD.out _ v HW.out rfl).mono ?_); rintro e w2 ⟨rfl, hb2⟩; have HB2 := Zh hb2; clear hb2)
    go_ret2
    exact ⟨by rw [HV.out]; rfl, HW.out.trans (HB2.out.mono HW.out.size)⟩
  ·have b7 : (x.syn == 7) = false := beq_eq_false_iff_ne.2 h7
   have hv : valK (rdK S) S x (toL v) = if (keyL (formV x.syn) (toL v)).2 then (toL v, true) else ([], false) := by unfold valK; rw [if_neg (by omega), if_neg (by omega), if_neg (by omega), if_neg h7]
   have hkey := fun wz (hb : Below w.heap.size w wz) => key_any (formV x.syn) v wz (HS.out.2.e.next hb)
   change ∀ wz (_ : Below w.heap.size w wz), Calls Tryz.prog 52 #[.int .i8 (formV x.syn), .string v] wz fun e w'' => e = .returned (ret2 (keyL (formV x.syn) (toL v))) ∧ Below wz.heap.size wz w'' at hkey
   have hlk := forms_look W x.syn hsy.1 hsy.2 h7
   obtain ⟨u0, u1, u2, u3, u4, u5, u6, u7⟩ := forms_upd W
   have m0 := MapW.make W 184
   change _ = Result.ok _ (MapW W (formEs.take 0)) at m0
   have hb8 := MapW.below W (formEs.take 8)
   generalize keyL (formV x.syn) (toL v) = K at hv hkey
   generalize formV x.syn = fv at hkey hlk
   obtain ⟨kk, ok⟩ := K
   have HV := Zh hv
   clear hv HR h7 he0
   generalize MapW W (formEs.take 8) = W8 at u7 hlk hb8
   generalize MapW W (formEs.take 7) = W7 at u6 u7
   generalize MapW W (formEs.take 6) = W6 at u5 u6
   generalize MapW W (formEs.take 5) = W5 at u4 u5
   generalize MapW W (formEs.take 4) = W4 at u3 u4
   generalize MapW W (formEs.take 3) = W3 at u2 u3
   generalize MapW W (formEs.take 2) = W2 at u1 u2
   generalize MapW W (formEs.take 1) = W1 at u0 u1
   generalize MapW W (formEs.take 0) = W0 at m0 u0
   have x3 := (HX.out W8 hb8).1
   have HKEY := Zh hkey
   have HW8 := Zh (HW.out.trans (hb8.mono HW.out.size))
   unfold ret2 at HKEY
   clear hkey hb8
   cases ok with
   | true =>
    go_wp2_with (go_at_call 52; (with_reducible refine (HKEY.out _ HW8.out).mono ?_); rintro e w2 ⟨rfl, hb2⟩; have HB2 := Zh hb2; clear hb2)
    go_ret2
    exact ⟨by rw [HV.out]; show _ = Ending.returned (.tuple #[.string (baOf (toL v)), .bool true]); rw [baOf_toL]; rfl, HW8.out.trans (HB2.out.mono HW8.out.size)⟩
   | false =>
    go_wp2_with (go_at_call 52; (with_reducible refine (HKEY.out _ HW8.out).mono ?_); rintro e w2 ⟨rfl, hb2⟩; have HB2 := Zh hb2; clear hb2)
    go_ret2
    exact ⟨by rw [HV.out]; rfl, HW8.out.trans (HB2.out.mono HW8.out.size)⟩
 ·have n0 : (x.eq != 0) = true := by simp [he0]
  obtain ⟨u0, u1⟩ := by_upd W
  have m0 := MapW.make W 182
  change _ = Result.ok _ (MapW W (byEs.take 0)) at m0
  have hb2 := MapW.below W (byEs.take 2)
  by_cases h19 : x.eq = 19
  ·have hv : valK (rdK S) S x (toL v) = rdK S (toL v) := by unfold valK; rw [if_pos h19]
   have hlk := (by_some W).1
   rw [← h19] at hlk u0
   have hrd := HR.out
   unfold ReadAt at hrd
   generalize rdK S (toL v) = K at hv hrd
   have HV := Zh hv
   obtain ⟨kk, ok⟩ := K
   have HRD := Zh hrd
   unfold ret2 at HRD
   clear hv hrd HR he0
   generalize MapW W (byEs.take 2) = W2 at u1 hlk hb2
   generalize MapW W (byEs.take 1) = W1 at u0 u1
   generalize MapW W (byEs.take 0) = W0 at m0 u0
   have x4 := (HX.out W2 hb2).2
   have HW2 := Zh (HW.out.trans (hb2.mono HW.out.size))
   rw [h19] at u0 hlk k4 x4 n0
   clear hb2 h19
   go_wp2_with (go_at_call 122; (with_reducible refine (HRD.out _ v HW2.out rfl).mono ?_); rintro e w2 ⟨rfl, hb2⟩; have HB2 := Zh hb2; clear hb2)
   go_ret2
   exact ⟨by rw [HV.out]; rfl, HW2.out.trans (HB2.out.mono HW2.out.size)⟩
  ·by_cases h20 : x.eq = 20
   ·have hv : valK (rdK S) S x (toL v) = oidK S (toL v) := by unfold valK; rw [if_neg h19, if_pos h20]
    have hlk := (by_some W).2
    have hrd := fun wz (hb : Below w.heap.size w wz) => noid_any S g v wz (HS.out.1.keep hb) (HS.out.2.e.next hb)
    generalize oidK S (toL v) = K at hv hrd
    have HV := Zh hv
    obtain ⟨kk, ok⟩ := K
    have HRD := Zh hrd
    unfold ret2 at HRD
    clear hv hrd HR he0
    generalize MapW W (byEs.take 2) = W2 at u1 hlk hb2
    generalize MapW W (byEs.take 1) = W1 at u0 u1
    generalize MapW W (byEs.take 0) = W0 at m0 u0
    have x4 := (HX.out W2 hb2).2
    have HW2 := Zh (HW.out.trans (hb2.mono HW.out.size))
    rw [h20] at k4 x4 n0
    clear hb2 h19 h20
    go_wp2_with (go_at_call 123; (with_reducible refine (HRD.out _ HW2.out).mono ?_); rintro e w2 ⟨rfl, hb2⟩; have HB2 := Zh hb2; clear hb2)
    go_ret2
    exact ⟨by rw [HV.out]; rfl, HW2.out.trans (HB2.out.mono HW2.out.size)⟩
   ·have hv : valK (rdK S) S x (toL v) = keyL (lineOf x.eq).form (toL v) := by unfold valK; rw [if_neg h19, if_neg h20, if_pos he0]
    have hlk := by_none W x.eq h19 h20
    have hfo := fun wz (hb : Below w.heap.size w wz) => form_any x.eq wz (HS.out.2.s.next hb) hrg
    have hkey := fun wz (hb : Below w.heap.size w wz) => key_any (lineOf x.eq).form v wz (HS.out.2.e.next hb)
    change ∀ wz (_ : Below w.heap.size w wz), Calls Tryz.prog 52 #[.int .i8 (lineOf x.eq).form, .string v] wz fun e w'' => e = .returned (ret2 (keyL (lineOf x.eq).form (toL v))) ∧ Below wz.heap.size wz w'' at hkey
    generalize keyL (lineOf x.eq).form (toL v) = K at hv hkey
    have HV := Zh hv
    generalize (lineOf x.eq).form = fo at hfo hkey
    generalize (lineOf x.eq).syn = fy at hfo
    obtain ⟨kk, ok⟩ := K
    unfold ret2 at hkey
    have HKEY := Zh hkey
    have HFO := Zh hfo
    clear hv hkey hfo HR he0 h19 h20
    generalize MapW W (byEs.take 2) = W2 at u1 hlk hb2
    generalize MapW W (byEs.take 1) = W1 at u0 u1
    generalize MapW W (byEs.take 0) = W0 at m0 u0
    have x4 := (HX.out W2 hb2).2
    have HW2 := Zh (HW.out.trans (hb2.mono HW.out.size))
    clear hb2
    go_wp2_with (first
     | (go_at_call 55; (with_reducible refine (HFO.out _ HW2.out).mono ?_); rintro e w2 ⟨rfl, hb2⟩; have HB2 := Zh (HW2.out.trans (hb2.mono HW2.out.size)); clear hb2)
     | (go_at_call 52; (with_reducible refine (HKEY.out _ HB2.out).mono ?_); rintro e w3 ⟨rfl, hb3⟩; have HB3 := Zh hb3; clear hb3)
     | fail)
    go_ret2
    exact ⟨by rw [HV.out]; rfl, HB2.out.trans (HB3.out.mono HB2.out.size)⟩
end Go.Proofs.YtlmfbjhokkpjhaaGreatDoor
namespace Go.Proofs.YtlmfbjhokkpjhaaGreatDoor
open Go Go.RowKit
def prP (rd : Str → Str × Bool) (S : PSchema) (a : PAva) : KPair := ((typeAt S (toL a.1)).getD 0, (valK rd S (fullT S ((typeAt S (toL a.1)).getD 0)) (toL a.2)).1)
def OkA (rd : Str → Str × Bool) (S : PSchema) (a : PAva) : Prop := ∃ t, typeAt S (toL a.1) = some t ∧ (valK rd S (fullT S t) (toL a.2)).2 = true
theorem pairsK_to {rd : Str → Str × Bool} {S : PSchema} : ∀ (l : PRdn) (acc : List KPair), (acc.map (·.1)).Nodup → (pairsK rd S acc l).1 = 0 → pairsK rd S acc l = (0, acc ++ l.map (prP rd S)) ∧ ((acc ++ l.map (prP rd S)).map (·.1)).Nodup ∧ ∀ a ∈ l, OkA rd S a
 | [], acc, h, _ => ⟨by simp [pairsK], by simpa using h, fun a ha => by cases ha⟩
 | a :: l, acc, h, h0 => by
  simp only [pairsK] at h0 ⊢
  cases ht : typeAt S (toL a.1) with
  | none => rw [ht] at h0; simp at h0
  | some t =>
   rw [ht] at h0
   simp only at h0 ⊢
   split at h0
   ·simp at h0
   ·rename_i h1
    rw [if_neg h1]
    split at h0
    ·rename_i h2
     rw [if_pos h2]
     have hpr : prP rd S a = (t, (valK rd S (fullT S t) (toL a.2)).1) := by unfold prP; rw [ht]; rfl
     have hn : ((acc ++ [(t, (valK rd S (fullT S t) (toL a.2)).1)]).map (·.1)).Nodup := by
      rw [List.map_append, List.nodup_append]
      refine ⟨h, by simp, fun x hx y hy e => ?_⟩
      simp at hy
      subst hy
      subst e
      obtain ⟨q, hq, e⟩ := List.mem_map.1 hx
      exact h1 (List.any_eq_true.2 ⟨q, hq, by simp [e]⟩)
     obtain ⟨i1, i2, i3⟩ := pairsK_to l _ hn h0
     refine ⟨by rw [i1, ← hpr]; simp, by rw [← hpr] at i2; simpa using i2, fun x hx => ?_⟩
     rcases List.mem_cons.1 hx with rfl | hx
     ·exact ⟨t, ht, h2⟩
     ·exact i3 x hx
    ·simp at h0
def renA (S : PSchema) (a : PAva) : PAva := ((fullT S ((typeAt S (toL a.1)).getD 0)).oid, a.2)
def TwinR (S : PSchema) (r s : PRdn) : Prop := ∃ r' : PRdn, List.Perm r' r ∧ s = r'.map (renA S)
theorem TwinR.len {S : PSchema} {r s : PRdn} (h : TwinR S r s) : s.length = r.length := by
 obtain ⟨r', h1, rfl⟩ := h
 rw [List.length_map, h1.length_eq]
inductive TwinN (S : PSchema) : PName → PName → Prop
 | nil : TwinN S [] []
 | cons {r s : PRdn} {n m : PName} (h : TwinR S r s) (t : TwinN S n m) : TwinN S (r :: n) (s :: m)
theorem TwinN.len {S : PSchema} {n m : PName} (h : TwinN S n m) : m.length = n.length := by
 induction h with
 | nil => rfl
 | cons _ _ ih => simp [ih]
theorem print_short {n : PName} (h : (printV n).2 = 0) : ∀ r ∈ n, ∀ a ∈ r, a.2.size ≤ 65536 := by
 unfold printV at h
 split at h
 ·simp at h
 ·split at h
  ·simp at h
  ·split at h
   ·simp at h
   ·rename_i h3
    intro r hr a ha
    by_cases e : 65536 < a.2.size
    ·exact absurd (.inl (List.any_eq_true.2 ⟨r, hr, List.any_eq_true.2 ⟨a, ha, by simp [e]⟩⟩)) h3
    ·omega
end Go.Proofs.YtlmfbjhokkpjhaaGreatDoor
