/- Part 31 of the walks and plain laws, joined: KeyD, SameV. -/
import Derived.Test.YtlmfbjhokkpjhaaGreatDoorNM00
import Derived.Test.YtlmfbjhokkpjhaaGreatDoorNM30
import Derived.Test.YtlmfbjhokkpjhaaGreatDoorNM26
import Derived.Test.YtlmfbjhokkpjhaaGreatDoorNM17
set_option linter.unusedVariables false
set_option linter.unusedSimpArgs false
namespace Go.Proofs.YtlmfbjhokkpjhaaGreatDoor
open Go Go.RowKit Go.Maps
def ReadAt (S : PSchema) (g : Nat) (w : World) (u : Str) : Prop := ∀ (wz : World) (v : ByteArray), Below w.heap.size w wz → toL v = u → Calls Tryz.prog 122 #[.pointer (some ⟨g, 0, none⟩), .string v] wz fun e w' => e = .returned (ret2 (rdK S u)) ∧ Below wz.heap.size wz w'
theorem ReadAt.next {S : PSchema} {g : Nat} {w w' : World} {u : Str} (h : ReadAt S g w u) (k : Below w.heap.size w w') : ReadAt S g w' u := fun wz v hb hv => h wz v (k.trans (hb.mono k.size)) hv
theorem Sch.rng {w : World} {g : Nat} {S : PSchema} (h : Sch w g S) (t : Nat) : -128 ≤ (fullT S t).eq ∧ (fullT S t).eq ≤ 127 := by
 obtain ⟨_, _, _, _, ht⟩ := h.base.types
 refine (inheritT_range S (fun t => ?_) t _).1
 by_cases hl : t < S.types.length
 ·have hx : tyAt S t = S.types[t] := by unfold tyAt; rw [List.getD_eq_getElem?_getD, List.getElem?_eq_getElem hl]; rfl
  have := ht.ok _ (List.getElem_mem hl)
  rw [hx]
  exact ⟨this.eq, this.ord, this.part⟩
 ·have hx : tyAt S t = zeroT := by unfold tyAt; rw [List.getD_eq_getElem?_getD, List.getElem?_eq_none (by omega)]; rfl
  rw [hx]; decide
def formEs : List MapEntry := [⟨.int .i8 0, .int .i8 1, 0⟩, ⟨.int .i8 1, .int .i8 2, 1⟩, ⟨.int .i8 2, .int .i8 3, 2⟩, ⟨.int .i8 3, .int .i8 4, 3⟩, ⟨.int .i8 4, .int .i8 5, 4⟩, ⟨.int .i8 5, .int .i8 6, 5⟩, ⟨.int .i8 6, .int .i8 7, 6⟩, ⟨.int .i8 8, .int .i8 8, 7⟩]
theorem formEs_look (s : Int) (h0 : 0 ≤ s) (h8 : s ≤ 8) (h7 : s ≠ 7) : ∃ i, Instr.findNow (.int .i8) (.int .i8 s) formEs 0 = some (some (i, .int .i8 (formV s))) := by
 rcases (by omega : s = 0 ∨ s = 1 ∨ s = 2 ∨ s = 3 ∨ s = 4 ∨ s = 5 ∨ s = 6 ∨ s = 8) with rfl | rfl | rfl | rfl | rfl | rfl | rfl | rfl
 ·exact ⟨0, rfl⟩
 ·exact ⟨1, rfl⟩
 ·exact ⟨2, rfl⟩
 ·exact ⟨3, rfl⟩
 ·exact ⟨4, rfl⟩
 ·exact ⟨5, rfl⟩
 ·exact ⟨6, rfl⟩
 ·exact ⟨7, rfl⟩
def byEs : List MapEntry := [⟨.int .i8 19, .func (.func 122) #[] #[], 0⟩, ⟨.int .i8 20, .func (.func 123) #[] #[], 1⟩]
theorem byEs_none (s : Int) (h : s ≠ 19) (h2 : s ≠ 20) : Instr.findNow (.int .i8) (.int .i8 s) byEs 0 = some none := by
 have e1 : (s == 19) = false := beq_eq_false_iff_ne.2 h
 have e2 : (s == 20) = false := beq_eq_false_iff_ne.2 h2
 simp [Instr.findNow, Instr.sameNow, byEs, e1, e2]
theorem i8_key (s : Int) : Go.MapKept.IsKey (.int .i8) (.int .i8 s) := by simp [Go.MapKept.IsKey]
theorem forms_upd (W : World) : (Instr.mapUpdate 184 (.map (some W.heap.size)) (.int .i8 0) (.int .i8 1)).run Tryz.prog (MapW W (formEs.take 0)) = .ok () (MapW W (formEs.take 1)) ∧
  (Instr.mapUpdate 184 (.map (some W.heap.size)) (.int .i8 1) (.int .i8 2)).run Tryz.prog (MapW W (formEs.take 1)) = .ok () (MapW W (formEs.take 2)) ∧
  (Instr.mapUpdate 184 (.map (some W.heap.size)) (.int .i8 2) (.int .i8 3)).run Tryz.prog (MapW W (formEs.take 2)) = .ok () (MapW W (formEs.take 3)) ∧
  (Instr.mapUpdate 184 (.map (some W.heap.size)) (.int .i8 3) (.int .i8 4)).run Tryz.prog (MapW W (formEs.take 3)) = .ok () (MapW W (formEs.take 4)) ∧
  (Instr.mapUpdate 184 (.map (some W.heap.size)) (.int .i8 4) (.int .i8 5)).run Tryz.prog (MapW W (formEs.take 4)) = .ok () (MapW W (formEs.take 5)) ∧
  (Instr.mapUpdate 184 (.map (some W.heap.size)) (.int .i8 5) (.int .i8 6)).run Tryz.prog (MapW W (formEs.take 5)) = .ok () (MapW W (formEs.take 6)) ∧
  (Instr.mapUpdate 184 (.map (some W.heap.size)) (.int .i8 6) (.int .i8 7)).run Tryz.prog (MapW W (formEs.take 6)) = .ok () (MapW W (formEs.take 7)) ∧
  (Instr.mapUpdate 184 (.map (some W.heap.size)) (.int .i8 8) (.int .i8 8)).run Tryz.prog (MapW W (formEs.take 7)) = .ok () (MapW W (formEs.take 8)) :=
 ⟨MapW.upd Tryz.underlying184 Tryz.underlying26 W (formEs.take 0) _ _ (i8_key _) rfl, MapW.upd Tryz.underlying184 Tryz.underlying26 W (formEs.take 1) _ _ (i8_key _) rfl, MapW.upd Tryz.underlying184 Tryz.underlying26 W (formEs.take 2) _ _ (i8_key _) rfl, MapW.upd Tryz.underlying184 Tryz.underlying26 W (formEs.take 3) _ _ (i8_key _) rfl, MapW.upd Tryz.underlying184 Tryz.underlying26 W (formEs.take 4) _ _ (i8_key _) rfl, MapW.upd Tryz.underlying184 Tryz.underlying26 W (formEs.take 5) _ _ (i8_key _) rfl, MapW.upd Tryz.underlying184 Tryz.underlying26 W (formEs.take 6) _ _ (i8_key _) rfl, MapW.upd Tryz.underlying184 Tryz.underlying26 W (formEs.take 7) _ _ (i8_key _) rfl⟩
theorem by_upd (W : World) : (Instr.mapUpdate 182 (.map (some W.heap.size)) (.int .i8 19) (.func (.func 122) #[] #[])).run Tryz.prog (MapW W (byEs.take 0)) = .ok () (MapW W (byEs.take 1)) ∧
  (Instr.mapUpdate 182 (.map (some W.heap.size)) (.int .i8 20) (.func (.func 123) #[] #[])).run Tryz.prog (MapW W (byEs.take 1)) = .ok () (MapW W (byEs.take 2)) :=
 ⟨MapW.upd Tryz.underlying182 Tryz.underlying26 W (byEs.take 0) _ _ (i8_key _) rfl, MapW.upd Tryz.underlying182 Tryz.underlying26 W (byEs.take 1) _ _ (i8_key _) rfl⟩
theorem by_some (W : World) : (Instr.lookup 182 (.map (some W.heap.size)) (.int .i8 19) true).run Tryz.prog (MapW W (byEs.take 2)) = .ok (.tuple #[.func (.func 122) #[] #[], .bool true]) (MapW W (byEs.take 2)) ∧
    (Instr.lookup 182 (.map (some W.heap.size)) (.int .i8 20) true).run Tryz.prog (MapW W (byEs.take 2)) = .ok (.tuple #[.func (.func 123) #[] #[], .bool true]) (MapW W (byEs.take 2)) :=
  ⟨(look_g Tryz.underlying182 Tryz.underlying26 (MapW.heap W byEs) (.int .i8 19) (i8_key _) .nilFunc (by kernel_rfl) (a := some (0, .func (.func 122) #[] #[])) rfl).1,
   (look_g Tryz.underlying182 Tryz.underlying26 (MapW.heap W byEs) (.int .i8 20) (i8_key _) .nilFunc (by kernel_rfl) (a := some (1, .func (.func 123) #[] #[])) rfl).1⟩
theorem by_none (W : World) (s : Int) (h : s ≠ 19) (h2 : s ≠ 20) : (Instr.lookup 182 (.map (some W.heap.size)) (.int .i8 s) true).run Tryz.prog (MapW W (byEs.take 2)) = .ok (.tuple #[.nilFunc, .bool false]) (MapW W (byEs.take 2)) :=
 (look_g Tryz.underlying182 Tryz.underlying26 (MapW.heap W byEs) (.int .i8 s) (i8_key _) .nilFunc (by kernel_rfl) (a := none) (byEs_none s h h2)).1
theorem forms_look (W : World) (s : Int) (h0 : 0 ≤ s) (h8 : s ≤ 8) (h7 : s ≠ 7) : (Instr.lookup 184 (.map (some W.heap.size)) (.int .i8 s) false).run Tryz.prog (MapW W (formEs.take 8)) = .ok (.int .i8 (formV s)) (MapW W (formEs.take 8)) := by
 obtain ⟨i, hi⟩ := formEs_look s h0 h8 h7
 exact (look_g Tryz.underlying184 Tryz.underlying26 (MapW.heap W formEs) (.int .i8 s) (i8_key _) (.int .i8 0) (by kernel_rfl) hi).2
set_option maxRecDepth 20000 in
set_option maxHeartbeats 4000000 in
theorem nkey_of (S : PSchema) (g : Nat) (t : Nat) (v : ByteArray) (w : World) (h : Sch w g S) (hE : EnvK w) (ht : t < S.types.length) (hr : ReadAt S g w (toL v)) :
  Calls Tryz.prog 77 #[.pointer (some ⟨g, 0, none⟩), .int .i64 (t : Nat), .string v] w fun e w' => e = .returned (ret2 (valK (rdK S) S (fullT S t) (toL v))) ∧ Below w.heap.size w w' := by
 have hok : OkS S := newE_ok (by rw [h.ok])
 have hsy := hok.syn ht
 have hrg := h.rng t
 have hfu := full_any S g (t : Int) w h
 have hti : typeI S (t : Int) = fullT S t := by unfold typeI; rw [if_pos (by omega)]; rfl
 rw [hti] at hfu
 unfold FullPost tyAgg at hfu
 obtain ⟨x, hx⟩ : ∃ x, fullT S t = x := ⟨_, rfl⟩
 rw [hx] at hfu hsy hrg ⊢
 have HFU := Zh hfu
 have HR := Zh hr
 have HS := Zh (Zi h hE)
 clear hfu hti hx hr h hE hok ht
 go_enter Tryz.func77, Tryz.ntmps77
 go_upto_region 2 with (go_at_call 22; (with_reducible refine HFU.out.mono ?_); rintro e w1 ⟨hb1, a3, n3, c3, rfl, _⟩; have HB1 := Zh hb1; clear hb1)
 have hbW := HB1.out.alloc HB1.out.size (.cells #[.string x.oid, .slice a3 n3 c3, .string x.sup, .int .i8 x.syn, .int .i8 x.eq, .int .i8 x.ord, .int .i8 x.part, .bool x.single, .int .u8 x.index] 46)
 have hh := heap_alloc_new w1 (.cells #[.string x.oid, .slice a3 n3 c3, .string x.sup, .int .i8 x.syn, .int .i8 x.eq, .int .i8 x.ord, .int .i8 x.part, .bool x.single, .int .u8 x.index] 46)
 have hz := World.size_alloc w1 (.cells #[.string x.oid, .slice a3 n3 c3, .string x.sup, .int .i8 x.syn, .int .i8 x.eq, .int .i8 x.ord, .int .i8 x.part, .bool x.single, .int .u8 x.index] 46)
 generalize w1.alloc (.cells #[.string x.oid, .slice a3 n3 c3, .string x.sup, .int .i8 x.syn, .int .i8 x.eq, .int .i8 x.ord, .int .i8 x.part, .bool x.single, .int .u8 x.index] 46) = W at hbW hh hz ⊢
 have k3 := Lib.cell_of_heap hh 3
 have k4 := Lib.cell_of_heap hh 4
 have hX : ∀ wz, Below W.heap.size W wz → wz.cell? ⟨w1.heap.size, 3, none⟩ = some (.int .i8 x.syn) ∧ wz.cell? ⟨w1.heap.size, 4, none⟩ = some (.int .i8 x.eq) := fun wz hb =>
  ⟨(hb.cell (Zb W ⟨w1.heap.size, 3, none⟩ k3)).trans k3, (hb.cell (Zb W ⟨w1.heap.size, 4, none⟩ k4)).trans k4⟩
 have HX := Zh hX
 have HW := Zh hbW
 clear hbW hh hX hz
 obtain ⟨bk, hbk⟩ : ∃ bk, bk = w1.heap.size := ⟨_, rfl⟩
 rw [← hbk] at k3 k4 HX ⊢
 clear hbk
 by_cases he0 : x.eq = 0
 ·have n0 : (x.eq != 0) = false := by rw [he0]; rfl
  by_cases h7 : x.syn = 7
  ·have b7 : (x.syn == 7) = true := by rw [h7]; rfl
   have hv : valK (rdK S) S x (toL v) = if (rdK S (toL v)).2 then (toL v, true) else ([], false) := by unfold valK; rw [if_neg (by omega), if_neg (by omega), if_neg (by omega), if_pos h7]
   have hrd := HR.out
   unfold ReadAt at hrd
   generalize rdK S (toL v) = K at hv hrd
   obtain ⟨kk, ok⟩ := K
   have HV := Zh hv
   have HRD := Zh hrd
   clear hv hrd HR h7 he0
   unfold ret2 at HRD
   cases ok with
   | true =>
    go_wp2_with (go_at_call 122; (with_reducible refine (HRD.out _ v HW.out rfl).mono ?_); rintro e w2 ⟨rfl, hb2⟩; have HB2 := Zh hb2; clear hb2)
    go_ret2
    exact ⟨by rw [HV.out]; show _ = Ending.returned (.tuple #[.string (baOf (toL v)), .bool true]); rw [baOf_toL]; rfl, HW.out.trans (HB2.out.mono HW.out.size)⟩
   | false =>
    go_wp2_with (go_at_call 122; (with_reducible refine (HRD.out _ v HW.out rfl).mono ?_); rintro e w2 ⟨rfl, hb2⟩; have HB2 := Zh hb2; clear hb2)
    go_ret2
    exact ⟨by rw [HV.out]; rfl, HW.out.trans (HB2.out.mono HW.out.size)⟩
  ·have b7 : (x.syn == 7) = false := beq_eq_false_iff_ne.2 h7
   have hv : valK (rdK S) S x (toL v) = if (keyL (formV x.syn) (toL v)).2 then (toL v, true) else ([], false) := by unfold valK; rw [if_neg (by omega), if_neg (by omega), if_neg (by omega), if_neg h7]
   have hkey := fun wz (hb : Below w.heap.size w wz) => key_any (formV x.syn) v wz (HS.out.2.e.next hb)
   change ∀ wz (_ : Below w.heap.size w wz), Calls Tryz.prog 52 #[.int .i8 (formV x.syn), .string v] wz fun e w'' => e = .returned (ret2 (keyL (formV x.syn) (toL v))) ∧ Below wz.heap.size wz w'' at hkey
   have hlk := forms_look W x.syn hsy.1 hsy.2 h7
   obtain ⟨u0, u1, u2, u3, u4, u5, u6, u7⟩ := forms_upd W
   have m0 := MapW.make W 184
   change _ = Result.ok _ (MapW W (formEs.take 0)) at m0
   have hb8 := MapW.below W (formEs.take 8)
   generalize keyL (formV x.syn) (toL v) = K at hv hkey
   generalize formV x.syn = fv at hkey hlk
   obtain ⟨kk, ok⟩ := K
   have HV := Zh hv
   clear hv HR h7 he0
   generalize MapW W (formEs.take 8) = W8 at u7 hlk hb8
   generalize MapW W (formEs.take 7) = W7 at u6 u7
   generalize MapW W (formEs.take 6) = W6 at u5 u6
   generalize MapW W (formEs.take 5) = W5 at u4 u5
   generalize MapW W (formEs.take 4) = W4 at u3 u4
   generalize MapW W (formEs.take 3) = W3 at u2 u3
   generalize MapW W (formEs.take 2) = W2 at u1 u2
   generalize MapW W (formEs.take 1) = W1 at u0 u1
   generalize MapW W (formEs.take 0) = W0 at m0 u0
   have x3 := (HX.out W8 hb8).1
   have HKEY := Zh hkey
   have HW8 := Zh (HW.out.trans (hb8.mono HW.out.size))
   unfold ret2 at HKEY
   clear hkey hb8
   cases ok with
   | true =>
    go_wp2_with (go_at_call 52; (with_reducible refine (HKEY.out _ HW8.out).mono ?_); rintro e w2 ⟨rfl, hb2⟩; have HB2 := Zh hb2; clear hb2)
    go_ret2
    exact ⟨by rw [HV.out]; show _ = Ending.returned (.tuple #[.string (baOf (toL v)), .bool true]); rw [baOf_toL]; rfl, HW8.out.trans (HB2.out.mono HW8.out.size)⟩
   | false =>
    go_wp2_with (go_at_call 52; (with_reducible refine (HKEY.out _ HW8.out).mono ?_); rintro e w2 ⟨rfl, hb2⟩; have HB2 := Zh hb2; clear hb2)
    go_ret2
    exact ⟨by rw [HV.out]; rfl, HW8.out.trans (HB2.out.mono HW8.out.size)⟩
 ·have n0 : (x.eq != 0) = true := by simp [he0]
  obtain ⟨u0, u1⟩ := by_upd W
  have m0 := MapW.make W 182
  change _ = Result.ok _ (MapW W (byEs.take 0)) at m0
  have hb2 := MapW.below W (byEs.take 2)
  by_cases h19 : x.eq = 19
  ·have hv : valK (rdK S) S x (toL v) = rdK S (toL v) := by unfold valK; rw [if_pos h19]
   have hlk := (by_some W).1
   rw [← h19] at hlk u0
   have hrd := HR.out
   unfold ReadAt at hrd
   generalize rdK S (toL v) = K at hv hrd
   have HV := Zh hv
   obtain ⟨kk, ok⟩ := K
   have HRD := Zh hrd
   unfold ret2 at HRD
   clear hv hrd HR he0
   generalize MapW W (byEs.take 2) = W2 at u1 hlk hb2
   generalize MapW W (byEs.take 1) = W1 at u0 u1
   generalize MapW W (byEs.take 0) = W0 at m0 u0
   have x4 := (HX.out W2 hb2).2
   have HW2 := Zh (HW.out.trans (hb2.mono HW.out.size))
   rw [h19] at u0 hlk k4 x4 n0
   clear hb2 h19
   go_wp2_with (go_at_call 122; (with_reducible refine (HRD.out _ v HW2.out rfl).mono ?_); rintro e w2 ⟨rfl, hb2⟩; have HB2 := Zh hb2; clear hb2)
   go_ret2
   exact ⟨by rw [HV.out]; rfl, HW2.out.trans (HB2.out.mono HW2.out.size)⟩
  ·by_cases h20 : x.eq = 20
   ·have hv : valK (rdK S) S x (toL v) = oidK S (toL v) := by unfold valK; rw [if_neg h19, if_pos h20]
    have hlk := (by_some W).2
    have hrd := fun wz (hb : Below w.heap.size w wz) => noid_any S g v wz (HS.out.1.keep hb) (HS.out.2.e.next hb)
    generalize oidK S (toL v) = K at hv hrd
    have HV := Zh hv
    obtain ⟨kk, ok⟩ := K
    have HRD := Zh hrd
    unfold ret2 at HRD
    clear hv hrd HR he0
    generalize MapW W (byEs.take 2) = W2 at u1 hlk hb2
    generalize MapW W (byEs.take 1) = W1 at u0 u1
    generalize MapW W (byEs.take 0) = W0 at m0 u0
    have x4 := (HX.out W2 hb2).2
    have HW2 := Zh (HW.out.trans (hb2.mono HW.out.size))
    rw [h20] at k4 x4 n0
    clear hb2 h19 h20
    go_wp2_with (go_at_call 123; (with_reducible refine (HRD.out _ HW2.out).mono ?_); rintro e w2 ⟨rfl, hb2⟩; have HB2 := Zh hb2; clear hb2)
    go_ret2
    exact ⟨by rw [HV.out]; rfl, HW2.out.trans (HB2.out.mono HW2.out.size)⟩
   ·have hv : valK (rdK S) S x (toL v) = keyL (lineOf x.eq).form (toL v) := by unfold valK; rw [if_neg h19, if_neg h20, if_pos he0]
    have hlk := by_none W x.eq h19 h20
    have hfo := fun wz (hb : Below w.heap.size w wz) => form_any x.eq wz (HS.out.2.s.next hb) hrg
    have hkey := fun wz (hb : Below w.heap.size w wz) => key_any (lineOf x.eq).form v wz (HS.out.2.e.next hb)
    change ∀ wz (_ : Below w.heap.size w wz), Calls Tryz.prog 52 #[.int .i8 (lineOf x.eq).form, .string v] wz fun e w'' => e = .returned (ret2 (keyL (lineOf x.eq).form (toL v))) ∧ Below wz.heap.size wz w'' at hkey
    generalize keyL (lineOf x.eq).form (toL v) = K at hv hkey
    have HV := Zh hv
    generalize (lineOf x.eq).form = fo at hfo hkey
    generalize (lineOf x.eq).syn = fy at hfo
    obtain ⟨kk, ok⟩ := K
    unfold ret2 at hkey
    have HKEY := Zh hkey
    have HFO := Zh hfo
    clear hv hkey hfo HR he0 h19 h20
    generalize MapW W (byEs.take 2) = W2 at u1 hlk hb2
    generalize MapW W (byEs.take 1) = W1 at u0 u1
    generalize MapW W (byEs.take 0) = W0 at m0 u0
    have x4 := (HX.out W2 hb2).2
    have HW2 := Zh (HW.out.trans (hb2.mono HW.out.size))
    clear hb2
    go_wp2_with (first
     | (go_at_call 55; (with_reducible refine (HFO.out _ HW2.out).mono ?_); rintro e w2 ⟨rfl, hb2⟩; have HB2 := Zh (HW2.out.trans (hb2.mono HW2.out.size)); clear hb2)
     | (go_at_call 52; (with_reducible refine (HKEY.out _ HB2.out).mono ?_); rintro e w3 ⟨rfl, hb3⟩; have HB3 := Zh hb3; clear hb3)
     | fail)
    go_ret2
    exact ⟨by rw [HV.out]; rfl, HB2.out.trans (HB3.out.mono HB2.out.size)⟩
end Go.Proofs.YtlmfbjhokkpjhaaGreatDoor
namespace Go.Proofs.YtlmfbjhokkpjhaaGreatDoor
open Go Go.RowKit
theorem taken_ge {f : Str → Option Nat} {place : Nat} : ∀ {ks seen : List Str}, takenB f place ks seen = false → ∀ k ∈ ks, place ≤ (f k).getD 0
 | [], _, _, k, hk => by cases hk
 | x :: ks, seen, h, k, hk => by
  simp only [takenB, Bool.or_eq_false_iff, decide_eq_false_iff_not] at h
  rcases List.mem_cons.1 hk with rfl | hk
  ·omega
  ·exact taken_ge h.2 k hk
theorem type_self {S : PSchema} (h : OkS S) {t : Nat} (ht : t < S.types.length) : typeAt S (toL (fullT S t).oid) = some t := by
 unfold fullT
 rw [(inheritT_same S t _).2.1]
 have hte := h.ty t ht
 obtain ⟨h1, h2, h3, _⟩ := namedE_zero (typeE_named hte)
 have hne : toL (tyAt S t).oid ≠ [] := fun e => by rw [e] at h1; exact absurd h1 (by decide)
 have htk : takenB (placeOf (tK S)) t (keysT (tyAt S t)) [] = false := by
  rw [typeE_eq, if_neg (by rw [typeE_named hte]; simp)] at hte
  unfold tE2 at hte
  split at hte
  ·cases hte
  ·rename_i e; simpa using e
 have hk : low (toL (tyAt S t).oid) ∈ keysT (tyAt S t) := by simp [keysT]
 have hge := taken_ge htk _ hk
 unfold typeAt
 rw [if_neg hne]
 have htt : (tK S)[t]? = some (keysT (tyAt S t)) := by
  unfold tK tyAt
  rw [List.getElem?_map, List.getD_eq_getElem?_getD, List.getElem?_eq_getElem ht]
  rfl
 cases hp : placeOf (tK S) (low (toL (tyAt S t).oid)) with
 | none =>
  unfold placeOf at hp
  rw [List.findIdx?_eq_none_iff] at hp
  have := hp _ (List.mem_of_getElem? htt)
  simp [hk] at this
 | some p =>
  rw [hp] at hge
  simp only [Option.getD_some] at hge
  unfold placeOf at hp
  rw [List.findIdx?_eq_some_iff_getElem] at hp
  obtain ⟨hl, _, hno⟩ := hp
  rcases Nat.lt_or_ge t p with hlt | hge2
  ·have := hno t hlt
   have h9 := (List.getElem?_eq_some_iff.1 htt).2
   rw [h9] at this
   simp [hk] at this
  ·rw [show p = t by omega]
def prP (rd : Str → Str × Bool) (S : PSchema) (a : PAva) : KPair := ((typeAt S (toL a.1)).getD 0, (valK rd S (fullT S ((typeAt S (toL a.1)).getD 0)) (toL a.2)).1)
def OkA (rd : Str → Str × Bool) (S : PSchema) (a : PAva) : Prop := ∃ t, typeAt S (toL a.1) = some t ∧ (valK rd S (fullT S t) (toL a.2)).2 = true
theorem pairsK_to {rd : Str → Str × Bool} {S : PSchema} : ∀ (l : PRdn) (acc : List KPair), (acc.map (·.1)).Nodup → (pairsK rd S acc l).1 = 0 → pairsK rd S acc l = (0, acc ++ l.map (prP rd S)) ∧ ((acc ++ l.map (prP rd S)).map (·.1)).Nodup ∧ ∀ a ∈ l, OkA rd S a
 | [], acc, h, _ => ⟨by simp [pairsK], by simpa using h, fun a ha => by cases ha⟩
 | a :: l, acc, h, h0 => by
  simp only [pairsK] at h0 ⊢
  cases ht : typeAt S (toL a.1) with
  | none => rw [ht] at h0; simp at h0
  | some t =>
   rw [ht] at h0
   simp only at h0 ⊢
   split at h0
   ·simp at h0
   ·rename_i h1
    rw [if_neg h1]
    split at h0
    ·rename_i h2
     rw [if_pos h2]
     have hpr : prP rd S a = (t, (valK rd S (fullT S t) (toL a.2)).1) := by unfold prP; rw [ht]; rfl
     have hn : ((acc ++ [(t, (valK rd S (fullT S t) (toL a.2)).1)]).map (·.1)).Nodup := by
      rw [List.map_append, List.nodup_append]
      refine ⟨h, by simp, fun x hx y hy e => ?_⟩
      simp at hy
      subst hy
      subst e
      obtain ⟨q, hq, e⟩ := List.mem_map.1 hx
      exact h1 (List.any_eq_true.2 ⟨q, hq, by simp [e]⟩)
     obtain ⟨i1, i2, i3⟩ := pairsK_to l _ hn h0
     refine ⟨by rw [i1, ← hpr]; simp, by rw [← hpr] at i2; simpa using i2, fun x hx => ?_⟩
     rcases List.mem_cons.1 hx with rfl | hx
     ·exact ⟨t, ht, h2⟩
     ·exact i3 x hx
    ·simp at h0
theorem pairsK_of {rd : Str → Str × Bool} {S : PSchema} : ∀ (l : PRdn) (acc : List KPair), ((acc ++ l.map (prP rd S)).map (·.1)).Nodup → (∀ a ∈ l, OkA rd S a) → pairsK rd S acc l = (0, acc ++ l.map (prP rd S))
 | [], acc, _, _ => by simp [pairsK]
 | a :: l, acc, hn, hk => by
  obtain ⟨t, ht, h2⟩ := hk a (by simp)
  have hpr : prP rd S a = (t, (valK rd S (fullT S t) (toL a.2)).1) := by unfold prP; rw [ht]; rfl
  simp only [pairsK, ht]
  have h1 : ¬ (acc.any fun p => p.1 == t) = true := fun e => by
   obtain ⟨q, hq, e⟩ := List.any_eq_true.1 e
   rw [List.map_append, List.nodup_append] at hn
   refine hn.2.2 q.1 (List.mem_map.2 ⟨q, hq, rfl⟩) t ?_ (by simpa using e)
   simp [hpr]
  rw [if_neg h1, if_pos h2, pairsK_of l _ (by rw [← hpr]; simpa using hn) fun x hx => hk x (by simp [hx]), ← hpr]
  simp
def renA (S : PSchema) (a : PAva) : PAva := ((fullT S ((typeAt S (toL a.1)).getD 0)).oid, a.2)
theorem ren_ok {S : PSchema} (hS : OkS S) {rd : Str → Str × Bool} {a : PAva} (h : OkA rd S a) : prP rd S (renA S a) = prP rd S a ∧ OkA rd S (renA S a) := by
 obtain ⟨t, ht, h2⟩ := h
 have e : typeAt S (toL (renA S a).1) = some t := by
  unfold renA
  rw [ht]
  exact type_self hS (typeAt_lt ht)
 refine ⟨?_, t, e, h2⟩
 unfold prP
 rw [e, ht]
 rfl
def TwinR (S : PSchema) (r s : PRdn) : Prop := ∃ r' : PRdn, List.Perm r' r ∧ s = r'.map (renA S)
theorem TwinR.len {S : PSchema} {r s : PRdn} (h : TwinR S r s) : s.length = r.length := by
 obtain ⟨r', h1, rfl⟩ := h
 rw [List.length_map, h1.length_eq]
theorem part_same {S : PSchema} (hS : OkS S) {rd : Str → Str × Bool} {r s : PRdn} (h : TwinR S r s) (h0 : (pairsK rd S [] r).1 = 0) : (pairsK rd S [] s).1 = 0 ∧ stepK (pairsK rd S [] s).2 = stepK (pairsK rd S [] r).2 := by
 obtain ⟨r', hp, rfl⟩ := h
 obtain ⟨i1, i2, i3⟩ := pairsK_to r [] (by simp) h0
 have hok : ∀ a ∈ r', OkA rd S a := fun a ha => i3 a (hp.mem_iff.1 ha)
 have hmap : (r'.map (renA S)).map (prP rd S) = r'.map (prP rd S) := by
  rw [List.map_map]
  exact List.map_congr_left fun a ha => (ren_ok hS (hok a ha)).1
 have hpm : (r'.map (prP rd S)).Perm (r.map (prP rd S)) := hp.map _
 have hnd : (([] ++ (r'.map (renA S)).map (prP rd S)).map (fun x : KPair => x.1)).Nodup := by
  rw [hmap, List.nil_append]
  exact ((hpm.map (fun x : KPair => x.1)).nodup_iff).2 (by simpa using i2)
 have hof := pairsK_of (rd := rd) (S := S) (r'.map (renA S)) [] hnd fun x hx => by
  obtain ⟨a, ha, rfl⟩ := List.mem_map.1 hx
  exact (ren_ok hS (hok a ha)).2
 rw [hof, i1, hmap, List.nil_append, List.nil_append]
 refine ⟨rfl, ?_⟩
 show stepK (r'.map (prP rd S)) = stepK (r.map (prP rd S))
 unfold stepK
 rw [sortP_same hpm (by simpa using i2)]
inductive TwinN (S : PSchema) : PName → PName → Prop
 | nil : TwinN S [] []
 | cons {r s : PRdn} {n m : PName} (h : TwinR S r s) (t : TwinN S n m) : TwinN S (r :: n) (s :: m)
theorem TwinN.len {S : PSchema} {n m : PName} (h : TwinN S n m) : m.length = n.length := by
 induction h with
 | nil => rfl
 | cons _ _ ih => simp [ih]
theorem steps_same {S : PSchema} (hS : OkS S) {rd : Str → Str × Bool} {n m : PName} (h : TwinN S n m) : (stepsK rd S n).1 = 0 → stepsK rd S m = stepsK rd S n := by
 induction h with
 | nil => intro _; rfl
 | cons h t ih =>
  intro h0
  simp only [stepsK] at h0 ⊢
  split at h0
  ·rename_i e; simp only at h0; omega
  ·rename_i e
   have e : _ = (0 : Int) := Decidable.not_not.1 e
   obtain ⟨p1, p2⟩ := part_same hS h e
   rw [if_neg (by rw [p1]; simp), if_neg (by rw [e]; simp), p2, ih h0]
theorem word_oid {x : Str} (h : oidB x = true) (hl : x.length ≤ 65536) : wordOk x = true := by
 unfold wordOk keyL
 rw [if_neg (by omega)]
 have h8 : ruleL 8 x = oidL x := by unfold ruleL; simp
 rw [h8]
 have : (oidL x).2 = true := by
  unfold oidB at h
  simp only [Bool.and_eq_true] at h
  cases x with
  | nil => exact absurd h.1 (by decide)
  | cons b l =>
   unfold oidL
   have hb : letters.contains b = false := by
    cases hc : letters.contains b with
    | false => rfl
    | true =>
     exfalso
     rw [letters_let] at hc
     have h46 : b ≠ 46 := fun e => by subst e; exact absurd hc (by decide)
     have hcut : ∃ x rows, cutAt 46 (b :: l) = (b :: x) :: rows := by
      unfold cutAt
      rw [if_neg h46]
      cases cutAt 46 l with
      | nil => exact ⟨[], [], rfl⟩
      | cons y rows => exact ⟨y, rows, rfl⟩
     obtain ⟨y, rows, hcut⟩ := hcut
     rw [hcut] at h
     have h1 : rowOk (b :: y) = true := (List.all_eq_true.1 h.1) _ (by simp)
     unfold rowOk at h1
     simp only [Bool.and_eq_true, List.all_cons] at h1
     have hd := h1.1.1
     have := all_bytesN (p := fun b => !(isLet b && dig b)) (by decide +kernel) b
     rw [hc, hd] at this
     exact absurd this (by decide)
   simp only [hb, Bool.false_eq_true, if_false, if_pos h.1]
   exact h.2
 rw [this, if_pos rfl]
theorem twin_print {S : PSchema} (hS : OkS S) {rd : Str → Str × Bool} {n m : PName} (h : TwinN S n m) (hp : (printV n).2 = 0) (h0 : (stepsK rd S n).1 = 0) : (printV m).2 = 0 ∨ (printV m).2 = 3 := by
 obtain ⟨-, -, l1, l2⟩ := print_ok (n := n) (t := (printV n).1) (by rw [← hp])
 have hr : ∀ s ∈ m, s ≠ [] ∧ s.length ≤ 8 ∧ ∀ a ∈ s, typedV (toL a.1) = true := by
  clear hp l1
  induction h with
  | nil => intro s hs; cases hs
  | @cons r s n m h t ih =>
   simp only [stepsK] at h0
   split at h0
   ·rename_i e; simp only at h0; omega
   ·rename_i e
    have e : _ = (0 : Int) := Decidable.not_not.1 e
    intro x hx
    rcases List.mem_cons.1 hx with rfl | hx
    ·obtain ⟨b1, b2, _⟩ := l2 r (by simp)
     have hl := h.len
     refine ⟨fun e2 => by rw [e2] at hl; exact b1 (List.eq_nil_of_length_eq_zero hl.symm), by omega, fun a ha => ?_⟩
     obtain ⟨r', hp, rfl⟩ := h
     obtain ⟨a', ha', rfl⟩ := List.mem_map.1 ha
     obtain ⟨_, _, i3⟩ := pairsK_to r [] (by simp) e
     obtain ⟨t, ht, _⟩ := i3 a' (hp.mem_iff.1 ha')
     have hlt := typeAt_lt ht
     obtain ⟨o1, o2, _⟩ := namedE_zero (typeE_named (hS.ty t hlt))
     have e1 : (renA S a').1 = (tyAt S t).oid := by
      unfold renA
      rw [ht]
      simp only [Option.getD_some]
      unfold fullT
      rw [(inheritT_same S t _).2.1]
     have hz : (toL (tyAt S t).oid).length = (tyAt S t).oid.size := Lib.size_eq _
     rw [e1]
     unfold typedV
     rw [if_pos (by omega)]
     exact word_oid o1 (by omega)
    ·exact ih h0 (fun r hr => l2 r (by simp [hr])) x hx
 have hlen := h.len
 unfold printV
 rw [if_neg (by
  rintro (e | e)
  ·omega
  ·obtain ⟨s, hs, e⟩ := List.any_eq_true.1 e
   have := (hr s hs).2.1
   simp at e; omega)]
 rw [if_neg (fun e => by
  obtain ⟨s, hs, e⟩ := List.any_eq_true.1 e
  rw [Bool.or_eq_true] at e
  rcases e with e | e
  ·exact (hr s hs).1 (by simpa using e)
  ·obtain ⟨a, ha, e⟩ := List.any_eq_true.1 e
   rw [(hr s hs).2.2 a ha] at e
   exact absurd e (by decide))]
 split
 ·exact .inr rfl
 ·exact .inl rfl
theorem key_twin {S : PSchema} (hS : OkS S) {n m : PName} (h : TwinN S n m) (hk : (nkeyV S n).2 = 0) : ((nkeyV S m).2 = 0 ∧ (nkeyV S m).1 = (nkeyV S n).1) ∨ (nkeyV S m).2 = 3 := by
 unfold nkeyV keyN at hk ⊢
 split at hk
 ·rename_i e; simp only at hk; omega
 ·rename_i e
  have e : _ = (0 : Int) := Decidable.not_not.1 e
  split at hk
  ·rename_i e2; simp only at hk; omega
  ·rename_i e2
   have e2 : _ = (0 : Int) := Decidable.not_not.1 e2
   have hs := steps_same hS h e2
   rcases twin_print hS h e e2 with hp | hp
   ·left
    rw [if_neg (by rw [hp]; simp), if_neg (by rw [hs, e2]; simp), hs, if_neg (by rw [e]; simp), if_neg (by rw [e2]; simp)]
    exact ⟨rfl, rfl⟩
   ·right
    rw [if_pos (by rw [hp]; simp)]
    exact hp
theorem sortP_up {l : List KPair} (h : (l.map (·.1)).Nodup) : upP (-1) (sortP l) := by
 refine ⟨fun p _ => by omega, ?_⟩
 have h1 := sortP_sorted l
 have h2 : ((sortP l).map (·.1)).Nodup := ((sortP_perm l).map _).nodup_iff.2 h
 unfold List.Nodup at h2
 rw [List.pairwise_map] at h2
 exact (h1.and h2).imp fun ⟨a, b⟩ => by omega
def small9 (rd : Str → Str × Bool) (S : PSchema) (n : PName) : Prop := ∀ r ∈ n, ∀ a ∈ r, (prP rd S a).2.length < 1000000000
theorem steps_good {S : PSchema} (hS : OkS S) {rd : Str → Str × Bool} : ∀ (n : PName), (∀ r ∈ n, r ≠ []) → small9 rd S n → (stepsK rd S n).1 = 0 → ∃ ms : List (List KPair), (∀ m ∈ ms, GoodP m) ∧ (stepsK rd S n).2 = ms.map stepS ∧ ms.length = n.length
 | [], _, _, _ => ⟨[], (fun m hm => by cases hm), rfl, rfl⟩
 | r :: n, hne, h9, h0 => by
  simp only [stepsK] at h0 ⊢
  split at h0
  ·rename_i e; simp only at h0; omega
  ·rename_i e
   rw [if_neg e]
   have e : _ = (0 : Int) := Decidable.not_not.1 e
   obtain ⟨ms, m1, m2, m3⟩ := steps_good hS n (fun x hx => hne x (by simp [hx])) (fun x hx => h9 x (by simp [hx])) h0
   obtain ⟨i1, i2, i3⟩ := pairsK_to r [] (by simp) e
   rw [List.nil_append] at i1 i2
   refine ⟨sortP (r.map (prP rd S)) :: ms, fun m hm => ?_, by rw [i1, m2]; rfl, by simp [m3]⟩
   rcases List.mem_cons.1 hm with rfl | hm
   ·refine ⟨fun e2 => ?_, sortP_up i2, fun p hp => ?_⟩
    ·have := (sortP_perm (r.map (prP rd S))).length_eq
     rw [e2] at this
     simp at this
     exact hne r (by simp) (List.eq_nil_of_length_eq_zero this.symm)
    ·obtain ⟨a, ha, rfl⟩ := List.mem_map.1 ((sortP_perm _).mem_iff.1 hp)
     obtain ⟨t, ht, _⟩ := i3 a ha
     have := typeAt_lt ht
     have h4 := hS.types
     refine ⟨?_, h9 r (by simp) a ha⟩
     unfold prP
     rw [ht]
     simp only [Option.getD_some]
     omega
   ·exact m1 m hm
theorem print_short {n : PName} (h : (printV n).2 = 0) : ∀ r ∈ n, ∀ a ∈ r, a.2.size ≤ 65536 := by
 unfold printV at h
 split at h
 ·simp at h
 ·split at h
  ·simp at h
  ·split at h
   ·simp at h
   ·rename_i h3
    intro r hr a ha
    by_cases e : 65536 < a.2.size
    ·exact absurd (.inl (List.any_eq_true.2 ⟨r, hr, List.any_eq_true.2 ⟨a, ha, by simp [e]⟩⟩)) h3
    ·omega
theorem val9 {S : PSchema} (hS : OkS S) (x : PType) (v : Str) (hv : v.length ≤ 65536) : (valK (rdK S) S x v).1.length < 1000000000 := by
 have h1 := valK_leaf hS (rdK S) x v hv
 have h2 := leaf_le v
 have h3 : (rdK S v).1.length < 1000000000 := by
  rw [rdK_eq]
  cases hp : parseV v with
  | error e => simp [rd1]
  | ok n =>
   simp only [rd1]
   split
   ·obtain ⟨w1, w2, w3⟩ := parse_wt hp
    obtain ⟨n1, n2, _⟩ := parse_typed hp
    have hsh := parse_short hp
    have hz : ∀ a : PAva, (toL a.2).length = a.2.size := fun a => Lib.size_eq a.2
    have hF : ∀ r ∈ n, ∀ a ∈ r, ∀ x, (valK (rdK S) S x (toL a.2)).1.length + 45 ≤ 13153 * wtA a + 13089 * 1 := fun r hr a ha x => by
     have s1 := (hsh r hr a ha).2
     have k1 := valK_leaf hS (rdK S) x (toL a.2) (by rw [hz]; omega)
     obtain ⟨k2, k3⟩ := rd_len hS _ (toL a.2) (Zr _)
     have k4 : leafB (toL a.2) + 45 ≤ 13153 * wtA a + 13089 * 1 := by
      unfold leafB wtA
      split
      ·omega
      ·rename_i e
       have := List.length_pos_iff.2 e
       rw [hz] at this
       omega
     have k5 : (rdK S (toL a.2)).1.length + 45 ≤ 13153 * wtA a := by
      rw [hz] at k2 k3
      unfold wtA
      omega
     omega
    have hs : sumN (fun a => 13153 * wtA a + 13089 * 1) n ≤ 13153 * 65537 + 13089 * 512 := by
     rw [sumN_add (fun a => 13153 * wtA a) (fun _ => 13089 * 1), sumN_mul 13153 wtA, sumN_mul 13089 (fun _ => 1)]
     have hc : sumN (fun _ => 1) n ≤ 512 := by
      have hc1 : ∀ m : PName, (∀ r ∈ m, r.length ≤ 8) → sumN (fun _ => 1) m ≤ 8 * m.length := by
       intro m
       induction m with
       | nil => intro _; simp [sumN]
       | cons r m ih =>
        intro h
        have a1 := ih fun x hx => h x (by simp [hx])
        have a2 := h r (by simp)
        have a3 : sumR (fun _ => 1) r = r.length := by unfold sumR; rw [List.map_const', List.sum_replicate_nat]; omega
        simp only [sumN, List.map_cons, List.sum_cons, List.length_cons] at a1 ⊢
        omega
      have := hc1 n fun r hr => (n2 r hr).2.1
      omega
     omega
    have := keyN_len hS.types n hF (by omega)
    show (nkeyV S n).1.length < _
    unfold nkeyV
    omega
   ·simp
 omega
theorem nkey_small {S : PSchema} (hS : OkS S) {n : PName} (hp : (printV n).2 = 0) : small9 (rdK S) S n := fun r hr a ha => by
 have h := print_short hp r hr a ha
 have hz : (toL a.2).length = a.2.size := Lib.size_eq a.2
 exact val9 hS _ _ (by rw [hz]; exact h)
theorem key_steps {S : PSchema} (hS : OkS S) {n : PName} (hk : (nkeyV S n).2 = 0) : (nkeyV S n).1 = (stepsK (rdK S) S n).2.reverse.flatten ∧ stepsOf (nkeyV S n).1 = (stepsK (rdK S) S n).2.reverse ∧ (stepsK (rdK S) S n).1 = 0 ∧ (printV n).2 = 0 ∧ (stepsK (rdK S) S n).2.length = n.length ∧ (∀ s ∈ (stepsK (rdK S) S n).2, s ≠ []) := by
 unfold nkeyV keyN at hk ⊢
 split at hk
 ·rename_i e; simp only at hk; omega
 ·rename_i e
  rw [if_neg e]
  have e : _ = (0 : Int) := Decidable.not_not.1 e
  split at hk
  ·rename_i e2; simp only at hk; omega
  ·rename_i e2
   rw [if_neg e2]
   have e2 : _ = (0 : Int) := Decidable.not_not.1 e2
   obtain ⟨_, _, _, l2⟩ := print_ok (n := n) (t := (printV n).1) (by rw [← e])
   obtain ⟨ms, m1, m2, m3⟩ := steps_good hS n (fun r hr => (l2 r hr).1) (nkey_small hS e) e2
   refine ⟨rfl, ?_, e2, e, by rw [m2]; simp [m3], fun s hs => ?_⟩
   ·simp only
    rw [m2, ← List.map_reverse]
    exact stepsOf_flat fun m hm => m1 m (by simpa using hm)
   ·rw [m2] at hs
    obtain ⟨m, _, rfl⟩ := List.mem_map.1 hs
    simp [stepS]
theorem joinP_tail (c : UInt8) (x : Str) : ∀ l : List Str, (joinP c l).length ≤ (joinP c (x :: l)).length
 | [] => by simp [joinP]
 | y :: l => by simp [joinP]; omega
theorem print_tail {r : PRdn} {n : PName} (h : (printV (r :: n)).2 = 0) : (printV n).2 = 0 := by
 unfold printV at h ⊢
 split at h
 ·simp at h
 ·rename_i h1
  split at h
  ·simp at h
  ·rename_i h2
   split at h
   ·simp at h
   ·rename_i h3
    rw [if_neg (by
     rintro (e | e)
     ·exact h1 (.inl (by simp; omega))
     ·exact h1 (.inr (by rw [List.any_cons, e, Bool.or_true])))]
    rw [if_neg (fun e => h2 (by rw [List.any_cons, e, Bool.or_true]))]
    rw [if_neg (by
     rintro (e | e)
     ·exact h3 (.inl (by rw [List.any_cons, e, Bool.or_true]))
     ·have := joinP_tail 44 (rdnP r) (n.map rdnP)
      exact h3 (.inr (by
       show 65536 < (joinP 44 (rdnP r :: n.map rdnP)).length
       have e : 65536 < (joinP 44 (n.map rdnP)).length := e
       omega)))]
theorem key_cons {S : PSchema} (hS : OkS S) {r : PRdn} {n : PName} (hk : (nkeyV S (r :: n)).2 = 0) :
  ∃ s, s ≠ [] ∧ (nkeyV S n).2 = 0 ∧ (nkeyV S (r :: n)).1 = (nkeyV S n).1 ++ s ∧ stepsOf (nkeyV S (r :: n)).1 = stepsOf (nkeyV S n).1 ++ [s] ∧ (stepsOf (nkeyV S n).1).length = n.length ∧ (stepsOf (nkeyV S n).1).flatten = (nkeyV S n).1 ∧
   liesV (nkeyV S (r :: n)).1 (nkeyV S n).1 = true ∧ liesV (nkeyV S n).1 (nkeyV S (r :: n)).1 = false := by
 obtain ⟨a1, a2, a3, a4, a5, a6⟩ := key_steps hS hk
 have hp := print_tail a4
 have hst : (stepsK (rdK S) S n).1 = 0 ∧ (stepsK (rdK S) S (r :: n)).2 = stepK (pairsK (rdK S) S [] r).2 :: (stepsK (rdK S) S n).2 := by
  simp only [stepsK] at a3 ⊢
  split at a3
  ·rename_i e; simp only at a3; omega
  ·rename_i e
   rw [if_neg e]
   exact ⟨a3, rfl⟩
 obtain ⟨h1, h2⟩ := hst
 have hkn : (nkeyV S n).2 = 0 := by
  unfold nkeyV keyN
  rw [if_neg (by rw [hp]; simp), if_neg (by rw [h1]; simp)]
 obtain ⟨b1, b2, b3, b4, b5, b6⟩ := key_steps hS hkn
 have hs : stepK (pairsK (rdK S) S [] r).2 ≠ [] := a6 _ (by rw [h2]; simp)
 have e1 : (nkeyV S (r :: n)).1 = (nkeyV S n).1 ++ stepK (pairsK (rdK S) S [] r).2 := by rw [a1, b1, h2]; simp
 have e2 : stepsOf (nkeyV S (r :: n)).1 = stepsOf (nkeyV S n).1 ++ [stepK (pairsK (rdK S) S [] r).2] := by rw [a2, b2, h2]; simp
 have hl := List.length_pos_iff.2 hs
 refine ⟨_, hs, hkn, e1, e2, by rw [b2]; simp [b5], by rw [b2, b1], ?_, ?_⟩
 ·unfold liesV
  have p1 : decide ((nkeyV S n).1.length < (nkeyV S (r :: n)).1.length) = true := decide_eq_true (by rw [e1]; simp; omega)
  have p2 : (nkeyV S n).1.isPrefixOf (nkeyV S (r :: n)).1 = true := by rw [e1]; exact List.isPrefixOf_iff_prefix.2 (List.prefix_append _ _)
  have p3 : decide (0 < (stepsOf (nkeyV S (r :: n)).1).length) = true := decide_eq_true (by rw [e2]; simp)
  have p4 : (decide ((nkeyV S n).1 = []) || decide (0 < (stepsOf (nkeyV S n).1).length)) = true := by
   cases n with
   | nil =>
    have : (nkeyV S []).1 = [] := by rw [b1]; rfl
    simp [this]
   | cons x n => rw [Bool.or_eq_true]; exact .inr (decide_eq_true (by rw [b2]; simp [b5]))
  rw [p1, p2, p3, p4]; rfl
 ·unfold liesV
  have p1 : decide ((nkeyV S (r :: n)).1.length < (nkeyV S n).1.length) = false := decide_eq_false (by rw [e1]; simp)
  rw [p1]; rfl
end Go.Proofs.YtlmfbjhokkpjhaaGreatDoor
