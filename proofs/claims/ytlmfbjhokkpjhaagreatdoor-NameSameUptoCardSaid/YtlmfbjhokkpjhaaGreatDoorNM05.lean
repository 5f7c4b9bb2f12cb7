/- Part 5 of the walks and plain laws, joined: Time, TimeForm, Rules, Cut, Oid. -/
import Derived.Test.YtlmfbjhokkpjhaaGreatDoorNM04
import Derived.Test.YtlmfbjhokkpjhaaGreatDoorNM03
import Derived.Test.YtlmfbjhokkpjhaaGreatDoorNM02
import Derived.Test.YtlmfbjhokkpjhaaGreatDoorNM00
import Derived.Deep.DeepCutAuto
import Derived.MapKept
import Derived.Lib.Split
import Derived.Lib.SplitLaws
import Derived.Lib.IndexBytes
import Derived.Lib.Replace
set_option linter.unusedVariables false
set_option linter.unusedSimpArgs false
namespace Go.Proofs.YtlmfbjhokkpjhaaGreatDoor
open Go Go.RowKit
set_option maxRecDepth 20000 in
set_option maxHeartbeats 4000000 in
theorem time_any (v : ByteArray) (w : World) (hs : v.size ≤ 9223372036854775807) :
  Calls Tryz.prog 195 #[.string v] w fun e w' => e = .returned (ret3 (timeL v.data.toList)) ∧ Below w.heap.size w w' := by
 have HL := Zh (Lib.size_eq v)
 by_cases h1 : v.size < 15
 ·have g : (v.size : Int) < 15 := by omega
  have HT := Zh (show timeL v.data.toList = (0, [], false) from if_pos (.inl (by have := HL.out; omega)))
  clear h1
  go_enter Tryz.func195, Tryz.ntmps195
  go_wp2_with fail
  go_ret3
  exact ⟨by rw [HT.out]; rfl, Zl _ _⟩
 by_cases h2 : 65536 < v.size
 ·have g : ¬ (v.size : Int) < 15 := by omega
  have g2 : (65536 : Int) < v.size := by omega
  have HT := Zh (show timeL v.data.toList = (0, [], false) from if_pos (.inr (.inl (by have := HL.out; omega))))
  clear h1 h2
  go_enter Tryz.func195, Tryz.ntmps195
  go_wp2_with fail
  go_ret3
  exact ⟨by rw [HT.out]; rfl, Zl _ _⟩
 have g : ¬ (v.size : Int) < 15 := by omega
 have g2 : ¬ (65536 : Int) < v.size := by omega
 have hx : (v.extract 0 14).data.toList = v.data.toList.take 14 := by rw [Lib.extract_data]; rfl
 have hxs : (v.extract 0 14).size = 14 := by rw [Lib.size_eq, hx, List.length_take]; have := HL.out; omega
 have ho : onlyL (ByteArray.mk #[]).data.toList (v.extract 0 14).data.toList = (v.data.toList.take 14).all dig := by rw [hx]; exact onlyL_nil _
 have HX := Zh (Zi hxs ho); clear hx hxs ho
 cases hd : (v.data.toList.take 14).all dig with
 | false =>
  have HT := Zh (show timeL v.data.toList = (0, [], false) from if_pos (.inr (.inr (.inl hd))))
  have HD := Zh hd; clear hd h1 h2
  go_enter Tryz.func195, Tryz.ntmps195
  go_wp2_with (first
   | (go_at_call 139; refine (only_any _ _ _ (by have := HX.out; omega)).mono ?_; rintro e w1 ⟨rfl, rfl⟩; rw [HX.out.2, HD.out])
   | fail)
  go_ret3
  exact ⟨by rw [HT.out]; rfl, Zl _ _⟩
 | true =>
  have hd' := List.all_eq_true.1 hd
  obtain ⟨a0, b0, x0, t0, l0, u0⟩ := two_ok v 0 (by omega) (by omega) hd'
  obtain ⟨a2, b2, x2, t2, l2, u2⟩ := two_ok v 2 (by omega) (by omega) hd'
  obtain ⟨a4, b4, x4, t4, l4, u4⟩ := two_ok v 4 (by omega) (by omega) hd'
  obtain ⟨a6, b6, x6, t6, l6, u6⟩ := two_ok v 6 (by omega) (by omega) hd'
  obtain ⟨a8, b8, x8, t8, l8, u8⟩ := two_ok v 8 (by omega) (by omega) hd'
  obtain ⟨a10, b10, x10, t10, l10, u10⟩ := two_ok v 10 (by omega) (by omega) hd'
  obtain ⟨a12, b12, x12, t12, l12, u12⟩ := two_ok v 12 (by omega) (by omega) hd'
  simp only [Nat.reduceAdd] at x0 x2 x4 x6 x8 x10 x12
  have HD := Zh hd; clear hd hd'
  have s2 : (2 : Int) ≤ v.size := by omega
  have s4 : (4 : Int) ≤ v.size := by omega
  have s6 : (6 : Int) ≤ v.size := by omega
  have s8 : (8 : Int) ≤ v.size := by omega
  have s10 : (10 : Int) ≤ v.size := by omega
  have s12 : (12 : Int) ≤ v.size := by omega
  have s14 : (14 : Int) ≤ v.size := by omega
  have r2 : 2 ≤ v.size := by omega
  have r4 : 4 ≤ v.size := by omega
  have r6 : 6 ≤ v.size := by omega
  have r8 : 8 ≤ v.size := by omega
  have r10 : 10 ≤ v.size := by omega
  have r12 : 12 ≤ v.size := by omega
  have r14 : 14 ≤ v.size := by omega
  have hy : yearT v.data.toList = two v.data.toList 0 * 100 + two v.data.toList 2 := rfl
  have hT : timeL v.data.toList = timeT (two v.data.toList 0 * 100 + two v.data.toList 2) (two v.data.toList 4) (two v.data.toList 6) (two v.data.toList 8) (two v.data.toList 10) (two v.data.toList 12) (v.data.toList.drop 14) := by
   have hl : ¬ (v.data.toList.length < 15) := by have := HL.out; omega
   have hl2 : ¬ (65536 < v.data.toList.length) := by have := HL.out; omega
   have hh : headT v.data.toList = false ↔ (two v.data.toList 4 < 1 ∨ 12 < two v.data.toList 4 ∨ two v.data.toList 6 < 1 ∨ dateI (daysI (two v.data.toList 0 * 100 + two v.data.toList 2) (two v.data.toList 4) (two v.data.toList 6)) ≠ (two v.data.toList 0 * 100 + two v.data.toList 2, two v.data.toList 4, two v.data.toList 6) ∨ 23 < two v.data.toList 8 ∨ 59 < two v.data.toList 10 ∨ 59 < two v.data.toList 12) := by
    unfold headT
    rw [Bool.not_eq_false', hy]
    simp only [Bool.or_eq_true, decide_eq_true_eq, Bool.not_eq_true', beq_eq_false_iff_ne, ne_eq, or_assoc]
   unfold timeL timeT timeZ secT
   rw [hy]
   by_cases hb : headT v.data.toList = false
   ·rw [if_pos (.inr (.inr (.inr hb))), if_pos (hh.1 hb)]
   ·rw [if_neg (fun e => by
     rcases e with e | e | e | e
     ·exact hl e
     ·exact hl2 e
     ·rw [HD.out] at e; cases e
     ·exact hb e), if_neg (fun e => hb (hh.2 e))]
  have HT := Zh hT; clear hT hy
  generalize two v.data.toList 0 = Y0 at *
  generalize two v.data.toList 2 = Y2 at *
  generalize two v.data.toList 4 = M at *
  generalize two v.data.toList 6 = D at *
  generalize two v.data.toList 8 = h at *
  generalize two v.data.toList 10 = m at *
  generalize two v.data.toList 12 = s at *
  have wy1 : IntKind.i64.wrap (Y0 * 100) = Y0 * 100 := IntWalk.i64_in _ (by omega)
  have wy2 : IntKind.i64.wrap (Y0 * 100 + Y2) = Y0 * 100 + Y2 := IntWalk.i64_in _ (by omega)
  go_enter Tryz.func195, Tryz.ntmps195
  go_wp2_with (first
   | (go_at_call 139; refine (only_any _ _ _ (by have := HX.out; omega)).mono ?_; rintro e w1 ⟨rfl, rfl⟩; rw [HX.out.2, HD.out])
   | fail)
  apply wp_one (R := fun w' => Civ w1 w' w1.heap.size 239 (Y0 * 100 + Y2) M D)
  case hw =>
   have k0 := fun q => (fresh3c w1 q 239 (.int .i64 0) (.int .i64 0) (.int .i64 0)).1
   have k1 := fun q => (fresh3c w1 q 239 (.int .i64 0) (.int .i64 0) (.int .i64 0)).2.1
   have k2 := fun q => (fresh3c w1 q 239 (.int .i64 0) (.int .i64 0) (.int .i64 0)).2.2
   have kf := fun q j => fresh3f w1 q 239 (.int .i64 0) (.int .i64 0) (.int .i64 0) j
   go_region_held3 (fun w' => True)
    (trivial)
    (first
     | (go_at_call 234; refine (pair2 _ _ _).mono ?_; rintro e w5 ⟨rfl, q5, rfl⟩; first | rw [t0] | rw [t2] | rw [t4] | rw [t6])
     | fail)
   all_goals first | exact ⟨rfl, rfl, civ_a _ _ _ _ _ _ _ _ _⟩ | exact ⟨rfl, rfl, civ_b _ _ _ _ _ _ _ _ _ _⟩ | fail
  case hi =>
   intro w2 hC
   obtain ⟨gd, hgd⟩ : ∃ gd, gd = w1.heap.size := ⟨_, rfl⟩
   rw [← hgd] at hC ⊢
   have HC := Zh hC; have HG := Zh hgd; clear hC hgd
   clear x0 x2 x4 x6 t0 t2 t4 t6 wy1 wy2 s2 s4 s6 r2 r4 r6
   go_wp2_with fail
   apply wp_one (R := fun w' => Civ w2 w' w2.heap.size 238 h m s)
   case hw =>
    have k0 := fun q => (fresh3c w2 q 238 (.int .i64 0) (.int .i64 0) (.int .i64 0)).1
    have k1 := fun q => (fresh3c w2 q 238 (.int .i64 0) (.int .i64 0) (.int .i64 0)).2.1
    have k2 := fun q => (fresh3c w2 q 238 (.int .i64 0) (.int .i64 0) (.int .i64 0)).2.2
    have kf := fun q j => fresh3f w2 q 238 (.int .i64 0) (.int .i64 0) (.int .i64 0) j
    go_region_held3 (fun w' => True)
     (trivial)
     (first
      | (go_at_call 234; refine (pair2 _ _ _).mono ?_; rintro e w5 ⟨rfl, q5, rfl⟩; first | rw [t8] | rw [t10] | rw [t12])
      | fail)
    all_goals first | exact ⟨rfl, rfl, civ_a _ _ _ _ _ _ _ _ _⟩ | exact ⟨rfl, rfl, civ_b _ _ _ _ _ _ _ _ _ _⟩ | fail
   case hi =>
    intro w3 hC
    clear x8 x10 x12 t8 t10 t12 s8 s10 s12 r8 r10 r12
    have hD := HC.out.next hC.below
    have hC2 : Civ w1 w3 w2.heap.size 238 h m s := Civ.mk hC.row (Nat.le_trans HC.out.below.size hC.ge) hD.below
    have H2 := Zh hC2; have H1 := Zh hD
    clear HC hD hC hC2
    obtain ⟨c, r, hcr⟩ : ∃ c r, v.data.toList.drop 14 = c :: r := by
     cases hq : v.data.toList.drop 14 with
     | nil => exfalso; have h0 := congrArg List.length hq; rw [List.length_drop] at h0; have h1 := HL.out; simp only [List.length_nil] at h0; omega
     | cons c r => exact ⟨c, r, rfl⟩
    rw [hcr] at HT
    have hlen : v.size = r.length + 15 := by have h0 := congrArg List.length hcr; rw [List.length_drop] at h0; have h1 := HL.out; simp only [List.length_cons] at h0; omega
    have hx : v.extract 14 v.size = ⟨(c :: r).toArray⟩ := by
     rw [Lib.extract_eq, hcr, List.take_of_length_le]
     rw [List.length_cons]; omega
    have := time_day (v := v) H1.out H2.out ⟨by omega, by omega⟩ ⟨l4, u4⟩ ⟨l6, u6⟩ ⟨l8, u8⟩ ⟨l10, u10⟩ ⟨l12, u12⟩ _ rfl hx hlen (by omega)
    simp only [Exit.then]
    go_step
    rw [← HT.out] at this
    apply this
theorem timeL_rest (v : List UInt8) : (timeL v).2.1.length ≤ v.length := by
 unfold timeL
 split
 ·simp
 ·rename_i h
  split
  ·simp
  ·rename_i rest z e
   split
   ·simp
   ·show rest.length ≤ v.length
    unfold fracT at e
    split at e
    ·cases e; simp
    ·rename_i c r hr
     have hrl : r.length ≤ v.length := by have := congrArg List.length hr; rw [List.length_drop, List.length_cons] at this; omega
     split at e
     ·split at e
      ·cases e
      ·injection e with e; injection e with e1 e2
       rw [← e1]
       refine Nat.le_trans (Nat.le_of_eq (List.length_reverse ..)) (Nat.le_trans (List.dropWhile_sublist _).length_le ?_)
       rw [List.length_reverse, List.length_take]; omega
     ·injection e with e; injection e with e1 e2
      rw [← e1]; simp
theorem timeL_len (v : List UInt8) (h : (timeL v).2.2 = true) : v.length ≤ 65536 := by
 unfold timeL at h
 split at h
 ·cases h
 ·rename_i h1; exact Nat.le_of_not_lt fun e => h1 (.inr (.inl e))
set_option maxRecDepth 1000000 in
theorem time_form (v : ByteArray) (w : World) (hE : Env w) (hs : v.size ≤ 140737488355327) :
  Calls Tryz.prog 151 #[.agg #[], .string v] w fun e w' => e = .returned (ret2 (timeFormL v.data.toList)) ∧ Below w.heap.size w w' := by
 have b0 : Below w.heap.size w (w.alloc (.cells #[] 204)) := (Zl _ w).alloc (Zr _) _
 have HB0 := Zh (Zi b0 (hE.next b0)); clear b0 hE
 have HT := Zh (fun w => time_any v w (by omega))
 have hR := timeL_range v.data.toList
 have hL := timeL_rest v.data.toList
 have hN := timeL_len v.data.toList
 have hF : timeFormL v.data.toList = if (timeL v.data.toList).2.2 = true then (momentL (timeL v.data.toList).1 (timeL v.data.toList).2.1, true) else ([], false) := rfl
 generalize timeL v.data.toList = T at HT hR hL hN hF
 obtain ⟨n, rest, ok⟩ := T
 simp only [] at hR hL hN hF
 simp only [ret3] at HT
 cases ok with
 | false =>
  have HF := Zh (hF.trans (if_neg (by simp))); clear hF
  go_enter Tryz.func151, Tryz.ntmps151
  go_wp2_with (first
   | (go_at_call 195; refine (HT.out _).mono ?_; rintro e w1 ⟨rfl, hb1⟩; have HB1 := Zh (bnext HB0.out.1 hb1); clear hb1)
   | fail)
  go_ret2
  exact ⟨by rw [HF.out]; rfl, HB1.out⟩
 | true =>
  have HF := Zh (hF.trans (if_pos rfl)); clear hF
  obtain ⟨r0, r1⟩ := hR rfl
  have hN := hN rfl
  have hrl : (⟨rest.toArray⟩ : ByteArray).size ≤ 65536 := by show rest.length ≤ _; omega
  clear hL hN hR
  have HRL := Zh hrl; clear hrl
  obtain ⟨q, hq⟩ : ∃ q, n.tdiv 86400 = q := ⟨_, rfl⟩
  obtain ⟨r, hr⟩ : ∃ r, n.tmod 86400 = r := ⟨_, rfl⟩
  have e1 : q * 86400 + r = n := by rw [← hq, ← hr, Int.mul_comm]; exact Int.mul_tdiv_add_tmod n 86400
  have e2 : -86400 < r := by rw [← hr]; have := Int.lt_tmod_of_pos n (b := 86400) (by omega); omega
  have e3 : r < 86400 := by rw [← hr]; exact Int.tmod_lt_of_pos _ (by omega)
  have v1 : IntKind.i64.wrap (n.tdiv 86400) = q := by rw [hq]; exact IntWalk.i64_in _ (by omega)
  have v2 : IntKind.i64.wrap (q - 1) = q - 1 := IntWalk.i64_in _ (by omega)
  have v3 : IntKind.i64.wrap (r + 86400) = r + 86400 := IntWalk.i64_in _ (by omega)
  go_enter Tryz.func151, Tryz.ntmps151
  go_upto_if 26 with (first
   | (go_at_call 195; refine (HT.out _).mono ?_; rintro e w1 ⟨rfl, hb1⟩; have HB1 := Zh (Zi (bnext HB0.out.1 hb1) (HB0.out.2.next hb1)); clear hb1)
   | fail)
  clear HB0
  go_cut [9, 10] (fun x y wx => x = .int .i64 (n / 86400) ∧ y = .int .i64 (n % 86400) ∧ wx = w1)
  case first =>
   by_cases hr0 : r < 0
   ·have hd : q - 1 = n / 86400 := by omega
    have hm : r + 86400 = n % 86400 := by omega
    rw [hd] at v2; rw [hm] at v3
    go_wp2_with fail
    all_goals (go_meet; exact ⟨rfl, rfl, rfl⟩)
   ·have hd : q = n / 86400 := by omega
    have hm : r = n % 86400 := by omega
    go_wp2_with fail
    all_goals (go_meet; exact ⟨by rw [← hd], by rw [← hm], rfl⟩)
  case rest =>
   obtain ⟨rfl, rfl, rfl⟩ := hcut
   have := mom_tail (n / 86400) (n % 86400) ⟨rest.toArray⟩ HRL.out HB1.out.1 HB1.out.2 (by omega) (by omega)
   go_step
   have e : (Value.tuple #[.string ⟨(wideL (dateI (n / 86400)).1.toNat 4 ++ (wideL (dateI (n / 86400)).2.1.toNat 2 ++ (wideL (dateI (n / 86400)).2.2.toNat 2 ++
    (wideL (n % 86400 / 3600).toNat 2 ++ (wideL (n % 86400 / 60 % 60).toNat 2 ++ (wideL (n % 86400 % 60).toNat 2 ++ (ByteArray.mk rest.toArray).data.toList)))))).toArray⟩, .bool true]) = ret2 (timeFormL v.data.toList) := by rw [HF.out]; rfl
   rw [e] at this
   apply this
def ruleEs : List MapEntry := [⟨.int .i8 0, .func (.func 145) #[.agg #[]] #[], 0⟩, ⟨.int .i8 1, .func (.func 146) #[.agg #[]] #[], 1⟩, ⟨.int .i8 2, .func (.func 147) #[.agg #[]] #[], 2⟩, ⟨.int .i8 3, .func (.func 148) #[.agg #[]] #[], 3⟩, ⟨.int .i8 4, .func (.func 149) #[.agg #[]] #[], 4⟩, ⟨.int .i8 5, .func (.func 150) #[.agg #[]] #[], 5⟩, ⟨.int .i8 6, .func (.func 151) #[.agg #[]] #[], 6⟩, ⟨.int .i8 7, .func (.func 152) #[.agg #[]] #[], 7⟩, ⟨.int .i8 8, .func (.func 153) #[.agg #[]] #[], 8⟩]
def setM (w : World) (r : Nat) (es : List MapEntry) : World := { w with heap := w.heap.setIfInBounds r (.map es.toArray es.length) }
theorem setM_heap {w : World} {r : Nat} {es : List MapEntry} (h : r < w.heap.size) : (setM w r es).heap[r]? = some (.map es.toArray es.length) := by
 unfold setM; simp [h]
theorem setM_size (w : World) (r : Nat) (es : List MapEntry) : (setM w r es).heap.size = w.heap.size := by unfold setM; simp
theorem setM_below {w0 w : World} {r : Nat} {es : List MapEntry} (h : Below w0.heap.size w0 w) (hr : w0.heap.size ≤ r) : Below w0.heap.size w0 (setM w r es) :=
 ⟨h.os, h.tape, h.output, by rw [setM_size]; exact h.size, fun k hk => by
  rw [← h.block k hk]; show (w.heap.setIfInBounds r _)[k]? = _
  rw [Array.getElem?_setIfInBounds_ne (by omega)]⟩
theorem upd_new {w : World} {r : Nat} {es : List MapEntry} (hh : w.heap[r]? = some (.map es.toArray es.length)) (k : Int) (v : Value) (hn : Instr.findNow (.int .i8) (.int .i8 k) es 0 = some none) :
  (Instr.mapUpdate 168 (.map (some r)) (.int .i8 k) v).run Tryz.prog w = .ok () (setM w r (es ++ [⟨.int .i8 k, v, es.length⟩])) := by
 unfold Instr.mapUpdate
 simp only [Sem.run_bind, run_underlying Tryz.underlying168, Result.andThen, Go.MapKept.run_getObj_map hh]
 rw [Go.MapKept.run_checkKey (P := Tryz.prog) (d := .int .i8) Tryz.underlying26 (by simp [Go.MapKept.IsKey])]
 simp only []
 rw [Go.MapKept.run_findKey (P := Tryz.prog) (d := .int .i8) (a := none) Tryz.underlying26 (by simpa using hn)]
 simp only []
 rw [Go.MapKept.run_setObj_map _ hh]
 simp [setM]
structure RulesAt (w : World) (r : Nat) : Prop where
 hd : w.heap[r]? = some (.map ruleEs.toArray ruleEs.length)
set_option maxRecDepth 20000 in
theorem rules_any (w : World) :
  Calls Tryz.prog 100 #[] w fun e w' => ∃ r, e = .returned (.map (some r)) ∧ RulesAt w' r ∧ Below w.heap.size w w' := by
 have b0 : Below w.heap.size w (w.alloc (.cells #[] 204)) := (Zl _ w).alloc (Zr _) _
 have hr : w.heap.size ≤ (w.alloc (.cells #[] 204)).heap.size := b0.size
 have hm := run_makeMap (P := Tryz.prog) 168 (w.alloc (.cells #[] 204))
 have hh : ((w.alloc (.cells #[] 204)).alloc (.map #[] 0)).heap[(w.alloc (.cells #[] 204)).heap.size]? = some (.map (([] : List MapEntry)).toArray ([] : List MapEntry).length) := heap_alloc_new _ _
 have hlt : (w.alloc (.cells #[] 204)).heap.size < ((w.alloc (.cells #[] 204)).alloc (.map #[] 0)).heap.size := by simp
 have b1 : Below w.heap.size w ((w.alloc (.cells #[] 204)).alloc (.map #[] 0)) := b0.alloc hr _
 generalize ((w.alloc (.cells #[] 204)).alloc (.map #[] 0)) = w0 at hm hh hlt b1
 generalize (w.alloc (.cells #[] 204)).heap.size = r at hm hh hlt hr
 clear b0
 have u0 := upd_new hh 0 (.func (.func 145) #[.agg #[]] #[]) rfl
 obtain ⟨w1, e1⟩ : ∃ x, x = setM w0 r ([] ++ [⟨.int .i8 0, .func (.func 145) #[.agg #[]] #[], ([] : List MapEntry).length⟩]) := ⟨_, rfl⟩
 rw [← e1] at u0
 have hl1 : r < w1.heap.size := by rw [e1, setM_size]; exact hlt
 have hh1 : w1.heap[r]? = some (.map (ruleEs.take 1 : List MapEntry).toArray (ruleEs.take 1 : List MapEntry).length) := by rw [e1]; exact setM_heap hlt
 have b2 : Below w.heap.size w w1 := by rw [e1]; exact setM_below b1 hr
 clear e1
 have u1 := upd_new hh1 1 (.func (.func 146) #[.agg #[]] #[]) rfl
 obtain ⟨w2, e2⟩ : ∃ x, x = setM w1 r (ruleEs.take 1 ++ [⟨.int .i8 1, .func (.func 146) #[.agg #[]] #[], (ruleEs.take 1 : List MapEntry).length⟩]) := ⟨_, rfl⟩
 rw [← e2] at u1
 have hl2 : r < w2.heap.size := by rw [e2, setM_size]; exact hl1
 have hh2 : w2.heap[r]? = some (.map (ruleEs.take 2 : List MapEntry).toArray (ruleEs.take 2 : List MapEntry).length) := by rw [e2]; exact setM_heap hl1
 have b3 : Below w.heap.size w w2 := by rw [e2]; exact setM_below b2 hr
 clear e2
 have u2 := upd_new hh2 2 (.func (.func 147) #[.agg #[]] #[]) rfl
 obtain ⟨w3, e3⟩ : ∃ x, x = setM w2 r (ruleEs.take 2 ++ [⟨.int .i8 2, .func (.func 147) #[.agg #[]] #[], (ruleEs.take 2 : List MapEntry).length⟩]) := ⟨_, rfl⟩
 rw [← e3] at u2
 have hl3 : r < w3.heap.size := by rw [e3, setM_size]; exact hl2
 have hh3 : w3.heap[r]? = some (.map (ruleEs.take 3 : List MapEntry).toArray (ruleEs.take 3 : List MapEntry).length) := by rw [e3]; exact setM_heap hl2
 have b4 : Below w.heap.size w w3 := by rw [e3]; exact setM_below b3 hr
 clear e3
 have u3 := upd_new hh3 3 (.func (.func 148) #[.agg #[]] #[]) rfl
 obtain ⟨w4, e4⟩ : ∃ x, x = setM w3 r (ruleEs.take 3 ++ [⟨.int .i8 3, .func (.func 148) #[.agg #[]] #[], (ruleEs.take 3 : List MapEntry).length⟩]) := ⟨_, rfl⟩
 rw [← e4] at u3
 have hl4 : r < w4.heap.size := by rw [e4, setM_size]; exact hl3
 have hh4 : w4.heap[r]? = some (.map (ruleEs.take 4 : List MapEntry).toArray (ruleEs.take 4 : List MapEntry).length) := by rw [e4]; exact setM_heap hl3
 have b5 : Below w.heap.size w w4 := by rw [e4]; exact setM_below b4 hr
 clear e4
 have u4 := upd_new hh4 4 (.func (.func 149) #[.agg #[]] #[]) rfl
 obtain ⟨w5, e5⟩ : ∃ x, x = setM w4 r (ruleEs.take 4 ++ [⟨.int .i8 4, .func (.func 149) #[.agg #[]] #[], (ruleEs.take 4 : List MapEntry).length⟩]) := ⟨_, rfl⟩
 rw [← e5] at u4
 have hl5 : r < w5.heap.size := by rw [e5, setM_size]; exact hl4
 have hh5 : w5.heap[r]? = some (.map (ruleEs.take 5 : List MapEntry).toArray (ruleEs.take 5 : List MapEntry).length) := by rw [e5]; exact setM_heap hl4
 have b6 : Below w.heap.size w w5 := by rw [e5]; exact setM_below b5 hr
 clear e5
 have u5 := upd_new hh5 5 (.func (.func 150) #[.agg #[]] #[]) rfl
 obtain ⟨w6, e6⟩ : ∃ x, x = setM w5 r (ruleEs.take 5 ++ [⟨.int .i8 5, .func (.func 150) #[.agg #[]] #[], (ruleEs.take 5 : List MapEntry).length⟩]) := ⟨_, rfl⟩
 rw [← e6] at u5
 have hl6 : r < w6.heap.size := by rw [e6, setM_size]; exact hl5
 have hh6 : w6.heap[r]? = some (.map (ruleEs.take 6 : List MapEntry).toArray (ruleEs.take 6 : List MapEntry).length) := by rw [e6]; exact setM_heap hl5
 have b7 : Below w.heap.size w w6 := by rw [e6]; exact setM_below b6 hr
 clear e6
 have u6 := upd_new hh6 6 (.func (.func 151) #[.agg #[]] #[]) rfl
 obtain ⟨w7, e7⟩ : ∃ x, x = setM w6 r (ruleEs.take 6 ++ [⟨.int .i8 6, .func (.func 151) #[.agg #[]] #[], (ruleEs.take 6 : List MapEntry).length⟩]) := ⟨_, rfl⟩
 rw [← e7] at u6
 have hl7 : r < w7.heap.size := by rw [e7, setM_size]; exact hl6
 have hh7 : w7.heap[r]? = some (.map (ruleEs.take 7 : List MapEntry).toArray (ruleEs.take 7 : List MapEntry).length) := by rw [e7]; exact setM_heap hl6
 have b8 : Below w.heap.size w w7 := by rw [e7]; exact setM_below b7 hr
 clear e7
 have u7 := upd_new hh7 7 (.func (.func 152) #[.agg #[]] #[]) rfl
 obtain ⟨w8, e8⟩ : ∃ x, x = setM w7 r (ruleEs.take 7 ++ [⟨.int .i8 7, .func (.func 152) #[.agg #[]] #[], (ruleEs.take 7 : List MapEntry).length⟩]) := ⟨_, rfl⟩
 rw [← e8] at u7
 have hl8 : r < w8.heap.size := by rw [e8, setM_size]; exact hl7
 have hh8 : w8.heap[r]? = some (.map (ruleEs.take 8 : List MapEntry).toArray (ruleEs.take 8 : List MapEntry).length) := by rw [e8]; exact setM_heap hl7
 have b9 : Below w.heap.size w w8 := by rw [e8]; exact setM_below b8 hr
 clear e8
 have u8 := upd_new hh8 8 (.func (.func 153) #[.agg #[]] #[]) rfl
 obtain ⟨w9, e9⟩ : ∃ x, x = setM w8 r (ruleEs.take 8 ++ [⟨.int .i8 8, .func (.func 153) #[.agg #[]] #[], (ruleEs.take 8 : List MapEntry).length⟩]) := ⟨_, rfl⟩
 rw [← e9] at u8
 have hl9 : r < w9.heap.size := by rw [e9, setM_size]; exact hl8
 have hh9 : w9.heap[r]? = some (.map (ruleEs.take 9 : List MapEntry).toArray (ruleEs.take 9 : List MapEntry).length) := by rw [e9]; exact setM_heap hl8
 have b10 : Below w.heap.size w w9 := by rw [e9]; exact setM_below b9 hr
 clear e9
 have HH := Zh (Zi hh9 b10)
 clear hh hh1 hh2 hh3 hh4 hh5 hh6 hh7 hh8 hh9 b1 b2 b3 b4 b5 b6 b7 b8 b9 b10 hlt hl1 hl2 hl3 hl4 hl5 hl6 hl7 hl8 hl9 hr
 go_enter Tryz.func100, Tryz.ntmps100
 go_wp2_with fail
 go_ret
 exact ⟨r, rfl, ⟨HH.out.1⟩, HH.out.2⟩
theorem look_run {w : World} {r : Nat} (R : RulesAt w r) (k : Int) {a : Option (Nat × Value)} (hn : Instr.findNow (.int .i8) (.int .i8 k) ruleEs 0 = some a) :
  (Instr.lookup 168 (.map (some r)) (.int .i8 k) true).run Tryz.prog w = .ok (match a with | some (_, v) => .tuple #[v, .bool true] | none => .tuple #[.nilFunc, .bool false]) w := by
 have hz : (zeroValue 112).run Tryz.prog w = .ok .nilFunc w := by kernel_rfl
 unfold Instr.lookup
 simp only [Sem.run_bind, run_underlying Tryz.underlying168, Result.andThen, Go.MapKept.run_getObj_map R.hd, Sem.run_pure]
 rw [Go.MapKept.run_checkKey (P := Tryz.prog) (d := .int .i8) Tryz.underlying26 (by simp [Go.MapKept.IsKey])]
 simp only []
 rw [Go.MapKept.run_findKey (P := Tryz.prog) (d := .int .i8) (a := a) Tryz.underlying26 (by simpa using hn)]
 cases a with
 | none => simp [hz, Result.andThen]
 | some p => simp
theorem look0 {w : World} {r : Nat} (R : RulesAt w r) : (Instr.lookup 168 (.map (some r)) (.int .i8 0) true).run Tryz.prog w = .ok (.tuple #[.func (.func 145) #[.agg #[]] #[], .bool true]) w := look_run R 0 (a := some (0, .func (.func 145) #[.agg #[]] #[])) rfl
theorem look1 {w : World} {r : Nat} (R : RulesAt w r) : (Instr.lookup 168 (.map (some r)) (.int .i8 1) true).run Tryz.prog w = .ok (.tuple #[.func (.func 146) #[.agg #[]] #[], .bool true]) w := look_run R 1 (a := some (1, .func (.func 146) #[.agg #[]] #[])) rfl
theorem look2 {w : World} {r : Nat} (R : RulesAt w r) : (Instr.lookup 168 (.map (some r)) (.int .i8 2) true).run Tryz.prog w = .ok (.tuple #[.func (.func 147) #[.agg #[]] #[], .bool true]) w := look_run R 2 (a := some (2, .func (.func 147) #[.agg #[]] #[])) rfl
theorem look3 {w : World} {r : Nat} (R : RulesAt w r) : (Instr.lookup 168 (.map (some r)) (.int .i8 3) true).run Tryz.prog w = .ok (.tuple #[.func (.func 148) #[.agg #[]] #[], .bool true]) w := look_run R 3 (a := some (3, .func (.func 148) #[.agg #[]] #[])) rfl
theorem look4 {w : World} {r : Nat} (R : RulesAt w r) : (Instr.lookup 168 (.map (some r)) (.int .i8 4) true).run Tryz.prog w = .ok (.tuple #[.func (.func 149) #[.agg #[]] #[], .bool true]) w := look_run R 4 (a := some (4, .func (.func 149) #[.agg #[]] #[])) rfl
theorem look5 {w : World} {r : Nat} (R : RulesAt w r) : (Instr.lookup 168 (.map (some r)) (.int .i8 5) true).run Tryz.prog w = .ok (.tuple #[.func (.func 150) #[.agg #[]] #[], .bool true]) w := look_run R 5 (a := some (5, .func (.func 150) #[.agg #[]] #[])) rfl
theorem look6 {w : World} {r : Nat} (R : RulesAt w r) : (Instr.lookup 168 (.map (some r)) (.int .i8 6) true).run Tryz.prog w = .ok (.tuple #[.func (.func 151) #[.agg #[]] #[], .bool true]) w := look_run R 6 (a := some (6, .func (.func 151) #[.agg #[]] #[])) rfl
theorem look7 {w : World} {r : Nat} (R : RulesAt w r) : (Instr.lookup 168 (.map (some r)) (.int .i8 7) true).run Tryz.prog w = .ok (.tuple #[.func (.func 152) #[.agg #[]] #[], .bool true]) w := look_run R 7 (a := some (7, .func (.func 152) #[.agg #[]] #[])) rfl
theorem look8 {w : World} {r : Nat} (R : RulesAt w r) : (Instr.lookup 168 (.map (some r)) (.int .i8 8) true).run Tryz.prog w = .ok (.tuple #[.func (.func 153) #[.agg #[]] #[], .bool true]) w := look_run R 8 (a := some (8, .func (.func 153) #[.agg #[]] #[])) rfl
theorem look_none {w : World} {r : Nat} (R : RulesAt w r) (k : Int) (h : k < 0 ∨ 8 < k) : (Instr.lookup 168 (.map (some r)) (.int .i8 k) true).run Tryz.prog w = .ok (.tuple #[.nilFunc, .bool false]) w := by
 refine look_run R k (a := none) ?_
 have hne : ∀ j : Int, 0 ≤ j → j ≤ 8 → (k == j) = false := fun j h0 h1 => by simp; omega
 simp [Instr.findNow, Instr.sameNow, ruleEs, hne]
def rowOk (r : List UInt8) : Bool := match r with | [] => false | b :: l => (b :: l).all dig && !(b == 48 && !l.isEmpty)
def cutAt (c : UInt8) : List UInt8 → List (List UInt8)
 | [] => [[]]
 | b :: l => if b = c then [] :: cutAt c l else match cutAt c l with
  | [] => [[b]]
  | r :: rs => (b :: r) :: rs
theorem cutAt_ne (c : UInt8) (l : List UInt8) : ∃ r rs, cutAt c l = r :: rs := by
 cases l with
 | nil => exact ⟨_, _, rfl⟩
 | cons b l =>
  unfold cutAt
  split
  ·exact ⟨_, _, rfl⟩
  ·split <;> exact ⟨_, _, rfl⟩
theorem splitK_cut (c : UInt8) : ∀ s : List UInt8, Lib.splitK [c] 0 (Lib.count s [c]) s = cutAt c s
 | [] => by rw [Lib.count_one]; rfl
 | b :: l => by
  have ih := splitK_cut c l
  by_cases h : b = c
  ·subst h
   rw [Lib.count_cons_eq, Nat.add_comm]
   have h0 : Lib.index (b :: l) [b] = 0 := by rw [Lib.index_one]; simp [Lib.indexByte]
   unfold Lib.splitK cutAt
   rw [h0, if_neg (by decide), if_pos rfl]
   simpa using ih
  ·rw [Lib.count_cons_ne b c l h]
   unfold cutAt
   rw [if_neg h]
   cases hk : Lib.count l [c] with
   | zero => rw [hk] at ih; simp only [Lib.splitK] at ih ⊢; rw [← ih]
   | succ k =>
    rw [hk] at ih
    obtain ⟨i, hi⟩ := Lib.index_of_count (s := l) (old := [c]) (by omega)
    have h1 : Lib.index (b :: l) [c] = (i : Int) + 1 := by
     rw [Lib.index_one] at hi ⊢
     have hb : (b == c) = false := by simpa using h
     unfold Lib.indexByte
     rw [hb, hi]
     simp only [Bool.false_eq_true, if_false]
     rw [if_neg (by simp)]
    unfold Lib.splitK at ih ⊢
    rw [hi, if_neg (by simp)] at ih
    rw [h1, if_neg (by simp; omega), ← ih]
    simp only [List.length_cons, List.length_nil]
    rw [show ((i : Int) + 1).toNat = i + 1 by omega]
    simp
theorem cutAt_le (c : UInt8) : ∀ (l : List UInt8) (r : List UInt8), r ∈ cutAt c l → r.length ≤ l.length
 | [], r, h => by simp [cutAt] at h; subst h; simp
 | b :: l, r, h => by
  have ih := cutAt_le c l
  obtain ⟨r0, rs, hc⟩ := cutAt_ne c l
  unfold cutAt at h
  rw [hc] at h ih
  split at h
  ·rcases List.mem_cons.1 h with rfl | h
   ·simp
   ·have := ih r h; simp; omega
  ·rcases List.mem_cons.1 h with rfl | h
   ·have := ih r0 (List.mem_cons_self ..); simp; omega
   ·have := ih r (List.mem_cons_of_mem _ h); simp; omega
theorem splitB_cut (v : ByteArray) (c : UInt8) (k : Nat) (hk : k = Lib.count v.data.toList [c]) : (Lib.splitB ⟨#[c]⟩ 0 k v).map (·.data.toList) = cutAt c v.data.toList := by
 rw [Lib.splitB_data, hk]; exact splitK_cut c _
def letters : List UInt8 := [97, 98, 99, 100, 101, 102, 103, 104, 105, 106, 107, 108, 109, 110, 111, 112, 113, 114, 115, 116, 117, 118, 119, 120, 121, 122, 65, 66, 67, 68, 69, 70, 71, 72, 73, 74, 75, 76, 77, 78, 79, 80, 81, 82, 83, 84, 85, 86, 87, 88, 89, 90]
def oidL (v : List UInt8) : List UInt8 × Bool := match v with
 | [] => ([], false)
 | b :: l => if letters.contains b then (low (b :: l), onlyL (letters ++ [45]) (b :: l))
  else if (cutAt 46 (b :: l)).all rowOk then (b :: l, decide (1 < (cutAt 46 (b :: l)).length)) else ([], false)
theorem row_cases (x : ByteArray) : (x = ⟨#[]⟩ ∧ rowOk x.data.toList = false) ∨ ∃ b l, x = ⟨(b :: l).toArray⟩ ∧ rowOk x.data.toList = ((b :: l).all dig && !(b == 48 && !l.isEmpty)) := by
 cases hl : x.data.toList with
 | nil => exact .inl ⟨empty_of x hl, rfl⟩
 | cons b l => exact .inr ⟨b, l, by rw [← bmk x, hl], rfl⟩
set_option maxRecDepth 20000 in
theorem oid_any (v : ByteArray) (w : World) (E : Env w) (hs : v.size ≤ 4294967280) :
    Calls Tryz.prog 153 #[.agg #[], .string v] w fun e w' => e = .returned (ret2 (oidL v.data.toList)) ∧ Below w.heap.size w w' := by
  have b0 : Below w.heap.size w (w.alloc (.cells #[] 204)) := (Zl _ w).alloc (Zr _) _
  obtain ⟨m, hm⟩ := (E.next b0).max
  have HB0 := Zh b0; have HM := Zh hm; clear b0 hm E
  by_cases hv : v.data.toList = []
  · obtain rfl := empty_of v hv
    go_enter Tryz.func153, Tryz.ntmps153
    go_wp2_with fail
    go_ret2
    exact ⟨rfl, HB0.out⟩
  · obtain ⟨b, l, hl⟩ : ∃ b l, v.data.toList = b :: l := by
      cases hl : v.data.toList with
      | nil => exact absurd hl hv
      | cons b l => exact ⟨b, l, rfl⟩
    obtain rfl : v = ⟨(b :: l).toArray⟩ := by rw [← bmk v, hl]
    clear hv hl
    have hb : ∀ h, (ByteArray.mk (b :: l).toArray)[0]'h = b := fun _ => rfl
    have hsz : 0 < (ByteArray.mk (b :: l).toArray).size := by show 0 < l.length + 1; omega
    cases hc : letters.contains b with
    | true =>
      have hi : ¬ Lib.indexByte letters b < 0 := fun e => by rw [(idx_neg _ _).1 e] at hc; cases hc
      have hi2 : 0 ≤ Lib.indexByte letters b := by omega
      clear hi
      have HC := Zh hc
      clear hc
      go_enter Tryz.func153, Tryz.ntmps153
      go_wp2_with (first
        | (go_at_call 115; refine (Tryz.strings_IndexByte _ _ _).mono ?_; rintro e w1 ⟨rfl, rfl⟩
           rw [show Lib.indexByte (ByteArray.mk #[97, 98, 99, 100, 101, 102, 103, 104, 105, 106, 107, 108, 109, 110, 111, 112, 113, 114, 115, 116, 117, 118, 119, 120, 121, 122, 65, 66, 67, 68, 69, 70, 71, 72, 73, 74, 75, 76, 77, 78, 79, 80, 81, 82, 83, 84, 85, 86, 87, 88, 89, 90]).data.toList ((b.toNat : Int).toNat.toUInt8) = Lib.indexByte letters b from by rw [u8_of]; rfl])
        | (go_at_call 104; refine (lower_any _ _ (by omega)).mono ?_; rintro e w2 ⟨rfl, hb2⟩; have HB2 := Zh (bnext HB0.out hb2); clear hb2)
        | (go_at_call 139; refine (only_any _ _ _ (by omega)).mono ?_; rintro e w3 ⟨rfl, rfl⟩)
        | fail)
      go_ret2
      refine ⟨?_, HB2.out⟩
      rw [show oidL (b :: l) = (low (b :: l), onlyL (letters ++ [45]) (b :: l)) by unfold oidL; dsimp only; rw [if_pos HC.out]]
      rfl
    | false =>
      have hi2 : Lib.indexByte letters b < 0 := (idx_neg _ _).2 hc
      have HC := Zh hc
      clear hc
      go_enter Tryz.func153, Tryz.ntmps153
      go_wp2_with (first
        | (go_at_call 115; refine (Tryz.strings_IndexByte _ _ _).mono ?_; rintro e w1 ⟨rfl, rfl⟩
           rw [show Lib.indexByte (ByteArray.mk #[97, 98, 99, 100, 101, 102, 103, 104, 105, 106, 107, 108, 109, 110, 111, 112, 113, 114, 115, 116, 117, 118, 119, 120, 121, 122, 65, 66, 67, 68, 69, 70, 71, 72, 73, 74, 75, 76, 77, 78, 79, 80, 81, 82, 83, 84, 85, 86, 87, 88, 89, 90]).data.toList ((b.toNat : Int).toNat.toUInt8) = Lib.indexByte letters b from by rw [u8_of]; rfl])
        | fail)
      go_at_call 185
      refine (Tryz.strings_Split _ _ m _ (by omega) HM.out (by decide)).mono ?_
      rintro e w1 ⟨rfl, hw1⟩
      have hlen := Lib.splitB_all ⟨#[46]⟩ (by decide) 0 _ (⟨(b :: l).toArray⟩ : ByteArray) rfl
      have hcut := splitB_cut (⟨(b :: l).toArray⟩ : ByteArray) 46 (Lib.countB ⟨(b :: l).toArray⟩ ⟨#[46]⟩) rfl
      have hcl := Lib.countB_le ⟨#[46]⟩ (by decide) _ (⟨(b :: l).toArray⟩ : ByteArray) (Zr _)
      have hsub : ∀ x, x ∈ Lib.splitB ⟨#[46]⟩ 0 (Lib.countB ⟨(b :: l).toArray⟩ ⟨#[46]⟩) ⟨(b :: l).toArray⟩ → x.size ≤ 4294967280 := fun x hx => by
        have h1 : x.data.toList ∈ cutAt 46 (b :: l) := by
          rw [← show cutAt 46 (ByteArray.mk (b :: l).toArray).data.toList = cutAt 46 (b :: l) from rfl, ← hcut]
          exact List.mem_map_of_mem hx
        have h2 := cutAt_le 46 (b :: l) _ h1
        rw [Lib.size_eq]
        have h3 : (b :: l).length ≤ 4294967280 := hs
        omega
      generalize Lib.splitB ⟨#[46]⟩ 0 (Lib.countB ⟨(b :: l).toArray⟩ ⟨#[46]⟩) ⟨(b :: l).toArray⟩ = xs at hlen hcut hw1 hsub
      rw [← hlen]
      rw [show (ByteArray.mk (b :: l).toArray).data.toList = b :: l from rfl] at hcut
      have hxl : xs.length ≤ 4294967281 := by omega
      clear hlen hcl
      have hcell : ∀ j x, xs[j]? = some x → w1.cell? ⟨(w.alloc (.cells #[] 204)).heap.size, j, none⟩ = some (.string x) := by
        intro j x hj
        rw [hw1, cell_of_row _ _ j _ _ (0, 0) (heap_alloc_new _ _)]
        simp [hj]
      have B1 : Below w.heap.size w w1 := by rw [hw1]; exact HB0.out.alloc (by simp) _
      generalize (w.alloc (.cells #[] 204)).heap.size = g at hcell
      have HX := Zh (Zi hcell (Zi hcut hsub)); have HB1 := Zh B1; clear hcell hcut hsub B1 hw1 HM m
      go_wp2_with fail
      go_loopw [23] (fun iv wr => ∃ i : Nat, iv = .int .i64 i ∧ i ≤ xs.length ∧ wr = w1 ∧ (cutAt 46 (b :: l)).all rowOk = ((xs.map (·.data.toList)).drop i).all rowOk) (fun iv _ => xs.length - (intOf iv).toNat)
      case atStart => exact ⟨0, rfl, Nat.zero_le _, rfl, by rw [HX.out.2.1]; rfl⟩
      case round =>
        obtain ⟨i, rfl, hi, rfl, hall⟩ := hrel
        have HA := Zh hall; clear hall
        by_cases hlt : i < xs.length
        · have hc := HX.out.1 i _ (List.getElem?_eq_getElem hlt)
          have hs2 := HX.out.2.2 _ (List.getElem_mem hlt)
          have ha : (cutAt 46 (b :: l)).all rowOk = (rowOk xs[i].data.toList && ((xs.map (·.data.toList)).drop (i + 1)).all rowOk) := by
            rw [HA.out, List.drop_eq_getElem_cons (by simpa using hlt), List.all_cons]; simp
          have HA2 := Zh ha; clear ha HA
          generalize xs[i] = x at hc hs2 HA2
          rcases row_cases x with ⟨rfl, hr⟩ | ⟨c, t, rfl, hr⟩
          · have HR := Zh hr; clear hr
            go_wp2_with fail
            go_ret2
            refine ⟨?_, HB1.out⟩
            rw [show oidL (b :: l) = ([], false) by unfold oidL; dsimp only; rw [if_neg (by rw [HC.out]; simp), if_neg (by rw [HA2.out, HR.out]; simp)]]
            rfl
          · have hb3 : ∀ h, (ByteArray.mk (c :: t).toArray)[0]'h = c := fun _ => rfl
            have hsz3 : 0 < (ByteArray.mk (c :: t).toArray).size := by show 0 < t.length + 1; omega
            have hne : ∀ c : UInt8, c ≠ 48 → ¬ (c.toNat : Int) = 48 := fun c h e => h (UInt8.toNat_inj.1 (by show c.toNat = 48; omega))
            cases hD : (c :: t).all dig with
            | false =>
              have ho : onlyL (ByteArray.mk #[]).data.toList (ByteArray.mk (c :: t).toArray).data.toList = false := (onlyL_nil _).trans hD
              rw [hD, Bool.false_and] at hr
              have HR := Zh hr; clear hr hD hne
              go_wp2_with (first
                | (go_at_call 139; refine (only_any _ _ _ (by omega)).mono ?_; rintro e w2 ⟨rfl, rfl⟩; rw [ho])
                | fail)
              go_ret2
              refine ⟨?_, HB1.out⟩
              rw [show oidL (b :: l) = ([], false) by unfold oidL; dsimp only; rw [if_neg (by rw [HC.out]; simp), if_neg (by rw [HA2.out, HR.out]; simp)]]
              rfl
            | true =>
              have ho : onlyL (ByteArray.mk #[]).data.toList (ByteArray.mk (c :: t).toArray).data.toList = true := (onlyL_nil _).trans hD
              rw [hD, Bool.true_and] at hr
              clear hD
              by_cases h48 : c = 48
              · subst h48
                cases t with
                | nil =>
                  have HR := Zh hr; clear hr hne
                  go_wp2_with (first
                    | (go_at_call 139; refine (only_any _ _ _ (by omega)).mono ?_; rintro e w2 ⟨rfl, rfl⟩; rw [ho])
                    | fail)
                  exact ⟨⟨i + 1, by simp, by omega, trivial, by rw [HA2.out, HR.out]; simp⟩, by simp [intOf]; omega⟩
                | cons d t =>
                  have hl2 : (1 : Int) < (t.length : Int) + 1 + 1 := by omega
                  have HR := Zh hr; clear hr hne
                  go_wp2_with (first
                    | (go_at_call 139; refine (only_any _ _ _ (by omega)).mono ?_; rintro e w2 ⟨rfl, rfl⟩; rw [ho])
                    | fail)
                  go_ret2
                  refine ⟨?_, HB1.out⟩
                  rw [show oidL (b :: l) = ([], false) by unfold oidL; dsimp only; rw [if_neg (by rw [HC.out]; simp), if_neg (by rw [HA2.out, HR.out]; simp)]]
                  rfl
              · have hn := hne c h48
                rw [show (c == 48) = false from by simpa using h48] at hr
                have HR := Zh hr; clear hr hne h48
                go_wp2_with (first
                  | (go_at_call 139; refine (only_any _ _ _ (by omega)).mono ?_; rintro e w2 ⟨rfl, rfl⟩; rw [ho])
                  | fail)
                exact ⟨⟨i + 1, by simp, by omega, trivial, by rw [HA2.out, HR.out]; simp⟩, by simp [intOf]; omega⟩
        · have hfin : (cutAt 46 (b :: l)).all rowOk = true := by rw [HA.out, List.drop_eq_nil_of_le (by simpa using hlt)]; rfl
          have hle : (cutAt 46 (b :: l)).length = xs.length := by rw [← HX.out.2.1]; simp
          have HF := Zh (Zi hfin hle); clear hfin hle
          go_wp2_with fail
          go_ret2
          refine ⟨?_, HB1.out⟩
          rw [show oidL (b :: l) = (b :: l, decide (1 < xs.length)) by unfold oidL; dsimp only; rw [if_neg (by rw [HC.out]; simp), if_pos HF.out.1, HF.out.2]]
          rw [show decide (1 < xs.length) = decide ((1 : Int) < (xs.length : Int)) from decide_eq_decide.2 (by omega)]
          rfl
end Go.Proofs.YtlmfbjhokkpjhaaGreatDoor
