/- Part 43 of the walks and plain laws, joined: LawM. -/
import Derived.Test.YtlmfbjhokkpjhaaGreatDoorML00
import Derived.Test.YtlmfbjhokkpjhaaGreatDoorML42
set_option linter.unusedVariables false
set_option linter.unusedSimpArgs false
namespace Go.Proofs.YtlmfbjhokkpjhaaGreatDoor
open Go Go.RowKit Go.Maps
theorem EnvW.k {w : World} (h : EnvW w) (hv : SynV w) : EnvK w := ⟨h.e, h.s, hv⟩
theorem sort1 : ∀ n : Fin 21, (sortV (n.val : Int) = 1 ↔ n.val = 1 ∨ n.val = 4 ∨ n.val = 7 ∨ n.val = 10 ∨ n.val = 12 ∨ n.val = 14 ∨ n.val = 15 ∨ n.val = 17 ∨ n.val = 19 ∨ n.val = 20) := by decide
theorem sort2 : ∀ n : Fin 21, (sortV (n.val : Int) = 2 ↔ n.val = 2 ∨ n.val = 5 ∨ n.val = 8 ∨ n.val = 13 ∨ n.val = 16 ∨ n.val = 18) := by decide
theorem sortIn : ∀ n : Fin 21, (sortV (n.val : Int) = 0 ∨ sortV (n.val : Int) = 1 ∨ sortV (n.val : Int) = 2 ∨ sortV (n.val : Int) = 3) := by decide
theorem sort_in (r : Int) : sortV r = 0 ∨ sortV r = 1 ∨ sortV r = 2 ∨ sortV r = 3 := by
 by_cases h : 0 ≤ r ∧ r < 21
 ·obtain ⟨n, rfl⟩ : ∃ n : Nat, r = (n : Int) := ⟨r.toNat, by omega⟩
  exact sortIn ⟨n, by omega⟩
 ·unfold sortV; rw [if_neg h]; exact .inl rfl
theorem sort1_iff (r : Int) : sortV r = 1 ↔ r = 1 ∨ r = 4 ∨ r = 7 ∨ r = 10 ∨ r = 12 ∨ r = 14 ∨ r = 15 ∨ r = 17 ∨ r = 19 ∨ r = 20 := by
 by_cases h : 0 ≤ r ∧ r < 21
 ·obtain ⟨n, rfl⟩ : ∃ n : Nat, r = (n : Int) := ⟨r.toNat, by omega⟩
  have := sort1 ⟨n, by omega⟩
  simp only at this
  rw [this]; omega
 ·unfold sortV
  rw [if_neg h]
  constructor
  ·intro e; cases e
  ·intro e; omega
set_option maxHeartbeats 1000000 in
theorem equality_any (r : Int) (w : World) : Calls Tryz.prog 12 #[.int .i8 r] w fun e w' => e = .returned (.bool (decide (sortV r = 1))) ∧ w = w' := by
 by_cases h : r = 1 ∨ r = 4 ∨ r = 7 ∨ r = 10 ∨ r = 12 ∨ r = 14 ∨ r = 15 ∨ r = 17 ∨ r = 19 ∨ r = 20
 ·rw [decide_eq_true ((sort1_iff r).2 h)]
  rcases h with rfl | rfl | rfl | rfl | rfl | rfl | rfl | rfl | rfl | rfl <;> (
   go_enter Tryz.func12, Tryz.ntmps12
   go_wp2_with fail
   go_ret
   exact ⟨rfl, rfl⟩)
 ·rw [decide_eq_false (fun e => h ((sort1_iff r).1 e))]
  have h1 : (r == 1) = false := beq_eq_false_iff_ne.2 fun e => h (by omega)
  have h4 : (r == 4) = false := beq_eq_false_iff_ne.2 fun e => h (by omega)
  have h7 : (r == 7) = false := beq_eq_false_iff_ne.2 fun e => h (by omega)
  have h10 : (r == 10) = false := beq_eq_false_iff_ne.2 fun e => h (by omega)
  have h12 : (r == 12) = false := beq_eq_false_iff_ne.2 fun e => h (by omega)
  have h14 : (r == 14) = false := beq_eq_false_iff_ne.2 fun e => h (by omega)
  have h15 : (r == 15) = false := beq_eq_false_iff_ne.2 fun e => h (by omega)
  have h17 : (r == 17) = false := beq_eq_false_iff_ne.2 fun e => h (by omega)
  have h19 : (r == 19) = false := beq_eq_false_iff_ne.2 fun e => h (by omega)
  have h20 : (r == 20) = false := beq_eq_false_iff_ne.2 fun e => h (by omega)
  clear h
  go_enter Tryz.func12, Tryz.ntmps12
  go_wp2_with fail
  go_ret
  exact ⟨rfl, rfl⟩
theorem sort2_iff (r : Int) : sortV r = 2 ↔ r = 2 ∨ r = 5 ∨ r = 8 ∨ r = 13 ∨ r = 16 ∨ r = 18 := by
 by_cases h : 0 ≤ r ∧ r < 21
 ·obtain ⟨n, rfl⟩ : ∃ n : Nat, r = (n : Int) := ⟨r.toNat, by omega⟩
  have := sort2 ⟨n, by omega⟩
  simp only at this
  rw [this]; omega
 ·unfold sortV
  rw [if_neg h]
  constructor
  ·intro e; cases e
  ·intro e; omega
set_option maxHeartbeats 1000000 in
theorem order_any (r : Int) (w : World) : Calls Tryz.prog 13 #[.int .i8 r] w fun e w' => e = .returned (.bool (decide (sortV r = 2))) ∧ w = w' := by
 by_cases h : r = 2 ∨ r = 5 ∨ r = 8 ∨ r = 13 ∨ r = 16 ∨ r = 18
 ·rw [decide_eq_true ((sort2_iff r).2 h)]
  rcases h with rfl | rfl | rfl | rfl | rfl | rfl <;> (
   go_enter Tryz.func13, Tryz.ntmps13
   go_wp2_with fail
   go_ret
   exact ⟨rfl, rfl⟩)
 ·rw [decide_eq_false (fun e => h ((sort2_iff r).1 e))]
  have h2 : (r == 2) = false := beq_eq_false_iff_ne.2 fun e => h (by omega)
  have h5 : (r == 5) = false := beq_eq_false_iff_ne.2 fun e => h (by omega)
  have h8 : (r == 8) = false := beq_eq_false_iff_ne.2 fun e => h (by omega)
  have h13 : (r == 13) = false := beq_eq_false_iff_ne.2 fun e => h (by omega)
  have h16 : (r == 16) = false := beq_eq_false_iff_ne.2 fun e => h (by omega)
  have h18 : (r == 18) = false := beq_eq_false_iff_ne.2 fun e => h (by omega)
  clear h
  go_enter Tryz.func13, Tryz.ntmps13
  go_wp2_with fail
  go_ret
  exact ⟨rfl, rfl⟩
theorem keyR_none {S : PSchema} {r : Int} (h : sortV r = 0) (v : Str) : keyR S r v = ([], false) := by
 have h19 : r ≠ 19 := by rintro rfl; exact absurd h (by decide)
 have h20 : r ≠ 20 := by rintro rfl; exact absurd h (by decide)
 unfold keyR
 rw [if_neg h19, if_neg h20]
 unfold keyM
 rw [if_pos h]
theorem less_total : ∀ a b : Str, (!Op.bytesLess b a) = (Op.bytesLess a b || a == b)
 | [], [] => by simp [Op.bytesLess]
 | _ :: _, [] => by simp [Op.bytesLess]
 | [], _ :: _ => by simp [Op.bytesLess]
 | x :: a, y :: b => by
  have ih := less_total a b
  simp only [Op.bytesLess]
  by_cases h : x = y
  ·subst h
   simpa using ih
  ·rcases UInt8.lt_or_lt_of_ne h with h1 | h1
   ·have h2 : ¬ y < x := UInt8.lt_asymm h1
    simp [h1, h2, h, Ne.symm h]
   ·have h2 : ¬ x < y := UInt8.lt_asymm h1
    simp [h1, h2, h, Ne.symm h]
theorem less_self : ∀ a : Str, Op.bytesLess a a = false
 | [] => by simp [Op.bytesLess]
 | x :: a => by simp [Op.bytesLess, less_self a]
theorem less_eq {a b : Str} (h : (a == b) = true) : Op.bytesLess a b = false := by
 obtain rfl : a = b := by simpa using h
 exact less_self a
structure MlAt (g : Nat) (rule : Int) (va vb A B : ByteArray) (kb lb e o p : Bool) (q f u : Int) (w : World) : Prop where
 cka : ∀ wq, Below w.heap.size w wq → Calls Tryz.prog 11 #[.pointer (some ⟨g, 0, none⟩), .int .i8 rule, .string va] wq fun e w' => e = .returned (.tuple #[.string A, .bool kb]) ∧ Below wq.heap.size wq w'
 ckb : ∀ wq, Below w.heap.size w wq → Calls Tryz.prog 11 #[.pointer (some ⟨g, 0, none⟩), .int .i8 rule, .string vb] wq fun e w' => e = .returned (.tuple #[.string B, .bool lb]) ∧ Below wq.heap.size wq w'
 ce : ∀ wq, Calls Tryz.prog 12 #[.int .i8 rule] wq fun en w' => en = .returned (.bool e) ∧ wq = w'
 co : ∀ wq, Calls Tryz.prog 13 #[.int .i8 rule] wq fun en w' => en = .returned (.bool o) ∧ wq = w'
 cp : ∀ wq, Calls Tryz.prog 14 #[.int .i8 rule] wq fun en w' => en = .returned (.bool p) ∧ wq = w'
 cq : ∀ wq, Below w.heap.size w wq → Calls Tryz.prog 16 #[.pointer (some ⟨g, 0, none⟩), .int .i8 rule, .string va, .string vb] wq fun en w' => en = .returned (.int .i8 q) ∧ Below wq.heap.size wq w'
 cf : ∀ wq, Below w.heap.size w wq → Calls Tryz.prog 17 #[.pointer (some ⟨g, 0, none⟩), .int .i8 rule, .string va, .string vb] wq fun en w' => en = .returned (.int .i8 f) ∧ Below wq.heap.size wq w'
 cu : ∀ wq, Below w.heap.size w wq → Calls Tryz.prog 18 #[.pointer (some ⟨g, 0, none⟩), .int .i8 rule, .string va, .string vb] wq fun en w' => en = .returned (.int .i8 u) ∧ Below wq.heap.size wq w'
 cq2 : kb = true → lb = true → ∀ wq, Below w.heap.size w wq → Calls Tryz.prog 16 #[.pointer (some ⟨g, 0, none⟩), .int .i8 rule, .string vb, .string va] wq fun en w' => en = .returned (.int .i8 q) ∧ Below wq.heap.size wq w'
 cf2 : kb = true → lb = true → ∀ wq, Below w.heap.size w wq → Calls Tryz.prog 17 #[.pointer (some ⟨g, 0, none⟩), .int .i8 rule, .string vb, .string va] wq fun en w' => en = .returned (.int .i8 u) ∧ Below wq.heap.size wq w'
 cwk : ∀ wq, Below w.heap.size w wq → Calls Tryz.prog 10 #[] wq fun e w' => e = .returned (.bool true) ∧ Below wq.heap.size wq w'
set_option maxRecDepth 20000 in
set_option maxHeartbeats 8000000 in
theorem law_mlaws (S : PSchema) (a : Option Addr) (n c : Nat) (a2 : Option Addr) (n2 c2 : Nat) (rule t : Int) (va vb : ByteArray) (w : World) (hE : EnvW w) (hV : SynV w) (hT : Types w.heap.size w a n c S.types) (hC : Classes w.heap.size w a2 n2 c2 S.classes)
  (hr : -128 ≤ rule ∧ rule ≤ 127) :
  Calls Tryz.prog 3 #[.agg #[.slice a n c, .slice a2 n2 c2], .agg #[.int .i8 rule, .int .i64 t, .string va, .string vb]] w fun en w' => en = .returned (.bool true) ∧ Below w.heap.size w w' := by
 have HE := Zh (Zi hE hV); have HTC := Zh (Zi hT hC); clear hE hV hT hC
 go_enter Tryz.func3, Tryz.ntmps3
 go_upto_region 1 with fail
 have hb3 : Below w.heap.size w ((w.alloc (.cells #[.slice a n c, .slice a2 n2 c2] 25)).alloc (.cells #[.int .i8 rule, .int .i64 t, .string va, .string vb] 28)) := ((Zl _ w).alloc (Zr _) _).alloc (by simp) _
 have q0 : ((w.alloc (.cells #[.slice a n c, .slice a2 n2 c2] 25)).alloc (.cells #[.int .i8 rule, .int .i64 t, .string va, .string vb] 28)).heap[w.heap.size]? = some (.cells #[.slice a n c, .slice a2 n2 c2] 25) := by
  rw [((Zl _ (w.alloc (.cells #[.slice a n c, .slice a2 n2 c2] 25))).alloc (Zr _) _).block _ (by simp)]; exact heap_alloc_new w _
 have q1 : ((w.alloc (.cells #[.slice a n c, .slice a2 n2 c2] 25)).alloc (.cells #[.int .i8 rule, .int .i64 t, .string va, .string vb] 28)).heap[w.heap.size + 1]? = some (.cells #[.int .i8 rule, .int .i64 t, .string va, .string vb] 28) := by
  have h := heap_alloc_new (w.alloc (.cells #[.slice a n c, .slice a2 n2 c2] 25)) (.cells #[.int .i8 rule, .int .i64 t, .string va, .string vb] 28)
  rw [World.size_alloc] at h; exact h
 generalize (w.alloc (.cells #[.slice a n c, .slice a2 n2 c2] 25)).alloc (.cells #[.int .i8 rule, .int .i64 t, .string va, .string vb] 28) = w3 at hb3 q0 q1 ⊢
 have a0 := Lib.cell_of_heap q0 0; have a1 := Lib.cell_of_heap q0 1
 have b0 := Lib.cell_of_heap q1 0; have b2 := Lib.cell_of_heap q1 2; have b3 := Lib.cell_of_heap q1 3
 change w3.cell? _ = some (.slice a n c) at a0
 change w3.cell? _ = some (.slice a2 n2 c2) at a1
 change w3.cell? _ = some (.int .i8 rule) at b0
 change w3.cell? _ = some (.string va) at b2
 change w3.cell? _ = some (.string vb) at b3
 clear q0 q1
 have HB3 := Zh hb3; clear hb3
 have hnw : ∀ wq, Below w3.heap.size w3 wq → Calls Tryz.prog 9 #[.agg #[.slice a n c, .slice a2 n2 c2]] wq (NewPost S wq) := fun wq hb =>
  have hb2 := bnext HB3.out hb
  new_any S w.heap.size a a2 n c n2 c2 wq (HE.out.1.s.next hb2) (HTC.out.1.keep hb2 (Zr _)) (HTC.out.2.keep hb2 (Zr _)) hb2.size
 have hwk : ∀ wq, Below w3.heap.size w3 wq → Calls Tryz.prog 10 #[] wq fun e w' => e = .returned (.bool true) ∧ Below wq.heap.size wq w' := fun wq hb => wakes_any wq (HE.out.1.next (bnext HB3.out hb))
 have HNW := Zh hnw; have HWK := Zh hwk; clear hnw hwk
 go_upto_region 5 with (first
  | (go_at_call 9; (with_reducible refine (HNW.out _ (Zl _ _)).mono ?_); rintro en w4 ⟨hb4, hpost⟩; have HB4 := Zh hb4; clear hb4; rcases hpost with ⟨_, g, rfl, hsch⟩ | ⟨hne, rfl⟩)
  | fail)
 all_goals clear a0 a1 b0 b2 b3
 ·have hEw : EnvW w4 := HE.out.1.next (bnext HB3.out HB4.out)
  have hVw : SynV w4 := HE.out.2.next (bnext HB3.out HB4.out)
  have hk := keyAt_any S g rule w4 hsch (hEw.k hVw) hEw.m hr
  obtain ⟨K1, hK1⟩ : ∃ K, keyR S rule (toL va) = K := ⟨_, rfl⟩
  obtain ⟨K2, hK2⟩ : ∃ K, keyR S rule (toL vb) = K := ⟨_, rfl⟩
  have hk0 : sortV rule = 0 → K1 = ([], false) ∧ K2 = ([], false) := fun h => ⟨by rw [← hK1]; exact keyR_none h _, by rw [← hK2]; exact keyR_none h _⟩
  obtain ⟨kl, kb⟩ := K1
  obtain ⟨ll, lb⟩ := K2
  have hml : ∀ q f u, askV 1 saysE (keyR S rule) rule (toL va) (toL vb) = q → askV 2 saysF (keyR S rule) rule (toL va) (toL vb) = f → askV 2 saysU (keyR S rule) rule (toL va) (toL vb) = u → (kb = true → lb = true → askV 1 saysE (keyR S rule) rule (toL vb) (toL va) = q) → (kb = true → lb = true → askV 2 saysF (keyR S rule) rule (toL vb) (toL va) = u) →
    MlAt g rule va vb ⟨kl.toArray⟩ ⟨ll.toArray⟩ kb lb (decide (sortV rule = 1)) (decide (sortV rule = 2)) (decide (sortV rule = 3)) q f u w4 := fun q f u e1 e2 e3 e4 e5 => by
   refine ⟨fun wq hb => ?_, fun wq hb => ?_, fun wq => equality_any rule wq, fun wq => order_any rule wq, fun wq => pieces_any rule wq, fun wq hb => ?_, fun wq hb => ?_, fun wq hb => ?_, fun h1 h2 wq hb => ?_, fun h1 h2 wq hb => ?_, fun wq hb => HWK.out wq (bnext HB4.out hb)⟩
   ·have h := hk wq va hb; rw [hK1] at h; exact h
   ·have h := hk wq vb hb; rw [hK2] at h; exact h
   ·have h := ask_anyE (some ⟨g, 0, none⟩) rule (keyR S rule) va vb wq (hEw.next hb).m hr (hk.next hb); rw [e1] at h; exact h
   ·have h := ask_anyF (some ⟨g, 0, none⟩) rule (keyR S rule) va vb wq (hEw.next hb).m hr (hk.next hb); rw [e2] at h; exact h
   ·have h := ask_anyU (some ⟨g, 0, none⟩) rule (keyR S rule) va vb wq (hEw.next hb).m hr (hk.next hb); rw [e3] at h; exact h
   ·have h := ask_anyE (some ⟨g, 0, none⟩) rule (keyR S rule) vb va wq (hEw.next hb).m hr (hk.next hb); rw [e4 h1 h2] at h; exact h
   ·have h := ask_anyF (some ⟨g, 0, none⟩) rule (keyR S rule) vb va wq (hEw.next hb).m hr (hk.next hb); rw [e5 h1 h2] at h; exact h
  unfold askV at hml
  rw [hK1, hK2] at hml
  simp only at hml
  have hlt := less_total kl ll
  have hle := @less_eq kl ll
  have hAB : (ByteArray.mk kl.toArray).toList = kl ∧ (ByteArray.mk ll.toArray).toList = ll := ⟨by simp [Lib.toList_data], by simp [Lib.toList_data]⟩
  have hsym : (ll == kl) = (kl == ll) := beq_sym kl ll
  have ht1 := fun wq => truth7_any true wq
  have ht0 := fun wq => truth7_any false wq
  change ∀ wq, Calls Tryz.prog 15 #[.bool true] wq fun e w' => e = .returned (.int .i8 1) ∧ wq = w' at ht1
  change ∀ wq, Calls Tryz.prog 15 #[.bool false] wq fun e w' => e = .returned (.int .i8 0) ∧ wq = w' at ht0
  have HT1 := Zh ht1; have HT0 := Zh ht0
  unfold saysE saysF saysU at hml
  rw [hsym, hlt] at hml
  obtain ⟨x, hx⟩ : ∃ x, (kl == ll) = x := ⟨_, rfl⟩
  rw [hx] at hml hle hlt
  generalize hAl : (ByteArray.mk kl.toArray) = A at hml hAB
  generalize hBl : (ByteArray.mk ll.toArray) = B at hml hAB
  have hless : Op.bytesLess A.toList B.toList = Op.bytesLess kl ll := by rw [hAB.1, hAB.2]
  have heqL : (A.toList == B.toList) = x := by rw [hAB.1, hAB.2]; exact hx
  generalize Op.bytesLess kl ll = y at hml hle hless hlt
  clear hx ht1 ht0 hK1 hK2 hk hEw hVw hsch hlt hAB hAl hBl hsym HNW HTC
  rcases sort_in rule with hs | hs | hs | hs
  ·have e1 : kb = false := congrArg Prod.snd (hk0 hs).1
   have e2 : lb = false := congrArg Prod.snd (hk0 hs).2
   subst e1 e2
   have hm : MlAt g rule va vb A B false false false false false 2 2 2 w4 := by have h := hml 2 2 2 (by simp [hs, truthV]) (by simp [hs, truthV]) (by simp [hs, truthV]) (fun h1 h2 => by first | exact absurd h1 (by decide) | exact absurd h2 (by decide) | simp [hs, truthV]) (fun h1 h2 => by first | exact absurd h1 (by decide) | exact absurd h2 (by decide) | simp [hs, truthV]); rw [hs] at h; exact h
   have HM := Zh hm
   clear hm hml hle hs hk0
   clear hless heqL
   go_wp2_with (first
    | (go_at_call 11; (with_reducible refine (HM.out.cka _ (Zl _ _)).mono ?_); rintro en w5 ⟨rfl, hb5⟩; have HB5 := Zh hb5; clear hb5)
    | (go_at_call 11; (with_reducible refine (HM.out.ckb _ HB5.out).mono ?_); rintro en w6 ⟨rfl, hb6⟩; have HB6 := Zh (bnext HB5.out hb6); clear hb6)
    | (go_at_call 12; (with_reducible refine (HM.out.ce _).mono ?_); rintro en wx ⟨rfl, rfl⟩)
    | (go_at_call 13; (with_reducible refine (HM.out.co _).mono ?_); rintro en wx ⟨rfl, rfl⟩)
    | (go_at_call 14; (with_reducible refine (HM.out.cp _).mono ?_); rintro en wx ⟨rfl, rfl⟩)
    | (go_at_call 15; (with_reducible refine (HT1.out _).mono ?_); rintro en wx ⟨rfl, rfl⟩)
    | (go_at_call 15; (with_reducible refine (HT0.out _).mono ?_); rintro en wx ⟨rfl, rfl⟩)
    | (go_at_call 16; (with_reducible refine (HM.out.cq _ HB6.out).mono ?_); rintro en w7 ⟨rfl, hb7⟩; have HB7 := Zh (bnext HB6.out hb7); clear hb7)
    | (go_at_call 17; (with_reducible refine (HM.out.cf _ HB7.out).mono ?_); rintro en w8 ⟨rfl, hb8⟩; have HB8 := Zh (bnext HB7.out hb8); clear hb8)
    | (go_at_call 18; (with_reducible refine (HM.out.cu _ HB8.out).mono ?_); rintro en w9 ⟨rfl, hb9⟩; have HB9 := Zh (bnext HB8.out hb9); clear hb9)
    | (go_at_call 10; (with_reducible refine (HM.out.cwk _ HB9.out).mono ?_); rintro en w12 ⟨rfl, hb12⟩; have HB12 := Zh (bnext HB9.out hb12); clear hb12)
    | fail)
   go_ret
   exact ⟨rfl, bnext HB3.out (bnext HB4.out HB12.out)⟩
  ·cases kb with
   | false =>
    cases lb with
    | false =>
     have hm : MlAt g rule va vb A B false false true false false 2 2 2 w4 := by have h := hml 2 2 2 (by simp [hs, truthV]) (by simp [hs, truthV]) (by simp [hs, truthV]) (fun h1 h2 => by first | exact absurd h1 (by decide) | exact absurd h2 (by decide) | simp [hs, truthV]) (fun h1 h2 => by first | exact absurd h1 (by decide) | exact absurd h2 (by decide) | simp [hs, truthV]); rw [hs] at h; exact h
     have HM := Zh hm
     clear hm hml hle hs hk0
     clear hless heqL
     go_wp2_with (first
      | (go_at_call 11; (with_reducible refine (HM.out.cka _ (Zl _ _)).mono ?_); rintro en w5 ⟨rfl, hb5⟩; have HB5 := Zh hb5; clear hb5)
      | (go_at_call 11; (with_reducible refine (HM.out.ckb _ HB5.out).mono ?_); rintro en w6 ⟨rfl, hb6⟩; have HB6 := Zh (bnext HB5.out hb6); clear hb6)
      | (go_at_call 12; (with_reducible refine (HM.out.ce _).mono ?_); rintro en wx ⟨rfl, rfl⟩)
      | (go_at_call 13; (with_reducible refine (HM.out.co _).mono ?_); rintro en wx ⟨rfl, rfl⟩)
      | (go_at_call 14; (with_reducible refine (HM.out.cp _).mono ?_); rintro en wx ⟨rfl, rfl⟩)
      | (go_at_call 15; (with_reducible refine (HT1.out _).mono ?_); rintro en wx ⟨rfl, rfl⟩)
      | (go_at_call 15; (with_reducible refine (HT0.out _).mono ?_); rintro en wx ⟨rfl, rfl⟩)
      | (go_at_call 16; (with_reducible refine (HM.out.cq _ HB6.out).mono ?_); rintro en w7 ⟨rfl, hb7⟩; have HB7 := Zh (bnext HB6.out hb7); clear hb7)
      | (go_at_call 17; (with_reducible refine (HM.out.cf _ HB7.out).mono ?_); rintro en w8 ⟨rfl, hb8⟩; have HB8 := Zh (bnext HB7.out hb8); clear hb8)
      | (go_at_call 18; (with_reducible refine (HM.out.cu _ HB8.out).mono ?_); rintro en w9 ⟨rfl, hb9⟩; have HB9 := Zh (bnext HB8.out hb9); clear hb9)
      | (go_at_call 10; (with_reducible refine (HM.out.cwk _ HB9.out).mono ?_); rintro en w12 ⟨rfl, hb12⟩; have HB12 := Zh (bnext HB9.out hb12); clear hb12)
      | fail)
     go_ret
     exact ⟨rfl, bnext HB3.out (bnext HB4.out HB12.out)⟩
    | true =>
     have hm : MlAt g rule va vb A B false true true false false 0 2 2 w4 := by have h := hml 0 2 2 (by simp [hs, truthV]) (by simp [hs, truthV]) (by simp [hs, truthV]) (fun h1 h2 => by first | exact absurd h1 (by decide) | exact absurd h2 (by decide) | simp [hs, truthV]) (fun h1 h2 => by first | exact absurd h1 (by decide) | exact absurd h2 (by decide) | simp [hs, truthV]); rw [hs] at h; exact h
     have HM := Zh hm
     clear hm hml hle hs hk0
     clear hless heqL
     go_wp2_with (first
      | (go_at_call 11; (with_reducible refine (HM.out.cka _ (Zl _ _)).mono ?_); rintro en w5 ⟨rfl, hb5⟩; have HB5 := Zh hb5; clear hb5)
      | (go_at_call 11; (with_reducible refine (HM.out.ckb _ HB5.out).mono ?_); rintro en w6 ⟨rfl, hb6⟩; have HB6 := Zh (bnext HB5.out hb6); clear hb6)
      | (go_at_call 12; (with_reducible refine (HM.out.ce _).mono ?_); rintro en wx ⟨rfl, rfl⟩)
      | (go_at_call 13; (with_reducible refine (HM.out.co _).mono ?_); rintro en wx ⟨rfl, rfl⟩)
      | (go_at_call 14; (with_reducible refine (HM.out.cp _).mono ?_); rintro en wx ⟨rfl, rfl⟩)
      | (go_at_call 15; (with_reducible refine (HT1.out _).mono ?_); rintro en wx ⟨rfl, rfl⟩)
      | (go_at_call 15; (with_reducible refine (HT0.out _).mono ?_); rintro en wx ⟨rfl, rfl⟩)
      | (go_at_call 16; (with_reducible refine (HM.out.cq _ HB6.out).mono ?_); rintro en w7 ⟨rfl, hb7⟩; have HB7 := Zh (bnext HB6.out hb7); clear hb7)
      | (go_at_call 17; (with_reducible refine (HM.out.cf _ HB7.out).mono ?_); rintro en w8 ⟨rfl, hb8⟩; have HB8 := Zh (bnext HB7.out hb8); clear hb8)
      | (go_at_call 18; (with_reducible refine (HM.out.cu _ HB8.out).mono ?_); rintro en w9 ⟨rfl, hb9⟩; have HB9 := Zh (bnext HB8.out hb9); clear hb9)
      | (go_at_call 10; (with_reducible refine (HM.out.cwk _ HB9.out).mono ?_); rintro en w12 ⟨rfl, hb12⟩; have HB12 := Zh (bnext HB9.out hb12); clear hb12)
      | fail)
     go_ret
     exact ⟨rfl, bnext HB3.out (bnext HB4.out HB12.out)⟩
   | true =>
    cases lb with
    | false =>
     have hm : MlAt g rule va vb A B true false true false false 2 2 2 w4 := by have h := hml 2 2 2 (by simp [hs, truthV]) (by simp [hs, truthV]) (by simp [hs, truthV]) (fun h1 h2 => by first | exact absurd h1 (by decide) | exact absurd h2 (by decide) | simp [hs, truthV]) (fun h1 h2 => by first | exact absurd h1 (by decide) | exact absurd h2 (by decide) | simp [hs, truthV]); rw [hs] at h; exact h
     have HM := Zh hm
     clear hm hml hle hs hk0
     clear hless heqL
     go_wp2_with (first
      | (go_at_call 11; (with_reducible refine (HM.out.cka _ (Zl _ _)).mono ?_); rintro en w5 ⟨rfl, hb5⟩; have HB5 := Zh hb5; clear hb5)
      | (go_at_call 11; (with_reducible refine (HM.out.ckb _ HB5.out).mono ?_); rintro en w6 ⟨rfl, hb6⟩; have HB6 := Zh (bnext HB5.out hb6); clear hb6)
      | (go_at_call 12; (with_reducible refine (HM.out.ce _).mono ?_); rintro en wx ⟨rfl, rfl⟩)
      | (go_at_call 13; (with_reducible refine (HM.out.co _).mono ?_); rintro en wx ⟨rfl, rfl⟩)
      | (go_at_call 14; (with_reducible refine (HM.out.cp _).mono ?_); rintro en wx ⟨rfl, rfl⟩)
      | (go_at_call 15; (with_reducible refine (HT1.out _).mono ?_); rintro en wx ⟨rfl, rfl⟩)
      | (go_at_call 15; (with_reducible refine (HT0.out _).mono ?_); rintro en wx ⟨rfl, rfl⟩)
      | (go_at_call 16; (with_reducible refine (HM.out.cq _ HB6.out).mono ?_); rintro en w7 ⟨rfl, hb7⟩; have HB7 := Zh (bnext HB6.out hb7); clear hb7)
      | (go_at_call 17; (with_reducible refine (HM.out.cf _ HB7.out).mono ?_); rintro en w8 ⟨rfl, hb8⟩; have HB8 := Zh (bnext HB7.out hb8); clear hb8)
      | (go_at_call 18; (with_reducible refine (HM.out.cu _ HB8.out).mono ?_); rintro en w9 ⟨rfl, hb9⟩; have HB9 := Zh (bnext HB8.out hb9); clear hb9)
      | (go_at_call 10; (with_reducible refine (HM.out.cwk _ HB9.out).mono ?_); rintro en w12 ⟨rfl, hb12⟩; have HB12 := Zh (bnext HB9.out hb12); clear hb12)
      | fail)
     go_ret
     exact ⟨rfl, bnext HB3.out (bnext HB4.out HB12.out)⟩
    | true =>
     cases x with
     | false =>
      have hm : MlAt g rule va vb A B true true true false false 0 2 2 w4 := by have h := hml 0 2 2 (by simp [hs, truthV]) (by simp [hs, truthV]) (by simp [hs, truthV]) (fun h1 h2 => by first | exact absurd h1 (by decide) | exact absurd h2 (by decide) | simp [hs, truthV]) (fun h1 h2 => by first | exact absurd h1 (by decide) | exact absurd h2 (by decide) | simp [hs, truthV]); rw [hs] at h; exact h
      have HM := Zh hm
      clear hm hml hle hs hk0
      clear hless
      go_wp2_with (first
       | (go_at_call 11; (with_reducible refine (HM.out.cka _ (Zl _ _)).mono ?_); rintro en w5 ⟨rfl, hb5⟩; have HB5 := Zh hb5; clear hb5)
       | (go_at_call 11; (with_reducible refine (HM.out.ckb _ HB5.out).mono ?_); rintro en w6 ⟨rfl, hb6⟩; have HB6 := Zh (bnext HB5.out hb6); clear hb6)
       | (go_at_call 12; (with_reducible refine (HM.out.ce _).mono ?_); rintro en wx ⟨rfl, rfl⟩)
       | (go_at_call 13; (with_reducible refine (HM.out.co _).mono ?_); rintro en wx ⟨rfl, rfl⟩)
       | (go_at_call 14; (with_reducible refine (HM.out.cp _).mono ?_); rintro en wx ⟨rfl, rfl⟩)
       | (go_at_call 15; (with_reducible refine (HT1.out _).mono ?_); rintro en wx ⟨rfl, rfl⟩)
       | (go_at_call 15; (with_reducible refine (HT0.out _).mono ?_); rintro en wx ⟨rfl, rfl⟩)
       | (go_at_call 16; (with_reducible refine (HM.out.cq _ HB6.out).mono ?_); rintro en w7 ⟨rfl, hb7⟩; have HB7 := Zh (bnext HB6.out hb7); clear hb7)
       | (go_at_call 17; (with_reducible refine (HM.out.cf _ HB7.out).mono ?_); rintro en w8 ⟨rfl, hb8⟩; have HB8 := Zh (bnext HB7.out hb8); clear hb8)
       | (go_at_call 18; (with_reducible refine (HM.out.cu _ HB8.out).mono ?_); rintro en w9 ⟨rfl, hb9⟩; have HB9 := Zh (bnext HB8.out hb9); clear hb9)
       | (go_at_call 16; (with_reducible refine (HM.out.cq2 rfl rfl _ HB9.out).mono ?_); rintro en w10 ⟨rfl, hb10⟩; have HB10 := Zh (bnext HB9.out hb10); clear hb10)
       | (go_at_call 17; (with_reducible refine (HM.out.cf2 rfl rfl _ HB10.out).mono ?_); rintro en w11 ⟨rfl, hb11⟩; have HB11 := Zh (bnext HB10.out hb11); clear hb11)
       | (go_at_call 10; (with_reducible refine (HM.out.cwk _ HB11.out).mono ?_); rintro en w12 ⟨rfl, hb12⟩; have HB12 := Zh (bnext HB11.out hb12); clear hb12)
       | fail)
      go_ret
      exact ⟨rfl, bnext HB3.out (bnext HB4.out HB12.out)⟩
     | true =>
      have hm : MlAt g rule va vb A B true true true false false 1 2 2 w4 := by have h := hml 1 2 2 (by simp [hs, truthV]) (by simp [hs, truthV]) (by simp [hs, truthV]) (fun h1 h2 => by first | exact absurd h1 (by decide) | exact absurd h2 (by decide) | simp [hs, truthV]) (fun h1 h2 => by first | exact absurd h1 (by decide) | exact absurd h2 (by decide) | simp [hs, truthV]); rw [hs] at h; exact h
      have HM := Zh hm
      clear hm hml hle hs hk0
      clear hless
      go_wp2_with (first
       | (go_at_call 11; (with_reducible refine (HM.out.cka _ (Zl _ _)).mono ?_); rintro en w5 ⟨rfl, hb5⟩; have HB5 := Zh hb5; clear hb5)
       | (go_at_call 11; (with_reducible refine (HM.out.ckb _ HB5.out).mono ?_); rintro en w6 ⟨rfl, hb6⟩; have HB6 := Zh (bnext HB5.out hb6); clear hb6)
       | (go_at_call 12; (with_reducible refine (HM.out.ce _).mono ?_); rintro en wx ⟨rfl, rfl⟩)
       | (go_at_call 13; (with_reducible refine (HM.out.co _).mono ?_); rintro en wx ⟨rfl, rfl⟩)
       | (go_at_call 14; (with_reducible refine (HM.out.cp _).mono ?_); rintro en wx ⟨rfl, rfl⟩)
       | (go_at_call 15; (with_reducible refine (HT1.out _).mono ?_); rintro en wx ⟨rfl, rfl⟩)
       | (go_at_call 15; (with_reducible refine (HT0.out _).mono ?_); rintro en wx ⟨rfl, rfl⟩)
       | (go_at_call 16; (with_reducible refine (HM.out.cq _ HB6.out).mono ?_); rintro en w7 ⟨rfl, hb7⟩; have HB7 := Zh (bnext HB6.out hb7); clear hb7)
       | (go_at_call 17; (with_reducible refine (HM.out.cf _ HB7.out).mono ?_); rintro en w8 ⟨rfl, hb8⟩; have HB8 := Zh (bnext HB7.out hb8); clear hb8)
       | (go_at_call 18; (with_reducible refine (HM.out.cu _ HB8.out).mono ?_); rintro en w9 ⟨rfl, hb9⟩; have HB9 := Zh (bnext HB8.out hb9); clear hb9)
       | (go_at_call 16; (with_reducible refine (HM.out.cq2 rfl rfl _ HB9.out).mono ?_); rintro en w10 ⟨rfl, hb10⟩; have HB10 := Zh (bnext HB9.out hb10); clear hb10)
       | (go_at_call 17; (with_reducible refine (HM.out.cf2 rfl rfl _ HB10.out).mono ?_); rintro en w11 ⟨rfl, hb11⟩; have HB11 := Zh (bnext HB10.out hb11); clear hb11)
       | (go_at_call 10; (with_reducible refine (HM.out.cwk _ HB11.out).mono ?_); rintro en w12 ⟨rfl, hb12⟩; have HB12 := Zh (bnext HB11.out hb12); clear hb12)
       | fail)
      go_ret
      exact ⟨rfl, bnext HB3.out (bnext HB4.out HB12.out)⟩
  ·cases kb with
   | false =>
    cases lb with
    | false =>
     have hm : MlAt g rule va vb A B false false false true false 2 2 2 w4 := by have h := hml 2 2 2 (by simp [hs, truthV]) (by simp [hs, truthV]) (by simp [hs, truthV]) (fun h1 h2 => by first | exact absurd h1 (by decide) | exact absurd h2 (by decide) | simp [hs, truthV]) (fun h1 h2 => by first | exact absurd h1 (by decide) | exact absurd h2 (by decide) | simp [hs, truthV]); rw [hs] at h; exact h
     have HM := Zh hm
     clear hm hml hle hs hk0
     clear hless heqL
     go_wp2_with (first
      | (go_at_call 11; (with_reducible refine (HM.out.cka _ (Zl _ _)).mono ?_); rintro en w5 ⟨rfl, hb5⟩; have HB5 := Zh hb5; clear hb5)
      | (go_at_call 11; (with_reducible refine (HM.out.ckb _ HB5.out).mono ?_); rintro en w6 ⟨rfl, hb6⟩; have HB6 := Zh (bnext HB5.out hb6); clear hb6)
      | (go_at_call 12; (with_reducible refine (HM.out.ce _).mono ?_); rintro en wx ⟨rfl, rfl⟩)
      | (go_at_call 13; (with_reducible refine (HM.out.co _).mono ?_); rintro en wx ⟨rfl, rfl⟩)
      | (go_at_call 14; (with_reducible refine (HM.out.cp _).mono ?_); rintro en wx ⟨rfl, rfl⟩)
      | (go_at_call 15; (with_reducible refine (HT1.out _).mono ?_); rintro en wx ⟨rfl, rfl⟩)
      | (go_at_call 15; (with_reducible refine (HT0.out _).mono ?_); rintro en wx ⟨rfl, rfl⟩)
      | (go_at_call 16; (with_reducible refine (HM.out.cq _ HB6.out).mono ?_); rintro en w7 ⟨rfl, hb7⟩; have HB7 := Zh (bnext HB6.out hb7); clear hb7)
      | (go_at_call 17; (with_reducible refine (HM.out.cf _ HB7.out).mono ?_); rintro en w8 ⟨rfl, hb8⟩; have HB8 := Zh (bnext HB7.out hb8); clear hb8)
      | (go_at_call 18; (with_reducible refine (HM.out.cu _ HB8.out).mono ?_); rintro en w9 ⟨rfl, hb9⟩; have HB9 := Zh (bnext HB8.out hb9); clear hb9)
      | (go_at_call 10; (with_reducible refine (HM.out.cwk _ HB9.out).mono ?_); rintro en w12 ⟨rfl, hb12⟩; have HB12 := Zh (bnext HB9.out hb12); clear hb12)
      | fail)
     go_ret
     exact ⟨rfl, bnext HB3.out (bnext HB4.out HB12.out)⟩
    | true =>
     have hm : MlAt g rule va vb A B false true false true false 2 0 0 w4 := by have h := hml 2 0 0 (by simp [hs, truthV]) (by simp [hs, truthV]) (by simp [hs, truthV]) (fun h1 h2 => by first | exact absurd h1 (by decide) | exact absurd h2 (by decide) | simp [hs, truthV]) (fun h1 h2 => by first | exact absurd h1 (by decide) | exact absurd h2 (by decide) | simp [hs, truthV]); rw [hs] at h; exact h
     have HM := Zh hm
     clear hm hml hle hs hk0
     clear hless heqL
     go_wp2_with (first
      | (go_at_call 11; (with_reducible refine (HM.out.cka _ (Zl _ _)).mono ?_); rintro en w5 ⟨rfl, hb5⟩; have HB5 := Zh hb5; clear hb5)
      | (go_at_call 11; (with_reducible refine (HM.out.ckb _ HB5.out).mono ?_); rintro en w6 ⟨rfl, hb6⟩; have HB6 := Zh (bnext HB5.out hb6); clear hb6)
      | (go_at_call 12; (with_reducible refine (HM.out.ce _).mono ?_); rintro en wx ⟨rfl, rfl⟩)
      | (go_at_call 13; (with_reducible refine (HM.out.co _).mono ?_); rintro en wx ⟨rfl, rfl⟩)
      | (go_at_call 14; (with_reducible refine (HM.out.cp _).mono ?_); rintro en wx ⟨rfl, rfl⟩)
      | (go_at_call 15; (with_reducible refine (HT1.out _).mono ?_); rintro en wx ⟨rfl, rfl⟩)
      | (go_at_call 15; (with_reducible refine (HT0.out _).mono ?_); rintro en wx ⟨rfl, rfl⟩)
      | (go_at_call 16; (with_reducible refine (HM.out.cq _ HB6.out).mono ?_); rintro en w7 ⟨rfl, hb7⟩; have HB7 := Zh (bnext HB6.out hb7); clear hb7)
      | (go_at_call 17; (with_reducible refine (HM.out.cf _ HB7.out).mono ?_); rintro en w8 ⟨rfl, hb8⟩; have HB8 := Zh (bnext HB7.out hb8); clear hb8)
      | (go_at_call 18; (with_reducible refine (HM.out.cu _ HB8.out).mono ?_); rintro en w9 ⟨rfl, hb9⟩; have HB9 := Zh (bnext HB8.out hb9); clear hb9)
      | (go_at_call 10; (with_reducible refine (HM.out.cwk _ HB9.out).mono ?_); rintro en w12 ⟨rfl, hb12⟩; have HB12 := Zh (bnext HB9.out hb12); clear hb12)
      | fail)
     go_ret
     exact ⟨rfl, bnext HB3.out (bnext HB4.out HB12.out)⟩
   | true =>
    cases lb with
    | false =>
     have hm : MlAt g rule va vb A B true false false true false 2 2 2 w4 := by have h := hml 2 2 2 (by simp [hs, truthV]) (by simp [hs, truthV]) (by simp [hs, truthV]) (fun h1 h2 => by first | exact absurd h1 (by decide) | exact absurd h2 (by decide) | simp [hs, truthV]) (fun h1 h2 => by first | exact absurd h1 (by decide) | exact absurd h2 (by decide) | simp [hs, truthV]); rw [hs] at h; exact h
     have HM := Zh hm
     clear hm hml hle hs hk0
     clear hless heqL
     go_wp2_with (first
      | (go_at_call 11; (with_reducible refine (HM.out.cka _ (Zl _ _)).mono ?_); rintro en w5 ⟨rfl, hb5⟩; have HB5 := Zh hb5; clear hb5)
      | (go_at_call 11; (with_reducible refine (HM.out.ckb _ HB5.out).mono ?_); rintro en w6 ⟨rfl, hb6⟩; have HB6 := Zh (bnext HB5.out hb6); clear hb6)
      | (go_at_call 12; (with_reducible refine (HM.out.ce _).mono ?_); rintro en wx ⟨rfl, rfl⟩)
      | (go_at_call 13; (with_reducible refine (HM.out.co _).mono ?_); rintro en wx ⟨rfl, rfl⟩)
      | (go_at_call 14; (with_reducible refine (HM.out.cp _).mono ?_); rintro en wx ⟨rfl, rfl⟩)
      | (go_at_call 15; (with_reducible refine (HT1.out _).mono ?_); rintro en wx ⟨rfl, rfl⟩)
      | (go_at_call 15; (with_reducible refine (HT0.out _).mono ?_); rintro en wx ⟨rfl, rfl⟩)
      | (go_at_call 16; (with_reducible refine (HM.out.cq _ HB6.out).mono ?_); rintro en w7 ⟨rfl, hb7⟩; have HB7 := Zh (bnext HB6.out hb7); clear hb7)
      | (go_at_call 17; (with_reducible refine (HM.out.cf _ HB7.out).mono ?_); rintro en w8 ⟨rfl, hb8⟩; have HB8 := Zh (bnext HB7.out hb8); clear hb8)
      | (go_at_call 18; (with_reducible refine (HM.out.cu _ HB8.out).mono ?_); rintro en w9 ⟨rfl, hb9⟩; have HB9 := Zh (bnext HB8.out hb9); clear hb9)
      | (go_at_call 10; (with_reducible refine (HM.out.cwk _ HB9.out).mono ?_); rintro en w12 ⟨rfl, hb12⟩; have HB12 := Zh (bnext HB9.out hb12); clear hb12)
      | fail)
     go_ret
     exact ⟨rfl, bnext HB3.out (bnext HB4.out HB12.out)⟩
    | true =>
     cases x with
     | false =>
      cases y with
      | false =>
       have hm : MlAt g rule va vb A B true true false true false 2 1 0 w4 := by have h := hml 2 1 0 (by simp [hs, truthV]) (by simp [hs, truthV]) (by simp [hs, truthV]) (fun h1 h2 => by first | exact absurd h1 (by decide) | exact absurd h2 (by decide) | simp [hs, truthV]) (fun h1 h2 => by first | exact absurd h1 (by decide) | exact absurd h2 (by decide) | simp [hs, truthV]); rw [hs] at h; exact h
       have HM := Zh hm
       clear hm hml hle hs hk0
       go_wp2_with (first
        | (go_at_call 11; (with_reducible refine (HM.out.cka _ (Zl _ _)).mono ?_); rintro en w5 ⟨rfl, hb5⟩; have HB5 := Zh hb5; clear hb5)
        | (go_at_call 11; (with_reducible refine (HM.out.ckb _ HB5.out).mono ?_); rintro en w6 ⟨rfl, hb6⟩; have HB6 := Zh (bnext HB5.out hb6); clear hb6)
        | (go_at_call 12; (with_reducible refine (HM.out.ce _).mono ?_); rintro en wx ⟨rfl, rfl⟩)
        | (go_at_call 13; (with_reducible refine (HM.out.co _).mono ?_); rintro en wx ⟨rfl, rfl⟩)
        | (go_at_call 14; (with_reducible refine (HM.out.cp _).mono ?_); rintro en wx ⟨rfl, rfl⟩)
        | (go_at_call 15; (with_reducible refine (HT1.out _).mono ?_); rintro en wx ⟨rfl, rfl⟩)
        | (go_at_call 15; (with_reducible refine (HT0.out _).mono ?_); rintro en wx ⟨rfl, rfl⟩)
        | (go_at_call 16; (with_reducible refine (HM.out.cq _ HB6.out).mono ?_); rintro en w7 ⟨rfl, hb7⟩; have HB7 := Zh (bnext HB6.out hb7); clear hb7)
        | (go_at_call 17; (with_reducible refine (HM.out.cf _ HB7.out).mono ?_); rintro en w8 ⟨rfl, hb8⟩; have HB8 := Zh (bnext HB7.out hb8); clear hb8)
        | (go_at_call 18; (with_reducible refine (HM.out.cu _ HB8.out).mono ?_); rintro en w9 ⟨rfl, hb9⟩; have HB9 := Zh (bnext HB8.out hb9); clear hb9)
        | (go_at_call 16; (with_reducible refine (HM.out.cq2 rfl rfl _ HB9.out).mono ?_); rintro en w10 ⟨rfl, hb10⟩; have HB10 := Zh (bnext HB9.out hb10); clear hb10)
        | (go_at_call 17; (with_reducible refine (HM.out.cf2 rfl rfl _ HB10.out).mono ?_); rintro en w11 ⟨rfl, hb11⟩; have HB11 := Zh (bnext HB10.out hb11); clear hb11)
        | (go_at_call 10; (with_reducible refine (HM.out.cwk _ HB11.out).mono ?_); rintro en w12 ⟨rfl, hb12⟩; have HB12 := Zh (bnext HB11.out hb12); clear hb12)
        | fail)
       go_ret
       exact ⟨rfl, bnext HB3.out (bnext HB4.out HB12.out)⟩
      | true =>
       have hm : MlAt g rule va vb A B true true false true false 2 0 1 w4 := by have h := hml 2 0 1 (by simp [hs, truthV]) (by simp [hs, truthV]) (by simp [hs, truthV]) (fun h1 h2 => by first | exact absurd h1 (by decide) | exact absurd h2 (by decide) | simp [hs, truthV]) (fun h1 h2 => by first | exact absurd h1 (by decide) | exact absurd h2 (by decide) | simp [hs, truthV]); rw [hs] at h; exact h
       have HM := Zh hm
       clear hm hml hle hs hk0
       go_wp2_with (first
        | (go_at_call 11; (with_reducible refine (HM.out.cka _ (Zl _ _)).mono ?_); rintro en w5 ⟨rfl, hb5⟩; have HB5 := Zh hb5; clear hb5)
        | (go_at_call 11; (with_reducible refine (HM.out.ckb _ HB5.out).mono ?_); rintro en w6 ⟨rfl, hb6⟩; have HB6 := Zh (bnext HB5.out hb6); clear hb6)
        | (go_at_call 12; (with_reducible refine (HM.out.ce _).mono ?_); rintro en wx ⟨rfl, rfl⟩)
        | (go_at_call 13; (with_reducible refine (HM.out.co _).mono ?_); rintro en wx ⟨rfl, rfl⟩)
        | (go_at_call 14; (with_reducible refine (HM.out.cp _).mono ?_); rintro en wx ⟨rfl, rfl⟩)
        | (go_at_call 15; (with_reducible refine (HT1.out _).mono ?_); rintro en wx ⟨rfl, rfl⟩)
        | (go_at_call 15; (with_reducible refine (HT0.out _).mono ?_); rintro en wx ⟨rfl, rfl⟩)
        | (go_at_call 16; (with_reducible refine (HM.out.cq _ HB6.out).mono ?_); rintro en w7 ⟨rfl, hb7⟩; have HB7 := Zh (bnext HB6.out hb7); clear hb7)
        | (go_at_call 17; (with_reducible refine (HM.out.cf _ HB7.out).mono ?_); rintro en w8 ⟨rfl, hb8⟩; have HB8 := Zh (bnext HB7.out hb8); clear hb8)
        | (go_at_call 18; (with_reducible refine (HM.out.cu _ HB8.out).mono ?_); rintro en w9 ⟨rfl, hb9⟩; have HB9 := Zh (bnext HB8.out hb9); clear hb9)
        | (go_at_call 16; (with_reducible refine (HM.out.cq2 rfl rfl _ HB9.out).mono ?_); rintro en w10 ⟨rfl, hb10⟩; have HB10 := Zh (bnext HB9.out hb10); clear hb10)
        | (go_at_call 17; (with_reducible refine (HM.out.cf2 rfl rfl _ HB10.out).mono ?_); rintro en w11 ⟨rfl, hb11⟩; have HB11 := Zh (bnext HB10.out hb11); clear hb11)
        | (go_at_call 10; (with_reducible refine (HM.out.cwk _ HB11.out).mono ?_); rintro en w12 ⟨rfl, hb12⟩; have HB12 := Zh (bnext HB11.out hb12); clear hb12)
        | fail)
       go_ret
       exact ⟨rfl, bnext HB3.out (bnext HB4.out HB12.out)⟩
     | true =>
      cases y with
      | false =>
       have hm : MlAt g rule va vb A B true true false true false 2 1 1 w4 := by have h := hml 2 1 1 (by simp [hs, truthV]) (by simp [hs, truthV]) (by simp [hs, truthV]) (fun h1 h2 => by first | exact absurd h1 (by decide) | exact absurd h2 (by decide) | simp [hs, truthV]) (fun h1 h2 => by first | exact absurd h1 (by decide) | exact absurd h2 (by decide) | simp [hs, truthV]); rw [hs] at h; exact h
       have HM := Zh hm
       clear hm hml hle hs hk0
       go_wp2_with (first
        | (go_at_call 11; (with_reducible refine (HM.out.cka _ (Zl _ _)).mono ?_); rintro en w5 ⟨rfl, hb5⟩; have HB5 := Zh hb5; clear hb5)
        | (go_at_call 11; (with_reducible refine (HM.out.ckb _ HB5.out).mono ?_); rintro en w6 ⟨rfl, hb6⟩; have HB6 := Zh (bnext HB5.out hb6); clear hb6)
        | (go_at_call 12; (with_reducible refine (HM.out.ce _).mono ?_); rintro en wx ⟨rfl, rfl⟩)
        | (go_at_call 13; (with_reducible refine (HM.out.co _).mono ?_); rintro en wx ⟨rfl, rfl⟩)
        | (go_at_call 14; (with_reducible refine (HM.out.cp _).mono ?_); rintro en wx ⟨rfl, rfl⟩)
        | (go_at_call 15; (with_reducible refine (HT1.out _).mono ?_); rintro en wx ⟨rfl, rfl⟩)
        | (go_at_call 15; (with_reducible refine (HT0.out _).mono ?_); rintro en wx ⟨rfl, rfl⟩)
        | (go_at_call 16; (with_reducible refine (HM.out.cq _ HB6.out).mono ?_); rintro en w7 ⟨rfl, hb7⟩; have HB7 := Zh (bnext HB6.out hb7); clear hb7)
        | (go_at_call 17; (with_reducible refine (HM.out.cf _ HB7.out).mono ?_); rintro en w8 ⟨rfl, hb8⟩; have HB8 := Zh (bnext HB7.out hb8); clear hb8)
        | (go_at_call 18; (with_reducible refine (HM.out.cu _ HB8.out).mono ?_); rintro en w9 ⟨rfl, hb9⟩; have HB9 := Zh (bnext HB8.out hb9); clear hb9)
        | (go_at_call 16; (with_reducible refine (HM.out.cq2 rfl rfl _ HB9.out).mono ?_); rintro en w10 ⟨rfl, hb10⟩; have HB10 := Zh (bnext HB9.out hb10); clear hb10)
        | (go_at_call 17; (with_reducible refine (HM.out.cf2 rfl rfl _ HB10.out).mono ?_); rintro en w11 ⟨rfl, hb11⟩; have HB11 := Zh (bnext HB10.out hb11); clear hb11)
        | (go_at_call 10; (with_reducible refine (HM.out.cwk _ HB11.out).mono ?_); rintro en w12 ⟨rfl, hb12⟩; have HB12 := Zh (bnext HB11.out hb12); clear hb12)
        | fail)
       go_ret
       exact ⟨rfl, bnext HB3.out (bnext HB4.out HB12.out)⟩
      | true =>
       exact absurd (hle rfl) (by decide)
  ·cases kb with
   | false =>
    cases lb with
    | false =>
     have hm : MlAt g rule va vb A B false false false false true 2 2 2 w4 := by have h := hml 2 2 2 (by simp [hs, truthV]) (by simp [hs, truthV]) (by simp [hs, truthV]) (fun h1 h2 => by first | exact absurd h1 (by decide) | exact absurd h2 (by decide) | simp [hs, truthV]) (fun h1 h2 => by first | exact absurd h1 (by decide) | exact absurd h2 (by decide) | simp [hs, truthV]); rw [hs] at h; exact h
     have HM := Zh hm
     clear hm hml hle hs hk0
     clear hless heqL
     go_wp2_with (first
      | (go_at_call 11; (with_reducible refine (HM.out.cka _ (Zl _ _)).mono ?_); rintro en w5 ⟨rfl, hb5⟩; have HB5 := Zh hb5; clear hb5)
      | (go_at_call 11; (with_reducible refine (HM.out.ckb _ HB5.out).mono ?_); rintro en w6 ⟨rfl, hb6⟩; have HB6 := Zh (bnext HB5.out hb6); clear hb6)
      | (go_at_call 12; (with_reducible refine (HM.out.ce _).mono ?_); rintro en wx ⟨rfl, rfl⟩)
      | (go_at_call 13; (with_reducible refine (HM.out.co _).mono ?_); rintro en wx ⟨rfl, rfl⟩)
      | (go_at_call 14; (with_reducible refine (HM.out.cp _).mono ?_); rintro en wx ⟨rfl, rfl⟩)
      | (go_at_call 15; (with_reducible refine (HT1.out _).mono ?_); rintro en wx ⟨rfl, rfl⟩)
      | (go_at_call 15; (with_reducible refine (HT0.out _).mono ?_); rintro en wx ⟨rfl, rfl⟩)
      | (go_at_call 16; (with_reducible refine (HM.out.cq _ HB6.out).mono ?_); rintro en w7 ⟨rfl, hb7⟩; have HB7 := Zh (bnext HB6.out hb7); clear hb7)
      | (go_at_call 17; (with_reducible refine (HM.out.cf _ HB7.out).mono ?_); rintro en w8 ⟨rfl, hb8⟩; have HB8 := Zh (bnext HB7.out hb8); clear hb8)
      | (go_at_call 18; (with_reducible refine (HM.out.cu _ HB8.out).mono ?_); rintro en w9 ⟨rfl, hb9⟩; have HB9 := Zh (bnext HB8.out hb9); clear hb9)
      | (go_at_call 10; (with_reducible refine (HM.out.cwk _ HB9.out).mono ?_); rintro en w12 ⟨rfl, hb12⟩; have HB12 := Zh (bnext HB9.out hb12); clear hb12)
      | fail)
     go_ret
     exact ⟨rfl, bnext HB3.out (bnext HB4.out HB12.out)⟩
    | true =>
     have hm : MlAt g rule va vb A B false true false false true 2 2 2 w4 := by have h := hml 2 2 2 (by simp [hs, truthV]) (by simp [hs, truthV]) (by simp [hs, truthV]) (fun h1 h2 => by first | exact absurd h1 (by decide) | exact absurd h2 (by decide) | simp [hs, truthV]) (fun h1 h2 => by first | exact absurd h1 (by decide) | exact absurd h2 (by decide) | simp [hs, truthV]); rw [hs] at h; exact h
     have HM := Zh hm
     clear hm hml hle hs hk0
     clear hless heqL
     go_wp2_with (first
      | (go_at_call 11; (with_reducible refine (HM.out.cka _ (Zl _ _)).mono ?_); rintro en w5 ⟨rfl, hb5⟩; have HB5 := Zh hb5; clear hb5)
      | (go_at_call 11; (with_reducible refine (HM.out.ckb _ HB5.out).mono ?_); rintro en w6 ⟨rfl, hb6⟩; have HB6 := Zh (bnext HB5.out hb6); clear hb6)
      | (go_at_call 12; (with_reducible refine (HM.out.ce _).mono ?_); rintro en wx ⟨rfl, rfl⟩)
      | (go_at_call 13; (with_reducible refine (HM.out.co _).mono ?_); rintro en wx ⟨rfl, rfl⟩)
      | (go_at_call 14; (with_reducible refine (HM.out.cp _).mono ?_); rintro en wx ⟨rfl, rfl⟩)
      | (go_at_call 15; (with_reducible refine (HT1.out _).mono ?_); rintro en wx ⟨rfl, rfl⟩)
      | (go_at_call 15; (with_reducible refine (HT0.out _).mono ?_); rintro en wx ⟨rfl, rfl⟩)
      | (go_at_call 16; (with_reducible refine (HM.out.cq _ HB6.out).mono ?_); rintro en w7 ⟨rfl, hb7⟩; have HB7 := Zh (bnext HB6.out hb7); clear hb7)
      | (go_at_call 17; (with_reducible refine (HM.out.cf _ HB7.out).mono ?_); rintro en w8 ⟨rfl, hb8⟩; have HB8 := Zh (bnext HB7.out hb8); clear hb8)
      | (go_at_call 18; (with_reducible refine (HM.out.cu _ HB8.out).mono ?_); rintro en w9 ⟨rfl, hb9⟩; have HB9 := Zh (bnext HB8.out hb9); clear hb9)
      | (go_at_call 10; (with_reducible refine (HM.out.cwk _ HB9.out).mono ?_); rintro en w12 ⟨rfl, hb12⟩; have HB12 := Zh (bnext HB9.out hb12); clear hb12)
      | fail)
     go_ret
     exact ⟨rfl, bnext HB3.out (bnext HB4.out HB12.out)⟩
   | true =>
    cases lb with
    | false =>
     have hm : MlAt g rule va vb A B true false false false true 2 2 2 w4 := by have h := hml 2 2 2 (by simp [hs, truthV]) (by simp [hs, truthV]) (by simp [hs, truthV]) (fun h1 h2 => by first | exact absurd h1 (by decide) | exact absurd h2 (by decide) | simp [hs, truthV]) (fun h1 h2 => by first | exact absurd h1 (by decide) | exact absurd h2 (by decide) | simp [hs, truthV]); rw [hs] at h; exact h
     have HM := Zh hm
     clear hm hml hle hs hk0
     clear hless heqL
     go_wp2_with (first
      | (go_at_call 11; (with_reducible refine (HM.out.cka _ (Zl _ _)).mono ?_); rintro en w5 ⟨rfl, hb5⟩; have HB5 := Zh hb5; clear hb5)
      | (go_at_call 11; (with_reducible refine (HM.out.ckb _ HB5.out).mono ?_); rintro en w6 ⟨rfl, hb6⟩; have HB6 := Zh (bnext HB5.out hb6); clear hb6)
      | (go_at_call 12; (with_reducible refine (HM.out.ce _).mono ?_); rintro en wx ⟨rfl, rfl⟩)
      | (go_at_call 13; (with_reducible refine (HM.out.co _).mono ?_); rintro en wx ⟨rfl, rfl⟩)
      | (go_at_call 14; (with_reducible refine (HM.out.cp _).mono ?_); rintro en wx ⟨rfl, rfl⟩)
      | (go_at_call 15; (with_reducible refine (HT1.out _).mono ?_); rintro en wx ⟨rfl, rfl⟩)
      | (go_at_call 15; (with_reducible refine (HT0.out _).mono ?_); rintro en wx ⟨rfl, rfl⟩)
      | (go_at_call 16; (with_reducible refine (HM.out.cq _ HB6.out).mono ?_); rintro en w7 ⟨rfl, hb7⟩; have HB7 := Zh (bnext HB6.out hb7); clear hb7)
      | (go_at_call 17; (with_reducible refine (HM.out.cf _ HB7.out).mono ?_); rintro en w8 ⟨rfl, hb8⟩; have HB8 := Zh (bnext HB7.out hb8); clear hb8)
      | (go_at_call 18; (with_reducible refine (HM.out.cu _ HB8.out).mono ?_); rintro en w9 ⟨rfl, hb9⟩; have HB9 := Zh (bnext HB8.out hb9); clear hb9)
      | (go_at_call 10; (with_reducible refine (HM.out.cwk _ HB9.out).mono ?_); rintro en w12 ⟨rfl, hb12⟩; have HB12 := Zh (bnext HB9.out hb12); clear hb12)
      | fail)
     go_ret
     exact ⟨rfl, bnext HB3.out (bnext HB4.out HB12.out)⟩
    | true =>
     have hm : MlAt g rule va vb A B true true false false true 2 2 2 w4 := by have h := hml 2 2 2 (by simp [hs, truthV]) (by simp [hs, truthV]) (by simp [hs, truthV]) (fun h1 h2 => by first | exact absurd h1 (by decide) | exact absurd h2 (by decide) | simp [hs, truthV]) (fun h1 h2 => by first | exact absurd h1 (by decide) | exact absurd h2 (by decide) | simp [hs, truthV]); rw [hs] at h; exact h
     have HM := Zh hm
     clear hm hml hle hs hk0
     clear hless heqL
     go_wp2_with (first
      | (go_at_call 11; (with_reducible refine (HM.out.cka _ (Zl _ _)).mono ?_); rintro en w5 ⟨rfl, hb5⟩; have HB5 := Zh hb5; clear hb5)
      | (go_at_call 11; (with_reducible refine (HM.out.ckb _ HB5.out).mono ?_); rintro en w6 ⟨rfl, hb6⟩; have HB6 := Zh (bnext HB5.out hb6); clear hb6)
      | (go_at_call 12; (with_reducible refine (HM.out.ce _).mono ?_); rintro en wx ⟨rfl, rfl⟩)
      | (go_at_call 13; (with_reducible refine (HM.out.co _).mono ?_); rintro en wx ⟨rfl, rfl⟩)
      | (go_at_call 14; (with_reducible refine (HM.out.cp _).mono ?_); rintro en wx ⟨rfl, rfl⟩)
      | (go_at_call 15; (with_reducible refine (HT1.out _).mono ?_); rintro en wx ⟨rfl, rfl⟩)
      | (go_at_call 15; (with_reducible refine (HT0.out _).mono ?_); rintro en wx ⟨rfl, rfl⟩)
      | (go_at_call 16; (with_reducible refine (HM.out.cq _ HB6.out).mono ?_); rintro en w7 ⟨rfl, hb7⟩; have HB7 := Zh (bnext HB6.out hb7); clear hb7)
      | (go_at_call 17; (with_reducible refine (HM.out.cf _ HB7.out).mono ?_); rintro en w8 ⟨rfl, hb8⟩; have HB8 := Zh (bnext HB7.out hb8); clear hb8)
      | (go_at_call 18; (with_reducible refine (HM.out.cu _ HB8.out).mono ?_); rintro en w9 ⟨rfl, hb9⟩; have HB9 := Zh (bnext HB8.out hb9); clear hb9)
      | (go_at_call 16; (with_reducible refine (HM.out.cq2 rfl rfl _ HB9.out).mono ?_); rintro en w10 ⟨rfl, hb10⟩; have HB10 := Zh (bnext HB9.out hb10); clear hb10)
      | (go_at_call 17; (with_reducible refine (HM.out.cf2 rfl rfl _ HB10.out).mono ?_); rintro en w11 ⟨rfl, hb11⟩; have HB11 := Zh (bnext HB10.out hb11); clear hb11)
      | (go_at_call 10; (with_reducible refine (HM.out.cwk _ HB11.out).mono ?_); rintro en w12 ⟨rfl, hb12⟩; have HB12 := Zh (bnext HB11.out hb12); clear hb12)
      | fail)
     go_ret
     exact ⟨rfl, bnext HB3.out (bnext HB4.out HB12.out)⟩
 ·go_wp2_with (first
   | (go_at_call 10; (with_reducible refine (HWK.out _ HB4.out).mono ?_); rintro en w5 ⟨rfl, hb5⟩; have HB5 := Zh (bnext HB4.out hb5); clear hb5)
   | fail)
  go_ret
  exact ⟨rfl, bnext HB3.out HB5.out⟩
end Go.Proofs.YtlmfbjhokkpjhaaGreatDoor
