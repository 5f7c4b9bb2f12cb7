/- Part 45 of the walks and plain laws, joined: LawS, OpenLwB. -/
import Derived.Test.YtlmfbjhokkpjhaaGreatDoorML00
import Derived.Test.YtlmfbjhokkpjhaaGreatDoorML42
import Derived.Test.YtlmfbjhokkpjhaaGreatDoorML22
import Derived.Test.YtlmfbjhokkpjhaaGreatDoorML21
import Derived.Test.YtlmfbjhokkpjhaaGreatDoorML20
import Derived.Test.YtlmfbjhokkpjhaaGreatDoorML08
import Derived.Test.YtlmfbjhokkpjhaaGreatDoorML26
set_option linter.unusedVariables false
set_option linter.unusedSimpArgs false
namespace Go.Proofs.YtlmfbjhokkpjhaaGreatDoor
open Go Go.RowKit Go.Maps
theorem field_type4 (x : PType) (nv : Value) (w : World) : (Instr.field 46 (.agg #[.string x.oid, nv, .string x.sup, .int .i8 x.syn, .int .i8 x.eq, .int .i8 x.ord, .int .i8 x.part, .bool x.single, .int .u8 x.index]) 4).run Tryz.prog w = .ok (.int .i8 x.eq) w := by kernel_rfl
set_option maxRecDepth 20000 in
theorem like_out (S : PSchema) (g : Nat) (t : Int) (va vb : ByteArray) (w : World) (h : Sch w g S) (hh : hasT S t = false) :
  Calls Tryz.prog 21 #[.pointer (some ⟨g, 0, none⟩), .int .i64 t, .string va, .string vb] w fun e w' => e = .returned (.int .i8 2) ∧ Below w.heap.size w w' := by
 have hm := mfull_any S g t w h
 unfold MFullPost at hm
 generalize typeI S t = x at hm
 unfold tyAgg at hm
 rw [hh] at hm
 have HM := Zh hm; clear hm hh h
 go_enter Tryz.func21, Tryz.ntmps21
 go_wp2_with (first | (go_at_call 60; refine (HM.out).mono ?_; rintro e w1 ⟨hb1, a, n, c, rfl⟩; have HB1 := Zh hb1; clear hb1) | fail)
 go_ret
 exact ⟨rfl, HB1.out.alloc HB1.out.size _⟩
set_option maxRecDepth 20000 in
set_option maxHeartbeats 8000000 in
theorem law_msame (S : PSchema) (a : Option Addr) (n c : Nat) (a2 : Option Addr) (n2 c2 : Nat) (rule t : Int) (va vb : ByteArray) (w : World) (hE : EnvW w) (hV : SynV w) (hT : Types w.heap.size w a n c S.types) (hC : Classes w.heap.size w a2 n2 c2 S.classes) :
  Calls Tryz.prog 4 #[.agg #[.slice a n c, .slice a2 n2 c2], .agg #[.int .i8 rule, .int .i64 t, .string va, .string vb]] w fun en w' => en = .returned (.bool true) ∧ Below w.heap.size w w' := by
 have HE := Zh (Zi hE hV); have HTC := Zh (Zi hT hC); clear hE hV hT hC
 go_enter Tryz.func4, Tryz.ntmps4
 go_upto_region 1 with fail
 have hb3 : Below w.heap.size w ((w.alloc (.cells #[.slice a n c, .slice a2 n2 c2] 25)).alloc (.cells #[.int .i8 rule, .int .i64 t, .string va, .string vb] 28)) := ((Zl _ w).alloc (Zr _) _).alloc (by simp) _
 have q0 : ((w.alloc (.cells #[.slice a n c, .slice a2 n2 c2] 25)).alloc (.cells #[.int .i8 rule, .int .i64 t, .string va, .string vb] 28)).heap[w.heap.size]? = some (.cells #[.slice a n c, .slice a2 n2 c2] 25) := by
  rw [((Zl _ (w.alloc (.cells #[.slice a n c, .slice a2 n2 c2] 25))).alloc (Zr _) _).block _ (by simp)]; exact heap_alloc_new w _
 have q1 : ((w.alloc (.cells #[.slice a n c, .slice a2 n2 c2] 25)).alloc (.cells #[.int .i8 rule, .int .i64 t, .string va, .string vb] 28)).heap[w.heap.size + 1]? = some (.cells #[.int .i8 rule, .int .i64 t, .string va, .string vb] 28) := by
  have h := heap_alloc_new (w.alloc (.cells #[.slice a n c, .slice a2 n2 c2] 25)) (.cells #[.int .i8 rule, .int .i64 t, .string va, .string vb] 28)
  rw [World.size_alloc] at h; exact h
 generalize (w.alloc (.cells #[.slice a n c, .slice a2 n2 c2] 25)).alloc (.cells #[.int .i8 rule, .int .i64 t, .string va, .string vb] 28) = w3 at hb3 q0 q1 ⊢
 have a0 := Lib.cell_of_heap q0 0; have a1 := Lib.cell_of_heap q0 1
 have b0 := Lib.cell_of_heap q1 1; have b2 := Lib.cell_of_heap q1 2; have b3 := Lib.cell_of_heap q1 3
 change w3.cell? _ = some (.slice a n c) at a0
 change w3.cell? _ = some (.slice a2 n2 c2) at a1
 change w3.cell? _ = some (.int .i64 t) at b0
 change w3.cell? _ = some (.string va) at b2
 change w3.cell? _ = some (.string vb) at b3
 clear q0 q1
 have HB3 := Zh hb3; clear hb3
 have hnw : ∀ wq, Below w3.heap.size w3 wq → Calls Tryz.prog 9 #[.agg #[.slice a n c, .slice a2 n2 c2]] wq (NewPost S wq) := fun wq hb =>
  have hb2 := bnext HB3.out hb
  new_any S w.heap.size a a2 n c n2 c2 wq (HE.out.1.s.next hb2) (HTC.out.1.keep hb2 (Zr _)) (HTC.out.2.keep hb2 (Zr _)) hb2.size
 have hwk : ∀ wq, Below w3.heap.size w3 wq → Calls Tryz.prog 10 #[] wq fun e w' => e = .returned (.bool true) ∧ Below wq.heap.size wq w' := fun wq hb => wakes_any wq (HE.out.1.next (bnext HB3.out hb))
 have HNW := Zh hnw; have HWK := Zh hwk; clear hnw hwk
 go_upto_region 5 with (first
  | (go_at_call 9; (with_reducible refine (HNW.out _ (Zl _ _)).mono ?_); rintro en w4 ⟨hb4, hpost⟩; have HB4 := Zh hb4; have c0 := (hb4.cell (Zb _ _ a0)).trans a0; clear hb4; rcases hpost with ⟨_, g, rfl, hsch⟩ | ⟨hne, rfl⟩)
  | fail)
 all_goals clear a0 a1 b0 b2 b3
 ·have hEw : EnvW w4 := HE.out.1.next (bnext HB3.out HB4.out)
  have hVw : SynV w4 := HE.out.2.next (bnext HB3.out HB4.out)
  have hwk4 : ∀ wq, Below w4.heap.size w4 wq → Calls Tryz.prog 10 #[] wq fun e w' => e = .returned (.bool true) ∧ Below wq.heap.size wq w' := fun wq hb => HWK.out wq (bnext HB4.out hb)
  have HWK4 := Zh hwk4; clear hwk4
  by_cases hin : 0 ≤ t ∧ t < (S.types.length : Int)
  ·have hh : hasT S t = true := decide_eq_true hin
   obtain ⟨x, hx⟩ : ∃ x, typeI S t = x := ⟨_, rfl⟩
   have hrg : -128 ≤ x.eq ∧ x.eq ≤ 127 := by
    rw [← hx]; unfold typeI; rw [if_pos hin]; exact hsch.rng _
   have hkk := keyAt_any S g x.eq w4 hsch (⟨hEw.e, hEw.s, hVw⟩ : EnvK w4) hEw.m hrg
   have hsm : ∀ (u v : ByteArray) (b : Bool), sameV S t (keyR S x.eq) (toL u) (toL v) = b → ∀ wq, Below w4.heap.size w4 wq → Calls Tryz.prog 19 #[.pointer (some ⟨g, 0, none⟩), .int .i64 t, .string u, .string v] wq fun e w' => e = .returned (.bool b) ∧ Below wq.heap.size wq w' := fun u v b hb wq hq => by
    have h := same_any S g t (keyR S x.eq) u v wq (hsch.keep hq) (fun _ => by rw [hx]; exact hkk.next hq)
    rw [hb] at h; exact h
   have hfu : ∀ wq, Below w4.heap.size w4 wq → Calls Tryz.prog 22 #[.pointer (some ⟨g, 0, none⟩), .int .i64 t] wq (FullPost x wq) := fun wq hq => by
    have h := full_any S g t wq (hsch.keep hq)
    rw [hx] at h; exact h
   unfold FullPost tyAgg at hfu
   have hka : ∀ wq, Below w4.heap.size w4 wq → Calls Tryz.prog 11 #[.pointer (some ⟨g, 0, none⟩), .int .i8 x.eq, .string va] wq fun e w' => e = .returned (ret2 (keyR S x.eq (toL va))) ∧ Below wq.heap.size wq w' := fun wq hq => hkk wq va hq
   have hkb : ∀ wq, Below w4.heap.size w4 wq → Calls Tryz.prog 11 #[.pointer (some ⟨g, 0, none⟩), .int .i8 x.eq, .string vb] wq fun e w' => e = .returned (ret2 (keyR S x.eq (toL vb))) ∧ Below wq.heap.size wq w' := fun wq hq => hkk wq vb hq
   have hs1 := hsm va vb
   have hs2 := hsm vb va
   have hs3 := hsm va va
   unfold sameV at hs1 hs2 hs3
   rw [hh] at hs1 hs2 hs3
   simp only [Bool.true_and] at hs1 hs2 hs3
   rw [beq_sym (toL va) (toL vb)] at hs2
   generalize keyR S x.eq (toL va) = K1 at hka hs1 hs2 hs3
   generalize keyR S x.eq (toL vb) = K2 at hkb hs1 hs2
   obtain ⟨kl, kb⟩ := K1
   obtain ⟨ll, lb⟩ := K2
   unfold ret2 at hka hkb
   simp only at hka hkb hs1 hs2 hs3
   rw [beq_sym kl ll] at hs2
   have hAB : ((ByteArray.mk kl.toArray).toList == (ByteArray.mk ll.toArray).toList) = (kl == ll) := by simp [Lib.toList_data]
   have hvv : (va.toList == vb.toList) = (toL va == toL vb) := by simp [Lib.toList_data, toL]
   generalize (kl == ll) = y at hs1 hs2 hAB
   generalize (toL va == toL vb) = z at hs1 hs2 hvv
   generalize (ByteArray.mk kl.toArray) = A at hka hAB
   generalize (ByteArray.mk ll.toArray) = B at hkb hAB
   have hn0 : ¬ t < 0 := by omega
   have hn1 : ¬ (n : Int) ≤ t := by have hnl := HTC.out.1.len; omega
   have HFU := Zh hfu; have HKA := Zh hka; have HKB := Zh hkb
   have HS3 := Zh (hs3 true (by simp))
   clear hfu hka hkb hs3 hsm hkk hrg hh hEw hVw hsch hx HNW HTC hin
   cases kb with
   | false =>
    cases lb with
    | false =>
     cases z with
     | false =>
      clear hAB
      have HS1 := Zh (hs1 false (by simp)); have HS2 := Zh (hs2 false (by simp))
      clear hs1 hs2
      go_wp2_with (first
       | (go_at_call 22; (with_reducible refine (HFU.out _ (Zl _ _)).mono ?_); rintro en w5 ⟨hb5, a3, n3, c3, rfl, _⟩; have hfd := field_type4 x (.slice a3 n3 c3) w5; have HB5 := Zh hb5; clear hb5)
       | (go_at_call 11; (with_reducible refine (HKA.out _ HB5.out).mono ?_); rintro en w6 ⟨rfl, hb6⟩; have HB6 := Zh (bnext HB5.out hb6); clear hb6)
       | (go_at_call 11; (with_reducible refine (HKB.out _ HB6.out).mono ?_); rintro en w7 ⟨rfl, hb7⟩; have HB7 := Zh (bnext HB6.out hb7); clear hb7)
       | (go_at_call 19; (with_reducible refine (HS1.out _ HB7.out).mono ?_); rintro en w8 ⟨rfl, hb8⟩; have HB8 := Zh (bnext HB7.out hb8); clear hb8)
       | (go_at_call 19; (with_reducible refine (HS2.out _ HB8.out).mono ?_); rintro en w9 ⟨rfl, hb9⟩; have HB9 := Zh (bnext HB8.out hb9); clear hb9)
       | (go_at_call 19; (with_reducible refine (HS3.out _ HB9.out).mono ?_); rintro en w10 ⟨rfl, hb10⟩; have HB10 := Zh (bnext HB9.out hb10); clear hb10)
       | (go_at_call 10; (with_reducible refine (HWK4.out _ HB10.out).mono ?_); rintro en w12 ⟨rfl, hb12⟩; have HB12 := Zh (bnext HB10.out hb12); clear hb12)
       | fail)
      go_ret
      exact ⟨rfl, bnext HB3.out (bnext HB4.out HB12.out)⟩
     | true =>
      clear hAB
      have HS1 := Zh (hs1 true (by simp)); have HS2 := Zh (hs2 true (by simp))
      clear hs1 hs2
      go_wp2_with (first
       | (go_at_call 22; (with_reducible refine (HFU.out _ (Zl _ _)).mono ?_); rintro en w5 ⟨hb5, a3, n3, c3, rfl, _⟩; have hfd := field_type4 x (.slice a3 n3 c3) w5; have HB5 := Zh hb5; clear hb5)
       | (go_at_call 11; (with_reducible refine (HKA.out _ HB5.out).mono ?_); rintro en w6 ⟨rfl, hb6⟩; have HB6 := Zh (bnext HB5.out hb6); clear hb6)
       | (go_at_call 11; (with_reducible refine (HKB.out _ HB6.out).mono ?_); rintro en w7 ⟨rfl, hb7⟩; have HB7 := Zh (bnext HB6.out hb7); clear hb7)
       | (go_at_call 19; (with_reducible refine (HS1.out _ HB7.out).mono ?_); rintro en w8 ⟨rfl, hb8⟩; have HB8 := Zh (bnext HB7.out hb8); clear hb8)
       | (go_at_call 19; (with_reducible refine (HS2.out _ HB8.out).mono ?_); rintro en w9 ⟨rfl, hb9⟩; have HB9 := Zh (bnext HB8.out hb9); clear hb9)
       | (go_at_call 19; (with_reducible refine (HS3.out _ HB9.out).mono ?_); rintro en w10 ⟨rfl, hb10⟩; have HB10 := Zh (bnext HB9.out hb10); clear hb10)
       | (go_at_call 10; (with_reducible refine (HWK4.out _ HB10.out).mono ?_); rintro en w12 ⟨rfl, hb12⟩; have HB12 := Zh (bnext HB10.out hb12); clear hb12)
       | fail)
      go_ret
      exact ⟨rfl, bnext HB3.out (bnext HB4.out HB12.out)⟩
    | true =>
     cases z with
     | false =>
      clear hAB
      have HS1 := Zh (hs1 false (by simp)); have HS2 := Zh (hs2 false (by simp))
      clear hs1 hs2
      go_wp2_with (first
       | (go_at_call 22; (with_reducible refine (HFU.out _ (Zl _ _)).mono ?_); rintro en w5 ⟨hb5, a3, n3, c3, rfl, _⟩; have hfd := field_type4 x (.slice a3 n3 c3) w5; have HB5 := Zh hb5; clear hb5)
       | (go_at_call 11; (with_reducible refine (HKA.out _ HB5.out).mono ?_); rintro en w6 ⟨rfl, hb6⟩; have HB6 := Zh (bnext HB5.out hb6); clear hb6)
       | (go_at_call 11; (with_reducible refine (HKB.out _ HB6.out).mono ?_); rintro en w7 ⟨rfl, hb7⟩; have HB7 := Zh (bnext HB6.out hb7); clear hb7)
       | (go_at_call 19; (with_reducible refine (HS1.out _ HB7.out).mono ?_); rintro en w8 ⟨rfl, hb8⟩; have HB8 := Zh (bnext HB7.out hb8); clear hb8)
       | (go_at_call 19; (with_reducible refine (HS2.out _ HB8.out).mono ?_); rintro en w9 ⟨rfl, hb9⟩; have HB9 := Zh (bnext HB8.out hb9); clear hb9)
       | (go_at_call 19; (with_reducible refine (HS3.out _ HB9.out).mono ?_); rintro en w10 ⟨rfl, hb10⟩; have HB10 := Zh (bnext HB9.out hb10); clear hb10)
       | (go_at_call 10; (with_reducible refine (HWK4.out _ HB10.out).mono ?_); rintro en w12 ⟨rfl, hb12⟩; have HB12 := Zh (bnext HB10.out hb12); clear hb12)
       | fail)
      go_ret
      exact ⟨rfl, bnext HB3.out (bnext HB4.out HB12.out)⟩
     | true =>
      clear hAB
      have HS1 := Zh (hs1 true (by simp)); have HS2 := Zh (hs2 true (by simp))
      clear hs1 hs2
      go_wp2_with (first
       | (go_at_call 22; (with_reducible refine (HFU.out _ (Zl _ _)).mono ?_); rintro en w5 ⟨hb5, a3, n3, c3, rfl, _⟩; have hfd := field_type4 x (.slice a3 n3 c3) w5; have HB5 := Zh hb5; clear hb5)
       | (go_at_call 11; (with_reducible refine (HKA.out _ HB5.out).mono ?_); rintro en w6 ⟨rfl, hb6⟩; have HB6 := Zh (bnext HB5.out hb6); clear hb6)
       | (go_at_call 11; (with_reducible refine (HKB.out _ HB6.out).mono ?_); rintro en w7 ⟨rfl, hb7⟩; have HB7 := Zh (bnext HB6.out hb7); clear hb7)
       | (go_at_call 19; (with_reducible refine (HS1.out _ HB7.out).mono ?_); rintro en w8 ⟨rfl, hb8⟩; have HB8 := Zh (bnext HB7.out hb8); clear hb8)
       | (go_at_call 19; (with_reducible refine (HS2.out _ HB8.out).mono ?_); rintro en w9 ⟨rfl, hb9⟩; have HB9 := Zh (bnext HB8.out hb9); clear hb9)
       | (go_at_call 19; (with_reducible refine (HS3.out _ HB9.out).mono ?_); rintro en w10 ⟨rfl, hb10⟩; have HB10 := Zh (bnext HB9.out hb10); clear hb10)
       | (go_at_call 10; (with_reducible refine (HWK4.out _ HB10.out).mono ?_); rintro en w12 ⟨rfl, hb12⟩; have HB12 := Zh (bnext HB10.out hb12); clear hb12)
       | fail)
      go_ret
      exact ⟨rfl, bnext HB3.out (bnext HB4.out HB12.out)⟩
   | true =>
    cases lb with
    | false =>
     cases z with
     | false =>
      clear hAB
      have HS1 := Zh (hs1 false (by simp)); have HS2 := Zh (hs2 false (by simp))
      clear hs1 hs2
      go_wp2_with (first
       | (go_at_call 22; (with_reducible refine (HFU.out _ (Zl _ _)).mono ?_); rintro en w5 ⟨hb5, a3, n3, c3, rfl, _⟩; have hfd := field_type4 x (.slice a3 n3 c3) w5; have HB5 := Zh hb5; clear hb5)
       | (go_at_call 11; (with_reducible refine (HKA.out _ HB5.out).mono ?_); rintro en w6 ⟨rfl, hb6⟩; have HB6 := Zh (bnext HB5.out hb6); clear hb6)
       | (go_at_call 11; (with_reducible refine (HKB.out _ HB6.out).mono ?_); rintro en w7 ⟨rfl, hb7⟩; have HB7 := Zh (bnext HB6.out hb7); clear hb7)
       | (go_at_call 19; (with_reducible refine (HS1.out _ HB7.out).mono ?_); rintro en w8 ⟨rfl, hb8⟩; have HB8 := Zh (bnext HB7.out hb8); clear hb8)
       | (go_at_call 19; (with_reducible refine (HS2.out _ HB8.out).mono ?_); rintro en w9 ⟨rfl, hb9⟩; have HB9 := Zh (bnext HB8.out hb9); clear hb9)
       | (go_at_call 19; (with_reducible refine (HS3.out _ HB9.out).mono ?_); rintro en w10 ⟨rfl, hb10⟩; have HB10 := Zh (bnext HB9.out hb10); clear hb10)
       | (go_at_call 10; (with_reducible refine (HWK4.out _ HB10.out).mono ?_); rintro en w12 ⟨rfl, hb12⟩; have HB12 := Zh (bnext HB10.out hb12); clear hb12)
       | fail)
      go_ret
      exact ⟨rfl, bnext HB3.out (bnext HB4.out HB12.out)⟩
     | true =>
      clear hAB
      have HS1 := Zh (hs1 true (by simp)); have HS2 := Zh (hs2 true (by simp))
      clear hs1 hs2
      go_wp2_with (first
       | (go_at_call 22; (with_reducible refine (HFU.out _ (Zl _ _)).mono ?_); rintro en w5 ⟨hb5, a3, n3, c3, rfl, _⟩; have hfd := field_type4 x (.slice a3 n3 c3) w5; have HB5 := Zh hb5; clear hb5)
       | (go_at_call 11; (with_reducible refine (HKA.out _ HB5.out).mono ?_); rintro en w6 ⟨rfl, hb6⟩; have HB6 := Zh (bnext HB5.out hb6); clear hb6)
       | (go_at_call 11; (with_reducible refine (HKB.out _ HB6.out).mono ?_); rintro en w7 ⟨rfl, hb7⟩; have HB7 := Zh (bnext HB6.out hb7); clear hb7)
       | (go_at_call 19; (with_reducible refine (HS1.out _ HB7.out).mono ?_); rintro en w8 ⟨rfl, hb8⟩; have HB8 := Zh (bnext HB7.out hb8); clear hb8)
       | (go_at_call 19; (with_reducible refine (HS2.out _ HB8.out).mono ?_); rintro en w9 ⟨rfl, hb9⟩; have HB9 := Zh (bnext HB8.out hb9); clear hb9)
       | (go_at_call 19; (with_reducible refine (HS3.out _ HB9.out).mono ?_); rintro en w10 ⟨rfl, hb10⟩; have HB10 := Zh (bnext HB9.out hb10); clear hb10)
       | (go_at_call 10; (with_reducible refine (HWK4.out _ HB10.out).mono ?_); rintro en w12 ⟨rfl, hb12⟩; have HB12 := Zh (bnext HB10.out hb12); clear hb12)
       | fail)
      go_ret
      exact ⟨rfl, bnext HB3.out (bnext HB4.out HB12.out)⟩
    | true =>
     cases y with
     | false =>
      clear hvv
      have HS1 := Zh (hs1 false (by simp)); have HS2 := Zh (hs2 false (by simp))
      clear hs1 hs2
      go_wp2_with (first
       | (go_at_call 22; (with_reducible refine (HFU.out _ (Zl _ _)).mono ?_); rintro en w5 ⟨hb5, a3, n3, c3, rfl, _⟩; have hfd := field_type4 x (.slice a3 n3 c3) w5; have HB5 := Zh hb5; clear hb5)
       | (go_at_call 11; (with_reducible refine (HKA.out _ HB5.out).mono ?_); rintro en w6 ⟨rfl, hb6⟩; have HB6 := Zh (bnext HB5.out hb6); clear hb6)
       | (go_at_call 11; (with_reducible refine (HKB.out _ HB6.out).mono ?_); rintro en w7 ⟨rfl, hb7⟩; have HB7 := Zh (bnext HB6.out hb7); clear hb7)
       | (go_at_call 19; (with_reducible refine (HS1.out _ HB7.out).mono ?_); rintro en w8 ⟨rfl, hb8⟩; have HB8 := Zh (bnext HB7.out hb8); clear hb8)
       | (go_at_call 19; (with_reducible refine (HS2.out _ HB8.out).mono ?_); rintro en w9 ⟨rfl, hb9⟩; have HB9 := Zh (bnext HB8.out hb9); clear hb9)
       | (go_at_call 19; (with_reducible refine (HS3.out _ HB9.out).mono ?_); rintro en w10 ⟨rfl, hb10⟩; have HB10 := Zh (bnext HB9.out hb10); clear hb10)
       | (go_at_call 10; (with_reducible refine (HWK4.out _ HB10.out).mono ?_); rintro en w12 ⟨rfl, hb12⟩; have HB12 := Zh (bnext HB10.out hb12); clear hb12)
       | fail)
      go_ret
      exact ⟨rfl, bnext HB3.out (bnext HB4.out HB12.out)⟩
     | true =>
      clear hvv
      have HS1 := Zh (hs1 true (by simp)); have HS2 := Zh (hs2 true (by simp))
      clear hs1 hs2
      go_wp2_with (first
       | (go_at_call 22; (with_reducible refine (HFU.out _ (Zl _ _)).mono ?_); rintro en w5 ⟨hb5, a3, n3, c3, rfl, _⟩; have hfd := field_type4 x (.slice a3 n3 c3) w5; have HB5 := Zh hb5; clear hb5)
       | (go_at_call 11; (with_reducible refine (HKA.out _ HB5.out).mono ?_); rintro en w6 ⟨rfl, hb6⟩; have HB6 := Zh (bnext HB5.out hb6); clear hb6)
       | (go_at_call 11; (with_reducible refine (HKB.out _ HB6.out).mono ?_); rintro en w7 ⟨rfl, hb7⟩; have HB7 := Zh (bnext HB6.out hb7); clear hb7)
       | (go_at_call 19; (with_reducible refine (HS1.out _ HB7.out).mono ?_); rintro en w8 ⟨rfl, hb8⟩; have HB8 := Zh (bnext HB7.out hb8); clear hb8)
       | (go_at_call 19; (with_reducible refine (HS2.out _ HB8.out).mono ?_); rintro en w9 ⟨rfl, hb9⟩; have HB9 := Zh (bnext HB8.out hb9); clear hb9)
       | (go_at_call 19; (with_reducible refine (HS3.out _ HB9.out).mono ?_); rintro en w10 ⟨rfl, hb10⟩; have HB10 := Zh (bnext HB9.out hb10); clear hb10)
       | (go_at_call 10; (with_reducible refine (HWK4.out _ HB10.out).mono ?_); rintro en w12 ⟨rfl, hb12⟩; have HB12 := Zh (bnext HB10.out hb12); clear hb12)
       | fail)
      go_ret
      exact ⟨rfl, bnext HB3.out (bnext HB4.out HB12.out)⟩
  ·have hh : hasT S t = false := decide_eq_false hin
   have hsm : ∀ wq, Below w4.heap.size w4 wq → Calls Tryz.prog 19 #[.pointer (some ⟨g, 0, none⟩), .int .i64 t, .string va, .string vb] wq fun e w' => e = .returned (.bool false) ∧ Below wq.heap.size wq w' := fun wq hq => by
    have h := same_any S g t (fun _ => ([], false)) va vb wq (hsch.keep hq) (fun h => by rw [hh] at h; cases h)
    have hz : sameV S t (fun _ => ([], false)) (toL va) (toL vb) = false := by unfold sameV; rw [hh]; rfl
    rw [hz] at h; exact h
   have hft : ∀ wq, Below w4.heap.size w4 wq → Calls Tryz.prog 20 #[.pointer (some ⟨g, 0, none⟩), .int .i64 t, .string va] wq fun e w' => e = .returned (.bool false) ∧ Below wq.heap.size wq w' := fun wq hq => by
    have h := fits_any S g t (fun _ => ([], false)) va wq (hsch.keep hq) (hEw.next hq).e (hEw.next hq).m (fun h => by rw [hh] at h; cases h)
    have hz : fitsV S t (fun _ => ([], false)) (toL va) = false := by unfold fitsV; rw [hh]; rfl
    rw [hz] at h; exact h
   have hlk : ∀ wq, Below w4.heap.size w4 wq → Calls Tryz.prog 21 #[.pointer (some ⟨g, 0, none⟩), .int .i64 t, .string va, .string vb] wq fun e w' => e = .returned (.int .i8 2) ∧ Below wq.heap.size wq w' := fun wq hq => like_out S g t va vb wq (hsch.keep hq) hh
   have HS := Zh hsm; have HF := Zh hft; have HL := Zh hlk
   clear hsm hft hlk hh hEw hVw hsch HNW
   by_cases hn0 : t < 0
   ·clear hin HTC
    go_wp2_with (first
     | (go_at_call 19; (with_reducible refine (HS.out _ (Zl _ _)).mono ?_); rintro en w5 ⟨rfl, hb5⟩; have HB5 := Zh hb5; clear hb5)
     | (go_at_call 20; (with_reducible refine (HF.out _ HB5.out).mono ?_); rintro en w6 ⟨rfl, hb6⟩; have HB6 := Zh (bnext HB5.out hb6); clear hb6)
     | (go_at_call 21; (with_reducible refine (HL.out _ HB6.out).mono ?_); rintro en w7 ⟨rfl, hb7⟩; have HB7 := Zh (bnext HB6.out hb7); clear hb7)
     | (go_at_call 10; (with_reducible refine (HWK4.out _ HB7.out).mono ?_); rintro en w8 ⟨rfl, hb8⟩; have HB8 := Zh (bnext HB7.out hb8); clear hb8)
     | fail)
    go_ret
    exact ⟨rfl, bnext HB3.out (bnext HB4.out HB8.out)⟩
   ·have hn1 : (n : Int) ≤ t := by have hnl := HTC.out.1.len; omega
    clear hin HTC
    go_wp2_with (first
     | (go_at_call 19; (with_reducible refine (HS.out _ (Zl _ _)).mono ?_); rintro en w5 ⟨rfl, hb5⟩; have HB5 := Zh hb5; clear hb5)
     | (go_at_call 20; (with_reducible refine (HF.out _ HB5.out).mono ?_); rintro en w6 ⟨rfl, hb6⟩; have HB6 := Zh (bnext HB5.out hb6); clear hb6)
     | (go_at_call 21; (with_reducible refine (HL.out _ HB6.out).mono ?_); rintro en w7 ⟨rfl, hb7⟩; have HB7 := Zh (bnext HB6.out hb7); clear hb7)
     | (go_at_call 10; (with_reducible refine (HWK4.out _ HB7.out).mono ?_); rintro en w8 ⟨rfl, hb8⟩; have HB8 := Zh (bnext HB7.out hb8); clear hb8)
     | fail)
    go_ret
    exact ⟨rfl, bnext HB3.out (bnext HB4.out HB8.out)⟩
 ·go_wp2_with (first
   | (go_at_call 10; (with_reducible refine (HWK.out _ HB4.out).mono ?_); rintro en w5 ⟨rfl, hb5⟩; have HB5 := Zh (bnext HB4.out hb5); clear hb5)
   | fail)
  go_ret
  exact ⟨rfl, bnext HB3.out HB5.out⟩
end Go.Proofs.YtlmfbjhokkpjhaaGreatDoor
namespace Go.Proofs.YtlmfbjhokkpjhaaGreatDoor
open Go Go.RowKit Go.ChangeShapes Go.WideShapes Go.Deep
theorem bulk2s {H : Type} {a b : DataW H} (h : Rows.uptoSmall H [a, b] = true) : bulk a ≤ 1048576 := by
 have h2 : Rows.uptoBulkAll [a, b] ≤ 1048576 := of_decide_eq_true h
 simp only [Rows.uptoBulkAll] at h2
 show Rows.uptoBulk a ≤ 1048576; omega
set_option maxRecDepth 100000 in
theorem walk_msame {H : Type} {enc : TypeId × Value → H} {b0 : Nat} {W : World} (v0 : Value) (d0 : DataW H) (p0 : List MemPlace) (ok0 : Value.okWide Tryz.prog W .any b0 25 v0) (h0 : DataW.Trod enc Tryz.prog W 0 (fun _ => true) true 25 v0 d0 p0)
  (v1 : Value) (d1 : DataW H) (p1 : List MemPlace) (ok1 : Value.okWide Tryz.prog W .any b0 28 v1) (h1 : DataW.Trod enc Tryz.prog W 0 (fun _ => true) true 28 v1 d1 p1)
  (W' : World) (hW : W = W') (hE : EnvWS W') (hk : Rows.uptoSmall H [d0, d1] = true) :
  Calls Tryz.prog 4 #[v0, v1] W' fun e w' => e = .returned (.bool true) ∧ Below W'.heap.size W' w' := by
 subst hW
 obtain ⟨S, a, n, c, a2, n2, c2, rfl, hT, hC, _⟩ := open_schema ok0 h0 (N := 1048576) (bulk2s hk) (by decide)
 obtain ⟨a1, t1, s1, u1, rfl, _, _, _, _, _⟩ := open_ask ok1 h1
 exact law_msame S a n c a2 n2 c2 a1 t1 s1 u1 W hE.w hE.v hT hC
end Go.Proofs.YtlmfbjhokkpjhaaGreatDoor
