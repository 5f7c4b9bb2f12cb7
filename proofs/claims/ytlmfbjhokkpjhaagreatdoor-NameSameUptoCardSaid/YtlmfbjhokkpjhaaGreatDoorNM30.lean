/- Part 30 of the walks and plain laws, joined: ParC, KeyC. -/
import Derived.Test.YtlmfbjhokkpjhaaGreatDoorNM00
import Derived.Test.YtlmfbjhokkpjhaaGreatDoorNM28
import Derived.Test.YtlmfbjhokkpjhaaGreatDoorNM29
import Derived.Test.YtlmfbjhokkpjhaaGreatDoorNM26
import Derived.Test.YtlmfbjhokkpjhaaGreatDoorNM23
import Derived.Test.YtlmfbjhokkpjhaaGreatDoorNM27
import Derived.Test.YtlmfbjhokkpjhaaGreatDoorNM06
import Derived.Deep.DeepCutAuto
import Derived.Laws.ResultCell
import Derived.ScopeJumps
import Derived.WalkMore
set_option linter.unusedVariables false
set_option linter.unusedSimpArgs false
namespace Go.Proofs.YtlmfbjhokkpjhaaGreatDoor
open Go Go.RowKit
theorem wp_scopeG {P : Program} {c rest : Code} {Q : Exit → Act → World → Prop} {a0 : Act} {w0 : World} (l n : Nat) (rel : (Nat → Value) → World → Prop) (mu : (Nat → Value) → World → Nat) (hf : findLabel c l = some rest)
  (first : c.wp P (Exit.jump l (InvF n rel) Q) a0 w0)
  (hr : ∀ f w, rel f w → rest.wp P (Exit.jump l (EndG n rel mu (mu f w)) Q) ⟨frame n f, []⟩ w) : (Code.scope c).wp P Q a0 w0 :=
 wp_scope_jumps l (InvF n rel) (fun a w => mu (fr a) w) hf first fun a w h => by
  have h1 := hr (fr a) w h.rel
  rw [← frame_of h.size h.defers] at h1
  exact h1
set_option maxRecDepth 100000 in
theorem frame_pa {f : Nat → Value} {x0 x2 x3 x4 x5 x6 x7 x8 : Value} (h0 : f 0 = x0) (h2 : f 2 = x2) (h3 : f 3 = x3) (h4 : f 4 = x4) (h5 : f 5 = x5) (h6 : f 6 = x6) (h7 : f 7 = x7) (h8 : f 8 = x8) : frame 104 f = [x0, f 1, x2, x3, x4, x5, x6, x7, x8, f 9, f 10, f 11, f 12, f 13, f 14, f 15, f 16, f 17, f 18, f 19, f 20, f 21, f 22, f 23, f 24, f 25, f 26, f 27, f 28, f 29, f 30, f 31, f 32, f 33, f 34, f 35, f 36, f 37, f 38, f 39, f 40, f 41, f 42, f 43, f 44, f 45, f 46, f 47, f 48, f 49, f 50, f 51, f 52, f 53, f 54, f 55, f 56, f 57, f 58, f 59, f 60, f 61, f 62, f 63, f 64, f 65, f 66, f 67, f 68, f 69, f 70, f 71, f 72, f 73, f 74, f 75, f 76, f 77, f 78, f 79, f 80, f 81, f 82, f 83, f 84, f 85, f 86, f 87, f 88, f 89, f 90, f 91, f 92, f 93, f 94, f 95, f 96, f 97, f 98, f 99, f 100, f 101, f 102, f 103].toArray := by
 subst h0 h2 h3 h4 h5 h6 h7 h8
 rfl
theorem wp_scopeG2 {P : Program} {c rest : Code} {Q : Exit → Act → World → Prop} {a0 : Act} {w0 : World} (l n : Nat) (rel : (Nat → Value) → World → Prop) (mu : (Nat → Value) → World → Nat) (hf : findLabel c l = some (Code.skip.seq rest))
  (hr : ∀ f w, rel f w → rest.wp P (Exit.jump l (EndG n rel mu (mu f w)) Q) ⟨frame n f, []⟩ w)
  (first : (∀ a w, InvF n rel a w → rest.wp P (Exit.jump l (InvF n rel) Q) a w) → c.wp P (Exit.jump l (InvF n rel) Q) a0 w0) : (Code.scope c).wp P Q a0 w0 := by
 refine wp_scopeG l n rel mu hf (first fun a w h => ?_) fun f w h => wp_seq (wp_skip (hr f w h))
 have h1 := hr (fr a) w h.rel
 rw [← frame_of h.size h.defers] at h1
 exact wp_mono h1 fun e a w h2 => by
  cases e with
  | goto l' => exact ⟨h2.1, h2.2.1⟩
  | _ => exact h2
theorem jump_ret {l : Nat} {J : Act → World → Prop} {Q : Exit → Act → World → Prop} {a : Act} {w : World} : Exit.jump l J Q .ret a w = Q .ret a w := rfl
def Stg (s : ByteArray) (RES : Except PFault PName) (x : PX) (st : Nat) (wd : ByteArray) : Prop :=
 (st = 0 ∧ ∃ f, s.size - x.p + 1 ≤ f ∧ parseR (toL s) f x.p (x.gs.map (·.2)) x.part = RES ∧ x.gs.length < 64 ∧ x.part.length < 8) ∨
 (st = 1 ∧ wd.size ≤ 65536 ∧ ∃ f, s.size - x.p ≤ f ∧ valE (toL s) f x.p (x.gs.map (·.2)) x.part wd = RES ∧ x.gs.length < 64 ∧ x.part.length < 8) ∨
 (st = 2 ∧ ∃ f, s.size - x.p ≤ f ∧ endR (toL s) f x.p (x.gs.map (·.2)) x.part = RES ∧ x.gs.length < 64 ∧ x.part.length ≤ 8)
structure RelPa (s : ByteArray) (w : World) (bR u g b6 L : Nat) (RES : Except PFault PName) (f : Nat → Value) (wr : World) : Prop where
 s0 : f 0 = .string s
 s2 : f 2 = .pointer (some ⟨bR, 0, none⟩)
 s3 : f 3 = .nilIface
 s4 : f 4 = .pointer (some ⟨u, 0, none⟩)
 s5 : f 5 = .pointer (some ⟨g, 0, none⟩)
 s6 : f 6 = .pointer (some ⟨b6, 0, none⟩)
 ex : ∃ (x : PX) (st : Nat) (wd : ByteArray), f 7 = .string wd ∧ f 8 = .int .i64 (st : Nat) ∧ ParM s w bR u g b6 L none wr x ∧ Stg s RES x st wd
theorem alloc_at (w : World) (o : Obj) (n : Nat) (h : w.heap.size = n) : (w.alloc o).heap[n]? = some o := by subst h; exact heap_alloc_new w o
theorem parse_first (w : World) (s : ByteArray) (hs : s.size ≤ 65536) : ParM s w w.heap.size (w.heap.size + 1) (w.heap.size + 1 + 1) (w.heap.size + 1 + 1 + 1) (w.heap.size + 1 + 1 + 1 + 1) none
  ((((w.alloc (.cells #[.slice none 0 0] 53)).alloc (.cells #[.slice none 0 0] 53)).alloc (.cells #[.string s, .int .i64 0, .pointer none] 128)).alloc (.cells #[.slice none 0 0] 65)) ⟨0, [], none, 0, [], none, 0, w.heap.size + 1 + 1 + 1 + 1⟩ := by
 obtain ⟨w1, h1⟩ : ∃ w1, w1 = w.alloc (.cells #[.slice none 0 0] 53) := ⟨_, rfl⟩
 have z1 : w1.heap.size = w.heap.size + 1 := by rw [h1]; simp
 have b1 : Below w.heap.size w w1 := by rw [h1]; exact (Zl _ _).alloc (Zr _) _
 have c1 : w1.heap[w.heap.size]? = some (.cells #[.slice none 0 0] 53 (0, 0)) := by rw [h1]; exact heap_alloc_new _ _
 obtain ⟨w2, h2⟩ : ∃ w2, w2 = w1.alloc (.cells #[.slice none 0 0] 53) := ⟨_, rfl⟩
 have z2 : w2.heap.size = w.heap.size + 1 + 1 := by rw [h2]; simp [z1]
 have b2 : Below w1.heap.size w1 w2 := by rw [h2]; exact (Zl _ _).alloc (Zr _) _
 have c2 : w2.heap[w.heap.size + 1]? = some (.cells #[.slice none 0 0] 53 (0, 0)) := by rw [h2]; exact alloc_at _ _ _ z1
 obtain ⟨w3, h3⟩ : ∃ w3, w3 = w2.alloc (.cells #[.string s, .int .i64 0, .pointer none] 128) := ⟨_, rfl⟩
 have z3 : w3.heap.size = w.heap.size + 1 + 1 + 1 := by rw [h3]; simp [z2]
 have b3 : Below w2.heap.size w2 w3 := by rw [h3]; exact (Zl _ _).alloc (Zr _) _
 have c3 : w3.heap[w.heap.size + 1 + 1]? = some (.cells #[.string s, .int .i64 0, .pointer none] 128 (0, 0)) := by rw [h3]; exact alloc_at _ _ _ z2
 obtain ⟨w4, h4⟩ : ∃ w4, w4 = w3.alloc (.cells #[.slice none 0 0] 65) := ⟨_, rfl⟩
 have z4 : w4.heap.size = w.heap.size + 1 + 1 + 1 + 1 := by rw [h4]; simp [z3]
 have b4 : Below w3.heap.size w3 w4 := by rw [h4]; exact (Zl _ _).alloc (Zr _) _
 have c4 : w4.heap[w.heap.size + 1 + 1 + 1]? = some (.cells #[.slice none 0 0] 65 (0, 0)) := by rw [h4]; exact alloc_at _ _ _ z3
 rw [← h1, ← h2, ← h3, ← h4]
 have hb : Below w.heap.size w w4 := ((b1.trans (b2.mono (by omega))).trans (b3.mono (by omega))).trans (b4.mono (by omega))
 have d1 : w4.heap[w.heap.size]? = some (.cells #[.slice none 0 0] 53 (0, 0)) := by rw [b4.block _ (by omega), b3.block _ (by omega), b2.block _ (by omega)]; exact c1
 have d2 : w4.heap[w.heap.size + 1]? = some (.cells #[.slice none 0 0] 53 (0, 0)) := by rw [b4.block _ (by omega), b3.block _ (by omega)]; exact c2
 have d3 : w4.heap[w.heap.size + 1 + 1]? = some (.cells #[.string s, .int .i64 0, .pointer none] 128 (0, 0)) := by rw [b4.block _ (by omega)]; exact c3
 refine ⟨⟨Zr _, by omega, by omega, by omega, by omega⟩, ⟨by rw [Lib.cell_of_heap d3]; rfl, by rw [Lib.cell_of_heap d3]; rfl, by rw [Lib.cell_of_heap d3]; rfl, fun j => Lib.frozen_of_heap d3 j, Nat.zero_le _, by omega⟩, ⟨d2, by omega, Vec.nil _ _ _ hb, RowsO.nil _ _ _, by simp only; omega, by omega, Zr _, (fun k e => by cases e)⟩, c4, Own.nil _ _ _, (fun k e => by cases e), (fun a ha => by cases ha), d1⟩
theorem parse_start (w : World) (s : ByteArray) (h0 : s.size ≠ 0) {RES : Except PFault PName} (h : parseR (toL s) (s.size + 1) 0 [] [] = RES) (B : Nat) : Stg s RES ⟨0, [], none, 0, [], none, 0, B⟩ 0 ⟨#[]⟩ :=
 .inl ⟨rfl, s.size + 1, by simp, h, by simp, by simp⟩
theorem par_bad {s : ByteArray} {w w1 : World} {bR u g b6 L fb : Nat} {bad : Option Addr} {x : PX} {f : PFault} (h : ParM s w bR u g b6 L bad w1 x) (hf : FaultAt w1 fb f) (hfb : L ≤ fb) (hr : parseV (toL s) = .error f) (v : Value) :
  ParsePost s w (.returned (.tuple #[.agg #[.slice none 0 0], .iface 123 (.pointer (some ⟨fb, 0, none⟩))])) (w1.setCell ⟨bR, 0, none⟩ v).drew := by
 have b1 := h.bb.r; have b2 := h.bb.ru; have b3 := h.bb.ug; have b4 := h.bb.gb; have b5 := h.bb.bl
 have hk := hf.setNe (b := bR) (j := 0) (by omega) v
 exact ParsePost.no hr ((h.below.setCell (p := ⟨bR, 0, none⟩) b1 v).drew) ⟨fb, rfl, ⟨hk.c0, hk.c1, hk.c2⟩, by omega⟩
theorem par_badB {s : ByteArray} {w w1 : World} {bR fb : Nat} {f : PFault} (hb : Below w.heap.size w w1) (hR : w.heap.size ≤ bR) (hf : FaultAt w1 fb f) (hfb : bR < fb) (hr : parseV (toL s) = .error f) (v : Value) :
  ParsePost s w (.returned (.tuple #[.agg #[.slice none 0 0], .iface 123 (.pointer (some ⟨fb, 0, none⟩))])) (w1.setCell ⟨bR, 0, none⟩ v).drew := by
 have hk := hf.setNe (b := bR) (j := 0) (by omega) v
 exact ParsePost.no hr ((hb.setCell (p := ⟨bR, 0, none⟩) hR v).drew) ⟨fb, rfl, ⟨hk.c0, hk.c1, hk.c2⟩, by omega⟩
theorem par_three {s : ByteArray} {w w3 : World} {bR u g b6 L fb : Nat} {x : PX} {f : PFault} (h : ParM s w bR u g b6 L (some ⟨fb, 0, none⟩) w3 x) (hf : FaultAt w3 fb f) (hfb : L ≤ fb) (v : Value) :
  (w3.setCell ⟨g, 1, none⟩ v).cell? ⟨g, 2, none⟩ = some (.pointer (some ⟨fb, 0, none⟩)) ∧ (w3.setCell ⟨g, 1, none⟩ v).cell? ⟨bR, 0, none⟩ = some (.slice none 0 0) ∧ (w3.setCell ⟨g, 1, none⟩ v).frozen? ⟨bR, 0, none⟩ = false ∧ Below w.heap.size w (w3.setCell ⟨g, 1, none⟩ v) ∧ FaultAt (w3.setCell ⟨g, 1, none⟩ v) fb f := by
 have b1 := h.bb.r; have b2 := h.bb.ru; have b3 := h.bb.ug; have b4 := h.bb.gb; have b5 := h.bb.bl
 refine ⟨by rw [World.cell?_setCell_other _ _ _ _ (fun e => by cases e)]; exact h.rd.c2, ?_, by rw [World.frozen?_setCell]; exact Lib.frozen_of_heap h.rh 0, h.below.setCell (p := ⟨g, 1, none⟩) (by show w.heap.size ≤ g; omega) v, hf.setNe (by omega) v⟩
 rw [World.cell?_setCell_other _ _ _ _ (fun e => by injection e with e _ _; omega), Lib.cell_of_heap h.rh]; rfl
theorem word_ext {s : ByteArray} {p k : Nat} (h : p + k ≤ s.size) : s.extract p (p + k) = baOf (((toL s).drop p).take k) := by
 refine toL_injS ?_
 have := Lib.extract_eq s p (p + k)
 unfold toL
 rw [this]
 simp [baOf]
set_option maxRecDepth 20000 in
set_option maxHeartbeats 6000000 in
theorem nparse_any (s : ByteArray) (w : World) (hS : SynV w) : Calls Tryz.prog 31 #[.string s] w (ParsePost s w) := by
 have hz : (toL s).length = s.size := Lib.size_eq s
 have HZ := Zh hz
 have HS := Zh hS
 clear hz hS
 go_enter Tryz.func31, Tryz.ntmps31
 by_cases hl : 65536 < s.size
 ·have hpv : parseV (toL s) = .error (3, 0, []) := by unfold parseV; rw [if_pos (by rw [HZ.out]; exact hl)]
  have HP := Zh hpv
  clear hpv
  have l1 : (65536 : Int) < (s.size : Int) := by omega
  go_wp2_with fail
  go_step3
  go_wp2_with fail
  rw [Exit.noGoto_ret]
  refine bodyPost_ret (v := .tuple #[.agg #[.slice none 0 0], .iface 123 (.pointer (some ⟨w.heap.size + 1, 0, none⟩))]) ((results_cell_tmp rfl _ _ _).trans (by go_simp)) rfl ?_
  have h1 := heap_new1 w (.cells #[.slice none 0 0] 53) (.cells #[.int .i64 3, .int .i64 0, .string ⟨#[]⟩] 125)
  exact ParsePost.no HP.out (((Zl _ _).alloc (Zr _) _).alloc (by simp) _) ⟨w.heap.size + 1, rfl, ⟨by rw [Lib.cell_of_heap h1]; rfl, by rw [Lib.cell_of_heap h1]; rfl, by rw [Lib.cell_of_heap h1]; rfl⟩, by omega⟩
 ·by_cases h0 : s.size = 0
  ·have hs0 : s = ⟨#[]⟩ := toL_injS (List.eq_nil_of_length_eq_zero (by rw [HZ.out]; exact h0))
   subst hs0
   go_wp2_with fail
   go_step3
   go_wp2_with fail
   rw [Exit.noGoto_ret]
   refine bodyPost_ret (v := .tuple #[.agg #[.slice none 0 0], .nilIface]) ((results_cell_tmp rfl _ _ _).trans (by go_simp)) rfl ?_
   have hb : Below w.heap.size w ((w.alloc (.cells #[.slice none 0 0] 53)).alloc (.cells #[.slice none 0 0] 53)) := ((Zl _ _).alloc (Zr _) _).alloc (by simp) _
   exact ParsePost.ok (n := []) rfl hb ⟨none, 0, 0, rfl, none, [], rfl, Vec.nil _ _ _ hb, RowsO.nil _ _ _, rfl, Nat.zero_le _⟩
  ·have hne : decide (s = { data := #[] }) = false := decide_eq_false (fun h => by rw [h] at h0; exact h0 rfl)
   have hemp : s.toList.isEmpty = false := by rw [← decide_eq_emptyBytes]; exact hne
   have l1 : ¬ (65536 : Int) < (s.size : Int) := by omega
   obtain ⟨RES, hres⟩ : ∃ RES, parseV (toL s) = RES := ⟨_, rfl⟩
   have hres2 : parseR (toL s) (s.size + 1) 0 [] [] = RES := by
    rw [← hres]; unfold parseV
    rw [if_neg (by rw [HZ.out]; omega), if_neg (fun e => h0 (by rw [← HZ.out, e]; rfl)), HZ.out]
   have HPF := Zh (parse_first w s (by omega))
   have HPS := Zh (parse_start w s h0 hres2 (w.heap.size + 1 + 1 + 1 + 1))
   have HR := Zh hres
   clear hres hres2
   go_wp2_with fail
   refine wp_scopeG2 0 104 (RelPa s w w.heap.size (w.heap.size + 1) (w.heap.size + 1 + 1) (w.heap.size + 1 + 1 + 1) (w.heap.size + 1 + 1 + 1 + 1) RES) (fun f wr => 3 * (s.size + 1 - rdAt (w.heap.size + 1 + 1) wr) + (2 - (intOf (f 8)).toNat)) rfl ?pass ?first
   case first =>
    intro hp
    have HPP := Zh hp
    clear hp
    go_wp2_with fail
    go_step3
    refine (‹∀ (a : Act) (w : World), Code.wp _ _ _ a w → _›) _ _ (HPP.out _ _ ⟨rfl, rfl, ⟨rfl, rfl, rfl, rfl, rfl, rfl, ⟨_, 0, _, rfl, rfl, HPF.out, HPS.out⟩⟩⟩)
   case pass =>
    clear HPF HPS
    intro f wr hrel
    obtain ⟨x, st, wd, h7, h8, hpm, hst⟩ := hrel.ex
    rw [frame_pa hrel.s0 hrel.s2 hrel.s3 hrel.s4 hrel.s5 hrel.s6 h7 h8]
    have hps := hpm.rd.le
    generalize w.heap.size + 1 + 1 + 1 + 1 = L at hrel hpm ⊢
    generalize w.heap.size + 1 + 1 + 1 = b6 at hrel hpm ⊢
    generalize w.heap.size + 1 + 1 = g at hrel hpm ⊢
    generalize w.heap.size + 1 = u at hrel hpm ⊢
    obtain ⟨bR, hbR⟩ : ∃ bR, w.heap.size = bR := ⟨_, rfl⟩
    rw [hbR] at hrel hpm ⊢
    have hw0 : w.heap.size ≤ bR := by omega
    clear hbR hrel
    have hat := rdAt_of hpm.rd.c1
    have HM := Zh hpm
    have H8 := Zh (Zi h8 hat)
    clear hpm h7 h8 hat
    rcases hst with ⟨rfl, fu, hf1, hf2, hg64, hp8⟩ | ⟨rfl, hwd, fu, hf1, hf2, hg64, hp8⟩ | ⟨rfl, fu, hf1, hf2, hg64, hp8⟩
    ·obtain ⟨fu, rfl⟩ : ∃ q, fu = q + 1 := ⟨fu - 1, by omega⟩
     rw [parseR_eq] at hf2
     have hk := nkind_any g s x.p none wr HM.out.rd
     generalize kindN ((toL s).drop x.p) = K at hk hf2
     obtain ⟨k, ok⟩ := K
     rw [show ((0 : Nat) : Int) = 0 from rfl]
     cases ok with
     | true =>
      rw [if_neg (by simp)] at hf2
      have hk2 : Calls Tryz.prog 74 #[.pointer (some ⟨g, 0, none⟩)] wr fun e w' => e = .returned (.string (s.extract x.p (x.p + k))) ∧ Rd w' g s (x.p + k + 1) none ∧ Chg (· = g) wr w' := hk.mono fun e w' h => h.1 rfl
      have HK := Zh hk2
      have HF := Zh (Zi hf1 (Zi hf2 (Zi hg64 hp8)))
      clear hk hk2 hf1 hf2 hg64 hp8
      go_wp2_with (go_at_call 74; (with_reducible refine HK.out.mono ?_); rintro e w1 ⟨rfl, hr1, hch1⟩; have r2 := hr1.c2; have H1 := Zh (Zi hr1 hch1); clear hr1 hch1)
      go_step3
      obtain ⟨hr1, hch1⟩ := H1.out
      obtain ⟨hf1, hf2, hg64, hp8⟩ := HF.out
      have hle1 := hr1.le
      refine ⟨rfl, ⟨rfl, rfl, ⟨rfl, rfl, rfl, rfl, rfl, rfl, ⟨_, 1, _, rfl, rfl, HM.out.rdr hch1 hr1, .inr (.inl ⟨rfl, ?sz, fu, ?_, ?_, hg64, hp8⟩)⟩⟩⟩, ?mu⟩
      case sz => rw [ByteArray.size_extract]; omega
      case mu =>
       show 3 * (s.size + 1 - rdAt g w1) + (2 - (intOf (.int .i64 1)).toNat) < 3 * (s.size + 1 - rdAt g wr) + (2 - (intOf (f 8)).toNat)
       rw [rdAt_of hr1.c1, H8.out.2, H8.out.1]
       simp only [intOf]
       omega
      ·show s.size - (x.p + k + 1) ≤ fu
       omega
      ·rw [← hf2, word_ext (by omega)]
     | false =>
      rw [if_pos rfl] at hf2
      have hk2 : Calls Tryz.prog 74 #[.pointer (some ⟨g, 0, none⟩)] wr fun e w' => e = .returned (.string ⟨#[]⟩) ∧ ∃ p' fb, Rd w' g s p' (some ⟨fb, 0, none⟩) ∧ FaultAt w' fb (stuckAt (toL s) (x.p + k)) ∧ wr.heap.size ≤ fb ∧ Chg (· = g) wr w' := hk.mono fun e w' h => h.2 rfl
      have HK := Zh hk2
      have HF := Zh hf2
      clear hk hk2 hf1 hf2 hg64 hp8
      have hne1 : bR ≠ g := by have := HM.out.bb.ru; have := HM.out.bb.ug; omega
      go_upto_region 30 with (go_at_call 74; (with_reducible refine HK.out.mono ?_); rintro e w1 ⟨rfl, p', fb, hr1, hfa1, hfb1, hch1⟩; have r2 := hr1.c2; have hq := HM.out.rdr hch1 hr1; have q0 := Lib.cell_of_heap hq.rh 0; have qf := Lib.frozen_of_heap hq.rh 0; have H1 := Zh (Zi hr1 (Zi hch1 (Zi hfa1 (Zi hfb1 hq)))); clear hr1 hch1 hfa1 hfb1 hq)
      go_region_held3 (fun wz => wz.cell? ⟨g, 2, none⟩ = some (.pointer (some ⟨fb, 0, none⟩))) (first | go_keep | (rw [World.cell?_setCell_other _ _ _ _ (fun e => by injection e with e _ _; exact hne1 e)]; assumption)) (fail)
      go_wp2_with fail
      rw [jump_ret]
      refine bodyPost_ret (v := .tuple #[.agg #[.slice none 0 0], .iface 123 (.pointer (some ⟨fb, 0, none⟩))]) ((results_cell_tmp rfl _ _ _).trans ?hres) rfl ?_
      case hres => go_simp
      exact par_bad H1.out.2.2.2.2 H1.out.2.2.1 (by have := HM.out.lt6.1; have := H1.out.2.2.2.1; omega) (by rw [HR.out, ← HF.out]) _
    ·rw [show ((1 : Nat) : Int) = 1 from rfl]
     obtain ⟨pa, hpa⟩ : ∃ pa : Option Addr, pa = x.gp.map (fun k => (⟨k, 0, none⟩ : Addr)) := ⟨_, rfl⟩
     have HPA := Zh hpa
     have hEl : ∀ w', Chg (· = g) wr w' → SynV w' := fun w' k => HS.out.next ((HM.out.below).trans (k.below (B := w.heap.size) HM.out.below.size (fun b hb e => by have e : b = g := e; have := HM.out.bb.ru; have := HM.out.bb.ug; omega)))
     have hv := nvalue_any g s x.p none wr HM.out.rd (hEl wr (Chg.refl _ _)) hEl
     have hvl := fun v q => valR_len x.p _ ((toL s).drop x.p) x.p [] none v q (Zr _)
     have hb6 := HM.out.bb.gb
     unfold valE at hf2
     clear hpa hEl
     generalize valR x.p ((toL s).drop x.p) x.p [] none = R at hv hf2 hvl
     obtain ⟨v, q, fl⟩ := R
     cases fl with
     | none =>
      have hv2 : Calls Tryz.prog 75 #[.pointer (some ⟨g, 0, none⟩)] wr fun e w' => e = .returned (.string (baOf v)) ∧ Rd w' g s q none ∧ Chg (· = g) wr w' := hv.mono fun e w' h => h.1 rfl
      obtain ⟨q1, q2, q3⟩ := hvl v q rfl
      have hvz : (baOf v).size ≤ 65536 := by
       show v.toArray.size ≤ _
       simp only [List.length_drop, List.length_nil, HZ.out] at q2 q3
       simp; omega
      have HV := Zh hv2
      have HF := Zh (Zi hf1 (Zi hf2 (Zi hg64 (Zi q1 (Zi hwd hvz)))))
      clear hv hv2 hf1 hf2 hg64 hvl q1 q2 q3 hvz hwd
      go_wp2_with (first
       | (go_at_call 75; (with_reducible refine HV.out.mono ?_); rintro e w1 ⟨rfl, hr1, hch1⟩; have hq := HM.out.rdr hch1 hr1; have q6 : w1.cell? ⟨b6, 0, none⟩ = some (.slice pa x.part.length x.cp) := (by rw [Lib.cell_of_heap hq.ph, HPA.out]; rfl); have HQ := Zh (Zi hq hr1); clear hq hr1 hch1)
       | (at_builtin; go_loud (refine own_push eiAva HQ.out.1.po rfl (.tmp 33) (.tmp 37) rfl (by show Value.slice pa x.part.length x.cp = _; rw [HPA.out]; rfl) [.string wd, .string (baOf v)] #[.string wd, .string (baOf v)] rfl rfl rfl (fun u hu => by simp at hu; rcases hu with rfl | rfl <;> rfl) (by show (x.part.length + 1) * 32 ≤ _; omega) ?_); intro g9 cap9 w9 own9 gr9 at9; have hP := HQ.out.1.app (a := (wd, baOf v)) ⟨HF.out.2.2.2.2.1, HF.out.2.2.2.2.2⟩ own9 gr9 at9; have p0 := Lib.cell_of_heap hP.1 0; have pf := Lib.frozen_of_heap hP.1 0; have r2 := hP.2.1.rd.c2; have HP := Zh hP.2.1; clear hP own9 gr9 at9)
       | fail)
      go_step3
      obtain ⟨hf1, hf2, hg64, hq1, _⟩ := HF.out
      have hle1 := HP.out.rd.le
      refine ⟨rfl, ⟨rfl, rfl, ⟨rfl, rfl, rfl, rfl, rfl, rfl, ⟨_, 2, _, rfl, rfl, HP.out, .inr (.inr ⟨rfl, fu, ?_, hf2, hg64, ?_⟩)⟩⟩⟩, ?mu⟩
      case mu =>
       show 3 * (s.size + 1 - rdAt g _) + (2 - (intOf (.int .i64 2)).toNat) < 3 * (s.size + 1 - rdAt g wr) + (2 - (intOf (f 8)).toNat)
       rw [rdAt_of HP.out.rd.c1, H8.out.2, H8.out.1]
       simp only [intOf]
       omega
      ·show s.size - q ≤ fu
       omega
      ·simp only [List.length_append, List.length_cons, List.length_nil]
       omega
     | some cq =>
      obtain ⟨c, q'⟩ := cq
      have hv2 : Calls Tryz.prog 75 #[.pointer (some ⟨g, 0, none⟩)] wr fun e w' => ∃ str p' fb, e = .returned (.string str) ∧ Rd w' g s p' (some ⟨fb, 0, none⟩) ∧ FaultAt w' fb (faultAt (toL s) c q') ∧ wr.heap.size ≤ fb ∧ Chg (· = g) wr w' := hv.mono fun e w' h => by
       obtain ⟨⟨str, h1⟩, p', fb, h2, h3, h4, h5⟩ := h.2 c q' rfl
       exact ⟨str, p', fb, h1, h2, h3, h4, h5⟩
      have HV := Zh hv2
      have HF := Zh (Zi hf2 hwd)
      clear hv hv2 hf1 hf2 hg64 hvl hwd
      have hne1 : bR ≠ g := by have := HM.out.bb.ru; have := HM.out.bb.ug; omega
      go_upto_region 30 with (first
       | (go_at_call 75; (with_reducible refine HV.out.mono ?_); rintro e w1 ⟨str, p', fb, rfl, hr1, hfa1, hfb1, hch1⟩; have hq := HM.out.rdr hch1 hr1; have q6 : w1.cell? ⟨b6, 0, none⟩ = some (.slice pa x.part.length x.cp) := (by rw [Lib.cell_of_heap hq.ph, HPA.out]; rfl); have HQ := Zh (Zi hq (Zi hfa1 (Zi hch1.size hfb1))); clear hq hr1 hch1 hfa1 hfb1)
       | (at_builtin; go_loud (refine own_push eiAva HQ.out.1.po rfl (.tmp 33) (.tmp 37) rfl (by show Value.slice pa x.part.length x.cp = _; rw [HPA.out]; rfl) [.string wd, .string str] #[.string wd, .string str] rfl rfl rfl (fun u hu => by simp at hu; rcases hu with rfl | rfl <;> rfl) (by show (x.part.length + 1) * 32 ≤ _; omega) ?_); intro g9 cap9 w9 own9 gr9 at9; have hP := HQ.out.1.app0 own9 gr9 (.slice (some ⟨g9, 0, none⟩) (x.part.length + 1) cap9); have p0 := Lib.cell_of_heap hP.1 0; have pf := Lib.frozen_of_heap hP.1 0; have r2 := hP.2.1.c2; have q0 := Lib.cell_of_heap hP.2.2.1 0; have qf := Lib.frozen_of_heap hP.2.2.1 0; have HP := Zh (Zi hP.2.2.2.1 (hP.2.2.2.2 fb _ HQ.out.2.1 (.inr (HM.out.gpl HQ.out.2.2.2)))); clear hP own9 gr9 at9)
       | fail)
      go_region_held3 (fun wz => wz.cell? ⟨g, 2, none⟩ = some (.pointer (some ⟨fb, 0, none⟩))) (first | go_keep | (rw [World.cell?_setCell_other _ _ _ _ (fun e => by injection e with e _ _; exact hne1 e)]; assumption)) (fail)
      go_wp2_with fail
      rw [jump_ret]
      refine bodyPost_ret (v := .tuple #[.agg #[.slice none 0 0], .iface 123 (.pointer (some ⟨fb, 0, none⟩))]) ((results_cell_tmp rfl _ _ _).trans ?hres) rfl ?_
      case hres => go_simp
      exact par_badB HP.out.1 hw0 HP.out.2 (by have := HM.out.lt6.1; have := HM.out.bb.ru; have := HM.out.bb.ug; have := HM.out.bb.gb; have := HM.out.bb.bl; have := HQ.out.2.2.2; omega) (by rw [HR.out, ← HF.out.1]) _
    ·rw [show ((2 : Nat) : Int) = 2 from rfl]
     obtain ⟨pa, hpa⟩ : ∃ pa : Option Addr, pa = x.gp.map (fun k => (⟨k, 0, none⟩ : Addr)) := ⟨_, rfl⟩
     obtain ⟨na, hna⟩ : ∃ na : Option Addr, na = x.gn.map (fun k => (⟨k, 0, none⟩ : Addr)) := ⟨_, rfl⟩
     obtain ⟨⟨q6, q6f⟩, ⟨qu, quf⟩, ⟨q1, q1f⟩, q2, q0, qf⟩ := HM.out.cells hpa hna
     have HPA := Zh (Zi hpa hna)
     have HP8 := Zh hp8
     have hne1 : bR ≠ g := by have := HM.out.bb.ru; have := HM.out.bb.ug; omega
     have hbs : bR < u ∧ u < g ∧ g < b6 := ⟨HM.out.bb.ru, HM.out.bb.ug, HM.out.bb.gb⟩
     clear hpa hna
     unfold endR at hf2
     rw [HZ.out, List.length_map] at hf2
     by_cases hend : s.size ≤ x.p
     ·rw [if_pos hend] at hf2
      have d1 : ((x.p : Int) == (s.size : Int)) = true := by simp; omega
      have HF := Zh hf2
      clear hf2
      go_wp2_with (first
       | (at_builtin; go_loud (refine own_push eiRdn HM.out.up.vec.own rfl (.tmp 50) (.tmp 52) rfl (by show Value.slice na x.gs.length x.cn = _; rw [HPA.out.2]; rfl) [rowV ((x.gp, x.cp), x.part)] #[.slice pa x.part.length x.cp] (by show [Value.slice pa x.part.length x.cp] = [_]; rw [HPA.out.1]; rfl) rfl rfl (fun y hy => by simp at hy; subst hy; rfl) (by show (x.gs.length + 1) * 24 ≤ _; omega) ?_); intro g9 cap9 w9 own9 gr9 at9; have hP := HM.out.done HP8.out own9 gr9 at9; have p0 := Lib.cell_of_heap hP.1 0; have pf := Lib.frozen_of_heap hP.1 0; have lu : (w9.setCell ⟨u, 0, none⟩ (.slice (some ⟨g9, 0, none⟩) (x.gs.length + 1) cap9)).cell? ⟨u, 0, none⟩ = some (.slice (some ⟨g9, 0, none⟩) (x.gs.length + 1) cap9) := (by rw [Lib.cell_of_heap hP.2.1.head]; rfl); have l0 := Lib.cell_of_heap hP.2.2.2.2 0; have lf := Lib.frozen_of_heap hP.2.2.2.2 0; have HP := Zh hP.2.1; clear q6 q6f qu quf q1 q1f q2 q0 qf; clear hP own9 gr9 at9)
       | fail)
      rw [jump_ret]
      refine bodyPost_ret (v := .tuple #[.agg #[.slice (some ⟨g9, 0, none⟩) (x.gs.length + 1) cap9], .nilIface]) ((results_cell_tmp rfl _ _ _).trans ?hres) rfl ?_
      case hres => go_simp
      exact par_ok HM.out.bb HP.out (by omega) (by rw [HR.out, ← HF.out]; simp) _
     ·have hlt : x.p < s.size := by omega
      rw [if_neg hend] at hf2
      have d1 : ((x.p : Int) == (s.size : Int)) = false := by simp; omega
      have d2 : (x.p : Int) < (s.size : Int) := by omega
      have d3 : (0 : Int) ≤ (x.p : Int) := by omega
      have hx1 : (x.p : Int) + 1 = ((x.p + 1 : Nat) : Int) := by simp
      have HX1 := Zh hx1
      clear hx1
      rw [getQ hlt] at hf2
      by_cases h44 : s[x.p] = 44
      ·rw [if_pos (by rw [h44])] at hf2
       have b44 : (((s[x.p].toNat : Nat) : Int) == 44) = true := by rw [h44]; rfl
       clear h44
       generalize hbb : (s[x.p]'hlt) = bb at b44
       by_cases h63 : 64 ≤ x.gs.length + 1
       ·rw [if_pos h63] at hf2
        have HF := Zh hf2
        have g64 : (64 : Int) ≤ ((x.gs.length + 1 : Nat) : Int) := by omega
        clear hf2
        go_upto_region 30 with (first
         | (at_builtin; go_loud (refine own_push eiRdn HM.out.up.vec.own rfl (.tmp 64) (.tmp 66) rfl (by show Value.slice na x.gs.length x.cn = _; rw [HPA.out.2]; rfl) [rowV ((x.gp, x.cp), x.part)] #[.slice pa x.part.length x.cp] (by show [Value.slice pa x.part.length x.cp] = [_]; rw [HPA.out.1]; rfl) rfl rfl (fun y hy => by simp at hy; subst hy; rfl) (by show (x.gs.length + 1) * 24 ≤ _; omega) ?_); intro g9 cap9 w9 own9 gr9 at9; have hP := HM.out.done HP8.out own9 gr9 at9; have p0 := Lib.cell_of_heap hP.1 0; have pf := Lib.frozen_of_heap hP.1 0; have p6 := Lib.cell_of_heap hP.2.2.2.1 0; have p6f := Lib.frozen_of_heap hP.2.2.2.1 0; have hF := ParM.fresh HM.out.bb hP.2.1 hP.2.2.1 hP.2.2.2.1 hP.2.2.2.2; obtain ⟨⟨l6, l6f⟩, ⟨lu, luf⟩, ⟨l1, l1f⟩, l2, l0, lf⟩ := hF.cells (pa := none) (na := some ⟨g9, 0, none⟩) rfl rfl; have HX := Zh hF; clear q6 q6f qu quf q1 q1f q2 q0 qf hF; clear hP own9 gr9 at9)
         | (go_at_call 76; (with_reducible refine (fail_any g s x.p none 3 x.p _ HX.out.rd (by omega)).mono ?_); rintro e w3 ⟨rfl, p', fb, hr3, hfa3, hfb3, hch3⟩; have r1 := hr3.c1; have rf := hr3.fr 1; have hp3 := hr3.le; have hq3 := HX.out.rdr hch3 hr3; have hC3 := par_three hq3 hfa3 (Nat.le_trans HX.out.lt6.1 hfb3) (.int .i64 ((p' : Int) + 1)); have r2 := hC3.1; have q0 := hC3.2.1; have qf := hC3.2.2.1; have H3 := Zh hC3.2.2.2; have HFB := Zh (Nat.le_trans HX.out.lt6.1 hfb3); clear hr3 hfa3 hfb3 hch3 hq3 hC3)
         | fail)
        go_region_held3 (fun wz => wz.cell? ⟨g, 2, none⟩ = some (.pointer (some ⟨fb, 0, none⟩))) (first | go_keep | (rw [World.cell?_setCell_other _ _ _ _ (fun e => by injection e with e _ _; exact hne1 e)]; assumption)) (fail)
        go_wp2_with fail
        rw [jump_ret]
        refine bodyPost_ret (v := .tuple #[.agg #[.slice none 0 0], .iface 123 (.pointer (some ⟨fb, 0, none⟩))]) ((results_cell_tmp rfl _ _ _).trans ?hres) rfl ?_
        case hres => go_simp
        exact par_badB H3.out.1 hw0 H3.out.2 (by have := HFB.out; have := HM.out.bb.bl; omega) (by rw [HR.out, ← HF.out]) _
       ·rw [if_neg h63] at hf2
        have HF := Zh hf2
        have g64 : ¬ (64 : Int) ≤ ((x.gs.length + 1 : Nat) : Int) := by omega
        clear hf2
        go_wp2_with (first
         | (at_builtin; go_loud (refine own_push eiRdn HM.out.up.vec.own rfl (.tmp 64) (.tmp 66) rfl (by show Value.slice na x.gs.length x.cn = _; rw [HPA.out.2]; rfl) [rowV ((x.gp, x.cp), x.part)] #[.slice pa x.part.length x.cp] (by show [Value.slice pa x.part.length x.cp] = [_]; rw [HPA.out.1]; rfl) rfl rfl (fun y hy => by simp at hy; subst hy; rfl) (by show (x.gs.length + 1) * 24 ≤ _; omega) ?_); intro g9 cap9 w9 own9 gr9 at9; have hP := HM.out.done HP8.out own9 gr9 at9; have p0 := Lib.cell_of_heap hP.1 0; have pf := Lib.frozen_of_heap hP.1 0; have p6 := Lib.cell_of_heap hP.2.2.2.1 0; have p6f := Lib.frozen_of_heap hP.2.2.2.1 0; have hF := ParM.fresh HM.out.bb hP.2.1 hP.2.2.1 hP.2.2.2.1 hP.2.2.2.2; obtain ⟨⟨l6, l6f⟩, ⟨lu, luf⟩, ⟨l1, l1f⟩, l2, l0, lf⟩ := hF.cells (pa := none) (na := some ⟨g9, 0, none⟩) rfl rfl; have hFp := hF.put (q := x.p + 1) (by omega) HX1.out; have l2' := hFp.rd.c2; have HX := Zh hFp; clear q6 q6f qu quf q1 q1f q2 q0 qf hF hFp; clear hP own9 gr9 at9)
         | fail)
        go_step3
        have hP := HX.out
        refine ⟨rfl, ⟨rfl, rfl, ⟨rfl, rfl, rfl, rfl, rfl, rfl, ⟨_, 0, _, rfl, rfl, hP, .inl ⟨rfl, fu, ?_, ?_, ?_, ?_⟩⟩⟩⟩, ?mu⟩
        case mu =>
         show 3 * (s.size + 1 - rdAt g _) + (2 - (intOf (.int .i64 0)).toNat) < 3 * (s.size + 1 - rdAt g wr) + (2 - (intOf (f 8)).toNat)
         rw [rdAt_of hP.rd.c1, H8.out.2, H8.out.1]
         simp only [intOf]
         omega
        ·show s.size - (x.p + 1) + 1 ≤ fu
         omega
        ·rw [← HF.out]; simp
        ·simp; omega
        ·simp
      ·rw [if_neg (by simpa using h44)] at hf2
       have b44 : (((s[x.p].toNat : Nat) : Int) == 44) = false := u8_ne h44
       have n64 : ¬ (64 : Int) ≤ (x.gs.length : Int) := by omega
       clear h44
       generalize hbb : (s[x.p]'hlt) = bb at b44
       by_cases h8 : 8 ≤ x.part.length
       ·rw [if_pos (.inr h8)] at hf2
        have HF := Zh hf2
        have g8 : (8 : Int) ≤ (x.part.length : Int) := by omega
        clear hf2
        go_upto_region 30 with (first
         | (go_at_call 76; (with_reducible refine (fail_any g s x.p none 3 x.p _ HM.out.rd (by omega)).mono ?_); rintro e w3 ⟨rfl, p', fb, hr3, hfa3, hfb3, hch3⟩; have r1 := hr3.c1; have rf := hr3.fr 1; have hp3 := hr3.le; have hq3 := HM.out.rdr hch3 hr3; have hC3 := par_three hq3 hfa3 (Nat.le_trans HM.out.lt6.1 hfb3) (.int .i64 ((p' : Int) + 1)); have r2 := hC3.1; have q0 := hC3.2.1; have qf := hC3.2.2.1; have H3 := Zh hC3.2.2.2; have HFB := Zh (Nat.le_trans HM.out.lt6.1 hfb3); clear hr3 hfa3 hfb3 hch3 hq3 hC3)
         | fail)
        go_region_held3 (fun wz => wz.cell? ⟨g, 2, none⟩ = some (.pointer (some ⟨fb, 0, none⟩))) (first | go_keep | (rw [World.cell?_setCell_other _ _ _ _ (fun e => by injection e with e _ _; exact hne1 e)]; assumption)) (fail)
        go_wp2_with fail
        rw [jump_ret]
        refine bodyPost_ret (v := .tuple #[.agg #[.slice none 0 0], .iface 123 (.pointer (some ⟨fb, 0, none⟩))]) ((results_cell_tmp rfl _ _ _).trans ?hres) rfl ?_
        case hres => go_simp
        exact par_badB H3.out.1 hw0 H3.out.2 (by have := HFB.out; have := HM.out.bb.bl; omega) (by rw [HR.out, ← HF.out]) _
       ·rw [if_neg (by omega)] at hf2
        have HF := Zh hf2
        have g8 : ¬ (8 : Int) ≤ (x.part.length : Int) := by omega
        have hP := HM.out.put (q := x.p + 1) (by omega) HX1.out
        have q2' := hP.rd.c2
        have HX := Zh hP
        clear hf2 hP
        go_wp2_with fail
        go_step3
        have hP := HX.out
        refine ⟨rfl, ⟨rfl, rfl, ⟨rfl, rfl, rfl, rfl, rfl, rfl, ⟨_, 0, _, rfl, rfl, hP, .inl ⟨rfl, fu, ?_, ?_, ?_, ?_⟩⟩⟩⟩, ?mu⟩
        case mu =>
         show 3 * (s.size + 1 - rdAt g _) + (2 - (intOf (.int .i64 0)).toNat) < 3 * (s.size + 1 - rdAt g wr) + (2 - (intOf (f 8)).toNat)
         rw [rdAt_of hP.rd.c1, H8.out.2, H8.out.1]
         simp only [intOf]
         omega
        ·show s.size - (x.p + 1) + 1 ≤ fu
         omega
        ·exact HF.out
        ·exact hg64
        ·show x.part.length < 8
         omega
end Go.Proofs.YtlmfbjhokkpjhaaGreatDoor
namespace Go.Proofs.YtlmfbjhokkpjhaaGreatDoor
open Go Go.RowKit Go.Maps
structure EnvK (w : World) : Prop where
 e : Env w
 s : EnvS w
 v : SynV w
theorem EnvK.next {w w' : World} (h : EnvK w) (k : Below w.heap.size w w') : EnvK w' := ⟨h.e.next k, h.s.next k, h.v.next k⟩
theorem typeI_at {S : PSchema} {n : Str} {t : Nat} (h : typeAt S n = some t) : typeI S (t : Int) = fullT S t := by
 have := typeAt_lt h
 unfold typeI; rw [if_pos (by omega)]; rfl
theorem field_type0 (x : PType) (nv : Value) (w : World) : (Instr.field 46 (.agg #[.string x.oid, nv, .string x.sup, .int .i8 x.syn, .int .i8 x.eq, .int .i8 x.ord, .int .i8 x.part, .bool x.single, .int .u8 x.index]) 0).run Tryz.prog w = .ok (.string x.oid) w := by kernel_rfl
theorem field_schema1 (u v : Value) (w : World) : (Instr.field 25 (.agg #[u, v]) 1).run Tryz.prog w = .ok v w := by kernel_rfl
theorem classAt_lt {S : PSchema} {n : Str} {t : Nat} (h : classAt S n = some t) : t < S.classes.length := by
 unfold classAt at h
 split at h
 ·cases h
 ·have := placeOf_lt h; simpa [cK] using this
set_option maxRecDepth 20000 in
set_option maxHeartbeats 1000000 in
theorem noid_any (S : PSchema) (g : Nat) (v : ByteArray) (w : World) (h : Sch w g S) (hE : Env w) :
  Calls Tryz.prog 123 #[.pointer (some ⟨g, 0, none⟩), .string v] w fun e w' => e = .returned (ret2 (oidK S (toL v))) ∧ Below w.heap.size w w' := by
 have hkey := key_any 8 v w hE
 change Calls Tryz.prog 52 #[.int .i8 8, .string v] w fun e w'' => e = .returned (ret2 (keyL 8 (toL v))) ∧ Below w.heap.size w w'' at hkey
 have hvs : (keyL 8 (toL v)).2 = true → v.size ≤ 65536 := fun hh => by
  unfold keyL at hh
  by_cases hl : 65536 < (toL v).length
  ·rw [if_pos hl] at hh; cases hh
  ·have : (toL v).length = v.size := Lib.size_eq v
   omega
 have hoid : oidK S (toL v) = if (keyL 8 (toL v)).2 = false then ([], false) else match typeAt S (toL v) with
  | some t => (toL (fullT S t).oid, true)
  | none => match classAt S (toL v) with
   | some c => (toL (clAt S c).oid, true)
   | none => ((keyL 8 (toL v)).1, true) := rfl
 generalize keyL 8 (toL v) = K at hkey hvs hoid
 obtain ⟨k, ok⟩ := K
 rw [hoid]
 cases ok with
 | false =>
  have HK := Zh hkey
  clear hkey hvs hoid
  go_enter Tryz.func123, Tryz.ntmps123
  go_wp2_with (go_at_call 52; (with_reducible refine HK.out.mono ?_); rintro e w1 ⟨rfl, hb1⟩; have HB1 := Zh hb1; clear hb1; unfold ret2)
  go_ret2
  exact ⟨rfl, HB1.out⟩
 | true =>
  rw [if_neg (by simp)]
  have hvs := hvs rfl
  have hty := fun w1 (hb : Below w.heap.size w w1) => type_any S g v w1 (h.keep hb) (by omega)
  have hcl := fun w1 (hb : Below w.heap.size w w1) => class_any S g v w1 (h.keep hb) (by omega)
  have hcp := fun c => classAt_lt (S := S) (n := toL v) (t := c)
  have htp := fun t => typeI_at (S := S) (n := toL v) (t := t)
  have HK := Zh hkey
  clear hkey hoid
  cases ht : typeAt S (toL v) with
  | some t =>
   rw [ht] at hty
   have hfu := fun w1 (hb : Below w.heap.size w w1) => full_any S g (t : Int) w1 (h.keep hb)
   rw [htp t ht] at hfu
   unfold FullPost tyAgg at hfu
   have HTY := Zh hty
   have HFU := Zh hfu
   clear hty hfu hcl ht htp hcp
   have t0 : (0 : Int) ≤ (t : Int) := by omega
   go_enter Tryz.func123, Tryz.ntmps123
   go_wp2_with (first
    | (go_at_call 52; (with_reducible refine HK.out.mono ?_); rintro e w1 ⟨rfl, hb1⟩; have HB1 := Zh hb1; clear hb1; unfold ret2)
    | (go_at_call 35; (with_reducible refine (HTY.out _ HB1.out).mono ?_); rintro e w2 ⟨rfl, hb2⟩; have HB2 := Zh (HB1.out.trans (hb2.mono HB1.out.size)); clear hb2; unfold placeI)
    | (go_at_call 22; (with_reducible refine (HFU.out _ HB2.out).mono ?_); rintro e w3 ⟨hb3, a3, n3, c3, rfl, _⟩; have hfd := field_type0 (fullT S t) (.slice a3 n3 c3) w3; have HB3 := Zh (HB2.out.trans (hb3.mono HB2.out.size)); clear hb3)
    | fail)
   go_ret2
   exact ⟨by show _ = Ending.returned (.tuple #[.string (baOf (toL (fullT S t).oid)), .bool true]); rw [baOf_toL]; rfl, HB3.out⟩
  | none =>
   simp only
   rw [ht] at hty
   have HTY := Zh hty
   clear hty ht htp
   cases hc : classAt S (toL v) with
   | none =>
    rw [hc] at hcl
    have HCL := Zh hcl
    clear hcl hc hcp
    go_enter Tryz.func123, Tryz.ntmps123
    go_wp2_with (first
     | (go_at_call 52; (with_reducible refine HK.out.mono ?_); rintro e w1 ⟨rfl, hb1⟩; have HB1 := Zh hb1; clear hb1; unfold ret2)
     | (go_at_call 35; (with_reducible refine (HTY.out _ HB1.out).mono ?_); rintro e w2 ⟨rfl, hb2⟩; have HB2 := Zh (HB1.out.trans (hb2.mono HB1.out.size)); clear hb2; unfold placeI)
     | (go_at_call 53; (with_reducible refine (HCL.out _ HB2.out).mono ?_); rintro e w3 ⟨rfl, hb3⟩; have HB3 := Zh (HB2.out.trans (hb3.mono HB2.out.size)); clear hb3; unfold placeI)
     | fail)
    go_ret2
    exact ⟨rfl, HB3.out⟩
   | some c =>
    rw [hc] at hcl
    have hcl2 := hcp c hc
    have hpl := fun w1 (hb : Below w.heap.size w w1) => plain_any S g w1 (h.keep hb)
    obtain ⟨x, hx⟩ : ∃ x, S.classes[c]? = some x := ⟨_, List.getElem?_eq_getElem hcl2⟩
    have hxa : clAt S c = x := by unfold clAt; rw [List.getD_eq_getElem?_getD, hx]; rfl
    simp only
    rw [hxa]
    have hs2 := h.small.2
    obtain ⟨N, hN⟩ : ∃ N, S.classes.length = N := ⟨_, rfl⟩
    rw [hN] at hcl2 hs2
    have hpl2 : ∀ w1, Below w.heap.size w w1 → Calls Tryz.prog 54 #[.pointer (some ⟨g, 0, none⟩)] w1 fun e w' => ∃ a n c1 b o c2, e = .returned (.agg #[.slice a n c1, .slice (some ⟨b, o, none⟩) N c2]) ∧ w'.cell? ⟨b, o + c * 6, none⟩ = some (.string x.oid) ∧ Below w1.heap.size w1 w' := fun w1 hb => (hpl w1 hb).mono fun e w' ⟨a, c1, a2, c2, h1, h2, h3, h4⟩ => by
     rw [hN] at h1 h3
     cases a2 with
     | none => have e1 := h3.lies.nil rfl; have e2 := h3.lies.le; omega
     | some ad =>
      have := h3.top ad rfl
      obtain ⟨b, o, sp⟩ := ad
      simp only at this
      subst this
      exact ⟨a, _, c1, b, o, c2, h1, (h3.cell b o rfl c x hx).c0, h4⟩
    have HCL := Zh hcl
    have HPL := Zh hpl2
    clear hcl hc hcp hpl hpl2 hx hxa hN
    have t0 : (0 : Int) ≤ (c : Int) := by omega
    have t1 : (c : Int) < (N : Int) := by omega
    go_enter Tryz.func123, Tryz.ntmps123
    go_wp2_with (first
     | (go_at_call 52; (with_reducible refine HK.out.mono ?_); rintro e w1 ⟨rfl, hb1⟩; have HB1 := Zh hb1; clear hb1; unfold ret2)
     | (go_at_call 35; (with_reducible refine (HTY.out _ HB1.out).mono ?_); rintro e w2 ⟨rfl, hb2⟩; have HB2 := Zh (HB1.out.trans (hb2.mono HB1.out.size)); clear hb2; unfold placeI)
     | (go_at_call 53; (with_reducible refine (HCL.out _ HB2.out).mono ?_); rintro e w3 ⟨rfl, hb3⟩; have HB3 := Zh (HB2.out.trans (hb3.mono HB2.out.size)); clear hb3; unfold placeI)
     | (go_at_call 54; (with_reducible refine (HPL.out _ HB3.out).mono ?_); rintro e w4 ⟨a4, n4, c4, b4, o4, d4, rfl, k4, hb4⟩; have hfd := field_schema1 (.slice a4 n4 c4) (.slice (some ⟨b4, o4, none⟩) N d4) w4; have HB4 := Zh (HB3.out.trans (hb4.mono HB3.out.size)); clear hb4)
     | fail)
    go_ret2
    exact ⟨by show _ = Ending.returned (.tuple #[.string (baOf (toL x.oid)), .bool true]); rw [baOf_toL]; rfl, HB4.out⟩
end Go.Proofs.YtlmfbjhokkpjhaaGreatDoor
