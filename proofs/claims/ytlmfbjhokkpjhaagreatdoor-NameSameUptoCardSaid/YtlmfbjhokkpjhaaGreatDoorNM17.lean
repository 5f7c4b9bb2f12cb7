/- Part 17 of the walks and plain laws, joined: Typed. -/
import Derived.Test.YtlmfbjhokkpjhaaGreatDoorNM00
import Derived.Test.YtlmfbjhokkpjhaaGreatDoorNM12
import Derived.Test.YtlmfbjhokkpjhaaGreatDoorNM16
import Derived.Test.YtlmfbjhokkpjhaaGreatDoorNM06
import Derived.Deep.RegionLaw
import Derived.Deep.QuietTactic
import Derived.BigQuiet
set_option linter.unusedVariables false
set_option linter.unusedSimpArgs false
namespace Go.Proofs.YtlmfbjhokkpjhaaGreatDoor
open Go Go.RowKit Go.Maps
structure TCells (w : World) (M g X tb tx n0 c0 m : Nat) (x : PType) (nv : Value) : Prop where
 m0 : w.cell? ⟨M, 0, none⟩ = some (.pointer (some ⟨g, 0, none⟩))
 g0 : w.cell? ⟨g, 0, none⟩ = some (.slice (some ⟨tb, tx, none⟩) n0 c0)
 g2 : w.cell? ⟨g, 2, none⟩ = some (.map (some m))
 blk : TyBlk w X x nv
theorem TCells.keep {w w' : World} {M g X tb tx n0 c0 m : Nat} {x : PType} {nv : Value} (h : TCells w M g X tb tx n0 c0 m x nv) (k : Below w.heap.size w w') : TCells w' M g X tb tx n0 c0 m x nv :=
 ⟨by rw [k.cell (Zb w _ h.m0)]; exact h.m0, by rw [k.cell (Zb w _ h.g0)]; exact h.g0, by rw [k.cell (Zb w _ h.g2)]; exact h.g2, h.blk.keep k⟩
theorem TyBlk.c0 {w : World} {X : Nat} {x : PType} {nv : Value} (h : TyBlk w X x nv) : w.cell? ⟨X, 0, none⟩ = some (.string x.oid) := h.cell 0 _ rfl
theorem TyBlk.c1 {w : World} {X : Nat} {x : PType} {nv : Value} (h : TyBlk w X x nv) : w.cell? ⟨X, 1, none⟩ = some nv := h.cell 1 _ rfl
theorem TyBlk.c2 {w : World} {X : Nat} {x : PType} {nv : Value} (h : TyBlk w X x nv) : w.cell? ⟨X, 2, none⟩ = some (.string x.sup) := h.cell 2 _ rfl
theorem TyBlk.c3 {w : World} {X : Nat} {x : PType} {nv : Value} (h : TyBlk w X x nv) : w.cell? ⟨X, 3, none⟩ = some (.int .i8 x.syn) := h.cell 3 _ rfl
theorem TyBlk.c4 {w : World} {X : Nat} {x : PType} {nv : Value} (h : TyBlk w X x nv) : w.cell? ⟨X, 4, none⟩ = some (.int .i8 x.eq) := h.cell 4 _ rfl
theorem TyBlk.c5 {w : World} {X : Nat} {x : PType} {nv : Value} (h : TyBlk w X x nv) : w.cell? ⟨X, 5, none⟩ = some (.int .i8 x.ord) := h.cell 5 _ rfl
theorem TyBlk.c6 {w : World} {X : Nat} {x : PType} {nv : Value} (h : TyBlk w X x nv) : w.cell? ⟨X, 6, none⟩ = some (.int .i8 x.part) := h.cell 6 _ rfl
theorem TyBlk.c7 {w : World} {X : Nat} {x : PType} {nv : Value} (h : TyBlk w X x nv) : w.cell? ⟨X, 7, none⟩ = some (.bool x.single) := h.cell 7 _ rfl
theorem TyBlk.c8 {w : World} {X : Nat} {x : PType} {nv : Value} (h : TyBlk w X x nv) : w.cell? ⟨X, 8, none⟩ = some (.int .u8 x.index) := h.cell 8 _ rfl
def tE7 (S : PSchema) (t : Nat) : Int := let x := tyAt S t
 if rulE x (fullT S t) 1 0 x.eq (fullT S t).eq || rulE x (fullT S t) 2 1 x.ord (fullT S t).ord || rulE x (fullT S t) 3 2 x.part (fullT S t).part then 54 else 0
def tE6 (S : PSchema) (t : Nat) : Int := let x := tyAt S t
 if x.syn < 0 ∨ 8 < x.syn ∨ (1 < (chainOf S t).1.length ∧ (tyAt S ((chainOf S t).1.getD 1 0)).syn ≠ x.syn) ∨ 15 < x.index then 54 else tE7 S t
def tE5 (S : PSchema) (t : Nat) : Int := if 17 < (chainOf S t).1.length then 3 else tE6 S t
def tE4 (S : PSchema) (t : Nat) : Int := if (chainOf S t).2 = false then 53 else tE5 S t
def tE3 (S : PSchema) (t : Nat) : Int := if toL (tyAt S t).sup ≠ [] ∧ upT S t = none then 51 else tE4 S t
def tE2 (S : PSchema) (t : Nat) : Int := if takenB (placeOf (tK S)) t (keysT (tyAt S t)) [] then 52 else tE3 S t
theorem typeE_eq (S : PSchema) (t : Nat) : typeE S t = if namedE (tyAt S t).oid (tyAt S t).names ≠ 0 then namedE (tyAt S t).oid (tyAt S t).names else tE2 S t := rfl
theorem bit_fin1 : ∀ n : Fin 256, (bits BinOp.and IntKind.u8 (n.val : Int) 2 != 0) = n.val.testBit 1 := by decide +kernel
theorem bit_fin2 : ∀ n : Fin 256, (bits BinOp.and IntKind.u8 (n.val : Int) 4 != 0) = n.val.testBit 2 := by decide +kernel
theorem bit_fin3 : ∀ n : Fin 256, (bits BinOp.and IntKind.u8 (n.val : Int) 8 != 0) = n.val.testBit 3 := by decide +kernel
theorem bit1 {ix : Int} (h : 0 ≤ ix ∧ ix ≤ 255) : (bits BinOp.and IntKind.u8 ix 2 != 0) = ix.toNat.testBit 1 := by
 obtain ⟨n, rfl⟩ : ∃ n : Nat, ix = n := ⟨ix.toNat, by omega⟩
 exact bit_fin1 ⟨n, by omega⟩
theorem bit2 {ix : Int} (h : 0 ≤ ix ∧ ix ≤ 255) : (bits BinOp.and IntKind.u8 ix 4 != 0) = ix.toNat.testBit 2 := by
 obtain ⟨n, rfl⟩ : ∃ n : Nat, ix = n := ⟨ix.toNat, by omega⟩
 exact bit_fin2 ⟨n, by omega⟩
theorem bit3 {ix : Int} (h : 0 ≤ ix ∧ ix ≤ 255) : (bits BinOp.and IntKind.u8 ix 8 != 0) = ix.toNat.testBit 3 := by
 obtain ⟨n, rfl⟩ : ∃ n : Nat, ix = n := ⟨ix.toNat, by omega⟩
 exact bit_fin3 ⟨n, by omega⟩
set_option maxRecDepth 20000 in
set_option maxHeartbeats 8000000 in
theorem typed_any (S : PSchema) (g t : Nat) (w : World) (h : Mk w g S) (E : EnvS w) (ht : t < S.types.length) (hS : S.types.length ≤ 1024) :
  Calls Tryz.prog 45 #[.agg #[.pointer (some ⟨g, 0, none⟩)], .int .i64 (t : Int)] w fun e w' => e = .returned (.int .i64 (typeE S t)) ∧ Below w.heap.size w w' := by
 obtain ⟨a0, n0, c0, hc0, hty⟩ := h.types
 obtain ⟨tb, tx, rfl, htb⟩ := hty.lies.ptr (by have := hty.len; omega)
 have hT := hty.cell tb tx rfl t _ (List.getElem?_eq_getElem ht)
 have hok := hty.ok _ (List.getElem_mem ht)
 have hsup : tyAt S t = S.types[t] := by unfold tyAt; simp [List.getD, ht]
 rw [← hsup] at hT hok
 obtain ⟨na, nn, nc, h1, hte⟩ := hT.c1
 obtain ⟨m, N, hc2, hml, hmap⟩ := h.tm
 have h2 := hT.c2
 have h0 := hT.c0
 have h3 := hT.c3
 have h4 := hT.c4
 have h5 := hT.c5
 have h6 := hT.c6
 have h7 := hT.c7
 have h8 := hT.c8
 have htn : (t : Int) < (n0 : Int) := by have := hty.len; omega
 have hti : (0 : Int) ≤ (t : Int) := by omega
 have hglt := Zb w _ hc0
 have htlt := Zb w _ h0
 simp only at hglt htlt
 have HMK := Zh h; have HTE := Zh hte; have HOK := Zh hok; have HMAP := Zh (Zi hml hmap); have HE := Zh E; have HC2 := Zh hc2; have HLT := Zh (Zi ht hS); have HTY := Zh hty
 clear h hte hsup hT hty htb hok hml hmap E hc2 ht hS
 generalize hx : tyAt S t = x at *
 have HX := Zh hx; clear hx
 go_enter Tryz.func45, Tryz.ntmps45
 go_upto_region 2 with fail
 clear h0 h1 h2 h3 h4 h5 h6 h7 h8
 have htb1 : TyBlk ((w.alloc (.cells #[.pointer (some ⟨g, 0, none⟩)] 86)).alloc (.cells #[.string x.oid, .slice na nn nc, .string x.sup, .int .i8 x.syn, .int .i8 x.eq, .int .i8 x.ord, .int .i8 x.part, .bool x.single, .int .u8 x.index] 46)) (w.heap.size + 1) x (.slice na nn nc) := by
  have := TyBlk.made (w.alloc (.cells #[.pointer (some ⟨g, 0, none⟩)] 86)) x (.slice na nn nc) 46
  rw [show (w.alloc (.cells #[.pointer (some ⟨g, 0, none⟩)] 86)).heap.size = w.heap.size + 1 by simp] at this
  exact this
 have hbw : Below w.heap.size w ((w.alloc (.cells #[.pointer (some ⟨g, 0, none⟩)] 86)).alloc (.cells #[.string x.oid, .slice na nn nc, .string x.sup, .int .i8 x.syn, .int .i8 x.eq, .int .i8 x.ord, .int .i8 x.part, .bool x.single, .int .u8 x.index] 46)) := (((Zl _ w).alloc (Zr _) _).alloc (by simp) _)
 have hmc : ((w.alloc (.cells #[.pointer (some ⟨g, 0, none⟩)] 86)).alloc (.cells #[.string x.oid, .slice na nn nc, .string x.sup, .int .i8 x.syn, .int .i8 x.eq, .int .i8 x.ord, .int .i8 x.part, .bool x.single, .int .u8 x.index] 46)).cell? ⟨w.heap.size, 0, none⟩ = some (.pointer (some ⟨g, 0, none⟩)) := by
  rw [World.cell?_alloc_lt _ _ _ (by simp), World.cell?_alloc_new]; rfl
 generalize (w.alloc (.cells #[.pointer (some ⟨g, 0, none⟩)] 86)).alloc (.cells #[.string x.oid, .slice na nn nc, .string x.sup, .int .i8 x.syn, .int .i8 x.eq, .int .i8 x.ord, .int .i8 x.part, .bool x.single, .int .u8 x.index] 46) = w1 at htb1 hbw hmc ⊢
 generalize w.heap.size + 1 = X at htb1 ⊢
 have hg0 := (hbw.cell (Zb w _ hc0)).trans hc0
 have hg2 := (hbw.cell (Zb w _ HC2.out)).trans HC2.out
 generalize hM : w.heap.size = M at hmc ⊢
 have HMM := Zh hM; clear hM
 have HTC : Hid (TCells w1 M g X tb tx n0 c0 m x (.slice na nn nc)) := Zh ⟨hmc, hg0, hg2, htb1⟩
 have HBW := Zh hbw
 clear hmc hg0 hg2 htb1 hbw hc0 hglt htlt HC2
 have hnam := fun wr (hb : Below w1.heap.size w1 wr) => named_any x.oid g na nn nc x.names wr (HE.out.next (bnext HBW.out hb)) (HTE.out.keep ((bnext HBW.out hb).mono (Nat.le_of_lt HMK.out.lt)) (Zr _)) (Nat.le_trans (Nat.le_of_lt HMK.out.lt) (bnext HBW.out hb).size) HOK.out.oid
 have HNAM := Zh hnam; clear hnam
 have k0 := HTC.out.blk.c0
 have k1 := HTC.out.blk.c1
 obtain ⟨ne, hne⟩ : ∃ ne, namedE x.oid x.names = ne := ⟨_, rfl⟩
 have hty0 : ne ≠ 0 → typeE S t = ne := fun h => by unfold typeE; simp only; rw [HX.out, hne, if_pos h]
 have HT0 := Zh hty0; clear hty0
 rw [hne] at HNAM
 by_cases hn0 : ne = 0
 ·subst hn0
  have HNE := Zh hne; clear hne
  go_upto_region 5 with (first | (go_at_call 90; refine (HNAM.out _ (Zl _ _)).mono ?_; rintro e w2 ⟨rfl, hb2⟩; have HB2 := Zh hb2; clear hb2) | fail)
  have hT2 : typeE S t = tE2 S t := by rw [typeE_eq, HX.out, HNE.out, if_neg (by simp)]
  have HT2 := Zh hT2; clear hT2 k0 k1 HNAM HT0
  have htk := fun wr (hb : Below w1.heap.size w1 wr) => taken_any g N m t (placeOf (tK S)) x.oid na nn nc x.names wr (HTE.out.keep ((bnext HBW.out hb).mono (Nat.le_of_lt HMK.out.lt)) (Zr _)) HOK.out.oid (HMAP.out.2.keep (bnext HBW.out hb) HMAP.out.2.lt) (Nat.le_trans (Nat.le_of_lt HMK.out.lt) (bnext HBW.out hb).size)
  have hkn : keysN x.oid x.names = keysT (tyAt S t) := by rw [HX.out]; rfl
  obtain ⟨tk, htke⟩ : ∃ tk, takenB (placeOf (tK S)) t (keysN x.oid x.names) [] = tk := ⟨_, rfl⟩
  rw [htke] at htk
  rw [hkn] at htke
  have HTK := Zh htk; clear htk hkn
  have q2 := HTC.out.keep HB2.out
  have e0 := q2.m0
  have e1 := q2.g2
  have e2 := q2.blk.c0
  have e3 := q2.blk.c1
  clear q2
  go_region_held3 (fun w3 => w3.cell? ⟨M, 0, none⟩ = some (.pointer (some ⟨g, 0, none⟩)) ∧ w3.cell? ⟨g, 2, none⟩ = some (.map (some m)) ∧ w3.cell? ⟨X, 0, none⟩ = some (.string x.oid) ∧ w3.cell? ⟨X, 1, none⟩ = some (.slice na nn nc))
   (first | exact ⟨e0, e1, e2, e3⟩ | exact ⟨i0, i1, i2, i3⟩ | fail)
   (first
    | (go_at_call 91; refine (HTK.out _ (HB2.out.drew)).mono ?_; rintro e w3 ⟨rfl, hb3⟩; have hb4 := bnext HB2.out.drew hb3; have q3 := HTC.out.keep hb4; have i0 := q3.m0; have i1 := q3.g2; have i2 := q3.blk.c0; have i3 := q3.blk.c1; have HB3 := Zh hb4; clear hb3 hb4 q3)
    | fail)
  clear e0 e1 e2 e3
  cases tk with
  | true =>
   have HTKE := Zh htke; clear htke
   go_wp2_with fail
   go_ret
   exact ⟨by rw [HT2.out]; unfold tE2; rw [HTKE.out, if_pos rfl]; rfl, HMM.out ▸ (bnext HBW.out HB3.out)⟩
  | false =>
   have hT3 : typeE S t = tE3 S t := by rw [HT2.out]; unfold tE2; rw [htke, if_neg (by simp)]
   have HT3 := Zh hT3; clear hT3 htke HT2
   clear HTK
   have q3 := HTC.out.keep HB3.out
   have e0 := q3.m0
   have e1 := q3.g2
   have e2 := q3.blk.c2
   clear q3 i0 i1 i2 i3
   obtain ⟨pp, hpp⟩ : ∃ pp, placeOf (tK S) (low (toL x.sup)) = pp := ⟨_, rfl⟩
   have hlk : ∀ wr, Below w1.heap.size w1 wr → (Instr.lookup 80 (.map (some m)) (.string ⟨(low (toL x.sup)).toArray⟩) true).run Tryz.prog wr = .ok (.tuple #[.int .i64 (pp.getD 0 : Nat), .bool pp.isSome]) wr := fun wr hb => by
    rw [← hpp]; exact (HMAP.out.2.keep (bnext HBW.out hb) HMAP.out.2.lt).look_ok (s := ⟨(low (toL x.sup)).toArray⟩) (by rw [low_size]; have := HOK.out.sup; unfold maxLen; omega)
   have hsm := fun wr => small_any x.sup wr (by have := HOK.out.sup; omega)
   have hup : upT S t = if toL x.sup = [] then none else pp := by unfold upT typeAt; rw [HX.out, hpp]
   have hT3 : typeE S t = if toL x.sup ≠ [] ∧ upT S t = none then 51 else tE4 S t := by rw [HT3.out]; unfold tE3; rw [HX.out]
   rw [hup] at hT3
   have HLK := Zh hlk; have HSM := Zh hsm; have HT3' := Zh hT3
   clear hlk hsm hpp hup hT3 HT3
   go_wp2_with fail
   go_region_held3 (fun w3 => w3.cell? ⟨M, 0, none⟩ = some (.pointer (some ⟨g, 0, none⟩)) ∧ w3.cell? ⟨g, 2, none⟩ = some (.map (some m)) ∧ w3.cell? ⟨X, 2, none⟩ = some (.string x.sup))
    (first | exact ⟨e0, e1, e2⟩ | exact ⟨i0, i1, i2⟩ | fail)
    (first
     | (go_at_call 89; with_reducible refine (HSM.out _).mono ?_; rintro e w4 ⟨rfl, hb3⟩; have hb4 := bnext HB3.out.drew hb3; have q3 := HTC.out.keep hb4; have i0 := q3.m0; have i1 := q3.g2; have i2 := q3.blk.c2; have ik := HLK.out w4 hb4; have HB4 := Zh hb4; clear hb3 hb4 q3)
     | fail)
   clear e0 e1 e2 HSM HLK HB3 ik
   go_upto_region 8 with fail
   go_cut [60] from 54 to 60 (fun v60 wx => ∃ cb : Bool, v60 = .bool cb ∧ (typeE S t = if cb then 51 else tE4 S t) ∧ wx = w4)
   case first =>
    cases pp with
    | none =>
     by_cases hsu : toL x.sup = []
     ·have hT4 : typeE S t = tE4 S t := by rw [HT3'.out, if_neg (by rw [hsu]; simp)]
      have HT4 := Zh hT4; clear hT4
      have hse := empty_of x.sup hsu
      rw [hse] at i2
      clear hse hsu
      go_wp2_with fail
      go_meet
      exact ⟨false, rfl, HT4.out, rfl⟩
     ·have hT4 : typeE S t = 51 := by rw [HT3'.out, if_pos ⟨hsu, by rw [if_neg hsu]⟩]
      have HT4 := Zh hT4; clear hT4
      obtain ⟨z1, z2, z3⟩ := nonempty_of x.sup hsu
      clear hsu
      go_wp2_with fail
      go_meet
      exact ⟨true, rfl, HT4.out, rfl⟩
    | some u =>
     have hT4 : typeE S t = tE4 S t := by rw [HT3'.out, if_neg (by rintro ⟨h1, h2⟩; rw [if_neg h1] at h2; cases h2)]
     have HT4 := Zh hT4; clear hT4
     go_wp2_with fail
     go_meet
     exact ⟨false, rfl, HT4.out, rfl⟩
   case rest =>
    obtain ⟨cb, rfl, hT4, rfl⟩ := hcut
    clear HT3' i0 i1 i2
    cases cb with
    | true =>
     have HT4 := Zh hT4; clear hT4
     go_wp2_with fail
     go_ret
     exact ⟨by rw [HT4.out]; rfl, HMM.out ▸ (bnext HBW.out HB4.out)⟩
    | false =>
     have HT4 := Zh hT4; clear hT4
     have q4 := HTC.out.keep HB4.out
     have e0 := q4.m0
     have hch := chain_any S g t wc (HMK.out.keep (bnext HBW.out HB4.out)) HLT.out.1 HLT.out.2
     unfold ChainPost at hch
     obtain ⟨l, b, hlb⟩ : ∃ l b, chainOf S t = (l, b) := ⟨_, _, rfl⟩
     have hcf := chainOf_facts S HLT.out.1
     have hT5 : typeE S t = if b = false then 53 else if 17 < l.length then 3 else tE6 S t := by rw [HT4.out]; unfold tE4 tE5; rw [hlb]; rfl
     rw [hlb] at hch hcf
     obtain ⟨n1, hn1⟩ : ∃ n1, l.length = n1 := ⟨_, rfl⟩
     simp only [hn1] at hch hT5
     have hn1b : 1 ≤ n1 ∧ n1 ≤ 1024 := by
      obtain ⟨h1, h2, l', h3⟩ := hcf
      have := nodup_le _ _ h1 h2
      have h4 := HLT.out.2
      simp only at h3 this
      rw [h3] at hn1 this
      simp at hn1 this
      omega
     obtain ⟨hn1a, hn1c⟩ := hn1b
     have HCH := Zh hch; have HLB := Zh (Zi hlb (Zi hn1 hcf)); have HT5 := Zh hT5
     clear hch q4 hlb hn1 hcf hT5
     cases b with
     | false =>
      have hT6 : typeE S t = 53 := by rw [HT5.out, if_pos rfl]
      have HT6 := Zh hT6; clear hT6
      go_wp2_with (first | (go_at_call 47; refine (HCH.out).mono ?_; rintro e w5 ⟨gl, cap, rfl, hv5⟩; have HV5 := Zh hv5; clear hv5) | fail)
      go_ret
      exact ⟨by rw [HT6.out]; rfl, HMM.out ▸ (bnext HBW.out (bnext HB4.out HV5.out.below))⟩
     | true =>
      by_cases h17 : 17 < n1
      ·have hT6 : typeE S t = 3 := by rw [HT5.out, if_neg (by simp), if_pos h17]
       have HT6 := Zh hT6; clear hT6
       have h17' : (16 : Int) < (n1 : Int) - 1 := by omega
       go_wp2_with (first | (go_at_call 47; refine (HCH.out).mono ?_; rintro e w5 ⟨gl, cap, rfl, hv5⟩; have HV5 := Zh hv5; clear hv5) | fail)
       go_ret
       exact ⟨by rw [HT6.out]; rfl, HMM.out ▸ (bnext HBW.out (bnext HB4.out HV5.out.below))⟩
      ·have hT6 : typeE S t = tE6 S t := by rw [HT5.out, if_neg (by simp), if_neg h17]
       have HT6 := Zh hT6; clear hT6 HT5 HT4
       have h17' : (n1 : Int) - 1 ≤ 16 := by omega
       clear h17
       go_wp2_with (first | (go_at_call 47; refine (HCH.out).mono ?_; rintro e w5 ⟨gl, cap, rfl, hv5⟩; have HV5 := Zh hv5; clear hv5) | fail)
       have HB5 := Zh (bnext HB4.out HV5.out.below)
       clear HCH e0
       go_upto_region 15 with fail
       have q5 := HTC.out.keep HB5.out
       have e0 := q5.m0
       have e1 := q5.g0
       have e3 := q5.blk.c3
       have e8 := q5.blk.c8
       have hT7 : typeE S t = if x.syn < 0 ∨ 8 < x.syn ∨ (1 < n1 ∧ (tyAt S (l.getD 1 0)).syn ≠ x.syn) ∨ 15 < x.index then 54 else tE7 S t := by
        rw [HT6.out]; unfold tE6; simp only [HLB.out.1, HX.out, HLB.out.2.1]
       have hone : 1 < n1 → ∃ p, p < S.types.length ∧ l.getD 1 0 = p ∧ w5.cell? ⟨gl, 1, none⟩ = some (.int .i64 (p : Int)) ∧ (p : Int) < (n0 : Int) ∧ w5.cell? ⟨tb, tx + p * 9 + 3, none⟩ = some (.int .i8 (tyAt S p).syn) := fun h1 => by
        have hl1 : 1 < l.length := by rw [HLB.out.2.1]; exact h1
        have hv := HV5.out.cell (intV_get hl1)
        have hpl := HLB.out.2.2.2.1 _ (List.getElem_mem hl1)
        have hT := (HTY.out.keep ((bnext HBW.out HB5.out).mono (Nat.le_of_lt HMK.out.lt)) (Zr _)).cell tb tx rfl l[1] _ (List.getElem?_eq_getElem hpl)
        have hsp : tyAt S l[1] = S.types[l[1]] := by unfold tyAt; simp [List.getD, hpl]
        rw [← hsp] at hT
        exact ⟨l[1], hpl, by simp [List.getD, hl1], hv, by have := HTY.out.len; omega, hT.c3⟩
       have HONE := Zh hone; have HT7 := Zh hT7; have HO1 := Zh (Zi HOK.out.syn HOK.out.index)
       clear hone hT7 q5
       generalize hxs : x.syn = xs at *
       have HXS := Zh hxs; clear hxs
       go_cut [109] from 75 to 109 (fun v wx => ∃ cb : Bool, v = .bool cb ∧ (typeE S t = if cb then 54 else tE7 S t) ∧ ∃ q, wx = w5.drewN q)
       case first =>
        by_cases hA : xs < 0
        ·have HA := Zh hA
         have hT8 : typeE S t = 54 := by rw [HT7.out, if_pos (.inl HA.out)]
         have HT8 := Zh hT8; clear hT8
         go_quiet (fail)
         go_wp2_with fail
         go_meet
         exact ⟨true, rfl, HT8.out, _, rfl⟩
        ·have hA1 : 0 ≤ xs := by omega
         by_cases hB : 8 < xs
         ·have HB := Zh hB
          have hAb : decide (xs < 0) = false := decide_eq_false (by omega)
          have hBb : decide (8 < xs) = true := decide_eq_true hB
          clear hA hA1 hB
          have hT8 : typeE S t = 54 := by rw [HT7.out, if_pos (.inr (.inl HB.out))]
          have HT8 := Zh hT8; clear hT8
          go_quiet (fail)
          go_wp2_with fail
          go_meet
          exact ⟨true, rfl, HT8.out, _, rfl⟩
         ·have hB1 : xs ≤ 8 := by omega
          have HAB := Zh (Zi hA hB)
          have hAb : decide (xs < 0) = false := decide_eq_false (by omega)
          have hBb : decide (8 < xs) = false := decide_eq_false (by omega)
          clear hA hB hA1 hB1
          by_cases h1n : 1 < n1
          ·obtain ⟨p, hp, hgp, f1, f2, f3⟩ := HONE.out h1n
           have HGP := Zh hgp; clear hgp
           have hpi : (0 : Int) ≤ (p : Int) := by omega
           have h1i : (1 : Int) < (n1 : Int) := by omega
           have h1b : decide ((1 : Int) < (n1 : Int)) = true := decide_eq_true h1i
           generalize hys : (tyAt S p).syn = ys at f3
           have HYS := Zh hys; clear hys
           by_cases hC : ys = xs
           ·subst hC
            by_cases hD : 15 < x.index
            ·have HD := Zh hD
             have hDb : decide (15 < x.index) = true := decide_eq_true hD
             clear hD
             have hT8 : typeE S t = 54 := by rw [HT7.out, if_pos (.inr (.inr (.inr HD.out)))]
             have HT8 := Zh hT8; clear hT8
             go_quiet (fail)
             go_wp2_with fail
             go_meet
             exact ⟨true, rfl, HT8.out, _, rfl⟩
            ·have hDb : decide (15 < x.index) = false := decide_eq_false hD
             have HD := Zh hD; clear hD
             have hT8 : typeE S t = tE7 S t := by rw [HT7.out, if_neg (by rintro (h | h | ⟨_, h⟩ | h); exact HAB.out.1 h; exact HAB.out.2 h; exact h (by rw [HGP.out, HYS.out]); exact HD.out h)]
             have HT8 := Zh hT8; clear hT8
             go_quiet (fail)
             go_wp2_with fail
             go_meet
             exact ⟨false, rfl, HT8.out, _, rfl⟩
           ·have hCb : (ys == xs) = false := by simpa using hC
            have hCn : (ys != xs) = true := by simpa using hC
            have HC := Zh hC; clear hC
            have hT8 : typeE S t = 54 := by rw [HT7.out, if_pos (.inr (.inr (.inl ⟨h1n, by rw [HGP.out, HYS.out]; exact HC.out⟩)))]
            have HT8 := Zh hT8; clear hT8
            go_quiet (fail)
            go_wp2_with fail
            go_meet
            exact ⟨true, rfl, HT8.out, _, rfl⟩
          ·have h1b : decide ((1 : Int) < (n1 : Int)) = false := decide_eq_false (by omega)
           have h1c : (n1 : Int) ≤ 1 := by omega
           have H1N := Zh h1n; clear h1n
           by_cases hD : 15 < x.index
           ·have HD := Zh hD
            have hDb : decide (15 < x.index) = true := decide_eq_true hD
            clear hD
            have hT8 : typeE S t = 54 := by rw [HT7.out, if_pos (.inr (.inr (.inr HD.out)))]
            have HT8 := Zh hT8; clear hT8
            go_quiet (fail)
            go_wp2_with fail
            go_meet
            exact ⟨true, rfl, HT8.out, _, rfl⟩
           ·have hDb : decide (15 < x.index) = false := decide_eq_false hD
            have HD := Zh hD; clear hD
            have hT8 : typeE S t = tE7 S t := by rw [HT7.out, if_neg (by rintro (h | h | ⟨h, _⟩ | h); exact HAB.out.1 h; exact HAB.out.2 h; exact H1N.out h; exact HD.out h)]
            have HT8 := Zh hT8; clear hT8
            go_quiet (fail)
            go_wp2_with fail
            go_meet
            exact ⟨false, rfl, HT8.out, _, rfl⟩
       case rest =>
        obtain ⟨cb, rfl, hT8, q, rfl⟩ := hcut
        cases cb with
        | true =>
         have HT8 := Zh hT8; clear hT8
         go_wp2_with fail
         go_ret
         exact ⟨by rw [HT8.out]; rfl, HMM.out ▸ bdrewN (bnext HBW.out HB5.out) q⟩
        | false =>
         have HT8 := Zh hT8; clear hT8
         have hvr := HV5.out.own.row
         have hinh := inherit_any S g t gl n1 cap l (w5.drewN q) (HMK.out.keep (bdrewN (bnext HBW.out HB5.out) q)) HLT.out.1 HLB.out.2.1.symm hn1a hn1c HV5.out.own.le HLB.out.2.2.2.1 (fun i hi => by
          have hil : i < l.length := by rw [HLB.out.2.1]; exact hi
          have := HV5.out.cell (intV_get hil)
          show w5.cell? _ = _
          rw [this]; simp [List.getD, hil]) hvr.lt
         have hfu : inheritT S t l = fullT S t := by unfold fullT; rw [HLB.out.1]
         rw [hfu] at hinh
         have hT9 : tE7 S t = if rulE x (fullT S t) 1 0 x.eq (fullT S t).eq || rulE x (fullT S t) 2 1 x.ord (fullT S t).ord || rulE x (fullT S t) 3 2 x.part (fullT S t).part then 54 else 0 := by unfold tE7; rw [HX.out]
         rw [hT9] at HT8
         generalize fullT S t = f at hinh HT8
         unfold InhPost tyAgg at hinh
         have HINH := Zh hinh
         clear hinh hvr hfu hT9 e0 e1 e3 e8 HT7 HONE
         have q5 := HTC.out.keep (bdrewN HB5.out q)
         have e0 := q5.m0
         clear q5
         go_wp2_with (first | (go_at_call 48; refine (HINH.out).mono ?_; rintro e w6 ⟨fa, fn, fc, rfl, hft, hb6⟩; have HB6 := Zh (bnext (bdrewN HB5.out q) hb6); have q6 := HTC.out.keep HB6.out; have k4 := q6.blk.c4; have k5 := q6.blk.c5; have k6 := q6.blk.c6; have hXl := q6.blk.lt; clear hb6 q6 hft) | fail)
         clear k4 k5 k6
         have hfb : TyBlk (w6.alloc (.cells #[.string f.oid, .slice fa fn fc, .string f.sup, .int .i8 f.syn, .int .i8 f.eq, .int .i8 f.ord, .int .i8 f.part, .bool f.single, .int .u8 f.index] 46)) w6.heap.size f (.slice fa fn fc) := TyBlk.made w6 f (.slice fa fn fc) 46
         have hb7 : Below w1.heap.size w1 (w6.alloc (.cells #[.string f.oid, .slice fa fn fc, .string f.sup, .int .i8 f.syn, .int .i8 f.eq, .int .i8 f.ord, .int .i8 f.part, .bool f.single, .int .u8 f.index] 46)) := HB6.out.alloc HB6.out.size _
         generalize w6.alloc (.cells #[.string f.oid, .slice fa fn fc, .string f.sup, .int .i8 f.syn, .int .i8 f.eq, .int .i8 f.ord, .int .i8 f.part, .bool f.single, .int .u8 f.index] 46) = w7 at hfb hb7 ⊢
         generalize w6.heap.size = F at hfb ⊢
         have H7 := Zh (Zi hfb hb7); clear hfb hb7 hXl
         go_loopw [121] (fun kv wr => ∃ k : Nat, kv = .int .i64 k ∧ k ≤ 3 ∧ (0 < k → rulE x f 1 0 x.eq f.eq = false) ∧ (1 < k → rulE x f 2 1 x.ord f.ord = false) ∧ (2 < k → rulE x f 3 2 x.part f.part = false) ∧ TyBlk wr F f (.slice fa fn fc) ∧ Below w1.heap.size w1 wr) (fun kv _ => 3 - (intOf kv).toNat)
         case atStart => exact ⟨0, rfl, by omega, fun h => by omega, fun h => by omega, fun h => by omega, H7.out.1, H7.out.2⟩
         case round =>
          obtain ⟨k, rfl, hk, r0, r1, r2, hfb, hbr⟩ := hrel
          have HR := Zh (Zi r0 (Zi r1 (Zi r2 (Zi hfb hbr)))); clear r0 r1 r2 hfb hbr
          by_cases hk3 : k < 3
          ·rcases (by omega : k = 0 ∨ k = 1 ∨ k = 2) with rfl | rfl | rfl
           ·rw [show ((0 : Nat) : Int) = 0 from rfl]
            obtain ⟨r, hr⟩ : ∃ r, x.eq = r := ⟨_, rfl⟩
            rw [hr]
            have hrb : -128 ≤ r ∧ r ≤ 127 := by rw [← hr]; exact HOK.out.eq
            have hof := fun wq (hb : Below wr.heap.size wr wq) => of_any r wq (HE.out.next (bnext HBW.out (bnext HR.out.2.2.2.2 hb))) hrb
            unfold lineAgg at hof
            have hix : (Instr.index 150 (.agg #[.int .i8 r, .int .i8 x.ord, .int .i8 x.part]) (.int .i64 0)).run Tryz.prog wr = .ok (.int .i8 r) wr := by kernel_rfl
            have hr2 : typeE S t = if (if false = true then 54 else if (rulE x f 1 0 x.eq f.eq || rulE x f 2 1 x.ord f.ord || rulE x f 3 2 x.part f.part) = true then 54 else 0) = 0 then 0 else 54 := by rw [HT8.out]; simp only [Bool.false_eq_true, if_false]; split <;> rfl
            have hru : rulE x f 1 0 x.eq f.eq = ((r != 0 && ((lineOf r).kind != 0 || (lineOf r).syn != xs)) || (x.index.toNat.testBit 1 && f.eq == 0)) := by unfold rulE; rw [hr, HXS.out]
            have hbad : rulE x f 1 0 x.eq f.eq = true → typeE S t = 54 := fun h => by rw [HT8.out, if_neg (by simp), if_pos (by rw [h]; simp)]
            have HR0 := Zh hrb; have HRX := Zh hr; clear hr hrb hr2
            generalize hL : lineOf r = L at hof hru
            have HOF := Zh hof; have HRUL := Zh hru; have HBAD := Zh hbad; clear hL hof hru hbad
            go_upto_region 21 with fail
            clear hix
            have q8 := HTC.out.keep HR.out.2.2.2.2
            have e3 := q8.blk.c3
            rw [HXS.out] at e3
            clear q8
            have hf3 : ∀ wq, (Instr.field 152 (.agg #[.string ⟨L.name.toArray⟩, .string ⟨L.oid.toArray⟩, .int .i8 L.syn, .int .i8 L.kind, .int .i8 L.form]) 3).run Tryz.prog wq = .ok (.int .i8 L.kind) wq := fun wq => by kernel_rfl
            have hf2 : ∀ wq, (Instr.field 152 (.agg #[.string ⟨L.name.toArray⟩, .string ⟨L.oid.toArray⟩, .int .i8 L.syn, .int .i8 L.kind, .int .i8 L.form]) 2).run Tryz.prog wq = .ok (.int .i8 L.syn) wq := fun wq => by kernel_rfl
            go_cut [142] from 125 to 142 (fun v wx => v = .bool (r != 0 && (L.kind != 0 || L.syn != xs)) ∧ Below wr.heap.size wr wx)
            case first =>
             have hw8 : IntKind.i8.wrap 0 = 0 := by decide
             by_cases hr0 : r = 0
             ·have hb0 : (r != 0) = false := by simpa using hr0
              have HB0 := Zh hb0
              clear hr0
              go_quiet (fail)
              go_wp2_with fail
              go_meet
              exact ⟨by rw [HB0.out]; rfl, bdrewN (Zl _ wr) _⟩
             ·have hb0 : (r != 0) = true := by simpa using hr0
              have HB0 := Zh hb0
              clear hr0
              by_cases hk0 : L.kind = 0
              ·have hbk : (L.kind != 0) = false := by simpa using hk0
               have HBK := Zh hbk
               clear hk0
               refine wp_region_held_drew (S := (fun w5 : World => w5.cell? ⟨X, 3, none⟩ = some (.int .i8 xs))) (by kernel_rfl) (by exact e3) (fun hS => ?_)
               refine Zk (i := 0) rfl ?rb0
               (try simp only [Act.put, Z1, Z2, Z3, Z4, Z5])
               refine Zk (i := 1) rfl ?rb1
               (try simp only [Act.put, Z1, Z2, Z3, Z4, Z5, Z6])
               refine Zk (i := 2) rfl ?rb2
               (try simp only [Act.put, Z1, Z2, Z3, Z4, Z5, Z6])
               refine Zk (i := 3) rfl ?rb3
               (try simp only [Act.put, Z1, Z2, Z3, Z4, Z5, Z6])
               refine Zk (i := 6) rfl ?rb6
               (try simp only [Act.put, Z1, Z2, Z3, Z4, Z5, Z6])
               refine Zk (i := 7) rfl ?rb7
               (try simp only [Act.put, Z1, Z2, Z3, Z4, Z5, Z6])
               refine wpAnyH_ready (rs := [4]) (by kernel_rfl) (by simp) ?_
               refine AllReadyH.cons rfl (fun K1 hK1 => ?_) AllReadyH.nil
               go_simp
               go_at_call 92; refine (HOF.out _ ((Zl _ wr).drew)).mono ?_; rintro e wa ⟨rfl, hba⟩; have HA := Zh (bnext ((Zl _ wr).drew) hba); clear hba
               go_wp2_with fail
               refine hK1.out _ _ ?_ (fun hHeld => ?_)
               ·exact (HA.out.cell (Zb wr _ e3)).trans e3
               clear hK1 K1 hS
               (try simp only [Act.put, Z1, Z2, Z3, Z4, Z5, Z6])
               refine Zk (i := 5) rfl ?rb5
               (try simp only [Act.put, Z1, Z2, Z3, Z4, Z5, Z6])
               refine Zk (i := 8) rfl ?rb8
               (try simp only [Act.put, Z1, Z2, Z3, Z4, Z5, Z6])
               refine Zk (i := 9) rfl ?rb9
               (try simp only [Act.put, Z1, Z2, Z3, Z4, Z5, Z6])
               refine Zk (i := 10) rfl ?rb10
               (try simp only [Act.put, Z1, Z2, Z3, Z4, Z5, Z6])
               refine Zk (i := 13) rfl ?rb13
               (try simp only [Act.put, Z1, Z2, Z3, Z4, Z5, Z6])
               refine Zk (i := 14) rfl ?rb14
               (try simp only [Act.put, Z1, Z2, Z3, Z4, Z5, Z6])
               refine wpAnyH_ready (rs := [11]) (by kernel_rfl) (by simp) ?_
               refine AllReadyH.cons rfl (fun K1 hK1 => ?_) AllReadyH.nil
               go_simp
               go_at_call 92; refine (HOF.out _ (HA.out)).mono ?_; rintro e wb ⟨rfl, hba⟩; have HB := Zh (bnext (HA.out) hba); clear hba
               go_wp2_with fail
               refine hK1.out _ _ ?_ (fun hHeld => ?_)
               ·exact (HB.out.cell (Zb wr _ e3)).trans e3
               clear hK1 K1
               (try simp only [Act.put, Z1, Z2, Z3, Z4, Z5, Z6])
               refine Zk (i := 12) rfl ?rb12
               (try simp only [Act.put, Z1, Z2, Z3, Z4, Z5, Z6])
               refine Zk (i := 15) rfl ?rb15
               (try simp only [Act.put, Z1, Z2, Z3, Z4, Z5, Z6])
               refine Zk (i := 16) rfl ?rb16
               (try simp only [Act.put, Z1, Z2, Z3, Z4, Z5, Z6])
               refine Zk (i := 17) rfl ?rb17
               (try simp only [Act.put, Z1, Z2, Z3, Z4, Z5, Z6])
               refine wpAnyH_done (by kernel_rfl) ?_ _
               go_wp2_with fail
               go_meet
               exact ⟨by rw [HB0.out, HBK.out]; rfl, HB.out⟩
              ·have hbk : (L.kind != 0) = true := by simpa using hk0
               have HBK := Zh hbk
               clear hk0
               refine wp_region_held_drew (S := (fun w5 : World => w5.cell? ⟨X, 3, none⟩ = some (.int .i8 xs))) (by kernel_rfl) (by exact e3) (fun hS => ?_)
               refine Zk (i := 0) rfl ?rc0
               (try simp only [Act.put, Z1, Z2, Z3, Z4, Z5])
               refine Zk (i := 1) rfl ?rc1
               (try simp only [Act.put, Z1, Z2, Z3, Z4, Z5, Z6])
               refine Zk (i := 2) rfl ?rc2
               (try simp only [Act.put, Z1, Z2, Z3, Z4, Z5, Z6])
               refine Zk (i := 3) rfl ?rc3
               (try simp only [Act.put, Z1, Z2, Z3, Z4, Z5, Z6])
               refine Zk (i := 6) rfl ?rc6
               (try simp only [Act.put, Z1, Z2, Z3, Z4, Z5, Z6])
               refine Zk (i := 7) rfl ?rc7
               (try simp only [Act.put, Z1, Z2, Z3, Z4, Z5, Z6])
               refine wpAnyH_ready (rs := [4]) (by kernel_rfl) (by simp) ?_
               refine AllReadyH.cons rfl (fun K1 hK1 => ?_) AllReadyH.nil
               go_simp
               go_at_call 92; refine (HOF.out _ ((Zl _ wr).drew)).mono ?_; rintro e wa ⟨rfl, hba⟩; have HA := Zh (bnext ((Zl _ wr).drew) hba); clear hba
               go_wp2_with fail
               refine hK1.out _ _ ?_ (fun hHeld => ?_)
               ·exact (HA.out.cell (Zb wr _ e3)).trans e3
               clear hK1 K1 hS
               (try simp only [Act.put, Z1, Z2, Z3, Z4, Z5, Z6])
               refine Zk (i := 5) rfl ?rc5
               (try simp only [Act.put, Z1, Z2, Z3, Z4, Z5, Z6])
               refine Zk (i := 8) rfl ?rc8
               (try simp only [Act.put, Z1, Z2, Z3, Z4, Z5, Z6])
               refine Zk (i := 9) rfl ?rc9
               (try simp only [Act.put, Z1, Z2, Z3, Z4, Z5, Z6])
               refine wpAnyH_take (i := 10) (v := undef) rfl (by kernel_rfl) (by kernel_rfl) (by kernel_rfl) (fun _ _ _ h => h) (Or.inr ⟨by rfl, rfl⟩) (by assumption) ?rc10
               (try simp only [Act.put, Z1, Z2, Z3, Z4, Z5, Z6])
               refine wpAnyH_take (i := 11) (v := undef) rfl (by kernel_rfl) (by kernel_rfl) (by kernel_rfl) (fun _ _ _ h => h) (Or.inr ⟨by rfl, rfl⟩) (by assumption) ?rc11
               (try simp only [Act.put, Z1, Z2, Z3, Z4, Z5, Z6])
               refine wpAnyH_take (i := 12) (v := undef) rfl (by kernel_rfl) (by kernel_rfl) (by kernel_rfl) (fun _ _ _ h => h) (Or.inr ⟨by rfl, rfl⟩) (by assumption) ?rc12
               (try simp only [Act.put, Z1, Z2, Z3, Z4, Z5, Z6])
               refine wpAnyH_take (i := 13) (v := undef) rfl (by kernel_rfl) (by kernel_rfl) (by kernel_rfl) (fun _ _ _ h => h) (Or.inr ⟨by rfl, rfl⟩) (by assumption) ?rc13
               (try simp only [Act.put, Z1, Z2, Z3, Z4, Z5, Z6])
               refine wpAnyH_take (i := 14) (v := undef) rfl (by kernel_rfl) (by kernel_rfl) (by kernel_rfl) (fun _ _ _ h => h) (Or.inr ⟨by rfl, rfl⟩) (by assumption) ?rc14
               (try simp only [Act.put, Z1, Z2, Z3, Z4, Z5, Z6])
               refine wpAnyH_take (i := 15) (v := undef) rfl (by kernel_rfl) (by kernel_rfl) (by kernel_rfl) (fun _ _ _ h => h) (Or.inr ⟨by rfl, rfl⟩) (by assumption) ?rc15
               (try simp only [Act.put, Z1, Z2, Z3, Z4, Z5, Z6])
               refine Zk (i := 16) rfl ?rc16
               (try simp only [Act.put, Z1, Z2, Z3, Z4, Z5, Z6])
               refine Zk (i := 17) rfl ?rc17
               (try simp only [Act.put, Z1, Z2, Z3, Z4, Z5, Z6])
               refine wpAnyH_done (by kernel_rfl) ?_ _
               go_wp2_with fail
               go_meet
               exact ⟨by rw [HB0.out, HBK.out]; rfl, HA.out⟩
            case rest =>
             obtain ⟨rfl, hbx⟩ := hcut
             have HBX := Zh hbx; clear hbx e3 hf3 hf2
             cases hc1 : (r != 0 && (L.kind != 0 || L.syn != xs)) with
             | true =>
              have hf : typeE S t = 54 := HBAD.out (by rw [HRUL.out, hc1]; rfl)
              have HF := Zh hf; clear hf hc1
              go_wp2_with fail
              go_ret
              exact ⟨by rw [HF.out]; rfl, HMM.out ▸ (bnext HBW.out (bnext HR.out.2.2.2.2 HBX.out))⟩
             | false =>
              have HC1 := Zh hc1; clear hc1
              go_upto_region 23 with fail
              have hfb := HR.out.2.2.2.1.keep HBX.out
              have f4 := hfb.c4
              have f5 := hfb.c5
              have f6 := hfb.c6
              have q8 := HTC.out.keep (bnext HR.out.2.2.2.2 HBX.out)
              have e8 := q8.blk.c8
              clear q8 hfb
              have hxi := HOK.out.index
              generalize hIX : x.index = ix at *
              have HIX := Zh hIX; clear hIX
              go_cut [160] from 143 to 160 (fun v wx => v = .bool (ix.toNat.testBit 1 && f.eq == 0) ∧ Below wc.heap.size wc wx)
              case first =>
               have hbt := bit1 hxi
               clear hxi
               cases hb : ix.toNat.testBit 1 with
               | false =>
                rw [hb] at hbt
                have hbt2 : (bits BinOp.and IntKind.u8 ix 2 == 0) = true := by simpa using hbt
                go_quiet (fail)
                go_wp2_with fail
                go_meet
                exact ⟨by rw [hb]; rfl, bdrewN (Zl _ wc) _⟩
               | true =>
                rw [hb] at hbt
                have hbt2 : (bits BinOp.and IntKind.u8 ix 2 == 0) = false := by simpa using hbt
                have hix2 : ∀ wq, (Instr.index 150 (.agg #[.int .i8 f.eq, .int .i8 f.ord, .int .i8 f.part]) (.int .i64 0)).run Tryz.prog wq = .ok (.int .i8 f.eq) wq := fun wq => by kernel_rfl
                go_quiet (fail)
                go_wp2_with fail
                go_meet
                exact ⟨by rw [hb]; simp, bdrewN (Zl _ wc) _⟩
              case rest =>
               obtain ⟨rfl, hbx⟩ := hcut
               have HBY := Zh hbx; clear hbx f4 f5 f6 e8
               cases hc2 : (ix.toNat.testBit 1 && f.eq == 0) with
               | true =>
                have hf : typeE S t = 54 := HBAD.out (by rw [HRUL.out, hc2]; simp)
                have HF := Zh hf; clear hf hc2
                go_wp2_with fail
                go_ret
                exact ⟨by rw [HF.out]; rfl, HMM.out ▸ (bnext HBW.out (bnext HR.out.2.2.2.2 (bnext HBX.out HBY.out)))⟩
               | false =>
                have hru : rulE x f 1 0 x.eq f.eq = false := by rw [HRUL.out, HC1.out, hc2]; rfl
                have HRU := Zh hru; clear hru hc2
                have h1 := HIX.out; subst h1
                have h2 := HRX.out; subst h2
                go_wp2_with fail
                refine ⟨⟨1, rfl, by omega, fun _ => HRU.out, fun h => by omega, fun h => by omega, (HR.out.2.2.2.1.keep HBX.out).keep HBY.out, bnext HR.out.2.2.2.2 (bnext HBX.out HBY.out)⟩, by simp [intOf]⟩
           ·rw [show ((1 : Nat) : Int) = 1 from rfl]
            obtain ⟨r, hr⟩ : ∃ r, x.ord = r := ⟨_, rfl⟩
            rw [hr]
            have hrb : -128 ≤ r ∧ r ≤ 127 := by rw [← hr]; exact HOK.out.ord
            have hof := fun wq (hb : Below wr.heap.size wr wq) => of_any r wq (HE.out.next (bnext HBW.out (bnext HR.out.2.2.2.2 hb))) hrb
            unfold lineAgg at hof
            have hix : (Instr.index 150 (.agg #[.int .i8 x.eq, .int .i8 r, .int .i8 x.part]) (.int .i64 1)).run Tryz.prog wr = .ok (.int .i8 r) wr := by kernel_rfl
            have hr2 : typeE S t = if (if false = true then 54 else if (rulE x f 1 0 x.eq f.eq || rulE x f 2 1 x.ord f.ord || rulE x f 3 2 x.part f.part) = true then 54 else 0) = 0 then 0 else 54 := by rw [HT8.out]; simp only [Bool.false_eq_true, if_false]; split <;> rfl
            have hru : rulE x f 2 1 x.ord f.ord = ((r != 0 && ((lineOf r).kind != 1 || (lineOf r).syn != xs)) || (x.index.toNat.testBit 2 && f.ord == 0)) := by unfold rulE; rw [hr, HXS.out]
            have hbad : rulE x f 2 1 x.ord f.ord = true → typeE S t = 54 := fun h => by rw [HT8.out, if_neg (by simp), if_pos (by rw [h]; simp)]
            have HR0 := Zh hrb; have HRX := Zh hr; clear hr hrb hr2
            generalize hL : lineOf r = L at hof hru
            have HOF := Zh hof; have HRUL := Zh hru; have HBAD := Zh hbad; clear hL hof hru hbad
            go_upto_region 21 with fail
            clear hix
            have q8 := HTC.out.keep HR.out.2.2.2.2
            have e3 := q8.blk.c3
            rw [HXS.out] at e3
            clear q8
            have hf3 : ∀ wq, (Instr.field 152 (.agg #[.string ⟨L.name.toArray⟩, .string ⟨L.oid.toArray⟩, .int .i8 L.syn, .int .i8 L.kind, .int .i8 L.form]) 3).run Tryz.prog wq = .ok (.int .i8 L.kind) wq := fun wq => by kernel_rfl
            have hf2 : ∀ wq, (Instr.field 152 (.agg #[.string ⟨L.name.toArray⟩, .string ⟨L.oid.toArray⟩, .int .i8 L.syn, .int .i8 L.kind, .int .i8 L.form]) 2).run Tryz.prog wq = .ok (.int .i8 L.syn) wq := fun wq => by kernel_rfl
            go_cut [142] from 125 to 142 (fun v wx => v = .bool (r != 0 && (L.kind != 1 || L.syn != xs)) ∧ Below wr.heap.size wr wx)
            case first =>
             have hw8 : IntKind.i8.wrap 1 = 1 := by decide
             by_cases hr0 : r = 0
             ·have hb0 : (r != 0) = false := by simpa using hr0
              have HB0 := Zh hb0
              clear hr0
              go_quiet (fail)
              go_wp2_with fail
              go_meet
              exact ⟨by rw [HB0.out]; rfl, bdrewN (Zl _ wr) _⟩
             ·have hb0 : (r != 0) = true := by simpa using hr0
              have HB0 := Zh hb0
              clear hr0
              by_cases hk0 : L.kind = 1
              ·have hbk : (L.kind != 1) = false := by simpa using hk0
               have HBK := Zh hbk
               clear hk0
               refine wp_region_held_drew (S := (fun w5 : World => w5.cell? ⟨X, 3, none⟩ = some (.int .i8 xs))) (by kernel_rfl) (by exact e3) (fun hS => ?_)
               refine Zk (i := 0) rfl ?rd0
               (try simp only [Act.put, Z1, Z2, Z3, Z4, Z5])
               refine Zk (i := 1) rfl ?rd1
               (try simp only [Act.put, Z1, Z2, Z3, Z4, Z5, Z6])
               refine Zk (i := 2) rfl ?rd2
               (try simp only [Act.put, Z1, Z2, Z3, Z4, Z5, Z6])
               refine Zk (i := 3) rfl ?rd3
               (try simp only [Act.put, Z1, Z2, Z3, Z4, Z5, Z6])
               refine Zk (i := 6) rfl ?rd6
               (try simp only [Act.put, Z1, Z2, Z3, Z4, Z5, Z6])
               refine Zk (i := 7) rfl ?rd7
               (try simp only [Act.put, Z1, Z2, Z3, Z4, Z5, Z6])
               refine wpAnyH_ready (rs := [4]) (by kernel_rfl) (by simp) ?_
               refine AllReadyH.cons rfl (fun K1 hK1 => ?_) AllReadyH.nil
               go_simp
               go_at_call 92; refine (HOF.out _ ((Zl _ wr).drew)).mono ?_; rintro e wa ⟨rfl, hba⟩; have HA := Zh (bnext ((Zl _ wr).drew) hba); clear hba
               go_wp2_with fail
               refine hK1.out _ _ ?_ (fun hHeld => ?_)
               ·exact (HA.out.cell (Zb wr _ e3)).trans e3
               clear hK1 K1 hS
               (try simp only [Act.put, Z1, Z2, Z3, Z4, Z5, Z6])
               refine Zk (i := 5) rfl ?rd5
               (try simp only [Act.put, Z1, Z2, Z3, Z4, Z5, Z6])
               refine Zk (i := 8) rfl ?rd8
               (try simp only [Act.put, Z1, Z2, Z3, Z4, Z5, Z6])
               refine Zk (i := 9) rfl ?rd9
               (try simp only [Act.put, Z1, Z2, Z3, Z4, Z5, Z6])
               refine Zk (i := 10) rfl ?rd10
               (try simp only [Act.put, Z1, Z2, Z3, Z4, Z5, Z6])
               refine Zk (i := 13) rfl ?rd13
               (try simp only [Act.put, Z1, Z2, Z3, Z4, Z5, Z6])
               refine Zk (i := 14) rfl ?rd14
               (try simp only [Act.put, Z1, Z2, Z3, Z4, Z5, Z6])
               refine wpAnyH_ready (rs := [11]) (by kernel_rfl) (by simp) ?_
               refine AllReadyH.cons rfl (fun K1 hK1 => ?_) AllReadyH.nil
               go_simp
               go_at_call 92; refine (HOF.out _ (HA.out)).mono ?_; rintro e wb ⟨rfl, hba⟩; have HB := Zh (bnext (HA.out) hba); clear hba
               go_wp2_with fail
               refine hK1.out _ _ ?_ (fun hHeld => ?_)
               ·exact (HB.out.cell (Zb wr _ e3)).trans e3
               clear hK1 K1
               (try simp only [Act.put, Z1, Z2, Z3, Z4, Z5, Z6])
               refine Zk (i := 12) rfl ?rd12
               (try simp only [Act.put, Z1, Z2, Z3, Z4, Z5, Z6])
               refine Zk (i := 15) rfl ?rd15
               (try simp only [Act.put, Z1, Z2, Z3, Z4, Z5, Z6])
               refine Zk (i := 16) rfl ?rd16
               (try simp only [Act.put, Z1, Z2, Z3, Z4, Z5, Z6])
               refine Zk (i := 17) rfl ?rd17
               (try simp only [Act.put, Z1, Z2, Z3, Z4, Z5, Z6])
               refine wpAnyH_done (by kernel_rfl) ?_ _
               go_wp2_with fail
               go_meet
               exact ⟨by rw [HB0.out, HBK.out]; rfl, HB.out⟩
              ·have hbk : (L.kind != 1) = true := by simpa using hk0
               have HBK := Zh hbk
               clear hk0
               refine wp_region_held_drew (S := (fun w5 : World => w5.cell? ⟨X, 3, none⟩ = some (.int .i8 xs))) (by kernel_rfl) (by exact e3) (fun hS => ?_)
               refine Zk (i := 0) rfl ?re0
               (try simp only [Act.put, Z1, Z2, Z3, Z4, Z5])
               refine Zk (i := 1) rfl ?re1
               (try simp only [Act.put, Z1, Z2, Z3, Z4, Z5, Z6])
               refine Zk (i := 2) rfl ?re2
               (try simp only [Act.put, Z1, Z2, Z3, Z4, Z5, Z6])
               refine Zk (i := 3) rfl ?re3
               (try simp only [Act.put, Z1, Z2, Z3, Z4, Z5, Z6])
               refine Zk (i := 6) rfl ?re6
               (try simp only [Act.put, Z1, Z2, Z3, Z4, Z5, Z6])
               refine Zk (i := 7) rfl ?re7
               (try simp only [Act.put, Z1, Z2, Z3, Z4, Z5, Z6])
               refine wpAnyH_ready (rs := [4]) (by kernel_rfl) (by simp) ?_
               refine AllReadyH.cons rfl (fun K1 hK1 => ?_) AllReadyH.nil
               go_simp
               go_at_call 92; refine (HOF.out _ ((Zl _ wr).drew)).mono ?_; rintro e wa ⟨rfl, hba⟩; have HA := Zh (bnext ((Zl _ wr).drew) hba); clear hba
               go_wp2_with fail
               refine hK1.out _ _ ?_ (fun hHeld => ?_)
               ·exact (HA.out.cell (Zb wr _ e3)).trans e3
               clear hK1 K1 hS
               (try simp only [Act.put, Z1, Z2, Z3, Z4, Z5, Z6])
               refine Zk (i := 5) rfl ?re5
               (try simp only [Act.put, Z1, Z2, Z3, Z4, Z5, Z6])
               refine Zk (i := 8) rfl ?re8
               (try simp only [Act.put, Z1, Z2, Z3, Z4, Z5, Z6])
               refine Zk (i := 9) rfl ?re9
               (try simp only [Act.put, Z1, Z2, Z3, Z4, Z5, Z6])
               refine wpAnyH_take (i := 10) (v := undef) rfl (by kernel_rfl) (by kernel_rfl) (by kernel_rfl) (fun _ _ _ h => h) (Or.inr ⟨by rfl, rfl⟩) (by assumption) ?re10
               (try simp only [Act.put, Z1, Z2, Z3, Z4, Z5, Z6])
               refine wpAnyH_take (i := 11) (v := undef) rfl (by kernel_rfl) (by kernel_rfl) (by kernel_rfl) (fun _ _ _ h => h) (Or.inr ⟨by rfl, rfl⟩) (by assumption) ?re11
               (try simp only [Act.put, Z1, Z2, Z3, Z4, Z5, Z6])
               refine wpAnyH_take (i := 12) (v := undef) rfl (by kernel_rfl) (by kernel_rfl) (by kernel_rfl) (fun _ _ _ h => h) (Or.inr ⟨by rfl, rfl⟩) (by assumption) ?re12
               (try simp only [Act.put, Z1, Z2, Z3, Z4, Z5, Z6])
               refine wpAnyH_take (i := 13) (v := undef) rfl (by kernel_rfl) (by kernel_rfl) (by kernel_rfl) (fun _ _ _ h => h) (Or.inr ⟨by rfl, rfl⟩) (by assumption) ?re13
               (try simp only [Act.put, Z1, Z2, Z3, Z4, Z5, Z6])
               refine wpAnyH_take (i := 14) (v := undef) rfl (by kernel_rfl) (by kernel_rfl) (by kernel_rfl) (fun _ _ _ h => h) (Or.inr ⟨by rfl, rfl⟩) (by assumption) ?re14
               (try simp only [Act.put, Z1, Z2, Z3, Z4, Z5, Z6])
               refine wpAnyH_take (i := 15) (v := undef) rfl (by kernel_rfl) (by kernel_rfl) (by kernel_rfl) (fun _ _ _ h => h) (Or.inr ⟨by rfl, rfl⟩) (by assumption) ?re15
               (try simp only [Act.put, Z1, Z2, Z3, Z4, Z5, Z6])
               refine Zk (i := 16) rfl ?re16
               (try simp only [Act.put, Z1, Z2, Z3, Z4, Z5, Z6])
               refine Zk (i := 17) rfl ?re17
               (try simp only [Act.put, Z1, Z2, Z3, Z4, Z5, Z6])
               refine wpAnyH_done (by kernel_rfl) ?_ _
               go_wp2_with fail
               go_meet
               exact ⟨by rw [HB0.out, HBK.out]; rfl, HA.out⟩
            case rest =>
             obtain ⟨rfl, hbx⟩ := hcut
             have HBX := Zh hbx; clear hbx e3 hf3 hf2
             cases hc1 : (r != 0 && (L.kind != 1 || L.syn != xs)) with
             | true =>
              have hf : typeE S t = 54 := HBAD.out (by rw [HRUL.out, hc1]; rfl)
              have HF := Zh hf; clear hf hc1
              go_wp2_with fail
              go_ret
              exact ⟨by rw [HF.out]; rfl, HMM.out ▸ (bnext HBW.out (bnext HR.out.2.2.2.2 HBX.out))⟩
             | false =>
              have HC1 := Zh hc1; clear hc1
              go_upto_region 23 with fail
              have hfb := HR.out.2.2.2.1.keep HBX.out
              have f4 := hfb.c4
              have f5 := hfb.c5
              have f6 := hfb.c6
              have q8 := HTC.out.keep (bnext HR.out.2.2.2.2 HBX.out)
              have e8 := q8.blk.c8
              clear q8 hfb
              have hxi := HOK.out.index
              generalize hIX : x.index = ix at *
              have HIX := Zh hIX; clear hIX
              go_cut [160] from 143 to 160 (fun v wx => v = .bool (ix.toNat.testBit 2 && f.ord == 0) ∧ Below wc.heap.size wc wx)
              case first =>
               have hbt := bit2 hxi
               clear hxi
               cases hb : ix.toNat.testBit 2 with
               | false =>
                rw [hb] at hbt
                have hbt2 : (bits BinOp.and IntKind.u8 ix 4 == 0) = true := by simpa using hbt
                go_quiet (fail)
                go_wp2_with fail
                go_meet
                exact ⟨by rw [hb]; rfl, bdrewN (Zl _ wc) _⟩
               | true =>
                rw [hb] at hbt
                have hbt2 : (bits BinOp.and IntKind.u8 ix 4 == 0) = false := by simpa using hbt
                have hix2 : ∀ wq, (Instr.index 150 (.agg #[.int .i8 f.eq, .int .i8 f.ord, .int .i8 f.part]) (.int .i64 1)).run Tryz.prog wq = .ok (.int .i8 f.ord) wq := fun wq => by kernel_rfl
                go_quiet (fail)
                go_wp2_with fail
                go_meet
                exact ⟨by rw [hb]; simp, bdrewN (Zl _ wc) _⟩
              case rest =>
               obtain ⟨rfl, hbx⟩ := hcut
               have HBY := Zh hbx; clear hbx f4 f5 f6 e8
               cases hc2 : (ix.toNat.testBit 2 && f.ord == 0) with
               | true =>
                have hf : typeE S t = 54 := HBAD.out (by rw [HRUL.out, hc2]; simp)
                have HF := Zh hf; clear hf hc2
                go_wp2_with fail
                go_ret
                exact ⟨by rw [HF.out]; rfl, HMM.out ▸ (bnext HBW.out (bnext HR.out.2.2.2.2 (bnext HBX.out HBY.out)))⟩
               | false =>
                have hru : rulE x f 2 1 x.ord f.ord = false := by rw [HRUL.out, HC1.out, hc2]; rfl
                have HRU := Zh hru; clear hru hc2
                have h1 := HIX.out; subst h1
                have h2 := HRX.out; subst h2
                go_wp2_with fail
                refine ⟨⟨2, rfl, by omega, fun h => HR.out.1 (by omega), fun _ => HRU.out, fun h => by omega, (HR.out.2.2.2.1.keep HBX.out).keep HBY.out, bnext HR.out.2.2.2.2 (bnext HBX.out HBY.out)⟩, by simp [intOf]⟩
           ·rw [show ((2 : Nat) : Int) = 2 from rfl]
            obtain ⟨r, hr⟩ : ∃ r, x.part = r := ⟨_, rfl⟩
            rw [hr]
            have hrb : -128 ≤ r ∧ r ≤ 127 := by rw [← hr]; exact HOK.out.part
            have hof := fun wq (hb : Below wr.heap.size wr wq) => of_any r wq (HE.out.next (bnext HBW.out (bnext HR.out.2.2.2.2 hb))) hrb
            unfold lineAgg at hof
            have hix : (Instr.index 150 (.agg #[.int .i8 x.eq, .int .i8 x.ord, .int .i8 r]) (.int .i64 2)).run Tryz.prog wr = .ok (.int .i8 r) wr := by kernel_rfl
            have hr2 : typeE S t = if (if false = true then 54 else if (rulE x f 1 0 x.eq f.eq || rulE x f 2 1 x.ord f.ord || rulE x f 3 2 x.part f.part) = true then 54 else 0) = 0 then 0 else 54 := by rw [HT8.out]; simp only [Bool.false_eq_true, if_false]; split <;> rfl
            have hru : rulE x f 3 2 x.part f.part = ((r != 0 && ((lineOf r).kind != 2 || (lineOf r).syn != xs)) || (x.index.toNat.testBit 3 && f.part == 0)) := by unfold rulE; rw [hr, HXS.out]
            have hbad : rulE x f 3 2 x.part f.part = true → typeE S t = 54 := fun h => by rw [HT8.out, if_neg (by simp), if_pos (by rw [h]; simp)]
            have HR0 := Zh hrb; have HRX := Zh hr; clear hr hrb hr2
            generalize hL : lineOf r = L at hof hru
            have HOF := Zh hof; have HRUL := Zh hru; have HBAD := Zh hbad; clear hL hof hru hbad
            go_upto_region 21 with fail
            clear hix
            have q8 := HTC.out.keep HR.out.2.2.2.2
            have e3 := q8.blk.c3
            rw [HXS.out] at e3
            clear q8
            have hf3 : ∀ wq, (Instr.field 152 (.agg #[.string ⟨L.name.toArray⟩, .string ⟨L.oid.toArray⟩, .int .i8 L.syn, .int .i8 L.kind, .int .i8 L.form]) 3).run Tryz.prog wq = .ok (.int .i8 L.kind) wq := fun wq => by kernel_rfl
            have hf2 : ∀ wq, (Instr.field 152 (.agg #[.string ⟨L.name.toArray⟩, .string ⟨L.oid.toArray⟩, .int .i8 L.syn, .int .i8 L.kind, .int .i8 L.form]) 2).run Tryz.prog wq = .ok (.int .i8 L.syn) wq := fun wq => by kernel_rfl
            go_cut [142] from 125 to 142 (fun v wx => v = .bool (r != 0 && (L.kind != 2 || L.syn != xs)) ∧ Below wr.heap.size wr wx)
            case first =>
             have hw8 : IntKind.i8.wrap 2 = 2 := by decide
             by_cases hr0 : r = 0
             ·have hb0 : (r != 0) = false := by simpa using hr0
              have HB0 := Zh hb0
              clear hr0
              go_quiet (fail)
              go_wp2_with fail
              go_meet
              exact ⟨by rw [HB0.out]; rfl, bdrewN (Zl _ wr) _⟩
             ·have hb0 : (r != 0) = true := by simpa using hr0
              have HB0 := Zh hb0
              clear hr0
              by_cases hk0 : L.kind = 2
              ·have hbk : (L.kind != 2) = false := by simpa using hk0
               have HBK := Zh hbk
               clear hk0
               refine wp_region_held_drew (S := (fun w5 : World => w5.cell? ⟨X, 3, none⟩ = some (.int .i8 xs))) (by kernel_rfl) (by exact e3) (fun hS => ?_)
               refine Zk (i := 0) rfl ?rf0
               (try simp only [Act.put, Z1, Z2, Z3, Z4, Z5])
               refine Zk (i := 1) rfl ?rf1
               (try simp only [Act.put, Z1, Z2, Z3, Z4, Z5, Z6])
               refine Zk (i := 2) rfl ?rf2
               (try simp only [Act.put, Z1, Z2, Z3, Z4, Z5, Z6])
               refine Zk (i := 3) rfl ?rf3
               (try simp only [Act.put, Z1, Z2, Z3, Z4, Z5, Z6])
               refine Zk (i := 6) rfl ?rf6
               (try simp only [Act.put, Z1, Z2, Z3, Z4, Z5, Z6])
               refine Zk (i := 7) rfl ?rf7
               (try simp only [Act.put, Z1, Z2, Z3, Z4, Z5, Z6])
               refine wpAnyH_ready (rs := [4]) (by kernel_rfl) (by simp) ?_
               refine AllReadyH.cons rfl (fun K1 hK1 => ?_) AllReadyH.nil
               go_simp
               go_at_call 92; refine (HOF.out _ ((Zl _ wr).drew)).mono ?_; rintro e wa ⟨rfl, hba⟩; have HA := Zh (bnext ((Zl _ wr).drew) hba); clear hba
               go_wp2_with fail
               refine hK1.out _ _ ?_ (fun hHeld => ?_)
               ·exact (HA.out.cell (Zb wr _ e3)).trans e3
               clear hK1 K1 hS
               (try simp only [Act.put, Z1, Z2, Z3, Z4, Z5, Z6])
               refine Zk (i := 5) rfl ?rf5
               (try simp only [Act.put, Z1, Z2, Z3, Z4, Z5, Z6])
               refine Zk (i := 8) rfl ?rf8
               (try simp only [Act.put, Z1, Z2, Z3, Z4, Z5, Z6])
               refine Zk (i := 9) rfl ?rf9
               (try simp only [Act.put, Z1, Z2, Z3, Z4, Z5, Z6])
               refine Zk (i := 10) rfl ?rf10
               (try simp only [Act.put, Z1, Z2, Z3, Z4, Z5, Z6])
               refine Zk (i := 13) rfl ?rf13
               (try simp only [Act.put, Z1, Z2, Z3, Z4, Z5, Z6])
               refine Zk (i := 14) rfl ?rf14
               (try simp only [Act.put, Z1, Z2, Z3, Z4, Z5, Z6])
               refine wpAnyH_ready (rs := [11]) (by kernel_rfl) (by simp) ?_
               refine AllReadyH.cons rfl (fun K1 hK1 => ?_) AllReadyH.nil
               go_simp
               go_at_call 92; refine (HOF.out _ (HA.out)).mono ?_; rintro e wb ⟨rfl, hba⟩; have HB := Zh (bnext (HA.out) hba); clear hba
               go_wp2_with fail
               refine hK1.out _ _ ?_ (fun hHeld => ?_)
               ·exact (HB.out.cell (Zb wr _ e3)).trans e3
               clear hK1 K1
               (try simp only [Act.put, Z1, Z2, Z3, Z4, Z5, Z6])
               refine Zk (i := 12) rfl ?rf12
               (try simp only [Act.put, Z1, Z2, Z3, Z4, Z5, Z6])
               refine Zk (i := 15) rfl ?rf15
               (try simp only [Act.put, Z1, Z2, Z3, Z4, Z5, Z6])
               refine Zk (i := 16) rfl ?rf16
               (try simp only [Act.put, Z1, Z2, Z3, Z4, Z5, Z6])
               refine Zk (i := 17) rfl ?rf17
               (try simp only [Act.put, Z1, Z2, Z3, Z4, Z5, Z6])
               refine wpAnyH_done (by kernel_rfl) ?_ _
               go_wp2_with fail
               go_meet
               exact ⟨by rw [HB0.out, HBK.out]; rfl, HB.out⟩
              ·have hbk : (L.kind != 2) = true := by simpa using hk0
               have HBK := Zh hbk
               clear hk0
               refine wp_region_held_drew (S := (fun w5 : World => w5.cell? ⟨X, 3, none⟩ = some (.int .i8 xs))) (by kernel_rfl) (by exact e3) (fun hS => ?_)
               refine Zk (i := 0) rfl ?rg0
               (try simp only [Act.put, Z1, Z2, Z3, Z4, Z5])
               refine Zk (i := 1) rfl ?rg1
               (try simp only [Act.put, Z1, Z2, Z3, Z4, Z5, Z6])
               refine Zk (i := 2) rfl ?rg2
               (try simp only [Act.put, Z1, Z2, Z3, Z4, Z5, Z6])
               refine Zk (i := 3) rfl ?rg3
               (try simp only [Act.put, Z1, Z2, Z3, Z4, Z5, Z6])
               refine Zk (i := 6) rfl ?rg6
               (try simp only [Act.put, Z1, Z2, Z3, Z4, Z5, Z6])
               refine Zk (i := 7) rfl ?rg7
               (try simp only [Act.put, Z1, Z2, Z3, Z4, Z5, Z6])
               refine wpAnyH_ready (rs := [4]) (by kernel_rfl) (by simp) ?_
               refine AllReadyH.cons rfl (fun K1 hK1 => ?_) AllReadyH.nil
               go_simp
               go_at_call 92; refine (HOF.out _ ((Zl _ wr).drew)).mono ?_; rintro e wa ⟨rfl, hba⟩; have HA := Zh (bnext ((Zl _ wr).drew) hba); clear hba
               go_wp2_with fail
               refine hK1.out _ _ ?_ (fun hHeld => ?_)
               ·exact (HA.out.cell (Zb wr _ e3)).trans e3
               clear hK1 K1 hS
               (try simp only [Act.put, Z1, Z2, Z3, Z4, Z5, Z6])
               refine Zk (i := 5) rfl ?rg5
               (try simp only [Act.put, Z1, Z2, Z3, Z4, Z5, Z6])
               refine Zk (i := 8) rfl ?rg8
               (try simp only [Act.put, Z1, Z2, Z3, Z4, Z5, Z6])
               refine Zk (i := 9) rfl ?rg9
               (try simp only [Act.put, Z1, Z2, Z3, Z4, Z5, Z6])
               refine wpAnyH_take (i := 10) (v := undef) rfl (by kernel_rfl) (by kernel_rfl) (by kernel_rfl) (fun _ _ _ h => h) (Or.inr ⟨by rfl, rfl⟩) (by assumption) ?rg10
               (try simp only [Act.put, Z1, Z2, Z3, Z4, Z5, Z6])
               refine wpAnyH_take (i := 11) (v := undef) rfl (by kernel_rfl) (by kernel_rfl) (by kernel_rfl) (fun _ _ _ h => h) (Or.inr ⟨by rfl, rfl⟩) (by assumption) ?rg11
               (try simp only [Act.put, Z1, Z2, Z3, Z4, Z5, Z6])
               refine wpAnyH_take (i := 12) (v := undef) rfl (by kernel_rfl) (by kernel_rfl) (by kernel_rfl) (fun _ _ _ h => h) (Or.inr ⟨by rfl, rfl⟩) (by assumption) ?rg12
               (try simp only [Act.put, Z1, Z2, Z3, Z4, Z5, Z6])
               refine wpAnyH_take (i := 13) (v := undef) rfl (by kernel_rfl) (by kernel_rfl) (by kernel_rfl) (fun _ _ _ h => h) (Or.inr ⟨by rfl, rfl⟩) (by assumption) ?rg13
               (try simp only [Act.put, Z1, Z2, Z3, Z4, Z5, Z6])
               refine wpAnyH_take (i := 14) (v := undef) rfl (by kernel_rfl) (by kernel_rfl) (by kernel_rfl) (fun _ _ _ h => h) (Or.inr ⟨by rfl, rfl⟩) (by assumption) ?rg14
               (try simp only [Act.put, Z1, Z2, Z3, Z4, Z5, Z6])
               refine wpAnyH_take (i := 15) (v := undef) rfl (by kernel_rfl) (by kernel_rfl) (by kernel_rfl) (fun _ _ _ h => h) (Or.inr ⟨by rfl, rfl⟩) (by assumption) ?rg15
               (try simp only [Act.put, Z1, Z2, Z3, Z4, Z5, Z6])
               refine Zk (i := 16) rfl ?rg16
               (try simp only [Act.put, Z1, Z2, Z3, Z4, Z5, Z6])
               refine Zk (i := 17) rfl ?rg17
               (try simp only [Act.put, Z1, Z2, Z3, Z4, Z5, Z6])
               refine wpAnyH_done (by kernel_rfl) ?_ _
               go_wp2_with fail
               go_meet
               exact ⟨by rw [HB0.out, HBK.out]; rfl, HA.out⟩
            case rest =>
             obtain ⟨rfl, hbx⟩ := hcut
             have HBX := Zh hbx; clear hbx e3 hf3 hf2
             cases hc1 : (r != 0 && (L.kind != 2 || L.syn != xs)) with
             | true =>
              have hf : typeE S t = 54 := HBAD.out (by rw [HRUL.out, hc1]; rfl)
              have HF := Zh hf; clear hf hc1
              go_wp2_with fail
              go_ret
              exact ⟨by rw [HF.out]; rfl, HMM.out ▸ (bnext HBW.out (bnext HR.out.2.2.2.2 HBX.out))⟩
             | false =>
              have HC1 := Zh hc1; clear hc1
              go_upto_region 23 with fail
              have hfb := HR.out.2.2.2.1.keep HBX.out
              have f4 := hfb.c4
              have f5 := hfb.c5
              have f6 := hfb.c6
              have q8 := HTC.out.keep (bnext HR.out.2.2.2.2 HBX.out)
              have e8 := q8.blk.c8
              clear q8 hfb
              have hxi := HOK.out.index
              generalize hIX : x.index = ix at *
              have HIX := Zh hIX; clear hIX
              go_cut [160] from 143 to 160 (fun v wx => v = .bool (ix.toNat.testBit 3 && f.part == 0) ∧ Below wc.heap.size wc wx)
              case first =>
               have hbt := bit3 hxi
               clear hxi
               cases hb : ix.toNat.testBit 3 with
               | false =>
                rw [hb] at hbt
                have hbt2 : (bits BinOp.and IntKind.u8 ix 8 == 0) = true := by simpa using hbt
                go_quiet (fail)
                go_wp2_with fail
                go_meet
                exact ⟨by rw [hb]; rfl, bdrewN (Zl _ wc) _⟩
               | true =>
                rw [hb] at hbt
                have hbt2 : (bits BinOp.and IntKind.u8 ix 8 == 0) = false := by simpa using hbt
                have hix2 : ∀ wq, (Instr.index 150 (.agg #[.int .i8 f.eq, .int .i8 f.ord, .int .i8 f.part]) (.int .i64 2)).run Tryz.prog wq = .ok (.int .i8 f.part) wq := fun wq => by kernel_rfl
                go_quiet (fail)
                go_wp2_with fail
                go_meet
                exact ⟨by rw [hb]; simp, bdrewN (Zl _ wc) _⟩
              case rest =>
               obtain ⟨rfl, hbx⟩ := hcut
               have HBY := Zh hbx; clear hbx f4 f5 f6 e8
               cases hc2 : (ix.toNat.testBit 3 && f.part == 0) with
               | true =>
                have hf : typeE S t = 54 := HBAD.out (by rw [HRUL.out, hc2]; simp)
                have HF := Zh hf; clear hf hc2
                go_wp2_with fail
                go_ret
                exact ⟨by rw [HF.out]; rfl, HMM.out ▸ (bnext HBW.out (bnext HR.out.2.2.2.2 (bnext HBX.out HBY.out)))⟩
               | false =>
                have hru : rulE x f 3 2 x.part f.part = false := by rw [HRUL.out, HC1.out, hc2]; rfl
                have HRU := Zh hru; clear hru hc2
                have h1 := HIX.out; subst h1
                have h2 := HRX.out; subst h2
                go_wp2_with fail
                refine ⟨⟨3, rfl, by omega, fun h => HR.out.1 (by omega), fun h => HR.out.2.1 (by omega), fun _ => HRU.out, (HR.out.2.2.2.1.keep HBX.out).keep HBY.out, bnext HR.out.2.2.2.2 (bnext HBX.out HBY.out)⟩, by simp [intOf]⟩
          ·have hf : typeE S t = 0 := by rw [HT8.out, HR.out.1 (by omega), HR.out.2.1 (by omega), HR.out.2.2.1 (by omega)]; rfl
           have HF := Zh hf; clear hf
           go_wp2_with fail
           go_ret
           exact ⟨by rw [HF.out]; rfl, HMM.out ▸ (bnext HBW.out HR.out.2.2.2.2)⟩
 ·have hnb : (ne != 0) = true := by simpa using hn0
  have hnb2 : (ne == 0) = false := by simpa using hn0
  have HNE := Zh hne; clear hne
  have HN0 := Zh hn0; clear hn0
  go_wp2_with (first | (go_at_call 90; refine (HNAM.out _ (Zl _ _)).mono ?_; rintro e w2 ⟨rfl, hb2⟩; have HB2 := Zh hb2; clear hb2) | fail)
  go_ret
  exact ⟨by rw [HT0.out HN0.out]; rfl, HMM.out ▸ (bnext HBW.out HB2.out)⟩
end Go.Proofs.YtlmfbjhokkpjhaaGreatDoor
