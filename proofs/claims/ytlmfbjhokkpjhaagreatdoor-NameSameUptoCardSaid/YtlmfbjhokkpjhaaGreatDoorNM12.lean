/- Part 12 of the walks and plain laws, joined: Inherit, SchNew. -/
import Derived.Test.YtlmfbjhokkpjhaaGreatDoorNM00
import Derived.Test.YtlmfbjhokkpjhaaGreatDoorNM10
import Derived.Test.YtlmfbjhokkpjhaaGreatDoorNM11
import Derived.BigRegion
set_option linter.unusedVariables false
set_option linter.unusedSimpArgs false
namespace Go.Proofs.YtlmfbjhokkpjhaaGreatDoor
open Go Go.RowKit Go.Maps
def tyAgg (x : PType) (nv : Value) : Array Value := #[.string x.oid, nv, .string x.sup, .int .i8 x.syn, .int .i8 x.eq, .int .i8 x.ord, .int .i8 x.part, .bool x.single, .int .u8 x.index]
structure TyBlk (w : World) (X : Nat) (x : PType) (nv : Value) : Prop where
 cell : ∀ (j : Nat) v, (tyAgg x nv)[j]? = some v → w.cell? ⟨X, j, none⟩ = some v
 fr : ∀ j, w.frozen? ⟨X, j, none⟩ = false
 lt : X < w.heap.size
theorem TyBlk.made (w : World) (x : PType) (nv : Value) (T : TypeId) : TyBlk (w.alloc (.cells (tyAgg x nv) T)) w.heap.size x nv where
 cell := fun j v h => by rw [World.cell?_alloc_new]; exact h
 fr := fun j => frozen_of_row _ _ j _ _ (heap_alloc_new _ _)
 lt := by simp
theorem TyBlk.keep {w w' : World} {X : Nat} {x : PType} {nv : Value} (h : TyBlk w X x nv) (k : Below w.heap.size w w') : TyBlk w' X x nv where
 cell := fun j v hj => by rw [k.cell (p := ⟨X, j, none⟩) h.lt]; exact h.cell j v hj
 fr := fun j => by rw [k.frozen (p := ⟨X, j, none⟩) h.lt]; exact h.fr j
 lt := Nat.lt_of_lt_of_le h.lt k.size
theorem TyBlk.set {w : World} {X : Nat} {x y : PType} {nv : Value} (h : TyBlk w X x nv) (k : Nat) (v : Value) (hk : k < 9) (hy : tyAgg y nv = (tyAgg x nv).setIfInBounds k v) : TyBlk (w.setCell ⟨X, k, none⟩ v) X y nv where
 cell := fun j u hj => by
  rw [hy] at hj
  by_cases e : j = k
  ·subst e
   have h0 : (tyAgg x nv)[j]? = some ((tyAgg x nv)[j]'(by exact hk)) := Array.getElem?_eq_getElem _
   rw [World.cell?_setCell_same _ _ _ (h.cell j _ h0)]
   rw [Array.getElem?_setIfInBounds] at hj
   simp at hj
   rw [← hj.2]
  ·rw [World.cell?_setCell_other _ _ _ _ (by intro e2; injection e2 with _ e3 _; omega)]
   rw [Array.getElem?_setIfInBounds, if_neg (by omega)] at hj
   exact h.cell j u hj
 fr := fun j => by rw [World.frozen?_setCell]; exact h.fr j
 lt := by have := h.lt; simpa [World.setCell] using this
theorem TyBlk.other {w : World} {X : Nat} {x : PType} {nv : Value} (h : TyBlk w X x nv) {p : Addr} (hp : X ≠ p.block) (v : Value) : TyBlk (w.setCell p v) X x nv where
 cell := fun j u hj => by rw [World.cell?_setCell_other _ _ _ _ (by intro e; apply hp; rw [e])]; exact h.cell j u hj
 fr := fun j => by rw [World.frozen?_setCell]; exact h.fr j
 lt := by have := h.lt; simpa [World.setCell] using this
def InhPost (_S : PSchema) (g : Nat) (x : PType) (w : World) (e : Ending) (w' : World) : Prop :=
 ∃ a n c, e = .returned (.agg (tyAgg x (.slice a n c))) ∧ Texts g w a n c x.names ∧ Below w.heap.size w w'
def mixK : Nat → PType → PType → PType
 | 0, x, _ => x
 | 1, x, y => { x with eq := if x.eq = 0 then y.eq else x.eq }
 | 2, x, y => { x with eq := if x.eq = 0 then y.eq else x.eq, ord := if x.ord = 0 then y.ord else x.ord }
 | _, x, y => mixT x y
theorem mix_foldl (S : PSchema) (x : PType) (l : List Nat) {i : Nat} (h : i < l.length) : (l.take (i + 1)).foldl (fun x p => mixT x (tyAt S p)) x = mixT ((l.take i).foldl (fun x p => mixT x (tyAt S p)) x) (tyAt S l[i]) := by
 rw [List.take_succ_eq_append_getElem h, List.foldl_append]; rfl
set_option maxRecDepth 20000 in
set_option maxHeartbeats 4000000 in
theorem inherit_any (S : PSchema) (g t gl m cap : Nat) (up : List Nat) (w : World) (h : Mk w g S) (ht : t < S.types.length) (hm : m = up.length) (hm1 : 1 ≤ m) (hm2 : m ≤ 1024) (hc : m ≤ cap) (hlt : ∀ a ∈ up, a < S.types.length)
  (hup : ∀ i, i < m → w.cell? ⟨gl, i, none⟩ = some (.int .i64 (up.getD i 0 : Nat))) (hgl : gl < w.heap.size) :
  Calls Tryz.prog 48 #[.agg #[.pointer (some ⟨g, 0, none⟩)], .int .i64 (t : Int), .slice (some ⟨gl, 0, none⟩) m cap] w (InhPost S g (inheritT S t up) w) := by
 obtain ⟨a0, n0, c0, hc0, hty⟩ := h.types
 obtain ⟨tb, tx, rfl, htb⟩ := hty.lies.ptr (by have := hty.len; omega)
 have hT := hty.cell tb tx rfl t _ (List.getElem?_eq_getElem ht)
 have hsup : tyAt S t = S.types[t] := by unfold tyAt; simp [List.getD, ht]
 rw [← hsup] at hT
 obtain ⟨na, nn, nc, h1, hte⟩ := hT.c1
 have h2 := hT.c2
 have h0 := hT.c0
 have h3 := hT.c3
 have h4 := hT.c4
 have h5 := hT.c5
 have h6 := hT.c6
 have h7 := hT.c7
 have h8 := hT.c8
 have htn : (t : Int) < (n0 : Int) := by have := hty.len; omega
 have hti : (0 : Int) ≤ (t : Int) := by omega
 have hglt := Zb w _ hc0
 have htlt := Zb w _ h0
 simp only at hglt htlt
 have hML := Zh hm; have HUP := Zh hup; have HLT := Zh hlt; have HMK := Zh h; have HTE := Zh hte
 have HG := Zh (Zi hgl (Zi hglt htlt))
 clear hm hup hlt h hte hsup hT hty htb hgl
 generalize hx : tyAt S t = x at *
 have HX := Zh hx; clear hx
 go_enter Tryz.func48, Tryz.ntmps48
 go_upto_region 2 with fail
 clear h0 h1 h2 h3 h4 h5 h6 h7 h8 hglt htlt
 have htb := TyBlk.made ((w.alloc (.cells #[.pointer (some ⟨g, 0, none⟩)] 86)).alloc (.cells #[.string ⟨#[]⟩, .slice none 0 0, .string ⟨#[]⟩, .int .i8 0, .int .i8 0, .int .i8 0, .int .i8 0, .bool false, .int .u8 0] 46)) x (.slice na nn nc) 46
 have htr := (TyBlk.made (w.alloc (.cells #[.pointer (some ⟨g, 0, none⟩)] 86)) zeroT (.slice none 0 0) 46).keep ((Zl _ _).alloc (Zr _) (.cells (tyAgg x (.slice na nn nc)) 46))
 have hbw : Below w.heap.size w (((w.alloc (.cells #[.pointer (some ⟨g, 0, none⟩)] 86)).alloc (.cells #[.string ⟨#[]⟩, .slice none 0 0, .string ⟨#[]⟩, .int .i8 0, .int .i8 0, .int .i8 0, .int .i8 0, .bool false, .int .u8 0] 46)).alloc (.cells (tyAgg x (.slice na nn nc)) 46)) := ((((Zl _ w).alloc (Zr _) _).alloc (by simp) _).alloc (by simp; omega) _)
 have hmc : (((w.alloc (.cells #[.pointer (some ⟨g, 0, none⟩)] 86)).alloc (.cells #[.string ⟨#[]⟩, .slice none 0 0, .string ⟨#[]⟩, .int .i8 0, .int .i8 0, .int .i8 0, .int .i8 0, .bool false, .int .u8 0] 46)).alloc (.cells (tyAgg x (.slice na nn nc)) 46)).cell? ⟨w.heap.size, 0, none⟩ = some (.pointer (some ⟨g, 0, none⟩)) := by
  rw [World.cell?_alloc_lt _ _ _ (by simp; omega), World.cell?_alloc_lt _ _ _ (by simp), World.cell?_alloc_new]; rfl
 rw [show ((w.alloc (.cells #[.pointer (some ⟨g, 0, none⟩)] 86)).alloc (.cells #[.string ⟨#[]⟩, .slice none 0 0, .string ⟨#[]⟩, .int .i8 0, .int .i8 0, .int .i8 0, .int .i8 0, .bool false, .int .u8 0] 46)).heap.size = w.heap.size + 1 + 1 by simp] at htb
 rw [show (w.alloc (.cells #[.pointer (some ⟨g, 0, none⟩)] 86)).heap.size = w.heap.size + 1 by simp] at htr
 unfold zeroT at htr
 have htb2 : TyBlk (((w.alloc (.cells #[.pointer (some ⟨g, 0, none⟩)] 86)).alloc (.cells #[.string ⟨#[]⟩, .slice none 0 0, .string ⟨#[]⟩, .int .i8 0, .int .i8 0, .int .i8 0, .int .i8 0, .bool false, .int .u8 0] 46)).alloc (.cells #[.string x.oid, .slice na nn nc, .string x.sup, .int .i8 x.syn, .int .i8 x.eq, .int .i8 x.ord, .int .i8 x.part, .bool x.single, .int .u8 x.index] 46)) (w.heap.size + 1 + 1) x (.slice na nn nc) := htb
 have htr2 : TyBlk (((w.alloc (.cells #[.pointer (some ⟨g, 0, none⟩)] 86)).alloc (.cells #[.string ⟨#[]⟩, .slice none 0 0, .string ⟨#[]⟩, .int .i8 0, .int .i8 0, .int .i8 0, .int .i8 0, .bool false, .int .u8 0] 46)).alloc (.cells #[.string x.oid, .slice na nn nc, .string x.sup, .int .i8 x.syn, .int .i8 x.eq, .int .i8 x.ord, .int .i8 x.part, .bool x.single, .int .u8 x.index] 46)) (w.heap.size + 1) zeroT (.slice none 0 0) := htr
 have hbw2 : Below w.heap.size w (((w.alloc (.cells #[.pointer (some ⟨g, 0, none⟩)] 86)).alloc (.cells #[.string ⟨#[]⟩, .slice none 0 0, .string ⟨#[]⟩, .int .i8 0, .int .i8 0, .int .i8 0, .int .i8 0, .bool false, .int .u8 0] 46)).alloc (.cells #[.string x.oid, .slice na nn nc, .string x.sup, .int .i8 x.syn, .int .i8 x.eq, .int .i8 x.ord, .int .i8 x.part, .bool x.single, .int .u8 x.index] 46)) := hbw
 have hmc2 : (((w.alloc (.cells #[.pointer (some ⟨g, 0, none⟩)] 86)).alloc (.cells #[.string ⟨#[]⟩, .slice none 0 0, .string ⟨#[]⟩, .int .i8 0, .int .i8 0, .int .i8 0, .int .i8 0, .bool false, .int .u8 0] 46)).alloc (.cells #[.string x.oid, .slice na nn nc, .string x.sup, .int .i8 x.syn, .int .i8 x.eq, .int .i8 x.ord, .int .i8 x.part, .bool x.single, .int .u8 x.index] 46)).cell? ⟨w.heap.size, 0, none⟩ = some (.pointer (some ⟨g, 0, none⟩)) := hmc
 clear htb htr hbw hmc
 generalize ((w.alloc (.cells #[.pointer (some ⟨g, 0, none⟩)] 86)).alloc (.cells #[.string ⟨#[]⟩, .slice none 0 0, .string ⟨#[]⟩, .int .i8 0, .int .i8 0, .int .i8 0, .int .i8 0, .bool false, .int .u8 0] 46)).alloc (.cells #[.string x.oid, .slice na nn nc, .string x.sup, .int .i8 x.syn, .int .i8 x.eq, .int .i8 x.ord, .int .i8 x.part, .bool x.single, .int .u8 x.index] 46) = w1 at htb2 htr2 hbw2 hmc2 ⊢
 have hXR : w.heap.size ≤ w.heap.size ∧ w.heap.size ≤ w.heap.size + 1 ∧ w.heap.size ≤ w.heap.size + 1 + 1 ∧ w.heap.size + 1 + 1 ≠ w.heap.size + 1 ∧ w.heap.size + 1 + 1 ≠ w.heap.size := by omega
 generalize hX : w.heap.size + 1 + 1 = X at htb2 hXR ⊢
 generalize hR : w.heap.size + 1 = R at htr2 hXR ⊢
 generalize hM : w.heap.size = M at hmc2 hXR ⊢
 have HM1 : Hid (w.heap.size ≤ X) := Zh (by omega)
 have HM2 : Hid (w.heap.size ≤ R) := Zh (by omega)
 have H1 := Zh (Zi htb2 (Zi htr2 (Zi hbw2 (Zi hmc2 (Zi hXR hM))))); clear htb2 htr2 hbw2 hmc2 hXR hM hR hX
 go_cut [23, 24, 25] from 22 to 25 (fun sv lv iv wx => ∃ ad c', sv = .slice (some ad) (m - 1) c' ∧ lv = .int .i64 ((m - 1 : Nat) : Int) ∧ iv = .int .i64 0 ∧ (1 < m → ad = ⟨gl, 1, none⟩) ∧ wx = w1)
 case first =>
  by_cases hc1 : cap = 1
  ·have hm3 : m = 1 := by omega
   subst hc1; subst hm3
   go_wp2_with fail
   go_meet
   exact ⟨_, _, rfl, rfl, rfl, fun h => by omega, rfl⟩
  ·go_wp2_with fail
   go_meet
   exact ⟨_, _, rfl, rfl, rfl, fun h => rfl, rfl⟩
 case rest =>
  obtain ⟨ad, c', rfl, rfl, rfl, had, rfl⟩ := hcut
  have HAD := Zh had; clear had
  obtain ⟨mm, hmm⟩ : ∃ mm, m - 1 = mm := ⟨_, rfl⟩
  rw [hmm]
  have HMM := Zh hmm; clear hmm
  go_wp2_with fail
  have hmm2 : mm ≤ 1024 := by have := HMM.out; omega
  go_loopw [25] (fun iv wr => ∃ i : Nat, iv = .int .i64 i ∧ i ≤ mm ∧ TyBlk wr X (((up.drop 1).take i).foldl (fun x p => mixT x (tyAt S p)) x) (.slice na nn nc) ∧ TyBlk wr R zeroT (.slice none 0 0) ∧ Below w.heap.size w wr ∧ wr.cell? ⟨M, 0, none⟩ = some (.pointer (some ⟨g, 0, none⟩))) (fun iv _ => mm - (intOf iv).toNat)
  case atStart => exact ⟨0, rfl, Nat.zero_le _, H1.out.1, H1.out.2.1, H1.out.2.2.1, H1.out.2.2.2.1⟩
  case round =>
   obtain ⟨i, rfl, hi, hx, hr, hb, hmcl⟩ := hrel
   have HMC := Zh hmcl
   have hXl := hx.lt
   by_cases hlt : i < mm
   ·have had := HAD.out (by have := HMM.out; omega)
    subst had
    have hil : i < (up.drop 1).length := by have := hML.out; have := HMM.out; simp; omega
    have hfold := mix_foldl S x (up.drop 1) hil
    have hpe : (up.drop 1)[i] = up.getD (i + 1) 0 := by
     have : i + 1 < up.length := by simp at hil; omega
     simp [List.getD, this]
    have hpl : (up.drop 1)[i] < S.types.length := HLT.out _ (List.mem_of_mem_drop (List.getElem_mem hil))
    have hcu := HUP.out (i + 1) (by have := HMM.out; omega)
    rw [← hpe] at hcu
    rw [← hb.cell (p := ⟨gl, i + 1, none⟩) HG.out.1, show i + 1 = 1 + i by omega] at hcu
    generalize (up.drop 1)[i] = p at hfold hpl hcu
    generalize ((up.drop 1).take i).foldl (fun x p => mixT x (tyAt S p)) x = xi at hfold hx
    have hmk := HMK.out.keep hb
    obtain ⟨b0, m0, d0, k0, hty⟩ := hmk.types
    obtain ⟨pb, px, rfl, hpb⟩ := hty.lies.ptr (by have := hty.len; omega)
    have hT := hty.cell pb px rfl p _ (List.getElem?_eq_getElem hpl)
    have hsup : tyAt S p = S.types[p] := by unfold tyAt; simp [List.getD, hpl]
    rw [← hsup] at hT
    generalize tyAt S p = y at hT hfold
    obtain ⟨ya, yn, yc, h1, _⟩ := hT.c1
    have h2 := hT.c2
    have h0 := hT.c0
    have h3 := hT.c3
    have h4 := hT.c4
    have h5 := hT.c5
    have h6 := hT.c6
    have h7 := hT.c7
    have h8 := hT.c8
    have hpn : (p : Int) < (m0 : Int) := by have := hty.len; omega
    have hpi : (0 : Int) ≤ (p : Int) := by omega
    have HF := Zh (Zi hfold (Zi hx (Zi hr hb)))
    clear hT hty hmk hfold hx hr hb hsup hpl hpb hpe hil
    go_upto_region 6 with fail
    clear h0 h1 h2 h3 h4 h5 h6 h7 h8 hcu k0
    have hy2 : TyBlk (wr.alloc (.cells #[.string y.oid, .slice ya yn yc, .string y.sup, .int .i8 y.syn, .int .i8 y.eq, .int .i8 y.ord, .int .i8 y.part, .bool y.single, .int .u8 y.index] 46)) wr.heap.size y (.slice ya yn yc) := TyBlk.made wr y (.slice ya yn yc) 46
    have hk2 : Below wr.heap.size wr (wr.alloc (.cells #[.string y.oid, .slice ya yn yc, .string y.sup, .int .i8 y.syn, .int .i8 y.eq, .int .i8 y.ord, .int .i8 y.part, .bool y.single, .int .u8 y.index] 46)) := (Zl _ _).alloc (Zr _) _
    generalize wr.alloc (.cells #[.string y.oid, .slice ya yn yc, .string y.sup, .int .i8 y.syn, .int .i8 y.eq, .int .i8 y.ord, .int .i8 y.part, .bool y.single, .int .u8 y.index] 46) = w2 at hy2 hk2 ⊢
    have hYX : wr.heap.size ≠ X ∧ wr.heap.size ≠ R := ⟨by omega, by have := HF.out.2.2.1.lt; omega⟩
    generalize hY : wr.heap.size = Y at hy2 hYX ⊢
    have H2 := Zh (Zi hy2 (Zi (HF.out.2.1.keep hk2) (Zi (HF.out.2.2.1.keep hk2) (Zi (bnext HF.out.2.2.2 hk2) (Zi hYX (hk2.cell (Zb wr _ HMC.out) |>.trans HMC.out))))))
    clear hy2 hk2 hYX hY
    go_wp2_with fail
    go_loopw [48] (fun kv wq => ∃ k : Nat, kv = .int .i64 k ∧ k ≤ 3 ∧ TyBlk wq X (mixK k xi y) (.slice na nn nc) ∧ TyBlk wq Y y (.slice ya yn yc) ∧ TyBlk wq R zeroT (.slice none 0 0) ∧ Below w.heap.size w wq ∧ wq.cell? ⟨M, 0, none⟩ = some (.pointer (some ⟨g, 0, none⟩))) (fun kv _ => 3 - (intOf kv).toNat)
    case atStart => exact ⟨0, rfl, by omega, H2.out.2.1, H2.out.1, H2.out.2.2.1, H2.out.2.2.2.1, H2.out.2.2.2.2.2⟩
    case round =>
     obtain ⟨k, rfl, hk, hx, hyb, hrb, hbb, hmcl2⟩ := hrel
     have HQ := Zh (Zi hx (Zi hyb (Zi hrb (Zi hbb hmcl2))))
     have hXlt := hx.lt
     have hYlt := hyb.lt
     by_cases hk3 : k < 3
     ·rcases (by omega : k = 0 ∨ k = 1 ∨ k = 2) with rfl | rfl | rfl
      ·have e1 : wr.cell? ⟨X, 4, none⟩ = some (.int .i8 (mixK 0 xi y).eq) := hx.cell 4 _ rfl
       have e2 : wr.cell? ⟨Y, 4, none⟩ = some (.int .i8 y.eq) := hyb.cell 4 _ rfl
       have ef := hx.fr 4
       clear hx hyb hrb hbb hmcl2 hmcl
       generalize hz : mixK 0 xi y = z at e1 HQ
       have HZ := Zh hz; clear hz
       rw [show ((0 : Nat) : Int) = 0 from rfl]
       have hix : (Instr.index 160 (.agg #[.pointer (some ⟨X, 4, none⟩), .pointer (some ⟨Y, 4, none⟩), .pointer (some ⟨X, 5, none⟩), .pointer (some ⟨Y, 5, none⟩), .pointer (some ⟨X, 6, none⟩), .pointer (some ⟨Y, 6, none⟩)]) (.int .i64 0)).run Tryz.prog wr = .ok (.agg #[.pointer (some ⟨X, 4, none⟩), .pointer (some ⟨Y, 4, none⟩)]) wr := by kernel_rfl
       by_cases h0 : z.eq = 0
       ·rw [h0] at e1
        go_wp2_with fail
        go_region
        all_goals go_wp2_with fail
        all_goals
         have hm : mixK 1 xi y = { z with eq := y.eq } := by rw [← HZ.out] at h0 ⊢; simp only [mixK] at h0 ⊢; try rw [if_pos h0]
         have hk := (((Zl (wr.setCell ⟨X, 4, none⟩ (.int .i8 y.eq)).heap.size (wr.setCell ⟨X, 4, none⟩ (.int .i8 y.eq))).alloc (Zr _) (.cells #[.pointer (some ⟨X, 4, none⟩), .pointer (some ⟨Y, 4, none⟩)] 159)).drew)
         have hs := (HQ.out.1.set (y := { z with eq := y.eq }) 4 (.int .i8 y.eq) (by omega) rfl).keep hk
         have hmm := cell_set_ne (p := ⟨X, 4, none⟩) (v := .int .i8 y.eq) HQ.out.2.2.2.2 (fun e => H1.out.2.2.2.2.1.2.2.2.2 (by injection e with e1 _ _; exact e1.symm))
         exact ⟨⟨1, rfl, by omega, by rw [hm]; exact hs, (HQ.out.2.1.other H2.out.2.2.2.2.1.1 _).keep hk, (HQ.out.2.2.1.other (Ne.symm H1.out.2.2.2.2.1.2.2.2.1) _).keep hk, (HQ.out.2.2.2.1.setCell (by exact HM1.out) _).trans (hk.mono (by rw [size_set]; exact HQ.out.2.2.2.1.size)), (hk.cell (Zb _ _ hmm)).trans hmm⟩, by simp [intOf]⟩
       ·go_wp2_with fail
        have hm : mixK 1 xi y = z := by rw [← HZ.out] at h0 ⊢; simp only [mixK] at h0 ⊢; try rw [if_neg h0]
        have hk := ((Zl wr.heap.size wr).alloc (Zr _) (.cells #[.pointer (some ⟨X, 4, none⟩), .pointer (some ⟨Y, 4, none⟩)] 159))
        exact ⟨⟨1, rfl, by omega, by rw [hm]; exact HQ.out.1.keep hk, HQ.out.2.1.keep hk, HQ.out.2.2.1.keep hk, bnext HQ.out.2.2.2.1 hk, (hk.cell (Zb wr _ HQ.out.2.2.2.2)).trans HQ.out.2.2.2.2⟩, by simp [intOf]⟩
      ·have e1 : wr.cell? ⟨X, 5, none⟩ = some (.int .i8 (mixK 1 xi y).ord) := hx.cell 5 _ rfl
       have e2 : wr.cell? ⟨Y, 5, none⟩ = some (.int .i8 y.ord) := hyb.cell 5 _ rfl
       have ef := hx.fr 5
       clear hx hyb hrb hbb hmcl2 hmcl
       generalize hz : mixK 1 xi y = z at e1 HQ
       have HZ := Zh hz; clear hz
       rw [show ((1 : Nat) : Int) = 1 from rfl]
       have hix : (Instr.index 160 (.agg #[.pointer (some ⟨X, 4, none⟩), .pointer (some ⟨Y, 4, none⟩), .pointer (some ⟨X, 5, none⟩), .pointer (some ⟨Y, 5, none⟩), .pointer (some ⟨X, 6, none⟩), .pointer (some ⟨Y, 6, none⟩)]) (.int .i64 1)).run Tryz.prog wr = .ok (.agg #[.pointer (some ⟨X, 5, none⟩), .pointer (some ⟨Y, 5, none⟩)]) wr := by kernel_rfl
       by_cases h0 : z.ord = 0
       ·rw [h0] at e1
        go_wp2_with fail
        go_region
        all_goals go_wp2_with fail
        all_goals
         have hm : mixK 2 xi y = { z with ord := y.ord } := by rw [← HZ.out] at h0 ⊢; simp only [mixK] at h0 ⊢; try rw [if_pos h0]
         have hk := (((Zl (wr.setCell ⟨X, 5, none⟩ (.int .i8 y.ord)).heap.size (wr.setCell ⟨X, 5, none⟩ (.int .i8 y.ord))).alloc (Zr _) (.cells #[.pointer (some ⟨X, 5, none⟩), .pointer (some ⟨Y, 5, none⟩)] 159)).drew)
         have hs := (HQ.out.1.set (y := { z with ord := y.ord }) 5 (.int .i8 y.ord) (by omega) rfl).keep hk
         have hmm := cell_set_ne (p := ⟨X, 5, none⟩) (v := .int .i8 y.ord) HQ.out.2.2.2.2 (fun e => H1.out.2.2.2.2.1.2.2.2.2 (by injection e with e1 _ _; exact e1.symm))
         exact ⟨⟨2, rfl, by omega, by rw [hm]; exact hs, (HQ.out.2.1.other H2.out.2.2.2.2.1.1 _).keep hk, (HQ.out.2.2.1.other (Ne.symm H1.out.2.2.2.2.1.2.2.2.1) _).keep hk, (HQ.out.2.2.2.1.setCell (by exact HM1.out) _).trans (hk.mono (by rw [size_set]; exact HQ.out.2.2.2.1.size)), (hk.cell (Zb _ _ hmm)).trans hmm⟩, by simp [intOf]⟩
       ·go_wp2_with fail
        have hm : mixK 2 xi y = z := by rw [← HZ.out] at h0 ⊢; simp only [mixK] at h0 ⊢; try rw [if_neg h0]
        have hk := ((Zl wr.heap.size wr).alloc (Zr _) (.cells #[.pointer (some ⟨X, 5, none⟩), .pointer (some ⟨Y, 5, none⟩)] 159))
        exact ⟨⟨2, rfl, by omega, by rw [hm]; exact HQ.out.1.keep hk, HQ.out.2.1.keep hk, HQ.out.2.2.1.keep hk, bnext HQ.out.2.2.2.1 hk, (hk.cell (Zb wr _ HQ.out.2.2.2.2)).trans HQ.out.2.2.2.2⟩, by simp [intOf]⟩
      ·have e1 : wr.cell? ⟨X, 6, none⟩ = some (.int .i8 (mixK 2 xi y).part) := hx.cell 6 _ rfl
       have e2 : wr.cell? ⟨Y, 6, none⟩ = some (.int .i8 y.part) := hyb.cell 6 _ rfl
       have ef := hx.fr 6
       clear hx hyb hrb hbb hmcl2 hmcl
       generalize hz : mixK 2 xi y = z at e1 HQ
       have HZ := Zh hz; clear hz
       rw [show ((2 : Nat) : Int) = 2 from rfl]
       have hix : (Instr.index 160 (.agg #[.pointer (some ⟨X, 4, none⟩), .pointer (some ⟨Y, 4, none⟩), .pointer (some ⟨X, 5, none⟩), .pointer (some ⟨Y, 5, none⟩), .pointer (some ⟨X, 6, none⟩), .pointer (some ⟨Y, 6, none⟩)]) (.int .i64 2)).run Tryz.prog wr = .ok (.agg #[.pointer (some ⟨X, 6, none⟩), .pointer (some ⟨Y, 6, none⟩)]) wr := by kernel_rfl
       by_cases h0 : z.part = 0
       ·rw [h0] at e1
        go_wp2_with fail
        go_region
        all_goals go_wp2_with fail
        all_goals
         have hm : mixK 3 xi y = { z with part := y.part } := by rw [← HZ.out] at h0 ⊢; simp only [mixK, mixT] at h0 ⊢; try rw [if_pos h0]
         have hk := (((Zl (wr.setCell ⟨X, 6, none⟩ (.int .i8 y.part)).heap.size (wr.setCell ⟨X, 6, none⟩ (.int .i8 y.part))).alloc (Zr _) (.cells #[.pointer (some ⟨X, 6, none⟩), .pointer (some ⟨Y, 6, none⟩)] 159)).drew)
         have hs := (HQ.out.1.set (y := { z with part := y.part }) 6 (.int .i8 y.part) (by omega) rfl).keep hk
         have hmm := cell_set_ne (p := ⟨X, 6, none⟩) (v := .int .i8 y.part) HQ.out.2.2.2.2 (fun e => H1.out.2.2.2.2.1.2.2.2.2 (by injection e with e1 _ _; exact e1.symm))
         exact ⟨⟨3, rfl, by omega, by rw [hm]; exact hs, (HQ.out.2.1.other H2.out.2.2.2.2.1.1 _).keep hk, (HQ.out.2.2.1.other (Ne.symm H1.out.2.2.2.2.1.2.2.2.1) _).keep hk, (HQ.out.2.2.2.1.setCell (by exact HM1.out) _).trans (hk.mono (by rw [size_set]; exact HQ.out.2.2.2.1.size)), (hk.cell (Zb _ _ hmm)).trans hmm⟩, by simp [intOf]⟩
       ·go_wp2_with fail
        have hm : mixK 3 xi y = z := by rw [← HZ.out] at h0 ⊢; simp only [mixK, mixT] at h0 ⊢; try rw [if_neg h0]
        have hk := ((Zl wr.heap.size wr).alloc (Zr _) (.cells #[.pointer (some ⟨X, 6, none⟩), .pointer (some ⟨Y, 6, none⟩)] 159))
        exact ⟨⟨3, rfl, by omega, by rw [hm]; exact HQ.out.1.keep hk, HQ.out.2.1.keep hk, HQ.out.2.2.1.keep hk, bnext HQ.out.2.2.2.1 hk, (hk.cell (Zb wr _ HQ.out.2.2.2.2)).trans HQ.out.2.2.2.2⟩, by simp [intOf]⟩
     ·
      have hk4 : k = 3 := by omega
      subst hk4
      clear hx hyb hrb hbb hmcl2 hmcl
      rw [show ((3 : Nat) : Int) = 3 from rfl]
      go_wp2_with fail
      refine ⟨⟨i + 1, by simp, by omega, ?_, HQ.out.2.2.1, HQ.out.2.2.2.1, HQ.out.2.2.2.2⟩, by simp [intOf]; omega⟩
      rw [HF.out.1]; exact HQ.out.1
   ·have hie : i = mm := by omega
    subst hie
    have hfull : (up.drop 1).take i = up.drop 1 := List.take_of_length_le (by have := hML.out; have := HMM.out; simp; omega)
    rw [hfull] at hx
    have hfin : (up.drop 1).foldl (fun x p => mixT x (tyAt S p)) x = inheritT S t up := by unfold inheritT; rw [HX.out]
    rw [hfin] at hx
    have hnm : (inheritT S t up).names = x.names := by
     unfold inheritT; rw [HX.out]
     generalize up.drop 1 = l
     clear hfin hfull hx
     have : ∀ (l : List Nat) (x : PType), (l.foldl (fun x p => mixT x (tyAt S p)) x).names = x.names := by
      intro l
      induction l with
      | nil => intro x; rfl
      | cons p l ih => intro x; rw [List.foldl_cons, ih]; rfl
     exact this l x
    have HNM := Zh hnm
    generalize hz : inheritT S t up = z at hx HNM
    have HZ := Zh hz; clear hz
    have c0 : wr.cell? ⟨X, 0, none⟩ = some (.string z.oid) := hx.cell 0 _ rfl
    have c1 : wr.cell? ⟨X, 1, none⟩ = some (.slice na nn nc) := hx.cell 1 _ rfl
    have c2 : wr.cell? ⟨X, 2, none⟩ = some (.string z.sup) := hx.cell 2 _ rfl
    have c3 : wr.cell? ⟨X, 3, none⟩ = some (.int .i8 z.syn) := hx.cell 3 _ rfl
    have c4 : wr.cell? ⟨X, 4, none⟩ = some (.int .i8 z.eq) := hx.cell 4 _ rfl
    have c5 : wr.cell? ⟨X, 5, none⟩ = some (.int .i8 z.ord) := hx.cell 5 _ rfl
    have c6 : wr.cell? ⟨X, 6, none⟩ = some (.int .i8 z.part) := hx.cell 6 _ rfl
    have c7 : wr.cell? ⟨X, 7, none⟩ = some (.bool z.single) := hx.cell 7 _ rfl
    have c8 : wr.cell? ⟨X, 8, none⟩ = some (.int .u8 z.index) := hx.cell 8 _ rfl
    have hrf := hr.fr
    have d0 : wr.cell? ⟨R, 0, none⟩ = some (.string ⟨#[]⟩) := hr.cell 0 _ rfl
    have d1 : wr.cell? ⟨R, 1, none⟩ = some (.slice none 0 0) := hr.cell 1 _ rfl
    have d2 : wr.cell? ⟨R, 2, none⟩ = some (.string ⟨#[]⟩) := hr.cell 2 _ rfl
    have d3 : wr.cell? ⟨R, 3, none⟩ = some (.int .i8 0) := hr.cell 3 _ rfl
    have d4 : wr.cell? ⟨R, 4, none⟩ = some (.int .i8 0) := hr.cell 4 _ rfl
    have d5 : wr.cell? ⟨R, 5, none⟩ = some (.int .i8 0) := hr.cell 5 _ rfl
    have d6 : wr.cell? ⟨R, 6, none⟩ = some (.int .i8 0) := hr.cell 6 _ rfl
    have d7 : wr.cell? ⟨R, 7, none⟩ = some (.bool false) := hr.cell 7 _ rfl
    have d8 : wr.cell? ⟨R, 8, none⟩ = some (.int .u8 0) := hr.cell 8 _ rfl
    have HB := Zh (Zi hb hr)
    clear hx hr hb hfin hfull hmcl hnm
    go_wp2_with fail
    refine bodyPost_ret (v := .agg (tyAgg z (.slice na nn nc))) (by simp [results, Tryz.results48, go_sem, tyAgg, *]) rfl ?_
    have hr : w.heap.size ≤ R := HM2.out
    exact ⟨na, nn, nc, by rw [HZ.out], by rw [HZ.out, HNM.out]; exact HTE.out, ((((((((HB.out.1.setCell hr _).setCell hr _).setCell hr _).setCell hr _).setCell hr _).setCell hr _).setCell hr _).setCell hr _).setCell hr _⟩
structure Bel (w : World) (bb n : Nat) (L : Nat → List Nat) (f : Nat → Option Nat × Nat) : Prop where
 lt : bb < w.heap.size
 cell : ∀ p, p < n → w.cell? ⟨bb, p, none⟩ = some (sv (f p).1 (L p).length (f p).2)
 own : ∀ p, p < n → Own w 3 1 (f p).1 (L p).length (f p).2 ((L p).map intV)
 up : ∀ p, p < n → ∀ g, (f p).1 = some g → bb < g
 ne : ∀ p q, p < n → q < n → p ≠ q → ∀ g, (f p).1 = some g → (f q).1 ≠ some g
 fr : ∀ j, w.frozen? ⟨bb, j, none⟩ = false
theorem Bel.keep {w w' : World} {bb n : Nat} {L : Nat → List Nat} {f : Nat → Option Nat × Nat} (h : Bel w bb n L f) (k : Below w.heap.size w w') : Bel w' bb n L f where
 lt := Nat.lt_of_lt_of_le h.lt k.size
 cell := fun p hp => by rw [k.cell (p := ⟨bb, p, none⟩) h.lt]; exact h.cell p hp
 own := fun p hp => (h.own p hp).keep fun g hg => k.block g (by have := h.own p hp; rw [hg] at this; exact this.row.lt)
 up := h.up
 ne := h.ne
 fr := fun j => by rw [k.frozen (p := ⟨bb, j, none⟩) h.lt]; exact h.fr j
theorem Bel.other {w w' : World} {bb n : Nat} {L : Nat → List Nat} {f : Nat → Option Nat × Nat} (h : Bel w bb n L f) (hs : w.heap.size ≤ w'.heap.size) (k : ∀ b, bb ≤ b → b < w.heap.size → w'.heap[b]? = w.heap[b]?) : Bel w' bb n L f where
 lt := Nat.lt_of_lt_of_le h.lt hs
 cell := fun p hp => by rw [World.cell?_of_block (a := ⟨bb, p, none⟩) (k bb (Zr _) h.lt)]; exact h.cell p hp
 own := fun p hp => (h.own p hp).keep fun g hg => k g (Nat.le_of_lt (h.up p hp g hg)) (by have := h.own p hp; rw [hg] at this; exact this.row.lt)
 up := h.up
 ne := h.ne
 fr := fun j => by rw [World.frozen?_of_block (a := ⟨bb, j, none⟩) (k bb (Zr _) h.lt)]; exact h.fr j
theorem Bel.ptr {w : World} {bb n : Nat} {L : Nat → List Nat} {f : Nat → Option Nat × Nat} (h : Bel w bb n L f) {p : Nat} (hp : p < n) {g : Nat} (hg : (f p).1 = some g) : g < w.heap.size := by
 have := h.own p hp; rw [hg] at this; exact this.row.lt
theorem Bel.app {w w' : World} {bb n : Nat} {L : Nat → List Nat} {f : Nat → Option Nat × Nat} (h : Bel w bb n L f) {p : Nat} (hp : p < n) {g cap i m : Nat} (hm : m = (L p).length + 1)
  (ho : Own w' 3 1 (some g) m cap ((L p).map intV ++ [intV i])) (hg : w.grownBy w' (f p).1) (hat : (f p).1 = some g ∨ g = w.heap.size) :
  Bel (w'.setCell ⟨bb, p, none⟩ (.slice (some ⟨g, 0, none⟩) m cap)) bb n (fun q => if q = p then L p ++ [i] else L q) (fun q => if q = p then (some g, cap) else f q) := by
 subst hm
 have hbw : bb < w'.heap.size := Nat.lt_of_lt_of_le h.lt hg.size
 have hbp : ∀ g', (f p).1 = some g' → bb ≠ g' := fun g' e => by have := h.up p hp g' e; omega
 have hbb : w'.heap[bb]? = w.heap[bb]? := hg.block bb h.lt (fun e => hbp bb e.symm rfl)
 have hgb : bb < g := by
  rcases hat with e | e
  ·exact h.up p hp g e
  ·rw [e]; exact h.lt
 have hold : ∀ q, w'.cell? ⟨bb, q, none⟩ = w.cell? ⟨bb, q, none⟩ := fun q => World.cell?_of_block (a := ⟨bb, q, none⟩) hbb
 have hoth : ∀ q, q < n → q ≠ p → ∀ g', (f q).1 = some g' → g' ≠ g ∧ w'.heap[g']? = w.heap[g']? := fun q hq hqp g' e => by
  have hlt := h.ptr hq e
  constructor
  ·rintro rfl
   rcases hat with e2 | e2
   ·exact h.ne p q hp hq (Ne.symm hqp) g' e2 e
   ·omega
  ·exact hg.block g' hlt (fun e2 => h.ne p q hp hq (Ne.symm hqp) g' e2.symm e)
 refine ⟨by simpa [World.setCell] using hbw, fun q hq => ?_, fun q hq => ?_, fun q hq g' e => ?_, fun q r hq hr hqr g' e => ?_, fun j => ?_⟩
 ·by_cases e : q = p
  ·subst e
   simp only [if_true, List.length_append, List.length_cons, List.length_nil]
   rw [World.cell?_setCell_same _ _ _ ((hold q).trans (h.cell q hq))]
   rfl
  ·simp only [if_neg e]
   rw [World.cell?_setCell_other _ _ _ _ (by intro e2; injection e2 with _ e3 _; exact e e3.symm), hold]
   exact h.cell q hq
 ·by_cases e : q = p
  ·subst e
   simp only [if_true, List.length_append, List.length_cons, List.length_nil, List.map_append, List.map_cons, List.map_nil]
   exact ho.keep fun g' hg' => by cases hg'; exact Below.heap_setCell w' ⟨bb, q, none⟩ _ g (by show g ≠ bb; omega)
  ·simp only [if_neg e]
   refine (h.own q hq).keep fun g' hg' => ?_
   have h1 := hoth q hq e g' hg'
   rw [Below.heap_setCell w' ⟨bb, p, none⟩ _ g' (by have := h.up q hq g' hg'; show g' ≠ bb; omega)]
   exact h1.2
 ·by_cases e2 : q = p
  ·simp only [if_pos e2] at e
   cases e; exact hgb
  ·simp only [if_neg e2] at e
   exact h.up q hq g' e
 ·by_cases e2 : q = p
  ·simp only [if_pos e2] at e
   cases e
   rw [if_neg (by rintro rfl; exact hqr e2)]
   intro e3
   exact (hoth r hr (by rintro rfl; exact hqr e2) g e3).1 rfl
  ·simp only [if_neg e2] at e
   by_cases e3 : r = p
   ·simp only [if_pos e3]
    intro e4; injection e4 with e5
    exact (hoth q hq e2 g' e).1 e5.symm
   ·simp only [if_neg e3]
    exact h.ne q r hq hr hqr g' e
 ·rw [World.frozen?_setCell, World.frozen?_of_block (a := ⟨bb, j, none⟩) hbb]; exact h.fr j
theorem Bel.made {w : World} {bb n : Nat} (hlt : bb < w.heap.size) (hc : ∀ p, p < n → w.cell? ⟨bb, p, none⟩ = some (.slice none 0 0)) (hf : ∀ j, w.frozen? ⟨bb, j, none⟩ = false) : Bel w bb n (fun _ => []) (fun _ => (none, 0)) where
 lt := hlt
 cell := fun p hp => hc p hp
 own := fun p _ => Own.nil w _ _
 up := fun p _ g e => by cases e
 ne := fun p q _ _ _ g e => by cases e
 fr := hf
def fullCells (S : PSchema) (nv : Nat → Value) (i : Nat) : List Value := (List.range i).flatMap fun t => (tyAgg (fullT S t) (nv t)).toList
theorem fullCells_succ (S : PSchema) (nv : Nat → Value) (i : Nat) (v : Value) : fullCells S (fun t => if t = i then v else nv t) (i + 1) = fullCells S nv i ++ (tyAgg (fullT S i) v).toList := by
 unfold fullCells
 rw [List.range_succ, List.flatMap_append]
 congr 1
 ·simp only [List.flatMap]
  congr 1
  apply List.map_congr_left
  intro t ht
  have := List.mem_range.1 ht
  rw [if_neg (by omega)]
 ·simp
theorem tyAgg_one (x : PType) {nv : Value} (h : nv.oneCell' = true) : ∀ u ∈ (tyAgg x nv).toList, u.oneCell' = true := by
 intro u hu
 simp only [tyAgg, List.mem_cons, List.not_mem_nil, or_false] at hu
 rcases hu with rfl | rfl | rfl | rfl | rfl | rfl | rfl | rfl | rfl <;> first | exact h | rfl
theorem fullCells_len (S : PSchema) (nv : Nat → Value) (i : Nat) : (fullCells S nv i).length = i * 9 := by
 unfold fullCells
 induction i with
 | zero => rfl
 | succ i ih => rw [List.range_succ, List.flatMap_append, List.length_append, ih]; simp [tyAgg]; omega
theorem fullCells_get (S : PSchema) (nv : Nat → Value) {i t j : Nat} (ht : t < i) (hj : j < 9) : (fullCells S nv i)[t * 9 + j]? = (tyAgg (fullT S t) (nv t))[j]? := by
 induction i with
 | zero => omega
 | succ i ih =>
  unfold fullCells
  rw [List.range_succ, List.flatMap_append]
  by_cases e : t = i
  ·subst e
   rw [List.getElem?_append_right (by have := fullCells_len S nv t; unfold fullCells at this; omega)]
   have := fullCells_len S nv t
   unfold fullCells at this
   rw [this, show t * 9 + j - t * 9 = j by omega]
   simp
  ·rw [List.getElem?_append_left (by have := fullCells_len S nv i; unfold fullCells at this; rw [this]; omega)]
   exact ih (by omega)
def NvOk (B : Nat) (w : World) (S : PSchema) (nv : Nat → Value) (i : Nat) : Prop := ∀ t, t < i → ∃ a n c, nv t = .slice a n c ∧ Texts B w a n c (fullT S t).names
theorem NvOk.keep {B : Nat} {w w' : World} {S : PSchema} {nv : Nat → Value} {i : Nat} (h : NvOk B w S nv i) (k : Below B w w') : NvOk B w' S nv i := fun t ht => by
 obtain ⟨a, n, c, h1, h2⟩ := h t ht
 exact ⟨a, n, c, h1, h2.keep k (Zr _)⟩
theorem NvOk.succ {B : Nat} {w : World} {S : PSchema} {nv : Nat → Value} {i : Nat} (h : NvOk B w S nv i) {a : Option Addr} {n c : Nat} (ht : Texts B w a n c (fullT S i).names) : NvOk B w S (fun t => if t = i then .slice a n c else nv t) (i + 1) := fun t hlt => by
 by_cases e : t = i
 ·subst e; exact ⟨a, n, c, if_pos rfl, ht⟩
 ·obtain ⟨a', n', c', h1, h2⟩ := h t (by omega)
  exact ⟨a', n', c', by simp only [if_neg e]; exact h1, h2⟩
structure Sch (w : World) (g : Nat) (S : PSchema) : Prop where
 base : Mk w g S
 full : ∃ (go : Option Nat) (cap : Nat) (nv : Nat → Value), w.cell? ⟨g, 4, none⟩ = some (sv go S.types.length cap) ∧ Own w 46 9 go S.types.length cap (fullCells S nv S.types.length) ∧ NvOk g w S nv S.types.length
 below : ∃ bb f, w.cell? ⟨g, 5, none⟩ = some (.slice (some ⟨bb, 0, none⟩) S.types.length S.types.length) ∧ Bel w bb S.types.length (belowOf S) f
 above : ∃ lo hi go cap vs, hi ≤ w.heap.size ∧ Ups w g lo hi S S.classes.length go cap vs
 small : S.types.length ≤ 1024 ∧ S.classes.length ≤ 1024
 ok : newE S = (0, 0)
theorem Sch.keep {w w' : World} {g : Nat} {S : PSchema} (h : Sch w g S) (k : Below w.heap.size w w') : Sch w' g S where
 base := h.base.keep k
 full := by
  obtain ⟨go, cap, nv, h1, h2, h3⟩ := h.full
  exact ⟨go, cap, nv, by rw [k.cell (Zb w _ h1)]; exact h1, h2.keep fun b hb => k.block b (by subst hb; exact h2.row.lt), h3.keep (k.mono (Nat.le_of_lt h.base.lt))⟩
 below := by
  obtain ⟨bb, f, h1, h2⟩ := h.below
  exact ⟨bb, f, by rw [k.cell (Zb w _ h1)]; exact h1, h2.keep k⟩
 above := by
  obtain ⟨lo, hi, go, cap, vs, h1, h2⟩ := h.above
  exact ⟨lo, hi, go, cap, vs, Nat.le_trans h1 k.size, h2.keep h1 k⟩
 small := h.small
 ok := h.ok
end Go.Proofs.YtlmfbjhokkpjhaaGreatDoor
