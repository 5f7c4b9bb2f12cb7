/- Part 19 of the walks and plain laws, joined: Classed. -/
import Derived.Test.YtlmfbjhokkpjhaaGreatDoorNM00
import Derived.Test.YtlmfbjhokkpjhaaGreatDoorNM17
import Derived.Test.YtlmfbjhokkpjhaaGreatDoorNM18
set_option linter.unusedVariables false
set_option linter.unusedSimpArgs false
namespace Go.Proofs.YtlmfbjhokkpjhaaGreatDoor
open Go Go.RowKit Go.Maps
def clAgg (x : PClass) (nv sv1 mu ma : Value) : Array Value := #[.string x.oid, nv, sv1, .int .i8 x.kind, mu, ma]
structure ClBlk (w : World) (X : Nat) (x : PClass) (nv sv1 mu ma : Value) : Prop where
 cell : ∀ (j : Nat) v, (clAgg x nv sv1 mu ma)[j]? = some v → w.cell? ⟨X, j, none⟩ = some v
 lt : X < w.heap.size
section
variable {w w' : World} {X : Nat} {x : PClass} {nv sv1 mu ma : Value}
theorem ClBlk.made (w : World) (x : PClass) (nv sv1 mu ma : Value) (T : TypeId) : ClBlk (w.alloc (.cells (clAgg x nv sv1 mu ma) T)) w.heap.size x nv sv1 mu ma where
 cell := fun j v h => by rw [World.cell?_alloc_new]; exact h
 lt := by simp
theorem ClBlk.keep (h : ClBlk w X x nv sv1 mu ma) (k : Below w.heap.size w w') : ClBlk w' X x nv sv1 mu ma where
 cell := fun j v hj => by rw [k.cell (p := ⟨X, j, none⟩) h.lt]; exact h.cell j v hj
 lt := Nat.lt_of_lt_of_le h.lt k.size
theorem ClBlk.c0 (h : ClBlk w X x nv sv1 mu ma) : w.cell? ⟨X, 0, none⟩ = some (.string x.oid) := h.cell 0 _ rfl
theorem ClBlk.c1 (h : ClBlk w X x nv sv1 mu ma) : w.cell? ⟨X, 1, none⟩ = some nv := h.cell 1 _ rfl
theorem ClBlk.c2 (h : ClBlk w X x nv sv1 mu ma) : w.cell? ⟨X, 2, none⟩ = some sv1 := h.cell 2 _ rfl
theorem ClBlk.c3 (h : ClBlk w X x nv sv1 mu ma) : w.cell? ⟨X, 3, none⟩ = some (.int .i8 x.kind) := h.cell 3 _ rfl
theorem ClBlk.c4 (h : ClBlk w X x nv sv1 mu ma) : w.cell? ⟨X, 4, none⟩ = some mu := h.cell 4 _ rfl
theorem ClBlk.c5 (h : ClBlk w X x nv sv1 mu ma) : w.cell? ⟨X, 5, none⟩ = some ma := h.cell 5 _ rfl
end
structure CCells (w : World) (M g X mt mc : Nat) (x : PClass) (nv sv1 mu ma : Value) : Prop where
 m0 : w.cell? ⟨M, 0, none⟩ = some (.pointer (some ⟨g, 0, none⟩))
 g2 : w.cell? ⟨g, 2, none⟩ = some (.map (some mt))
 g3 : w.cell? ⟨g, 3, none⟩ = some (.map (some mc))
 blk : ClBlk w X x nv sv1 mu ma
theorem CCells.keep {w w' : World} {M g X mt mc : Nat} {x : PClass} {nv sv1 mu ma : Value} (h : CCells w M g X mt mc x nv sv1 mu ma) (k : Below w.heap.size w w') : CCells w' M g X mt mc x nv sv1 mu ma :=
 ⟨by rw [k.cell (Zb w _ h.m0)]; exact h.m0, by rw [k.cell (Zb w _ h.g2)]; exact h.g2, by rw [k.cell (Zb w _ h.g3)]; exact h.g3, h.blk.keep k⟩
def cE6 (S : PSchema) (c : Nat) : Int := if !(((clAt S c).must ++ (clAt S c).may).all (knowsT S)) then 51 else 0
def cE5 (S : PSchema) (c : Nat) : Int := if 16 < (riseOf S c).count true then 3 else cE6 S c
def cE4 (S : PSchema) (c : Nat) : Int := if (riseOf S c).getD c false then 53 else cE5 S c
def cE3 (S : PSchema) (c : Nat) : Int := if !((supsOf S c).all (·.isSome)) then 51 else cE4 S c
def cE2 (S : PSchema) (c : Nat) : Int := if takenB (placeOf (cK S)) c (keysC (clAt S c)) [] then 52 else cE3 S c
def cE1 (S : PSchema) (c : Nat) : Int := if namedE (clAt S c).oid (clAt S c).names ≠ 0 ∨ 16 < (clAt S c).sups.length then 3 else cE2 S c
theorem classE_eq (S : PSchema) (c : Nat) : classE S c = if namedE (clAt S c).oid (clAt S c).names = 50 ∨ (clAt S c).kind < 0 ∨ 2 < (clAt S c).kind then 50 else cE1 S c := rfl
theorem eiSlB : EI Tryz.prog 82 154 (.slice none 0 0) 1 24 := EI.of Tryz.underlying82 (by kernel_rfl) rfl (by decide) (by decide)
def ClassedNew (S : PSchema) (g c : Nat) (w : World) (go : Option Nat) (k : Nat) (vs : List Value) (w' : World) : Prop :=
 ∃ sb w7 w8 g' cap', Below w.heap.size w w7 ∧ Row w7 sb 4 1 S.classes.length ((riseOf S c).map boolV) ∧ w.heap.size ≤ sb ∧ Own w8 154 1 (some g') (k + 1) cap' (vs ++ [.slice (some ⟨sb, 0, none⟩) S.classes.length S.classes.length]) ∧ w7.grownBy w8 go ∧ (go = some g' ∨ g' = w7.heap.size) ∧ w' = w8.setCell ⟨g, 6, none⟩ (.slice (some ⟨g', 0, none⟩) (k + 1) cap')
def ClassedPost (S : PSchema) (g c : Nat) (w : World) (go : Option Nat) (k : Nat) (vs : List Value) (e : Ending) (w' : World) : Prop :=
 e = .returned (.int .i64 (classE S c)) ∧ (classE S c ≠ 0 → Below w.heap.size w w') ∧ (classE S c = 0 → ClassedNew S g c w go k vs w')
set_option maxRecDepth 20000 in
set_option maxHeartbeats 8000000 in
theorem classed_any (S : PSchema) (g c : Nat) (w : World) (h : Mk w g S) (E : EnvS w) (ht : c < S.classes.length) (hS : S.classes.length ≤ 1024)
    (go : Option Nat) (k cap : Nat) (vs : List Value) (h6 : w.cell? ⟨g, 6, none⟩ = some (sv go k cap)) (ho : Own w 154 1 go k cap vs) (hgo : ∀ b, go = some b → b ≠ g) (hk : k ≤ 1024) (hfz : w.frozen? ⟨g, 6, none⟩ = false) :
    Calls Tryz.prog 46 #[.agg #[.pointer (some ⟨g, 0, none⟩)], .int .i64 (c : Int)] w (ClassedPost S g c w go k vs) := by
  have HUP := Zh (Zi h6 (Zi ho (Zi hgo (Zi hk hfz)))); clear h6 ho hgo hk hfz
  obtain ⟨a0, n0, c0, hc0, hty⟩ := h.classes
  obtain ⟨tb, tx, rfl, htb⟩ := hty.lies.ptr (by have := hty.len; omega)
  have hT := hty.cell tb tx rfl c _ (List.getElem?_eq_getElem ht)
  have hok := hty.ok _ (List.getElem_mem ht)
  have hsup : clAt S c = S.classes[c] := by unfold clAt; simp [List.getD, ht]
  rw [← hsup] at hT hok
  obtain ⟨na, nn, nc, h1, hte⟩ := hT.c1
  obtain ⟨sa, sn, sc, h2, hse⟩ := hT.c2
  obtain ⟨ua, un, uc, h4, hue⟩ := hT.c4
  obtain ⟨ya, yn, yc, h5, hye⟩ := hT.c5
  obtain ⟨mt, Nt, hct, hmtl, hmapt⟩ := h.tm
  obtain ⟨mc, N, hc2, hml, hmap⟩ := h.cm
  have h0 := hT.c0
  have h3 := hT.c3
  have htn : (c : Int) < (n0 : Int) := by have := hty.len; omega
  have hti : (0 : Int) ≤ (c : Int) := by omega
  have hglt := Zb w _ hc0
  have htlt := Zb w _ h0
  simp only at hglt htlt
  have HMK := Zh h; have HTE := Zh hte; have HSE := Zh hse; have HUE := Zh hue; have HYE := Zh hye; have HOK := Zh hok; have HMAP := Zh (Zi hml hmap); have HMAPT := Zh (Zi hmtl hmapt); have HE := Zh E; have HC2 := Zh (Zi hct hc2); have HLT := Zh (Zi ht hS)
  clear h hte hse hue hye hsup hT hty htb hok hml hmap hmtl hmapt hct E hc2 ht hS
  generalize hx : clAt S c = x at *
  have HX := Zh hx; clear hx
  go_enter Tryz.func46, Tryz.ntmps46
  go_upto_region 2 with fail
  clear h0 h1 h2 h3 h4 h5
  have htb1 : ClBlk ((w.alloc (.cells #[.pointer (some ⟨g, 0, none⟩)] 86)).alloc (.cells #[.string x.oid, .slice na nn nc, .slice sa sn sc, .int .i8 x.kind, .slice ua un uc, .slice ya yn yc] 89)) (w.heap.size + 1) x (.slice na nn nc) (.slice sa sn sc) (.slice ua un uc) (.slice ya yn yc) := by
    have := ClBlk.made (w.alloc (.cells #[.pointer (some ⟨g, 0, none⟩)] 86)) x (.slice na nn nc) (.slice sa sn sc) (.slice ua un uc) (.slice ya yn yc) 89
    rw [show (w.alloc (.cells #[.pointer (some ⟨g, 0, none⟩)] 86)).heap.size = w.heap.size + 1 by simp] at this
    exact this
  have hbw : Below w.heap.size w ((w.alloc (.cells #[.pointer (some ⟨g, 0, none⟩)] 86)).alloc (.cells #[.string x.oid, .slice na nn nc, .slice sa sn sc, .int .i8 x.kind, .slice ua un uc, .slice ya yn yc] 89)) := (((Zl _ w).alloc (Zr _) _).alloc (by simp) _)
  have hmc : ((w.alloc (.cells #[.pointer (some ⟨g, 0, none⟩)] 86)).alloc (.cells #[.string x.oid, .slice na nn nc, .slice sa sn sc, .int .i8 x.kind, .slice ua un uc, .slice ya yn yc] 89)).cell? ⟨w.heap.size, 0, none⟩ = some (.pointer (some ⟨g, 0, none⟩)) := by
    rw [World.cell?_alloc_lt _ _ _ (by simp), World.cell?_alloc_new]; rfl
  generalize (w.alloc (.cells #[.pointer (some ⟨g, 0, none⟩)] 86)).alloc (.cells #[.string x.oid, .slice na nn nc, .slice sa sn sc, .int .i8 x.kind, .slice ua un uc, .slice ya yn yc] 89) = w1 at htb1 hbw hmc ⊢
  generalize w.heap.size + 1 = X at htb1 ⊢
  have hg2 := (hbw.cell (Zb w _ HC2.out.1)).trans HC2.out.1
  have hg3 := (hbw.cell (Zb w _ HC2.out.2)).trans HC2.out.2
  generalize hM : w.heap.size = M at hmc ⊢
  have HMM := Zh hM; clear hM
  have HTC : Hid (CCells w1 M g X mt mc x (.slice na nn nc) (.slice sa sn sc) (.slice ua un uc) (.slice ya yn yc)) := Zh ⟨hmc, hg2, hg3, htb1⟩
  have HBW := Zh hbw
  clear hmc hg2 hg3 htb1 hbw hc0 hglt htlt HC2
  have hnam := fun wr (hb : Below w1.heap.size w1 wr) => named_any x.oid g na nn nc x.names wr (HE.out.next (bnext HBW.out hb)) (HTE.out.keep ((bnext HBW.out hb).mono (Nat.le_of_lt HMK.out.lt)) (Zr _)) (Nat.le_trans (Nat.le_of_lt HMK.out.lt) (bnext HBW.out hb).size) HOK.out.oid
  have HNAM := Zh hnam; clear hnam
  have k0 := HTC.out.blk.c0
  have k1 := HTC.out.blk.c1
  obtain ⟨ne, hne⟩ : ∃ ne, namedE x.oid x.names = ne := ⟨_, rfl⟩
  rw [hne] at HNAM
  go_upto_region 3 with (first | (go_at_call 90; refine (HNAM.out _ (Zl _ _)).mono ?_; rintro e w2 ⟨rfl, hb2⟩; have HB2 := Zh hb2; clear hb2) | fail)
  have hT1 : classE S c = if ne = 50 ∨ x.kind < 0 ∨ 2 < x.kind then 50 else cE1 S c := by rw [classE_eq, HX.out, hne]
  have hT1' : cE1 S c = if ne ≠ 0 ∨ 16 < x.sups.length then 3 else cE2 S c := by unfold cE1; rw [HX.out, hne]
  have HT1 := Zh hT1; have HT1' := Zh hT1'
  clear hT1 hT1' hne k0 k1 HNAM
  have q2 := HTC.out.keep HB2.out
  have e2 := q2.blk.c2
  have e3 := q2.blk.c3
  clear q2
  by_cases hA : ne = 50
  · subst hA
    have HF : Hid (classE S c = 50) := Zh (by rw [HT1.out, if_pos (Or.inl rfl)])
    go_wp2_with fail
    go_ret
    exact ⟨by rw [HF.out]; rfl, fun _ => HMM.out ▸ (bnext HBW.out HB2.out), fun h => by rw [HF.out] at h; cases h⟩
  have hAb : (ne == 50) = false := by simpa using hA
  by_cases hB : x.kind < 0
  · have HF : Hid (classE S c = 50) := Zh (by rw [HT1.out, if_pos (Or.inr (Or.inl hB))])
    have hBb : decide (x.kind < 0) = true := decide_eq_true hB
    clear hA hB
    go_wp2_with fail
    go_ret
    exact ⟨by rw [HF.out]; rfl, fun _ => HMM.out ▸ (bnext HBW.out HB2.out), fun h => by rw [HF.out] at h; cases h⟩
  have hBb : decide (x.kind < 0) = false := decide_eq_false hB
  by_cases hC : 2 < x.kind
  · have HF : Hid (classE S c = 50) := Zh (by rw [HT1.out, if_pos (Or.inr (Or.inr hC))])
    have hCb : decide (2 < x.kind) = true := decide_eq_true hC
    clear hA hB hC
    go_wp2_with fail
    go_ret
    exact ⟨by rw [HF.out]; rfl, fun _ => HMM.out ▸ (bnext HBW.out HB2.out), fun h => by rw [HF.out] at h; cases h⟩
  have hCb : decide (2 < x.kind) = false := decide_eq_false hC
  have hT2 : classE S c = if ne ≠ 0 ∨ 16 < x.sups.length then 3 else cE2 S c := by rw [HT1.out, if_neg (by rintro (h | h | h) <;> contradiction), HT1'.out]
  have HT2 := Zh hT2
  clear hT2 HT1 HT1' hA hB hC
  by_cases hD : ne = 0
  · subst hD
    have hsl := HSE.out.len
    by_cases hL : 16 < x.sups.length
    · have HF : Hid (classE S c = 3) := Zh (by rw [HT2.out, if_pos (Or.inr hL)])
      have hLb : decide ((16 : Int) < (sn : Int)) = true := decide_eq_true (by omega)
      clear hL hsl
      go_wp2_with fail
      go_ret
      exact ⟨by rw [HF.out]; rfl, fun _ => HMM.out ▸ (bnext HBW.out HB2.out), fun h => by rw [HF.out] at h; cases h⟩
    have hLb : decide ((16 : Int) < (sn : Int)) = false := decide_eq_false (by omega)
    have hT3 : classE S c = cE2 S c := by rw [HT2.out, if_neg (by rintro (h | h) <;> contradiction)]
    have HSN : Hid (sn = x.sups.length ∧ sn ≤ 16) := Zh ⟨hsl, by omega⟩
    have HT3 := Zh hT3
    clear hT3 HT2 hL hsl
    go_upto_region 7 with fail
    clear e2 e3 hAb hBb hCb hLb
    have htk := fun wr (hb : Below w1.heap.size w1 wr) => taken_any g N mc c (placeOf (cK S)) x.oid na nn nc x.names wr (HTE.out.keep ((bnext HBW.out hb).mono (Nat.le_of_lt HMK.out.lt)) (Zr _)) HOK.out.oid (HMAP.out.2.keep (bnext HBW.out hb) HMAP.out.2.lt) (Nat.le_trans (Nat.le_of_lt HMK.out.lt) (bnext HBW.out hb).size)
    have hkn : keysN x.oid x.names = keysC (clAt S c) := by rw [HX.out]; rfl
    obtain ⟨tk, htke⟩ : ∃ tk, takenB (placeOf (cK S)) c (keysN x.oid x.names) [] = tk := ⟨_, rfl⟩
    rw [htke] at htk
    rw [hkn] at htke
    have HTK := Zh htk; clear htk hkn
    have q2 := HTC.out.keep HB2.out
    have e0 := q2.m0
    have e1 := q2.g3
    have e2 := q2.blk.c0
    have e3 := q2.blk.c1
    clear q2
    go_region_held3 (fun w3 => w3.cell? ⟨M, 0, none⟩ = some (.pointer (some ⟨g, 0, none⟩)) ∧ w3.cell? ⟨g, 3, none⟩ = some (.map (some mc)) ∧ w3.cell? ⟨X, 0, none⟩ = some (.string x.oid) ∧ w3.cell? ⟨X, 1, none⟩ = some (.slice na nn nc))
      (first | exact ⟨e0, e1, e2, e3⟩ | exact ⟨i0, i1, i2, i3⟩ | fail)
      (first
        | (go_at_call 91; refine (HTK.out _ (HB2.out.drew)).mono ?_; rintro e w3 ⟨rfl, hb3⟩; have hb4 := bnext HB2.out.drew hb3; have q3 := HTC.out.keep hb4; have i0 := q3.m0; have i1 := q3.g3; have i2 := q3.blk.c0; have i3 := q3.blk.c1; have HB3 := Zh hb4; clear hb3 hb4 q3)
        | fail)
    clear e0 e1 e2 e3 i0 i1 i2 i3 HTK
    cases tk with
    | true =>
      have HTKE := Zh htke; clear htke
      go_wp2_with fail
      go_ret
      have HF : Hid (classE S c = 52) := Zh (by rw [HT3.out]; unfold cE2; rw [HTKE.out, if_pos rfl])
      exact ⟨by rw [HF.out]; rfl, fun _ => HMM.out ▸ (bnext HBW.out HB3.out), fun h => by rw [HF.out] at h; cases h⟩
    | false =>
      have HT4 : Hid (classE S c = cE3 S c) := Zh (by rw [HT3.out]; unfold cE2; rw [htke, if_neg (by simp)])
      clear htke HT3
      have q3 := HTC.out.keep HB3.out
      have e2 := q3.blk.c2
      clear q3
      go_upto_region 10 with fail
      clear e2
      have HSP : Hid (supsOf S c = x.sups.map fun n => placeOf (cK S) (low (toL n))) := Zh (by unfold supsOf; rw [HX.out])
      go_loopw [69] (fun iv wr => ∃ i : Nat, iv = .int .i64 i ∧ i ≤ sn ∧ Below w1.heap.size w1 wr ∧ ((supsOf S c).take i).all (·.isSome) = true) (fun iv _ => sn - (intOf iv).toNat)
      case atStart => exact ⟨0, rfl, Nat.zero_le _, HB3.out, by simp⟩
      case round =>
        obtain ⟨i, rfl, hi, hbr, hal⟩ := hrel
        have HR := Zh (Zi hbr hal); clear hbr hal
        by_cases hlt : i < sn
        · have hli : i < x.sups.length := by have := HSN.out; omega
          obtain ⟨ub, ux, rfl, hub⟩ := HSE.out.lies.ptr (by omega)
          have hbg : Below g w wr := (bnext HBW.out HR.out.1).mono (Nat.le_of_lt HMK.out.lt)
          have f0 := (HSE.out.keep hbg (Zr _)).cell ub ux rfl i _ (List.getElem?_eq_getElem hli)
          have hsz := HSE.out.size _ (List.getElem_mem hli)
          have hil : i < (supsOf S c).length := by rw [HSP.out]; simpa using hli
          have hgi : (supsOf S c)[i] = placeOf (cK S) (low (toL x.sups[i])) := by
            have : (supsOf S c)[i]? = some (placeOf (cK S) (low (toL x.sups[i]))) := by rw [HSP.out]; simp [hli]
            rw [List.getElem?_eq_getElem hil] at this
            exact Option.some.inj this
          have htk : ((supsOf S c).take (i + 1)).all (·.isSome) = (supsOf S c)[i].isSome := by
            rw [List.take_succ_eq_append_getElem hil, List.all_append, HR.out.2]; simp
          have hno : (supsOf S c)[i].isSome = false → classE S c = 51 := fun h => by
            rw [HT4.out]; unfold cE3
            rw [if_pos]
            simp only [Bool.not_eq_true', List.all_eq_false]
            exact ⟨_, List.getElem_mem hil, by rw [h]; simp⟩
          rw [hgi] at htk hno
          generalize x.sups[i] = nm at f0 hsz htk hno hgi
          obtain ⟨pp, hpp⟩ : ∃ pp, placeOf (cK S) (low (toL nm)) = pp := ⟨_, rfl⟩
          rw [hpp] at htk hno
          have HTK := Zh (Zi htk (Zi hpp hno)); clear htk hpp hno hgi hil
          have hlk : ∀ w3, Below wr.heap.size wr w3 → (Instr.lookup 80 (.map (some mc)) (.string ⟨(low (toL nm)).toArray⟩) true).run Tryz.prog w3 = .ok (.tuple #[.int .i64 (pp.getD 0 : Nat), .bool pp.isSome]) w3 := fun w3 hb => by
            rw [← HTK.out.2.1]; exact (HMAP.out.2.keep (bnext HBW.out (bnext HR.out.1 hb)) HMAP.out.2.lt).look_ok (s := ⟨(low (toL nm)).toArray⟩) (by rw [low_size]; unfold maxLen; omega)
          have q3 := HTC.out.keep HR.out.1
          have e0 := q3.m0
          have e1 := q3.g3
          clear q3
          have hcells : ∀ w3, Below wr.heap.size wr w3 → w3.cell? ⟨M, 0, none⟩ = some (.pointer (some ⟨g, 0, none⟩)) ∧ w3.cell? ⟨g, 3, none⟩ = some (.map (some mc)) := fun w3 hb =>
            ⟨(HTC.out.keep (bnext HR.out.1 hb)).m0, (HTC.out.keep (bnext HR.out.1 hb)).g3⟩
          have hsml := fun w3 => small_any nm w3 (by omega)
          have HKK := Zh hlk; have HCL := Zh hcells; have HSM := Zh hsml
          clear hlk hcells hsml hsz hbg
          go_upto_region 12 with fail
          clear f0
          go_region_held3 (fun w3 => w3.cell? ⟨M, 0, none⟩ = some (.pointer (some ⟨g, 0, none⟩)) ∧ w3.cell? ⟨g, 3, none⟩ = some (.map (some mc)))
            (first | exact ⟨e0, e1⟩ | exact ⟨i0, i1⟩ | fail)
            (first
              | (go_at_call 89; with_reducible refine (HSM.out _).mono ?_; rintro e w5 ⟨rfl, hb5⟩; have hb6 := bnext ((Zl _ wr).drew) hb5; obtain ⟨i0, i1⟩ := HCL.out w5 hb6; have ik := HKK.out w5 hb6; have H5 := Zh hb6; clear hb5 hb6)
              | fail)
          clear e0 e1 i0 i1 ik
          cases pp with
          | none =>
            have HF : Hid (classE S c = 51) := Zh (HTK.out.2.2 rfl)
            go_wp2_with fail
            go_ret
            exact ⟨by rw [HF.out]; rfl, fun _ => HMM.out ▸ (bnext HBW.out (bnext HR.out.1 H5.out)), fun h => by rw [HF.out] at h; cases h⟩
          | some p =>
            have hsnb : sn ≤ 16 := HSN.out.2
            go_wp2_with fail
            exact ⟨⟨i + 1, by simp, by omega, bnext HR.out.1 H5.out, HTK.out.1⟩, by simp [intOf]; omega⟩
        · have he : i = sn := by omega
          subst he
          have hall : (supsOf S c).all (·.isSome) = true := by
            have := HR.out.2
            rwa [List.take_of_length_le (by rw [HSP.out]; simp; have := HSN.out; omega)] at this
          have HT5 : Hid (classE S c = cE4 S c) := Zh (by rw [HT4.out]; unfold cE3; rw [hall]; rfl)
          clear hall hlt
          have hbr := HR.out.1
          have HB4 := Zh hbr; clear hbr HR HT4
          go_upto_region 16 with fail
          have hri := rise_any S g c wr (HMK.out.keep (bnext HBW.out HB4.out)) HLT.out.1 HLT.out.2
          unfold RiseOut at hri
          generalize hn : S.classes.length = n at hri
          have HN := Zh hn; clear hn
          have HRI := Zh hri; clear hri
          have e0 := (HTC.out.keep HB4.out).m0
          go_upto_region 17 with (first | (go_at_call 93; refine (HRI.out).mono ?_; rintro e w5 ⟨sb, rfl, hrow, hrl, hsb, hb5⟩; have hb6 := bnext HB4.out hb5; have HB5 := Zh (Zi hb6 (Zi hrow (Zi hrl hsb))); clear hb5 hb6 hrow hrl hsb) | fail)
          clear e0 HRI
          obtain ⟨rs, hrs⟩ : ∃ rs, riseOf S c = rs := ⟨_, rfl⟩
          have hT6 : classE S c = if rs.getD c false then 53 else if 16 < rs.count true then 3 else cE6 S c := by rw [HT5.out]; unfold cE4 cE5; rw [hrs]
          rw [hrs] at HB5
          have hcn : c < n := by have := HLT.out.1; rw [HN.out] at this; exact this
          have hn1 : n ≤ 1024 := by have := HLT.out.2; rw [HN.out] at this; exact this
          have hcells : ∀ i, i < n → w5.cell? ⟨sb, i, none⟩ = some (.bool (rs.getD i false)) := fun i hi => by
            have hi' : i < rs.length := by rw [HB5.out.2.2.1]; exact hi
            exact HB5.out.2.1.cell (by rw [List.getElem?_map, List.getElem?_eq_getElem hi']; simp [boolV, List.getD, hi'])
          have f1 := hcells c hcn
          have HCE := Zh hcells; clear hcells
          have HT6 := Zh (Zi hT6 hrs); clear hT6 hrs
          have hci : (c : Int) < (n : Int) := by omega
          clear HT5
          cases hrc : rs.getD c false with
          | true =>
            have HF : Hid (classE S c = 53) := Zh (by rw [HT6.out.1, if_pos hrc])
            rw [hrc] at f1
            clear hrc
            go_wp2_with fail
            go_ret
            exact ⟨by rw [HF.out]; rfl, fun _ => HMM.out ▸ (bnext HBW.out HB5.out.1), fun h => by rw [HF.out] at h; cases h⟩
          | false =>
            have HT7 : Hid (classE S c = if 16 < rs.count true then 3 else cE6 S c) := Zh (by rw [HT6.out.1, if_neg (by rw [hrc]; simp)])
            rw [hrc] at f1
            clear hrc
            go_upto_region 21 with fail
            clear f1
            go_loopw [12, 96] (fun kv iv wx => ∃ i : Nat, kv = .int .i64 ((rs.take i).count true : Nat) ∧ iv = .int .i64 i ∧ i ≤ n ∧ w5 = wx) (fun _ iv _ => n - (intOf iv).toNat)
            case atStart => exact ⟨0, by simp, rfl, Nat.zero_le _, rfl⟩
            case round =>
              obtain ⟨i, rfl, rfl, hi, rfl⟩ := hrel
              have hkl : (rs.take i).count true ≤ i := Nat.le_trans (List.count_le_length) (by simp; omega)
              by_cases hlt : i < n
              · have f1 := HCE.out i hlt
                have hil : i < rs.length := by rw [HB5.out.2.2.1]; exact hlt
                have hgd : rs.getD i false = rs[i] := by simp [List.getD, hil]
                have htk : (rs.take (i + 1)).count true = (rs.take i).count true + (if rs.getD i false then 1 else 0) := by
                  rw [List.take_succ_eq_append_getElem hil, List.count_append, hgd]
                  cases rs[i] <;> simp
                clear hil hgd
                generalize hK : (rs.take i).count true = K at htk hkl
                have HK := Zh hK; clear hK
                cases hb : rs.getD i false with
                | true =>
                  rw [hb] at f1 htk
                  have HTQ := Zh htk; clear htk hb
                  go_wp2_with fail
                  exact ⟨⟨i + 1, by rw [HTQ.out]; simp, by simp, by omega, by first | trivial | rfl⟩, by simp [intOf]; omega⟩
                | false =>
                  rw [hb] at f1 htk
                  have HTQ := Zh htk; clear htk hb
                  go_wp2_with fail
                  exact ⟨⟨i + 1, by rw [HTQ.out]; simp, by simp, by omega, by first | trivial | rfl⟩, by simp [intOf]; omega⟩
              · have he : n = i := by omega
                subst he
                have hcnt : (rs.take n).count true = rs.count true := by rw [List.take_of_length_le (by rw [HB5.out.2.2.1]; exact Zr _)]
                rw [hcnt] at hkl ⊢
                clear hcnt hlt hi
                generalize hK : rs.count true = K at hkl HT7 ⊢
                by_cases hbig : 16 < K
                · have HF : Hid (classE S c = 3) := Zh (by rw [HT7.out, if_pos hbig])
                  have hbb : decide ((16 : Int) < (K : Int)) = true := decide_eq_true (by omega)
                  clear hbig hK
                  go_wp2_with fail
                  go_ret
                  exact ⟨by rw [HF.out]; rfl, fun _ => HMM.out ▸ (bnext HBW.out HB5.out.1), fun h => by rw [HF.out] at h; cases h⟩
                · have HT8 : Hid (classE S c = cE6 S c) := Zh (by rw [HT7.out, if_neg hbig])
                  have hbb : decide ((16 : Int) < (K : Int)) = false := decide_eq_false (by omega)
                  clear hbig hK HT7
                  have q5 := HTC.out.keep HB5.out.1
                  have e4 := q5.blk.c4
                  have e5 := q5.blk.c5
                  clear q5
                  go_upto_region 29 with fail
                  clear e4 e5 hbb hkl
                  have hmu : cE6 S c = if !((x.must ++ x.may).all (knowsT S)) then 51 else 0 := by unfold cE6; rw [HX.out]
                  have HT9 : Hid (classE S c = if !((x.must ++ x.may).all (knowsT S)) then 51 else 0) := Zh (by rw [HT8.out, hmu])
                  clear hmu HT8
                  go_loopw [111] (fun jv wr => ∃ j : Nat, jv = .int .i64 j ∧ j ≤ 2 ∧ Below w5.heap.size w5 wr ∧ ((if 0 < j then x.must else []) ++ (if 1 < j then x.may else [])).all (knowsT S) = true) (fun jv _ => 2 - (intOf jv).toNat)
                  case atStart => exact ⟨0, rfl, by omega, Zl _ _, by simp⟩
                  case round =>
                    obtain ⟨j, rfl, hj, hbr, hal⟩ := hrel
                    by_cases hlt : j < 2
                    · obtain ⟨la, ln, lc, L, hix, hLT, hnx, hbad⟩ : ∃ la ln lc L, (∀ wz, (Instr.index 156 (.agg #[.slice ua un uc, .slice ya yn yc]) (.int .i64 (j : Int))).run Tryz.prog wz = .ok (.slice la ln lc) wz) ∧ Texts g w la ln lc L ∧ (((if 0 < j + 1 then x.must else []) ++ (if 1 < j + 1 then x.may else [])).all (knowsT S) = L.all (knowsT S)) ∧ (L.all (knowsT S) = false → classE S c = 51) := by
                        obtain rfl | rfl : j = 0 ∨ j = 1 := by omega
                        · refine ⟨ua, un, uc, x.must, fun wz => by kernel_rfl, HUE.out, by simp, fun h => ?_⟩
                          rw [HT9.out, List.all_append, h]; rfl
                        · refine ⟨ya, yn, yc, x.may, fun wz => by kernel_rfl, HYE.out, ?_, fun h => ?_⟩
                          · simp at hal ⊢; exact fun _ => hal
                          · rw [HT9.out, List.all_append, h, Bool.and_false]; rfl
                      have HIX := Zh (Zi hLT (Zi hnx hbad))
                      have hiw := hix wr
                      clear hix hLT hnx hbad
                      have HBR := Zh hbr; clear hbr hal
                      have hlb := HIX.out.1.small
                      have HJ := Zh hlt
                      have hjb : decide ((j : Int) < 2) = true := decide_eq_true (by omega)
                      clear hlt
                      go_upto_region 32 with fail
                      clear hiw
                      go_loopw [116] (fun iv wx => ∃ i : Nat, iv = .int .i64 i ∧ i ≤ ln ∧ Below w5.heap.size w5 wx ∧ (L.take i).all (knowsT S) = true) (fun iv _ => ln - (intOf iv).toNat)
                      case atStart => exact ⟨0, rfl, Nat.zero_le _, HBR.out, by simp⟩
                      case round =>
                        obtain ⟨i, rfl, hi, hbx, hal⟩ := hrel
                        have HR := Zh (Zi hbx hal); clear hbx hal
                        by_cases hlti : i < ln
                        · have hli : i < L.length := by have := HIX.out.1.len; omega
                          obtain ⟨ub, ux, rfl, hub⟩ := HIX.out.1.lies.ptr (by omega)
                          have hb1x := bnext HB5.out.1 HR.out.1
                          have hbg : Below g w wr := (bnext HBW.out hb1x).mono (Nat.le_of_lt HMK.out.lt)
                          have f0 := (HIX.out.1.keep hbg (Zr _)).cell ub ux rfl i _ (List.getElem?_eq_getElem hli)
                          have hsz := HIX.out.1.size _ (List.getElem_mem hli)
                          have htk : (L.take (i + 1)).all (knowsT S) = knowsT S L[i] := by
                            rw [List.take_succ_eq_append_getElem hli, List.all_append, HR.out.2]; simp
                          have hno : knowsT S L[i] = false → classE S c = 51 := fun h => HIX.out.2.2 (by
                            rw [List.all_eq_false]; exact ⟨_, List.getElem_mem hli, by rw [h]; simp⟩)
                          generalize L[i] = nm at f0 hsz htk hno
                          obtain ⟨pp, hpp⟩ : ∃ pp, placeOf (tK S) (low (toL nm)) = pp := ⟨_, rfl⟩
                          have hkn : knowsT S nm = pp.isSome := by unfold knowsT; rw [hpp]
                          rw [hkn] at htk hno
                          have HTK := Zh (Zi htk (Zi hpp hno)); clear htk hpp hno hkn hli
                          have hlk : ∀ w3, Below wr.heap.size wr w3 → (Instr.lookup 80 (.map (some mt)) (.string ⟨(low (toL nm)).toArray⟩) true).run Tryz.prog w3 = .ok (.tuple #[.int .i64 (pp.getD 0 : Nat), .bool pp.isSome]) w3 := fun w3 hb => by
                            rw [← HTK.out.2.1]; exact (HMAPT.out.2.keep (bnext HBW.out (bnext hb1x hb)) HMAPT.out.2.lt).look_ok (s := ⟨(low (toL nm)).toArray⟩) (by rw [low_size]; unfold maxLen; omega)
                          have q3 := HTC.out.keep hb1x
                          have e0 := q3.m0
                          have e1 := q3.g2
                          clear q3
                          have hcells : ∀ w3, Below wr.heap.size wr w3 → w3.cell? ⟨M, 0, none⟩ = some (.pointer (some ⟨g, 0, none⟩)) ∧ w3.cell? ⟨g, 2, none⟩ = some (.map (some mt)) := fun w3 hb =>
                            ⟨(HTC.out.keep (bnext hb1x hb)).m0, (HTC.out.keep (bnext hb1x hb)).g2⟩
                          have hsml := fun w3 => small_any nm w3 (by omega)
                          have HKK := Zh hlk; have HCL := Zh hcells; have HSM := Zh hsml; have HBX := Zh hb1x
                          clear hlk hcells hsml hsz hbg hb1x
                          go_upto_region 34 with fail
                          clear f0
                          go_region_held3 (fun w3 => w3.cell? ⟨M, 0, none⟩ = some (.pointer (some ⟨g, 0, none⟩)) ∧ w3.cell? ⟨g, 2, none⟩ = some (.map (some mt)))
                            (first | exact ⟨e0, e1⟩ | exact ⟨i0, i1⟩ | fail)
                            (first
                              | (go_at_call 89; with_reducible refine (HSM.out _).mono ?_; rintro e w7 ⟨rfl, hb5⟩; have hb6 := bnext ((Zl _ wr).drew) hb5; obtain ⟨i0, i1⟩ := HCL.out w7 hb6; have ik := HKK.out w7 hb6; have H7 := Zh hb6; clear hb5 hb6)
                              | fail)
                          clear e0 e1 i0 i1 ik
                          cases pp with
                          | none =>
                            have HF : Hid (classE S c = 51) := Zh (HTK.out.2.2 rfl)
                            go_wp2_with fail
                            go_ret
                            exact ⟨by rw [HF.out]; rfl, fun _ => HMM.out ▸ (bnext HBW.out (bnext HBX.out H7.out)), fun h => by rw [HF.out] at h; cases h⟩
                          | some p =>
                            go_wp2_with fail
                            exact ⟨⟨i + 1, by simp, by omega, bnext HR.out.1 H7.out, HTK.out.1⟩, by simp [intOf]; omega⟩
                        · have he : ln = i := by omega
                          subst he
                          have hall : L.all (knowsT S) = true := by
                            have := HR.out.2
                            rwa [List.take_of_length_le (by have := HIX.out.1.len; omega)] at this
                          go_wp2_with fail
                          have hlt := HJ.out
                          exact ⟨⟨j + 1, by simp, by omega, HR.out.1, by rw [HIX.out.2.1]; exact hall⟩, by simp [intOf]; omega⟩
                    · have he : j = 2 := by omega
                      subst he
                      have HF : Hid (classE S c = 0) := Zh (by rw [HT9.out]; simp only [show (0 : Nat) < 2 by omega, show (1 : Nat) < 2 by omega, if_true] at hal; rw [hal]; rfl)
                      clear hal hlt hj
                      have hb6 := bnext HB5.out.1 hbr
                      have HB6 := Zh (Zi hb6 hbr)
                      clear hb6 hbr
                      go_upto_region 39 with fail
                      have hb60 := bnext HBW.out HB6.out.1
                      have hcel : ∀ wz, Below wr.heap.size wr wz → wz.cell? ⟨M, 0, none⟩ = some (.pointer (some ⟨g, 0, none⟩)) ∧ wz.cell? ⟨g, 6, none⟩ = some (sv go k cap) := fun wz hb =>
        ⟨(HTC.out.keep (bnext HB6.out.1 hb)).m0, ((bnext hb60 hb).cell (Zb w _ HUP.out.1)).trans HUP.out.1⟩
                      have HKP := Zh hcel; have H60 := Zh hb60; clear hcel hb60
                      have hk1 := HUP.out.2.2.2.1
                      obtain ⟨e0, e6⟩ := HKP.out wr (Zl _ _)
                      refine wp_region_C (s0 := 12) (C := fun wz => wz.cell? ⟨M, 0, none⟩ = some (.pointer (some ⟨g, 0, none⟩)) ∧ wz.cell? ⟨g, 6, none⟩ = some (sv go k cap)) (by kernel_rfl) (HKP.out _ ((Zl _ wr).drew)) (fun hC => ?_)
                      (try simp only [Act.put, Z1, Z2, Z3, Z4, Z5, Z6])
                      refine Zu (i := 0) rfl (fun _ => hC) ?rq0
                      (try simp only [Act.put, Z1, Z2, Z3, Z4, Z5])
                      refine Zv (i := 1) rfl rfl hC ?rq1
                      (try simp only [Act.put, Z1, Z2, Z3, Z4, Z5, Z6])
                      refine Zu (i := 2) rfl (fun _ => hC) ?rq2
                      (try simp only [Act.put, Z1, Z2, Z3, Z4, Z5, Z6])
                      refine Zv (i := 3) rfl rfl hC ?rq3
                      (try simp only [Act.put, Z1, Z2, Z3, Z4, Z5, Z6])
                      refine Zu (i := 4) rfl (fun _ => hC) ?rq4
                      (try simp only [Act.put, Z1, Z2, Z3, Z4, Z5, Z6])
                      refine Zu (i := 5) rfl (fun _ => hC) ?rq5
                      (try simp only [Act.put, Z1, Z2, Z3, Z4, Z5, Z6])
                      refine Zv (i := 6) rfl rfl hC ?rq6
                      (try simp only [Act.put, Z1, Z2, Z3, Z4, Z5, Z6])
                      refine Zu (i := 7) rfl (fun _ => hC) ?rq7
                      (try simp only [Act.put, Z1, Z2, Z3, Z4, Z5, Z6])
                      refine wpC_step (i := 8) (by kernel_rfl) rfl (fun K1 hK1 => ?_)
                      go_simp
                      have hb8 := ((Zl wr.heap.size wr).alloc (Zr _) (.cells #[.slice (some ⟨sb, 0, none⟩) n n] 154)).drew
                      have hnw : ∀ ad, some (⟨wr.heap.size, 0, none⟩ : Addr) = some ad → ∀ j u, ([.slice (some ⟨sb, 0, none⟩) n n] : List Value)[j]? = some u → ((wr.alloc (.cells #[.slice (some ⟨sb, 0, none⟩) n n] 154)).drew).cell? (ad.add j) = some u := news_new wr _ #[.slice (some ⟨sb, 0, none⟩) n n] 154 rfl
                      generalize (wr.alloc (.cells #[.slice (some ⟨sb, 0, none⟩) n n] 154)).drew = wa at hb8 hnw ⊢
                      have HWA := Zh (Zi hb8 hnw); clear hb8 hnw
                      refine hK1.out _ _ (fun _ => HKP.out wa HWA.out.1) ?_
                      clear hK1 K1 hC
                      have hC := HKP.out wa HWA.out.1
                      (try simp only [Act.put, Z1, Z2, Z3, Z4, Z5, Z6])
                      refine wpC_step (i := 9) (by kernel_rfl) rfl (fun K1 hK1 => ?_)
                      refine step_appE eiSlB ?h1 (.tmp 141) (.tmp 143) ?h2 go k cap vs ?h3 (HUP.out.2.1.keep fun b hb => (bnext H60.out HWA.out.1).block b (by cases hb; exact HUP.out.2.1.row.lt)) (some ⟨wr.heap.size, 0, none⟩) 1 1 [.slice (some ⟨sb, 0, none⟩) n n] ?h4 (fun h => by cases h) rfl HWA.out.2 (fun u hu => by simp at hu; subst hu; rfl) (k + 1) rfl (by omega) (by omega) ?_
                      case h1 => rfl
                      case h2 => rfl
                      case h3 => rfl
                      case h4 => rfl
                      intro g9 cap9 w9 o9 gr9 at9
                      have HW9 := Zh (Zi o9 (Zi gr9 at9)); clear o9 gr9 at9
                      have l0 := cell_chg (chg_grown HW9.out.2.1) (HKP.out wa HWA.out.1).1 (fun e => by have hr := HUP.out.2.1; rw [e] at hr; have h1 := hr.row.lt; have h2 := HMM.out; simp only at h1; omega)
                      have l6 := cell_chg (chg_grown HW9.out.2.1) (HKP.out wa HWA.out.1).2 (fun e => HUP.out.2.2.1 _ e rfl)
                      have lf : w9.frozen? ⟨g, 6, none⟩ = false := by rw [World.frozen?_of_block (a := ⟨g, 6, none⟩) (HW9.out.2.1.block g (Nat.lt_of_lt_of_le HMK.out.lt (bnext H60.out HWA.out.1).size) (fun e => HUP.out.2.2.1 _ e.symm rfl)), (bnext H60.out HWA.out.1).frozen (p := ⟨g, 6, none⟩) HMK.out.lt]; exact HUP.out.2.2.2.2
                      refine hK1.out _ _ (fun _ => Zi l0 l6) ?_
                      clear hK1 K1 hC
                      have hC := Zi l0 l6
                      (try simp only [Act.put, Z1, Z2, Z3, Z4, Z5, Z6])
                      refine Zu (i := 10) rfl (fun _ => hC) ?rq10
                      (try simp only [Act.put, Z1, Z2, Z3, Z4, Z5, Z6])
                      refine Zu (i := 11) rfl (fun _ => hC) ?rq11
                      (try simp only [Act.put, Z1, Z2, Z3, Z4, Z5, Z6])
                      refine wpC_step (i := 12) (by kernel_rfl) rfl (fun K1 hK1 => ?_)
                      go_simp
                      refine hK1.out _ _ (fun h => absurd (h.symm.trans (by kernel_rfl : _ = true)) (by decide)) ?_
                      clear hK1 K1
                      (try simp only [Act.put, Z1, Z2, Z3, Z4, Z5, Z6])
                      refine wpC_done (by kernel_rfl) ?_ _
                      have hr7 := HB5.out.2.1.keep ((bnext HB6.out.2 HWA.out.1).block sb HB5.out.2.1.lt)
                      have hs7 := Nat.le_trans (bnext HBW.out HB4.out).size HB5.out.2.2.2
                      have HR7 := Zh (Zi hr7 hs7)
                      clear hr7 hs7 hC l0 l6 lf e0 e6
                      go_wp2_with fail
                      go_ret
                      refine ⟨by rw [HF.out]; rfl, fun h => absurd HF.out h, fun _ => ⟨sb, wa, w9, g9, cap9, bnext H60.out HWA.out.1, ?_, HR7.out.2, ?_, HW9.out.2.1, HW9.out.2.2, rfl⟩⟩
                      · rw [HN.out, HT6.out.2]; exact HR7.out.1
                      · rw [HN.out]; exact HW9.out.1
  · have HF : Hid (classE S c = 3) := Zh (by rw [HT2.out, if_pos (Or.inl hD)])
    have hDb : (ne != 0) = true := by simpa using hD
    have hDb2 : (ne == 0) = false := by simpa using hD
    clear hD
    go_wp2_with fail
    go_ret
    exact ⟨by rw [HF.out]; rfl, fun _ => HMM.out ▸ (bnext HBW.out HB2.out), fun h => by rw [HF.out] at h; cases h⟩
end Go.Proofs.YtlmfbjhokkpjhaaGreatDoor
