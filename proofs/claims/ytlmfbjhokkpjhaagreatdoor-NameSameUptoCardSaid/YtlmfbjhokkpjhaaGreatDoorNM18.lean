/- Part 18 of the walks and plain laws, joined: Rise, Rise2. -/
import Derived.Test.YtlmfbjhokkpjhaaGreatDoorNM00
import Derived.Test.YtlmfbjhokkpjhaaGreatDoorNM10
import Derived.Test.YtlmfbjhokkpjhaaGreatDoorNM09
import Derived.Test.YtlmfbjhokkpjhaaGreatDoorNM15
import Derived.Deep.RegionHeld3
set_option linter.unusedVariables false
set_option linter.unusedSimpArgs false
namespace Go.Proofs.YtlmfbjhokkpjhaaGreatDoor
open Go Go.RowKit Go.Maps
structure RiseAt (w : World) (S : PSchema) (g M sq uq sb n : Nat) (s : List Bool) : Prop where
 base : Mk w g S
 m : w.cell? ⟨M, 0, none⟩ = some (.pointer (some ⟨g, 0, none⟩))
 seen : w.cell? ⟨sq, 0, none⟩ = some (.slice (some ⟨sb, 0, none⟩) n n)
 up : w.cell? ⟨uq, 0, none⟩ = some (.func (.func 134) #[] #[.pointer (some ⟨M, 0, none⟩), .pointer (some ⟨sq, 0, none⟩), .pointer (some ⟨uq, 0, none⟩)])
 row : Row w sb 4 1 n (s.map boolV)
 len : s.length = n ∧ n = S.classes.length
 far : g < sb ∧ M ≠ sb ∧ sq ≠ sb ∧ uq ≠ sb
theorem RiseAt.keep {w w' : World} {S : PSchema} {g M sq uq sb n : Nat} {s : List Bool} (h : RiseAt w S g M sq uq sb n s) (k : Below w.heap.size w w') : RiseAt w' S g M sq uq sb n s where
 base := h.base.keep k
 m := by rw [k.cell (Zb w _ h.m)]; exact h.m
 seen := by rw [k.cell (Zb w _ h.seen)]; exact h.seen
 up := by rw [k.cell (Zb w _ h.up)]; exact h.up
 row := h.row.keep (k.block sb h.row.lt)
 len := h.len
 far := h.far
theorem RiseAt.mark {w : World} {S : PSchema} {g M sq uq sb n : Nat} {s : List Bool} (h : RiseAt w S g M sq uq sb n s) {p : Nat} (hp : p < n) : RiseAt (w.setCell ⟨sb, p, none⟩ (.bool true)) S g M sq uq sb n (s.set p true) where
 base := h.base.keep4 ((Zl g w).setCell (Nat.le_of_lt h.far.1) _) (by rw [size_set]; exact Zr _) fun j _ => World.cell?_setCell_other _ _ _ _ (by intro e; injection e with e1 _ _; have := h.far.1; omega)
 m := by rw [World.cell?_setCell_other _ _ _ _ (by intro e; injection e with e1 _ _; exact h.far.2.1 e1.symm)]; exact h.m
 seen := by rw [World.cell?_setCell_other _ _ _ _ (by intro e; injection e with e1 _ _; exact h.far.2.2.1 e1.symm)]; exact h.seen
 up := by rw [World.cell?_setCell_other _ _ _ _ (by intro e; injection e with e1 _ _; exact h.far.2.2.2 e1.symm)]; exact h.up
 row := by
  have := h.row.set (j := p) (by simp; rw [h.len.1]; exact hp) (.bool true)
  rw [show (s.set p true).map boolV = (s.map boolV).set p (.bool true) by rw [List.map_set]; rfl]
  exact this
 len := ⟨by simpa using h.len.1, h.len.2⟩
 far := h.far
theorem RiseAt.cell {w : World} {S : PSchema} {g M sq uq sb n : Nat} {s : List Bool} (h : RiseAt w S g M sq uq sb n s) {p : Nat} (hp : p < n) : w.cell? ⟨sb, p, none⟩ = some (.bool (s.getD p false)) := by
 have hl : p < s.length := by rw [h.len.1]; exact hp
 refine h.row.cell ?_
 simp [boolV, List.getD, hl]
theorem tstep_old (S : PSchema) {s : List Bool} {p : Nat} (h : s.getD p false = true) : tstep S s (some p) = s := by show (if s.getD p false then s else _) = _; rw [h]; rfl
theorem tstep_new (S : PSchema) {s : List Bool} {p : Nat} (h : s.getD p false = false) : tstep S s (some p) = dfsT S (s.set p true) p := by show (if s.getD p false then s else _) = _; rw [h]; rfl
def RisePost (w : World) (S : PSchema) (g M sq uq sb n : Nat) (s : List Bool) (e : Ending) (w' : World) : Prop :=
 e = .returned (.tuple #[]) ∧ RiseAt w' S g M sq uq sb n s ∧ Chg (· = sb) w w'
set_option maxRecDepth 20000 in
set_option maxHeartbeats 4000000 in
theorem rise1_any (S : PSchema) (g M sq uq sb n : Nat) (hn : n ≤ 1024) : ∀ (k : Nat) (s : List Bool) (c : Nat) (w : World), offs s < k → c < n → RiseAt w S g M sq uq sb n s →
  Calls Tryz.prog 134 #[.int .i64 (c : Int), .pointer (some ⟨M, 0, none⟩), .pointer (some ⟨sq, 0, none⟩), .pointer (some ⟨uq, 0, none⟩)] w (RisePost w S g M sq uq sb n (dfsT S s c)) := by
 intro k
 induction k with
 | zero => intro s c w h; omega
 | succ k ih =>
  intro s c w hk hc h
  have hdf := dfsT_eq S c (s := s) (h.len.1.trans h.len.2)
  rw [hdf]
  obtain ⟨a2, n2, c2, e1, hcl⟩ := h.base.classes
  have hcn : c < S.classes.length := by have := h.len.2; omega
  obtain ⟨tb, tx, rfl, htb⟩ := hcl.lies.ptr (by have := hcl.len; omega)
  have hT := hcl.cell tb tx rfl c _ (List.getElem?_eq_getElem hcn)
  have hca : clAt S c = S.classes[c] := by unfold clAt; simp [List.getD, hcn]
  have hso : supsOf S c = (S.classes[c]).sups.map fun n => placeOf (cK S) (low (toL n)) := by unfold supsOf; rw [hca]
  obtain ⟨sa, sn, sc, e2, hsu⟩ := hT.c2
  generalize (S.classes[c]).sups = sups at hsu hso
  have e0 := h.m
  have hcn2 : (c : Int) < (n2 : Int) := by have := hcl.len; omega
  have hci : (0 : Int) ≤ (c : Int) := by omega
  have hsl := hsu.len
  have hsnb := hsu.small
  have H := Zh h; have HIH := Zh ih; have HK := Zh hk; have HSU := Zh (Zi hsu (Zi hso hsl)); have HLT := Zh htb
  clear h ih hk hdf hcl hT hca hso hsu hsl htb hcn
  go_enter Tryz.func134, Tryz.ntmps134
  go_wp2_with fail
  clear e0 e1 e2
  go_loopw [20] (fun iv wr => ∃ (i : Nat) (s1 : List Bool), iv = .int .i64 i ∧ i ≤ sn ∧ s1 = ((supsOf S c).take i).foldl (tstep S) s ∧ RiseAt wr S g M sq uq sb n s1 ∧ Chg (· = sb) w wr) (fun iv _ => sn - (intOf iv).toNat)
  case atStart => exact ⟨0, s, rfl, Nat.zero_le _, rfl, H.out, Chg.refl _ _⟩
  case round =>
   obtain ⟨i, s1, rfl, hi, hs1, hr, hch⟩ := hrel
   have HR := Zh (Zi hs1 (Zi hr hch)); clear hs1 hr hch
   by_cases hlt : i < sn
   ·have hli : i < sups.length := by have := HSU.out.2.2; omega
    obtain ⟨ub, ux, rfl, hub⟩ := HSU.out.1.lies.ptr (by omega)
    have hbg : Below g w wr := HR.out.2.2.below (Nat.le_of_lt H.out.base.lt) fun b hb e => by have := H.out.far.1; omega
    have f0 := (HSU.out.1.keep hbg (Zr _)).cell ub ux rfl i _ (List.getElem?_eq_getElem hli)
    have hsz := HSU.out.1.size _ (List.getElem_mem hli)
    have hil : i < (supsOf S c).length := by rw [HSU.out.2.1]; simpa using hli
    have htk : ((supsOf S c).take (i + 1)).foldl (tstep S) s = tstep S (((supsOf S c).take i).foldl (tstep S) s) (placeOf (cK S) (low (toL sups[i]))) := by
     rw [List.take_succ_eq_append_getElem hil, List.foldl_append]
     have : (supsOf S c)[i] = placeOf (cK S) (low (toL sups[i])) := by
      have h1 := HSU.out.2.1
      have : (supsOf S c)[i]? = some (placeOf (cK S) (low (toL sups[i]))) := by rw [h1]; simp [hli]
      rw [List.getElem?_eq_getElem hil] at this
      exact Option.some.inj this
     rw [this]; rfl
    generalize sups[i] = nm at f0 hsz htk
    obtain ⟨pp, hpp⟩ : ∃ pp, placeOf (cK S) (low (toL nm)) = pp := ⟨_, rfl⟩
    rw [hpp, ← HR.out.1] at htk
    have HTK := Zh (Zi htk hpp); clear htk hpp
    obtain ⟨m, N, g3, hmlt, hmap⟩ := HR.out.2.1.base.cm
    have hlk : ∀ w3, Below wr.heap.size wr w3 → (Instr.lookup 80 (.map (some m)) (.string ⟨(low (toL nm)).toArray⟩) true).run Tryz.prog w3 = .ok (.tuple #[.int .i64 (pp.getD 0 : Nat), .bool pp.isSome]) w3 := fun w3 hb => by
     rw [← HTK.out.2]; exact (hmap.keep hb hmap.lt).look_ok (s := ⟨(low (toL nm)).toArray⟩) (by rw [low_size]; unfold maxLen; omega)
    have e0 := HR.out.2.1.m
    have hcells : ∀ w3, Below wr.heap.size wr w3 → w3.cell? ⟨M, 0, none⟩ = some (.pointer (some ⟨g, 0, none⟩)) ∧ w3.cell? ⟨g, 3, none⟩ = some (.map (some m)) := fun w3 hb =>
     ⟨by rw [hb.cell (Zb wr _ e0)]; exact e0, by rw [hb.cell (Zb wr _ g3)]; exact g3⟩
    have hsml := fun w3 => small_any nm w3 (by omega)
    have HKK := Zh hlk; have HCL := Zh hcells; have HSM := Zh hsml
    clear hlk hcells hsml hmap hmlt hsz
    go_upto_region 3 with fail
    clear f0
    go_region_held3 (fun w3 => w3.cell? ⟨M, 0, none⟩ = some (.pointer (some ⟨g, 0, none⟩)) ∧ w3.cell? ⟨g, 3, none⟩ = some (.map (some m)))
     (first | exact ⟨e0, g3⟩ | exact ⟨i0, i1⟩ | fail)
     (first
      | (go_at_call 89; with_reducible refine (HSM.out _).mono ?_; rintro e w5 ⟨rfl, hb5⟩; have hb6 := bnext ((Zl _ wr).drew) hb5; obtain ⟨i0, i1⟩ := HCL.out w5 hb6; have ik := HKK.out w5 hb6; have H5 := Zh hb6; clear hb5 hb6)
      | fail)
    clear e0 g3 i0 i1 ik
    have hr5 := HR.out.2.1.keep H5.out
    have hc5 : Chg (· = sb) w w5 := HR.out.2.2.trans (Chg.of_below H5.out)
    have HR5 := Zh (Zi hr5 hc5); clear hr5 hc5
    cases pp with
    | none =>
     go_wp2_with fail
     exact ⟨⟨i + 1, s1, by simp, by omega, HTK.out.1.symm, HR5.out.1, HR5.out.2⟩, by simp [intOf]; omega⟩
    | some p =>
     have hp : p < n := by have := placeOf_lt HTK.out.2; have := H.out.len.2; simp [cK] at *; omega
     have hpi : (0 : Int) ≤ (p : Int) := by omega
     have hpn : (p : Int) < (n : Int) := by omega
     have e3 := HR5.out.1.seen
     have e4 := HR5.out.1.cell hp
     cases hsp : s1.getD p false with
     | true =>
      have hts := HTK.out.1
      rw [tstep_old S hsp] at hts
      rw [hsp] at e4
      have HTS := Zh hts; clear hts hsp
      go_wp2_with fail
      exact ⟨⟨i + 1, s1, by simp, by omega, HTS.out.symm, HR5.out.1, HR5.out.2⟩, by simp [intOf]; omega⟩
     | false =>
      have hts := HTK.out.1
      rw [tstep_new S hsp] at hts
      rw [hsp] at e4
      have hfz := HR5.out.1.row.frozen p
      have hmk := HR5.out.1.mark hp
      have hof := offs_set (s := s1) (p := p) (by rw [HR5.out.1.len.1]; exact hp) hsp
      have hmore : offs s1 ≤ offs s := by rw [HR.out.1]; exact (foldT_more S _ s).offs
      have hrec := HIH.out (s1.set p true) p (w5.setCell ⟨sb, p, none⟩ (.bool true)) (by have := HK.out; omega) hp hmk
      have e5 := hmk.up
      have hcs : Chg (· = sb) w (w5.setCell ⟨sb, p, none⟩ (.bool true)) := Chg.setCell (S := fun x => x = sb) (p := ⟨sb, p, none⟩) HR5.out.2 (fun _ => rfl) _
      have HTS := Zh (Zi hts hcs); have HRC := Zh hrec; clear hts hsp hmk hof hmore hrec hcs
      go_upto_region 6 with fail
      clear e3 e4 hfz
      generalize w5.setCell ⟨sb, p, none⟩ (.bool true) = w6 at e5 HTS HRC ⊢
      go_wp2_with (first | (go_at_call 134; refine (HRC.out).mono ?_; rintro e w7 ⟨rfl, hr7, hc7⟩; have H7 := Zh (Zi hr7 (HTS.out.2.trans hc7)); clear hr7 hc7) | fail)
      exact ⟨⟨i + 1, dfsT S (s1.set p true) p, by simp, by omega, HTS.out.1.symm, H7.out.1, H7.out.2⟩, by simp [intOf]; omega⟩
   ·obtain rfl : i = sn := by omega
    have hall : (supsOf S c).take i = supsOf S c := List.take_of_length_le (by rw [HSU.out.2.1]; have := HSU.out.2.2; simp; omega)
    have hs := HR.out.1
    rw [hall] at hs
    have HS := Zh hs; clear hs hall
    go_wp2_with fail
    go_end0
    exact ⟨rfl, by rw [← HS.out]; exact HR.out.2.1, HR.out.2.2⟩
theorem eiBool : EI Tryz.prog 154 4 (.bool false) 1 1 := EI.of Tryz.underlying154 (by kernel_rfl) rfl (by decide) (by decide)
theorem makeBools (n : Nat) (hn : n ≤ 1024) (w : World) : ∃ cs : Array Value, cs.toList = (List.replicate n false).map boolV ∧ (Instr.makeSlice 154 (.int .i64 (n : Int)) (.int .i64 (n : Int))).run Tryz.prog w = .ok (.slice (some ⟨w.heap.size, 0, none⟩) n n) (w.alloc (.cells cs 4)) := by
 obtain ⟨i, h2, h3, h4, h5⟩ := eiBool.info
 refine ⟨madeCells (Value.bool false).cells n, ?_, ?_⟩
 ·apply List.ext_getElem (by simp [madeCells])
  intro j h1 h2
  simp [madeCells, Value.cells, Nat.mod_one, boolV]
 ·have hr := run_make (P := Tryz.prog) w 154 4 i (.bool false) eiBool.und h2 h3 .i64 .i64 (n : Int) (n : Int) (by omega) (Int.le_refl _) (by rw [h5]; omega) (by omega)
  simp only [Int.toNat_natCast, h4, Nat.mul_one] at hr
  exact hr
theorem run_store_func {P : Program} {w : World} (a : Addr) (m : Mode) (f : Fn) (ts : Array Value) (vs : Array Value) : (store a (.func f ts vs) m).run P w = stored P w a (.func f ts vs) m := run_store P w a _ m rfl
def RiseOut (S : PSchema) (c n : Nat) (w : World) (e : Ending) (w' : World) : Prop :=
 ∃ sb, e = .returned (.slice (some ⟨sb, 0, none⟩) n n) ∧ Row w' sb 4 1 n ((riseOf S c).map boolV) ∧ (riseOf S c).length = n ∧ w.heap.size ≤ sb ∧ Below w.heap.size w w'
set_option maxRecDepth 20000 in
set_option maxHeartbeats 4000000 in
theorem rise_any (S : PSchema) (g c : Nat) (w : World) (h : Mk w g S) (hc : c < S.classes.length) (hS : S.classes.length ≤ 1024) :
  Calls Tryz.prog 93 #[.agg #[.pointer (some ⟨g, 0, none⟩)], .int .i64 (c : Int)] w (RiseOut S c S.classes.length w) := by
 obtain ⟨a2, n2, c2, e1, hcl⟩ := h.classes
 have hln := hcl.len
 have hb1 : Below w.heap.size w (w.alloc (.cells #[.pointer (some ⟨g, 0, none⟩)] 86)) := (Zl _ w).alloc (Zr _) _
 have hm1 : (w.alloc (.cells #[.pointer (some ⟨g, 0, none⟩)] 86)).cell? ⟨w.heap.size, 0, none⟩ = some (.pointer (some ⟨g, 0, none⟩)) := by rw [World.cell?_alloc_new]; rfl
 have hs1 : (w.alloc (.cells #[.pointer (some ⟨g, 0, none⟩)] 86)).heap.size = w.heap.size + 1 := by simp
 have hgl := h.lt
 have f1 := (hb1.cell (Zb w _ e1)).trans e1
 have H := Zh h
 generalize hn : S.classes.length = n at *
 subst hln
 have hcs := makeBools n2 hS
 have HX := Zh (Zi hb1 (Zi hm1 hs1)); have HC := Zh (Zi hc hn)
 clear h hcl hb1 hm1 hs1 hc hn
 go_enter Tryz.func93, Tryz.ntmps93
 go_upto_region 1 with fail
 generalize w.alloc (.cells #[.pointer (some ⟨g, 0, none⟩)] 86) = w1 at HX f1 ⊢
 obtain ⟨cs, hcs1, hmk⟩ := hcs w1
 have hrow : Row (w1.alloc (.cells cs 4)) w1.heap.size 4 1 n2 ((List.replicate n2 false).map boolV) := by
  have := Row.made (w := w1) (e := 4) (sz := 1) (cap := n2) (xs := cs) (by rw [← Array.length_toList, hcs1]; simp) (by unfold maxLen; omega)
  rw [hcs1] at this; exact this
 have HR := Zh hrow; clear hrow hcs1 hcs
 have f0 := HX.out.2.1
 go_upto_region 3 with fail
 have hz2 : (w1.alloc (.cells cs 4)).heap.size = w1.heap.size + 1 := by simp
 have hz3 : ((w1.alloc (.cells cs 4)).alloc (.cells #[.slice (some ⟨w1.heap.size, 0, none⟩) n2 n2] 154)).heap.size = w1.heap.size + 1 + 1 := by simp
 have hk4 : Below w1.heap.size w1 (((w1.alloc (.cells cs 4)).alloc (.cells #[.slice (some ⟨w1.heap.size, 0, none⟩) n2 n2] 154)).alloc (.cells #[.nilFunc] 197)) := (((Zl _ w1).alloc (Zr _) _).alloc (by simp) _).alloc (by simp; omega) _
 have hsn : (((w1.alloc (.cells cs 4)).alloc (.cells #[.slice (some ⟨w1.heap.size, 0, none⟩) n2 n2] 154)).alloc (.cells #[.nilFunc] 197)).cell? ⟨w1.heap.size + 1, 0, none⟩ = some (.slice (some ⟨w1.heap.size, 0, none⟩) n2 n2) := by
  have h1 := World.cell?_alloc_new (w1.alloc (.cells cs 4)) #[.slice (some ⟨w1.heap.size, 0, none⟩) n2 n2] 154 0
  rw [hz2] at h1
  rw [World.cell?_alloc_lt _ _ _ (by rw [hz3]; show w1.heap.size + 1 < _; omega)]; exact h1
 have hun : (((w1.alloc (.cells cs 4)).alloc (.cells #[.slice (some ⟨w1.heap.size, 0, none⟩) n2 n2] 154)).alloc (.cells #[.nilFunc] 197)).cell? ⟨w1.heap.size + 1 + 1, 0, none⟩ = some .nilFunc := by
  have h1 := World.cell?_alloc_new ((w1.alloc (.cells cs 4)).alloc (.cells #[.slice (some ⟨w1.heap.size, 0, none⟩) n2 n2] 154)) #[.nilFunc] 197 0
  rw [hz3] at h1; exact h1
 have huf : (((w1.alloc (.cells cs 4)).alloc (.cells #[.slice (some ⟨w1.heap.size, 0, none⟩) n2 n2] 154)).alloc (.cells #[.nilFunc] 197)).frozen? ⟨w1.heap.size + 1 + 1, 0, none⟩ = false := by
  have h1 := heap_alloc_new ((w1.alloc (.cells cs 4)).alloc (.cells #[.slice (some ⟨w1.heap.size, 0, none⟩) n2 n2] 154)) (.cells #[.nilFunc] 197)
  rw [hz3] at h1
  exact frozen_of_row _ _ 0 _ _ h1
 have hr4 : Row (((w1.alloc (.cells cs 4)).alloc (.cells #[.slice (some ⟨w1.heap.size, 0, none⟩) n2 n2] 154)).alloc (.cells #[.nilFunc] 197)) w1.heap.size 4 1 n2 ((List.replicate n2 false).map boolV) := (HR.out.alloc _).alloc _
 clear hz2 hz3
 generalize (((w1.alloc (.cells cs 4)).alloc (.cells #[.slice (some ⟨w1.heap.size, 0, none⟩) n2 n2] 154)).alloc (.cells #[.nilFunc] 197)) = w4 at hk4 hsn hun huf hr4 ⊢
 have hs1 := HX.out.2.2
 have hm4 := (hk4.cell (Zb w1 _ f0)).trans f0
 have hmk4 := H.out.keep (bnext HX.out.1 hk4)
 have hu5 : (w4.setCell ⟨w1.heap.size + 1 + 1, 0, none⟩ (.func (.func 134) #[] #[.pointer (some ⟨w.heap.size, 0, none⟩), .pointer (some ⟨w1.heap.size + 1, 0, none⟩), .pointer (some ⟨w1.heap.size + 1 + 1, 0, none⟩)])).cell? ⟨w1.heap.size + 1 + 1, 0, none⟩ = some (.func (.func 134) #[] #[.pointer (some ⟨w.heap.size, 0, none⟩), .pointer (some ⟨w1.heap.size + 1, 0, none⟩), .pointer (some ⟨w1.heap.size + 1 + 1, 0, none⟩)]) := World.cell?_setCell_same _ _ _ hun
 have hra : RiseAt (w4.setCell ⟨w1.heap.size + 1 + 1, 0, none⟩ (.func (.func 134) #[] #[.pointer (some ⟨w.heap.size, 0, none⟩), .pointer (some ⟨w1.heap.size + 1, 0, none⟩), .pointer (some ⟨w1.heap.size + 1 + 1, 0, none⟩)])) S g w.heap.size (w1.heap.size + 1) (w1.heap.size + 1 + 1) w1.heap.size n2 (List.replicate n2 false) := by
  refine ⟨hmk4.keep4 ((Zl g w4).setCell (by show g ≤ w1.heap.size + 1 + 1; omega) _) (by rw [size_set]; exact Zr _) (fun j _ => World.cell?_setCell_other _ _ _ _ (by intro e; injection e with e1 _ _; omega)), ?_, ?_, hu5, hr4.setNe (by show w1.heap.size ≠ w1.heap.size + 1 + 1; omega) _, ⟨by simp, HC.out.2.symm⟩, by omega, by omega, by omega, by omega⟩
  ·rw [World.cell?_setCell_other _ _ _ _ (by intro e; injection e with e1 _ _; omega)]; exact hm4
  ·rw [World.cell?_setCell_other _ _ _ _ (by intro e; injection e with e1 _ _; omega)]; exact hsn
 have hb5 : Below w.heap.size w (w4.setCell ⟨w1.heap.size + 1 + 1, 0, none⟩ (.func (.func 134) #[] #[.pointer (some ⟨w.heap.size, 0, none⟩), .pointer (some ⟨w1.heap.size + 1, 0, none⟩), .pointer (some ⟨w1.heap.size + 1 + 1, 0, none⟩)])) := (bnext HX.out.1 hk4).setCell (by show w.heap.size ≤ w1.heap.size + 1 + 1; omega) _
 have hr1 := rise1_any S g w.heap.size (w1.heap.size + 1) (w1.heap.size + 1 + 1) w1.heap.size n2 hS (offs (List.replicate n2 false) + 1) (List.replicate n2 false) c _ (Nat.lt_succ_self _) HC.out.1 hra
 have hri : dfsT S (List.replicate n2 false) c = riseOf S c := by rw [riseOf_eq, HC.out.2]
 rw [hri] at hr1
 have HRA := Zh hr1; have HB5 := Zh (Zi hb5 (show w.heap.size ≤ w1.heap.size by omega))
 clear hr1 hri hb5 hra hmk4 hm4 hr4 hk4 hsn f0 f1 e1 hs1 hu5 HR
 go_upto_region 4 with fail
 have hst : ∀ v : Value, stored Tryz.prog w4 ⟨w1.heap.size + 1 + 1, 0, none⟩ v .plain = .ok () (w4.setCell ⟨w1.heap.size + 1 + 1, 0, none⟩ v) := fun v => by unfold stored; simp only [hun, huf, Bool.false_eq_true, if_false]
 rw [run_store_func, hst]
 clear hst
 go_upto_region 4 with fail
 generalize hw5 : w4.setCell ⟨w1.heap.size + 1 + 1, 0, none⟩ (.func (.func 134) #[] #[.pointer (some ⟨w.heap.size, 0, none⟩), .pointer (some ⟨w1.heap.size + 1, 0, none⟩), .pointer (some ⟨w1.heap.size + 1 + 1, 0, none⟩)]) = w5 at HRA HB5 ⊢
 have e5 : w5.cell? ⟨w1.heap.size + 1 + 1, 0, none⟩ = some (.func (.func 134) #[] #[.pointer (some ⟨w.heap.size, 0, none⟩), .pointer (some ⟨w1.heap.size + 1, 0, none⟩), .pointer (some ⟨w1.heap.size + 1 + 1, 0, none⟩)]) := by rw [← hw5]; exact World.cell?_setCell_same _ _ _ hun
 clear hw5 hun huf
 go_wp2_with (first | (go_at_call 134; refine (HRA.out).mono ?_; rintro e w7 ⟨rfl, hr7, hc7⟩; have e7 := hr7.seen; have H7 := Zh (Zi hr7 hc7); clear hr7 hc7) | fail)
 go_ret
 exact ⟨w1.heap.size, rfl, H7.out.1.row, H7.out.1.len.1, HB5.out.2, HB5.out.1.trans (H7.out.2.below HB5.out.1.size fun b hb e => by have := HB5.out.2; omega)⟩
end Go.Proofs.YtlmfbjhokkpjhaaGreatDoor
