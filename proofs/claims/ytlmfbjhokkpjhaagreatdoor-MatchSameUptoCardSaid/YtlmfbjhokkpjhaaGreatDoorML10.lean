/- Part 10 of the walks and plain laws, joined: PuD, LaidSy, MatKey, Piece, Word, SchMap, Vec. -/
import Derived.Test.YtlmfbjhokkpjhaaGreatDoorML09
import Derived.Test.YtlmfbjhokkpjhaaGreatDoorML07
import Derived.Test.YtlmfbjhokkpjhaaGreatDoorML06
import Derived.Test.YtlmfbjhokkpjhaaGreatDoorML02
import Derived.Test.YtlmfbjhokkpjhaaGreatDoorML01
import Derived.Test.YtlmfbjhokkpjhaaGreatDoorProg
import Derived.Test.YtlmfbjhokkpjhaaGreatDoorML00
import Derived.Maps.OwnSet
import Derived.Maps.OwnOps
import Derived.Maps.Views
import Derived.Below
import Derived.WalkArith
import Derived.WalkKit
namespace Go.Proofs.YtlmfbjhokkpjhaaGreatDoor
open Go Go.RowKit
def SynV (w : World) : Prop := ∃ ev, w.cell? ⟨5, 0, none⟩ = some ev ∧ (ev = .nilIface ∨ ∃ te pe, ev = .iface te pe)
theorem SynV.next {w w' : World} (h : SynV w) (k : Below w.heap.size w w') : SynV w' := by
 obtain ⟨ev, h1, h2⟩ := h
 exact ⟨ev, (k.cell (Zb _ _ h1)).trans h1, h2⟩
def PuPost (r : Option Nat) (w : World) (e : Ending) (w' : World) : Prop :=
 ∃ (x : Nat) (ev : Value), e = .returned (.tuple #[.int .u64 (x : Nat), ev]) ∧ (∀ y, r = some y → x = y ∧ ev = .nilIface) ∧ (r = none → ∃ te pe, ev = .iface te pe) ∧ Below w.heap.size w w'
set_option maxRecDepth 100000 in
set_option maxHeartbeats 4000000 in
theorem pu16_any (t : ByteArray) (ht : t.size = 2) (w : World) (hS : SynV w) :
  Calls Tryz.prog 121 #[.string t, .int .i64 16, .int .i64 8] w (PuPost (puV 0 (toL t)) w) := by
 have hi := ipu_any t ht w
 have hb : Below w.heap.size w (Lib.bytesWorld w 5 t) := Lib.bytesWorld_below w _ _
 generalize Lib.bytesWorld w 5 t = w1 at hi hb
 obtain ⟨ev, hev, hev2⟩ := hS.next hb
 have hte := Tryz.strconv_toError_syntax ⟨#[80, 97, 114, 115, 101, 85, 105, 110, 116]⟩ t 16 8 ev w1 (by omega) hev hev2
 have HI := Zh hi; have HB := Zh hb; have HTE := Zh hte
 clear hi hb hte hev hev2 hS
 cases hr : puV 0 (toL t) with
 | some x =>
  have hi2 : Calls Tryz.prog 159 #[.string t, .int .i64 16, .int .i64 8] w fun e w' => e = .returned (.tuple #[.int .u64 (x : Nat), .nilIface]) ∧ w' = w1 := HI.out.mono fun e w' h => by rw [hr] at h; exact h
  have HI2 := Zh hi2
  clear hi2 HI hr
  go_enter Tryz.func121, Tryz.ntmps121
  go_wp2_with (go_at_call 159; with_reducible refine HI2.out.mono ?_; rintro e w2 ⟨rfl, rfl⟩)
  go_ret2
  exact ⟨x, .nilIface, rfl, (fun y hy => by cases hy; exact ⟨rfl, rfl⟩), (fun h => by cases h), HB.out⟩
 | none =>
  have hi2 : Calls Tryz.prog 159 #[.string t, .int .i64 16, .int .i64 8] w fun e w' => e = .returned (.tuple #[.int .u64 0, .iface 243 (.int .i64 2)]) ∧ w' = w1 := HI.out.mono fun e w' h => by rw [hr] at h; exact h
  have HI2 := Zh hi2
  clear hi2 HI hr
  go_enter Tryz.func121, Tryz.ntmps121
  go_wp2_with (first
   | (go_at_call 159; with_reducible refine HI2.out.mono ?_; rintro e w2 ⟨rfl, rfl⟩)
   | (go_at_call 160; with_reducible refine HTE.out.mono ?_; rintro e w3 ⟨N, rfl, h1, h2, h3⟩; have H3 := Zh h3; clear h1 h2 h3))
  go_ret2
  exact ⟨0, _, rfl, (fun y hy => by cases hy), (fun _ => ⟨_, _, rfl⟩), HB.out.trans (H3.out.mono HB.out.size)⟩
end Go.Proofs.YtlmfbjhokkpjhaaGreatDoor
namespace Go.Proofs.YtlmfbjhokkpjhaaGreatDoor
open Go Go.RowKit
theorem trod_iface_inv {H : Type} {enc : TypeId × Value → H} {P : Program} {w : World} {base : Nat} {sp : Nat → Bool} {held : Bool} {fuel : Nat} {t : TypeId} {cs : List Value} {x : DataW H × List MemPlace}
  (hu : ∃ m, P.underlying t = some (.interface m)) (h : DataW.trod enc P w base sp held fuel t cs = some x) : cs = [.nilIface] ∨ ∃ u v, cs = [.iface u v] := by
 obtain ⟨m, hu⟩ := hu
 cases fuel with
 | zero => simp [DataW.trod] at h
 | succ f =>
  unfold DataW.trod at h
  rw [hu] at h
  split at h <;> simp_all
theorem gSyn : Tryz.prog.globalNamed "strconv.ErrSyntax" = some 5 := by kernel_rfl
theorem gSynType : (Tryz.prog.globals[5]?).map (·.type) = some 58 := by kernel_rfl
theorem uErr : ∃ m, Tryz.prog.underlying 58 = some (.interface m) := ⟨_, Tryz.underlying58⟩
theorem env_syn {l : List (String × DataW Unit)} {W : World} (hL : laidMetH Tryz.prog l W) (h1 : (l.filter fun x => x.2.handleName?.isNone).filter (fun x => x.1 == "strconv.ErrSyntax") = [("strconv.ErrSyntax", Rows.laid_strconv_ErrSyntax)]) : SynV W := by
 obtain ⟨ps, ⟨g', t', cs, fuel, p, q, hg', ht', hvar, hd, _, _⟩, _⟩ := laidMetH_filter hL _ h1
 obtain rfl := Option.some.inj (gSyn.symm.trans hg')
 obtain rfl := Option.some.inj (gSynType.symm.trans ht')
 have hc := World.var?_cell gSyn hvar 0
 rcases trod_iface_inv uErr hd with e | ⟨u, v, e⟩
 ·refine ⟨.nilIface, ?_, .inl rfl⟩
  rw [hc, ← Array.getElem?_toList, e]; rfl
 ·refine ⟨.iface u v, ?_, .inr ⟨u, v, rfl⟩⟩
  rw [hc, ← Array.getElem?_toList, e]; rfl
end Go.Proofs.YtlmfbjhokkpjhaaGreatDoor
namespace Go.Proofs.YtlmfbjhokkpjhaaGreatDoor
open Go Go.RowKit
set_option maxRecDepth 20000 in
theorem sortOf_any (r : Int) (w : World) (E : EnvM w) (hr : -128 ≤ r ∧ r ≤ 127) :
  Calls Tryz.prog 51 #[.int .i8 r] w fun e w' => e = .returned (.int .i8 (sortV r)) ∧ w = w' := by
 obtain ⟨r1, r2⟩ := hr
 by_cases hneg : r < 0
 ·have hs : sortV r = 0 := by unfold sortV; rw [if_neg (by omega)]
  rw [hs]; clear hs E
  go_enter Tryz.func51, Tryz.ntmps51
  go_wp2_with fail
  go_ret
  exact ⟨rfl, rfl⟩
 ·by_cases h21 : 21 ≤ r
  ·have hs : sortV r = 0 := by unfold sortV; rw [if_neg (by omega)]
   rw [hs]; clear hs E
   have h0 : 0 ≤ r := by omega
   clear hneg
   go_enter Tryz.func51, Tryz.ntmps51
   go_wp2_with fail
   go_ret
   exact ⟨rfl, rfl⟩
  ·obtain ⟨n, rfl⟩ : ∃ n : Nat, r = (n : Int) := ⟨r.toNat, by omega⟩
   have hn : n < 21 := by omega
   have hl : sortsV.length = 21 := rfl
   have hc := E.sorts n sortsV[n] (List.getElem?_eq_getElem (by omega))
   have hs : sortV (n : Int) = sortsV[n] := by
    unfold sortV; rw [if_pos (by omega)]
    show sortsV.getD n 0 = _
    rw [List.getD_eq_getElem?_getD, List.getElem?_eq_getElem (by omega)]; rfl
   rw [hs]
   generalize sortsV[n] = v at hc ⊢
   have hn2 : (n : Int) < 21 := by omega
   have hn3 : (0 : Int) ≤ n := by omega
   clear hs E h21 hneg r1 r2 hl
   go_enter Tryz.func51, Tryz.ntmps51
   go_wp2_with fail
   go_ret
   exact ⟨rfl, rfl⟩
theorem truth_any (b : Bool) (w : World) : Calls Tryz.prog 62 #[.bool b] w fun e w' => e = .returned (.int .i8 (truthV b)) ∧ w = w' := by
 cases b <;> (
  go_enter Tryz.func62, Tryz.ntmps62
  go_wp2_with fail
  go_ret
  exact ⟨rfl, rfl⟩)
set_option maxRecDepth 20000 in
set_option maxHeartbeats 1000000 in
theorem mkey_form (p : Addr) (r : Int) (v : ByteArray) (w : World) (hE : Env w) (hES : EnvS w) (hEM : EnvM w) (hr : -128 ≤ r ∧ r ≤ 127) (h19 : r ≠ 19) (h20 : r ≠ 20) :
  Calls Tryz.prog 11 #[.pointer (some p), .int .i8 r, .string v] w fun e w' => e = .returned (ret2 (keyM r (toL v))) ∧ Below w.heap.size w w' := by
 have hso := sortOf_any r w hEM hr
 have hfo := form_any r w hES hr
 have hkey := fun w' (hb : Below w.heap.size w w') => key_any (lineOf r).form v w' (hE.next hb)
 have b19 : (r == 19) = false := beq_eq_false_iff_ne.2 h19
 have b20 : (r == 20) = false := beq_eq_false_iff_ne.2 h20
 obtain ⟨so, hs⟩ : ∃ so, sortV r = so := ⟨_, rfl⟩
 have hk : keyM r (toL v) = if so = 0 then ([], false) else keyL (lineOf r).form (toL v) := by unfold keyM; rw [hs]
 rw [hs] at hso
 have hno := @keyL_no (lineOf r).form (toL v)
 change ∀ w' (_ : Below w.heap.size w w'), Calls Tryz.prog 52 #[.int .i8 (lineOf r).form, .string v] w' fun e w'' => e = .returned (ret2 (keyL (lineOf r).form (toL v))) ∧ Below w'.heap.size w' w'' at hkey
 generalize keyL (lineOf r).form (toL v) = k at hk hkey hno
 generalize (lineOf r).form = f at hfo hkey
 generalize (lineOf r).syn = y at hfo
 by_cases h0 : so = 0
 ·subst h0
  rw [if_pos rfl] at hk
  have HSO := Zh hso; have HK := Zh hk
  clear hso hfo hk hno hkey hE hES hEM hs h19 h20 hr
  go_enter Tryz.func11, Tryz.ntmps11
  go_wp2_with (first | (go_at_call 51; with_reducible refine (HSO.out).mono ?_; rintro e w1 ⟨rfl, rfl⟩) | fail)
  go_ret2
  exact ⟨by rw [HK.out]; rfl, Zl _ _⟩
 ·have hb0 : (so == 0) = false := beq_eq_false_iff_ne.2 h0
  rw [if_neg h0] at hk
  obtain ⟨kl, kb⟩ := k
  cases kb with
  | false =>
   have hn2 := hno rfl
   simp only at hn2
   subst hn2
   unfold ret2 at hkey
   have HSO := Zh hso; have HFO := Zh hfo; have HK := Zh hk; have HKEY := Zh hkey
   clear hso hfo hk hkey hE hES hEM hs h19 h20 hr h0 hno
   go_enter Tryz.func11, Tryz.ntmps11
   go_wp2_with (first
    | (go_at_call 51; with_reducible refine (HSO.out).mono ?_; rintro e w1 ⟨rfl, rfl⟩)
    | (go_at_call 55; with_reducible refine (HFO.out).mono ?_; rintro e w2 ⟨rfl, hb2⟩; have HB2 := Zh hb2; clear hb2)
    | (go_at_call 52; with_reducible refine (HKEY.out _ HB2.out).mono ?_; rintro e w3 ⟨rfl, hb3⟩; have HB3 := Zh (bnext HB2.out hb3); clear hb3)
    | fail)
   go_ret2
   exact ⟨by rw [HK.out]; rfl, HB3.out⟩
  | true =>
   unfold ret2 at hkey
   have HSO := Zh hso; have HFO := Zh hfo; have HK := Zh hk; have HKEY := Zh hkey
   clear hso hfo hk hkey hE hES hEM hs h19 h20 hr h0 hno
   go_enter Tryz.func11, Tryz.ntmps11
   go_wp2_with (first
    | (go_at_call 51; with_reducible refine (HSO.out).mono ?_; rintro e w1 ⟨rfl, rfl⟩)
    | (go_at_call 55; with_reducible refine (HFO.out).mono ?_; rintro e w2 ⟨rfl, hb2⟩; have HB2 := Zh hb2; clear hb2)
    | (go_at_call 52; with_reducible refine (HKEY.out _ HB2.out).mono ?_; rintro e w3 ⟨rfl, hb3⟩; have HB3 := Zh (bnext HB2.out hb3); clear hb3)
    | fail)
   go_ret2
   exact ⟨by rw [HK.out]; rfl, HB3.out⟩
end Go.Proofs.YtlmfbjhokkpjhaaGreatDoor
namespace Go.Proofs.YtlmfbjhokkpjhaaGreatDoor
open Go Go.RowKit
def placeL (wh : Int) (t : List UInt8) : List UInt8 := if wh = 0 then Lib.trimPrefix t [32] else if wh = 2 then Lib.trimSuffix t [32] else t
def pieceL (f wh : Int) (s : List UInt8) : List UInt8 × Bool :=
 if 65536 < s.length ∨ wh < 0 ∨ 2 < wh then ([], false)
 else if f = 0 ∨ f = 1 then (if Lib.validD s = false then ([], false) else (placeL wh (sqz false (if f = 0 then low s else s)), true))
 else if f = 2 then (if onlyL [32] s = true then (zapB 32 s, true) else ([], false))
 else if f = 3 then (if onlyL signs s = true then (dialL s, true) else ([], false))
 else ([], false)
theorem low_length (l : List UInt8) : (low l).length = l.length := by unfold low; simp
set_option maxRecDepth 20000 in
theorem piece_any (f wh : Int) (s : ByteArray) (w : World) (E : Env w) (hs : s.size ≤ 9223372036854775807) :
  Calls Tryz.prog 96 #[.int .i8 f, .int .i8 wh, .string s] w fun e w' => e = .returned (ret2 (pieceL f wh s.data.toList)) ∧ Below w.heap.size w w' := by
 have hls := Lib.size_eq s
 have HL0 := Zh hls; clear hls
 by_cases h1 : 65536 < s.size
 ·have HE := Zh E; clear E
  go_enter Tryz.func96, Tryz.ntmps96
  go_wp2_with fail
  go_ret2
  exact ⟨by rw [pieceL, if_pos (.inl (by have := HL0.out; omega))]; rfl, Zl _ _⟩
 have g1 : ¬ (65536 : Int) < s.size := by omega
 by_cases h2 : wh < 0
 ·have HE := Zh E; clear E
  go_enter Tryz.func96, Tryz.ntmps96
  go_wp2_with fail
  go_ret2
  exact ⟨by rw [pieceL, if_pos (.inr (.inl h2))]; rfl, Zl _ _⟩
 by_cases h3 : 2 < wh
 ·have HE := Zh E; clear E
  go_enter Tryz.func96, Tryz.ntmps96
  go_wp2_with fail
  go_ret2
  exact ⟨by rw [pieceL, if_pos (.inr (.inr h3))]; rfl, Zl _ _⟩
 have hP : pieceL f wh s.data.toList = if f = 0 ∨ f = 1 then (if Lib.validD s.data.toList = false then ([], false) else (placeL wh (sqz false (if f = 0 then low s.data.toList else s.data.toList)), true))
   else if f = 2 then (if onlyL [32] s.data.toList = true then (zapB 32 s.data.toList, true) else ([], false))
   else if f = 3 then (if onlyL signs s.data.toList = true then (dialL s.data.toList, true) else ([], false))
   else ([], false) := by
  have := HL0.out
  unfold pieceL; rw [if_neg (by omega)]
 have HP := Zh hP; have HE := Zh E; clear hP E
 have l1 := sqz_length false (low s.data.toList)
 have l2 := sqz_length false s.data.toList
 rw [low_length, ← HL0.out] at l1
 rw [← HL0.out] at l2
 have HL := Zh (Zi (show (sqz false (low s.data.toList)).length ≤ 65536 by omega) (show (sqz false s.data.toList).length ≤ 65536 by omega)); clear l1 l2
 have hw : wh = 0 ∨ wh = 1 ∨ wh = 2 := by omega
 clear h2 h3
 by_cases f0 : f = 0
 ·subst f0
  cases hv : Lib.validD s.data.toList with
  | false =>
   have HV := Zh (show pieceL 0 wh s.data.toList = ([], false) by rw [HP.out, if_pos (.inl rfl), if_pos hv])
   clear HP
   go_enter Tryz.func96, Tryz.ntmps96
   go_wp2_with (first
    | (go_at_call 113; refine (valid_any _ _ (by omega)).mono ?_; rintro e w1 ⟨rfl, hb1⟩; have HB1 := Zh hb1; clear hb1)
    | fail)
   go_ret2
   exact ⟨by rw [HV.out]; rfl, HB1.out⟩
  | true =>
   have HV := Zh (show pieceL 0 wh s.data.toList = (placeL wh (sqz false (low s.data.toList)), true) by rw [HP.out, if_pos (.inl rfl), if_neg (by rw [hv]; simp), if_pos rfl])
   rcases hw with rfl | rfl | rfl
   ·skip
    go_enter Tryz.func96, Tryz.ntmps96
    go_wp2_with (first
     | (go_at_call 113; refine (valid_any _ _ (by omega)).mono ?_; rintro e w1 ⟨rfl, hb1⟩; have HB1 := Zh hb1; clear hb1)
     | (go_at_call 104; refine (lower_any _ _ (by omega)).mono ?_; rintro e w2 ⟨rfl, hb2⟩; have HB2 := Zh (bnext HB1.out hb2); clear hb2)
     | (go_at_call 136; refine (squeeze_any _ _ (by show (low s.data.toList).length ≤ _; rw [low_length, ← HL0.out]; omega)).mono ?_; rintro e w3 ⟨rfl, hb3⟩; have HB3 := Zh (bnext HB2.out hb3); clear hb3)
     | (go_at_call 137; refine (Tryz.strings_TrimPrefix _ _ _).mono ?_; rintro e w4 ⟨rfl, rfl⟩)
     | fail)
    go_ret2
    exact ⟨by rw [HV.out]; rfl, HB3.out⟩
   ·skip
    go_enter Tryz.func96, Tryz.ntmps96
    go_wp2_with (first
     | (go_at_call 113; refine (valid_any _ _ (by omega)).mono ?_; rintro e w1 ⟨rfl, hb1⟩; have HB1 := Zh hb1; clear hb1)
     | (go_at_call 104; refine (lower_any _ _ (by omega)).mono ?_; rintro e w2 ⟨rfl, hb2⟩; have HB2 := Zh (bnext HB1.out hb2); clear hb2)
     | (go_at_call 136; refine (squeeze_any _ _ (by show (low s.data.toList).length ≤ _; rw [low_length, ← HL0.out]; omega)).mono ?_; rintro e w3 ⟨rfl, hb3⟩; have HB3 := Zh (bnext HB2.out hb3); clear hb3)
     | fail)
    go_ret2
    exact ⟨by rw [HV.out]; rfl, HB3.out⟩
   ·skip
    go_enter Tryz.func96, Tryz.ntmps96
    go_wp2_with (first
     | (go_at_call 113; refine (valid_any _ _ (by omega)).mono ?_; rintro e w1 ⟨rfl, hb1⟩; have HB1 := Zh hb1; clear hb1)
     | (go_at_call 104; refine (lower_any _ _ (by omega)).mono ?_; rintro e w2 ⟨rfl, hb2⟩; have HB2 := Zh (bnext HB1.out hb2); clear hb2)
     | (go_at_call 136; refine (squeeze_any _ _ (by show (low s.data.toList).length ≤ _; rw [low_length, ← HL0.out]; omega)).mono ?_; rintro e w3 ⟨rfl, hb3⟩; have HB3 := Zh (bnext HB2.out hb3); clear hb3)
     | (go_at_call 138; refine (Tryz.strings_TrimSuffix _ _ _ (by have := HL.out; show (sqz false (low s.data.toList)).length ≤ _; omega)).mono ?_; rintro e w4 ⟨rfl, rfl⟩)
     | fail)
    go_ret2
    exact ⟨by rw [HV.out]; rfl, HB3.out⟩
 by_cases f1 : f = 1
 ·subst f1
  cases hv : Lib.validD s.data.toList with
  | false =>
   have HV := Zh (show pieceL 1 wh s.data.toList = ([], false) by rw [HP.out, if_pos (.inr rfl), if_pos hv])
   clear HP
   go_enter Tryz.func96, Tryz.ntmps96
   go_wp2_with (first
    | (go_at_call 113; refine (valid_any _ _ (by omega)).mono ?_; rintro e w1 ⟨rfl, hb1⟩; have HB1 := Zh hb1; clear hb1)
    | fail)
   go_ret2
   exact ⟨by rw [HV.out]; rfl, HB1.out⟩
  | true =>
   have HV := Zh (show pieceL 1 wh s.data.toList = (placeL wh (sqz false s.data.toList), true) by rw [HP.out, if_pos (.inr rfl), if_neg (by rw [hv]; simp), if_neg (by decide)])
   rcases hw with rfl | rfl | rfl
   ·skip
    go_enter Tryz.func96, Tryz.ntmps96
    go_wp2_with (first
     | (go_at_call 113; refine (valid_any _ _ (by omega)).mono ?_; rintro e w1 ⟨rfl, hb1⟩; have HB1 := Zh hb1; clear hb1)
     | (go_at_call 136; refine (squeeze_any _ _ (by omega)).mono ?_; rintro e w3 ⟨rfl, hb3⟩; have HB3 := Zh (bnext HB1.out hb3); clear hb3)
     | (go_at_call 137; refine (Tryz.strings_TrimPrefix _ _ _).mono ?_; rintro e w4 ⟨rfl, rfl⟩)
     | fail)
    go_ret2
    exact ⟨by rw [HV.out]; rfl, HB3.out⟩
   ·skip
    go_enter Tryz.func96, Tryz.ntmps96
    go_wp2_with (first
     | (go_at_call 113; refine (valid_any _ _ (by omega)).mono ?_; rintro e w1 ⟨rfl, hb1⟩; have HB1 := Zh hb1; clear hb1)
     | (go_at_call 136; refine (squeeze_any _ _ (by omega)).mono ?_; rintro e w3 ⟨rfl, hb3⟩; have HB3 := Zh (bnext HB1.out hb3); clear hb3)
     | fail)
    go_ret2
    exact ⟨by rw [HV.out]; rfl, HB3.out⟩
   ·skip
    go_enter Tryz.func96, Tryz.ntmps96
    go_wp2_with (first
     | (go_at_call 113; refine (valid_any _ _ (by omega)).mono ?_; rintro e w1 ⟨rfl, hb1⟩; have HB1 := Zh hb1; clear hb1)
     | (go_at_call 136; refine (squeeze_any _ _ (by omega)).mono ?_; rintro e w3 ⟨rfl, hb3⟩; have HB3 := Zh (bnext HB1.out hb3); clear hb3)
     | (go_at_call 138; refine (Tryz.strings_TrimSuffix _ _ _ (by have := HL.out; show (sqz false s.data.toList).length ≤ _; omega)).mono ?_; rintro e w4 ⟨rfl, rfl⟩)
     | fail)
    go_ret2
    exact ⟨by rw [HV.out]; rfl, HB3.out⟩
 by_cases f2 : f = 2
 ·subst f2
  cases hv : onlyL [32] s.data.toList with
  | false =>
   have HV := Zh (show pieceL 2 wh s.data.toList = ([], false) by rw [HP.out, if_neg (by decide), if_pos rfl, if_neg (by rw [hv]; simp)])
   clear HP
   go_enter Tryz.func96, Tryz.ntmps96
   go_wp2_with (first
    | (go_at_call 139; refine (only_any _ _ _ (by omega)).mono ?_; rintro e w1 ⟨rfl, rfl⟩; rw [show onlyL (ByteArray.mk #[32]).data.toList s.data.toList = false from hv])
    | fail)
   go_ret2
   exact ⟨by rw [HV.out]; rfl, Zl _ _⟩
  | true =>
   have HV := Zh (show pieceL 2 wh s.data.toList = (zapB 32 s.data.toList, true) by rw [HP.out, if_neg (by decide), if_pos rfl, if_pos hv])
   clear HP
   obtain ⟨m, hm⟩ := HE.out.max
   have HM := Zh hm; clear hm
   go_enter Tryz.func96, Tryz.ntmps96
   go_wp2_with (first
    | (go_at_call 139; refine (only_any _ _ _ (by omega)).mono ?_; rintro e w1 ⟨rfl, rfl⟩; rw [show onlyL (ByteArray.mk #[32]).data.toList s.data.toList = true from hv])
    | (go_at_call 140; refine (Tryz.strings_ReplaceAll s _ _ m _ (by omega) HM.out (by decide) (by show _ + _ * 0 ≤ _; omega)).mono ?_; rintro e w2 ⟨rfl, hb2⟩; have HB2 := Zh hb2; clear hb2; rw [show Lib.replaceAll s.data.toList (ByteArray.mk #[32]).data.toList (ByteArray.mk #[]).data.toList = zapB 32 s.data.toList from replaceAll_zap 32 _])
    | fail)
   go_ret2
   exact ⟨by rw [HV.out]; rfl, HB2.out⟩
 by_cases f3 : f = 3
 ·subst f3
  cases hv : onlyL signs s.data.toList with
  | false =>
   have HV := Zh (show pieceL 3 wh s.data.toList = ([], false) by rw [HP.out, if_neg (by decide), if_neg (by decide), if_pos rfl, if_neg (by rw [hv]; simp)])
   clear HP
   go_enter Tryz.func96, Tryz.ntmps96
   go_wp2_with (first
    | (go_at_call 139; refine (only_any _ _ _ (by omega)).mono ?_; rintro e w1 ⟨rfl, rfl⟩; rw [show onlyL (ByteArray.mk #[97, 98, 99, 100, 101, 102, 103, 104, 105, 106, 107, 108, 109, 110, 111, 112, 113, 114, 115, 116, 117, 118, 119, 120, 121, 122, 65, 66, 67, 68, 69, 70, 71, 72, 73, 74, 75, 76, 77, 78, 79, 80, 81, 82, 83, 84, 85, 86, 87, 88, 89, 90, 39, 40, 41, 43, 44, 45, 46, 47, 58, 63, 61, 32]).data.toList s.data.toList = false from hv])
    | fail)
   go_ret2
   exact ⟨by rw [HV.out]; rfl, Zl _ _⟩
  | true =>
   have HV := Zh (show pieceL 3 wh s.data.toList = (dialL s.data.toList, true) by rw [HP.out, if_neg (by decide), if_neg (by decide), if_pos rfl, if_pos hv])
   clear HP
   obtain ⟨m, hm⟩ := HE.out.max
   have HM := Zh hm; clear hm
   go_enter Tryz.func96, Tryz.ntmps96
   go_wp2_with (first
    | (go_at_call 139; refine (only_any _ _ _ (by omega)).mono ?_; rintro e w1 ⟨rfl, rfl⟩; rw [show onlyL (ByteArray.mk #[97, 98, 99, 100, 101, 102, 103, 104, 105, 106, 107, 108, 109, 110, 111, 112, 113, 114, 115, 116, 117, 118, 119, 120, 121, 122, 65, 66, 67, 68, 69, 70, 71, 72, 73, 74, 75, 76, 77, 78, 79, 80, 81, 82, 83, 84, 85, 86, 87, 88, 89, 90, 39, 40, 41, 43, 44, 45, 46, 47, 58, 63, 61, 32]).data.toList s.data.toList = true from hv])
    | (go_at_call 141; refine (dialled_any s _ HE.out (by omega)).mono ?_; rintro e w2 ⟨rfl, hb2⟩; have HB2 := Zh hb2; clear hb2)
    | fail)
   go_ret2
   exact ⟨by rw [HV.out]; rfl, HB2.out⟩
 have HV := Zh (show pieceL f wh s.data.toList = ([], false) by rw [HP.out, if_neg (by rintro (h | h); exact f0 h; exact f1 h), if_neg f2, if_neg f3])
 clear HP
 go_enter Tryz.func96, Tryz.ntmps96
 go_wp2_with (first
  | fail)
 go_ret2
 exact ⟨by rw [HV.out]; rfl, Zl _ _⟩
end Go.Proofs.YtlmfbjhokkpjhaaGreatDoor
namespace Go.Proofs.YtlmfbjhokkpjhaaGreatDoor
open Go Go.RowKit
theorem small_any (s : ByteArray) (w : World) (hs : s.size ≤ 140737488355328) :
  Calls Tryz.prog 89 #[.string s] w fun e w' => e = .returned (.string ⟨(low (toL s)).toArray⟩) ∧ Below w.heap.size w w' := by
 go_enter Tryz.func89, Tryz.ntmps89
 have hc := Lib.run_convert_string_bytes (P := Tryz.prog) w 9 115 5 s Tryz.underlying9 Tryz.underlying115 Tryz.underlying5
 have B0 := below_bytes w 5 s
 have T0 := Bts.conv w s
 generalize Lib.bytesWorld w 5 s = w1 at hc B0 T0
 generalize grownCap w s.size 0 5 = cap at hc
 go_wp2_with fail
 clear hc
 have HB0 := Zh B0; clear B0
 have HT0 := Zh T0; clear T0
 go_loopw [10] (fun iv wr => ∃ i : Nat, iv = .int .i64 i ∧ i ≤ s.size ∧ Below w.heap.size w wr ∧ Bts wr w.heap.size (low (s.data.toList.take i) ++ s.data.toList.drop i)) (fun iv _ => s.size - (intOf iv).toNat)
 case atStart => exact ⟨0, rfl, Nat.zero_le _, HB0.out, by simpa [low] using HT0.out⟩
 case round =>
  clear HB0 HT0
  obtain ⟨i, rfl, hi, hb, ht⟩ := hrel
  have HB := Zh hb; clear hb
  have HT := Zh ht; clear ht
  have hl0 : s.data.toList.length = s.size := by simp
  have hlen : (low (s.data.toList.take i) ++ s.data.toList.drop i).length = s.size := by simp [low]; omega
  by_cases hlt : i < s.size
  ·have hget : (low (s.data.toList.take i) ++ s.data.toList.drop i)[i]? = some s[i] := by
    rw [List.getElem?_append_right (by rw [low, List.length_map, List.length_take]; omega), show i - (low (s.data.toList.take i)).length = 0 by rw [low, List.length_map, List.length_take]; omega, drop_at s hlt]; rfl
   have hcell := HT.out.cell i _ hget
   have hfr := HT.out.fr i (by omega)
   have hst := low_step s.data.toList (by omega : i < s.data.toList.length)
   have hsi : s.data.toList[i]'(by omega) = s[i] := rfl
   rw [hsi] at hst
   have HS := Zh hst; clear hst
   have HN := Zh (low_keep s.data.toList (by omega : i < s.data.toList.length))
   rw [hsi] at HN
   have hset := HT.out.set (i := i) (by omega) (lowB s[i])
   rw [HS.out] at hset
   have HQ := Zh hset; clear hset HS
   clear hget hsi hlen
   generalize s[i] = b at *
   go_wp2_with fail
   ·have e1 := lowB_nat (b := b) (by omega)
    have hq := HQ.out
    rw [show ((lowB b).toNat : Int) = (b.toNat : Int) + 32 by omega] at hq
    exact ⟨⟨i + 1, by simp, by omega, HB.out.setCell (Zr _) _, hq⟩, by simp [intOf]; omega⟩
   all_goals exact ⟨⟨i + 1, by simp, by omega, HB.out, by rw [HN.out (lowB_same (by omega))]; exact HT.out⟩, by simp [intOf]; omega⟩
  ·have hie : i = s.size := by omega
   subst hie
   have hfin := HT.out
   rw [List.take_of_length_le (by omega), List.drop_eq_nil_of_le (by omega), List.append_nil] at hfin
   have hbk := hfin.back (P := Tryz.prog) (src := 115) (dst := 9) (e := 5) (n := s.size) (by simp [low]) cap Tryz.underlying115 Tryz.underlying5 Tryz.underlying9
   clear hfin hlen
   go_wp2_with fail
   go_ret
   exact ⟨rfl, HB.out⟩
theorem let_fin : ∀ n : Fin 256, (decide (97 ≤ bits BinOp.or IntKind.u8 (n.val : Int) 32) && decide (bits BinOp.or IntKind.u8 (n.val : Int) 32 ≤ 122)) = (decide (97 ≤ n.val ∧ n.val ≤ 122) || decide (65 ≤ n.val ∧ n.val ≤ 90)) := by decide +kernel
theorem let_eq (b : UInt8) : (decide (97 ≤ bits BinOp.or IntKind.u8 (b.toNat : Int) 32) && decide (bits BinOp.or IntKind.u8 (b.toNat : Int) 32 ≤ 122)) = isLet b := let_fin ⟨b.toNat, b.toNat_lt⟩
theorem letter_any (b : UInt8) (w : World) : Calls Tryz.prog 187 #[.int .u8 (b.toNat : Int)] w fun e w' => e = .returned (.bool (isLet b)) ∧ w = w' := by
 have he := let_eq b
 generalize isLet b = x at he
 have HE := Zh he; clear he
 go_enter Tryz.func187, Tryz.ntmps187
 go_wp2_with fail
 all_goals
  rename_i h
  go_ret
  refine ⟨?_, rfl⟩
  rw [← HE.out]
  simp [h]
 omega
theorem dig_eq (b : UInt8) : (decide (48 ≤ (b.toNat : Int)) && decide ((b.toNat : Int) ≤ 57)) = dig b := by
 unfold dig; rw [Bool.eq_iff_iff]; simp; omega
theorem digit_any (b : UInt8) (w : World) : Calls Tryz.prog 227 #[.int .u8 (b.toNat : Int)] w fun e w' => e = .returned (.bool (dig b)) ∧ w = w' := by
 have he := dig_eq b
 generalize dig b = x at he
 have HE := Zh he; clear he
 go_enter Tryz.func227, Tryz.ntmps227
 go_wp2_with fail
 all_goals
  rename_i h
  go_ret
  refine ⟨?_, rfl⟩
  rw [← HE.out]
  simp [h]
 omega
theorem tailC_45 (b : UInt8) : (b == 45) = decide ((b.toNat : Int) = 45) := by
 rw [Bool.eq_iff_iff]; simp only [beq_iff_eq, decide_eq_true_eq]
 exact ⟨fun h => by subst h; rfl, fun h => UInt8.toNat_inj.1 (by show b.toNat = 45; omega)⟩
theorem tail_any (s : ByteArray) (w : World) (hs : s.size ≤ 140737488355328) : Calls Tryz.prog 188 #[.string s] w fun e w' => e = .returned (.bool (tailB (toL s))) ∧ w = w' := by
 go_enter Tryz.func188, Tryz.ntmps188
 go_wp2_with fail
 go_loop [6] (fun iv => ∃ i : Nat, iv = .int .i64 i ∧ i ≤ s.size ∧ tailB (toL s) = tailB ((toL s).drop i)) (fun iv => s.size - (intOf iv).toNat)
 case atStart => exact ⟨0, rfl, Nat.zero_le _, rfl⟩
 case round =>
  obtain ⟨i, rfl, hi, ht⟩ := hrel
  have HT := Zh ht; clear ht
  by_cases hlt : i < s.size
  ·have hd : tailB ((toL s).drop i) = (tailC s[i] && tailB ((toL s).drop (i + 1))) := by
    unfold toL; rw [drop_at s hlt]; rfl
   have HD := Zh (HT.out.trans hd); clear hd HT
   have h45 := tailC_45 s[i]
   unfold tailC at HD
   have cl := letter_any s[i]
   have cd := digit_any s[i]
   cases hL : isLet s[i] with
   | true =>
    rw [hL] at cl HD
    have CL := Zh cl; clear cl cd h45 hL
    go_wp2_with (first | (go_at_call 187; with_reducible refine (CL.out _).mono ?_; rintro e w1 ⟨rfl, rfl⟩) | fail)
    exact ⟨⟨i + 1, by simp, by omega, by rw [HD.out]; simp⟩, by simp [intOf]; omega⟩
   | false =>
    rw [hL] at cl HD
    have CL := Zh cl; clear cl hL
    cases hD : dig s[i] with
    | true =>
     rw [hD] at cd HD
     have CD := Zh cd; clear cd h45 hD
     go_wp2_with (first | (go_at_call 187; with_reducible refine (CL.out _).mono ?_; rintro e w1 ⟨rfl, rfl⟩) | (go_at_call 227; with_reducible refine (CD.out _).mono ?_; rintro e w1 ⟨rfl, rfl⟩) | fail)
     exact ⟨⟨i + 1, by simp, by omega, by rw [HD.out]; simp⟩, by simp [intOf]; omega⟩
    | false =>
     rw [hD] at cd HD
     rw [h45] at HD
     have CD := Zh cd; clear cd h45 hD
     by_cases h5 : (s[i].toNat : Int) = 45
     ·rw [decide_eq_true h5] at HD
      have hB : ((s[i].toNat : Int) == 45) = true := by rw [h5]; rfl
      have hN : ((s[i].toNat : Int) != 45) = false := by rw [h5]; rfl
      clear h5
      go_wp2_with (first | (go_at_call 187; with_reducible refine (CL.out _).mono ?_; rintro e w1 ⟨rfl, rfl⟩) | (go_at_call 227; with_reducible refine (CD.out _).mono ?_; rintro e w1 ⟨rfl, rfl⟩) | fail)
      exact ⟨⟨i + 1, by simp, by omega, by rw [HD.out]; simp⟩, by simp [intOf]; omega⟩
     ·rw [decide_eq_false h5] at HD
      go_wp2_with (first | (go_at_call 187; with_reducible refine (CL.out _).mono ?_; rintro e w1 ⟨rfl, rfl⟩) | (go_at_call 227; with_reducible refine (CD.out _).mono ?_; rintro e w1 ⟨rfl, rfl⟩) | fail)
      go_ret
      exact ⟨by rw [HD.out]; rfl, rfl⟩
  ·have hfin : tailB ((toL s).drop i) = true := by unfold toL; rw [drop_end s hlt]; rfl
   have HF := Zh (HT.out.trans hfin); clear hfin HT
   go_wp2_with fail
   go_ret
   exact ⟨by rw [HF.out]; rfl, rfl⟩
end Go.Proofs.YtlmfbjhokkpjhaaGreatDoor
namespace Go.Proofs.YtlmfbjhokkpjhaaGreatDoor
open Go Go.RowKit Go.Maps
theorem kStr : Keyed Tryz.prog 9 := string_keyed Tryz.underlying9
theorem zeroInt (w : World) : (zeroValue 3).run Tryz.prog w = .ok (.int .i64 0) w := by kernel_rfl
theorem keyStr {s : ByteArray} (hs : s.size ≤ maxLen) : keyOf Tryz.prog 9 (.string s) = some (.string (toL s)) := Go.WideMaps.keyOf_string_mk Tryz.underlying9 hs
structure MapIs (w : World) (b n : Nat) (f : Str → Option Nat) : Prop where
 own : ∃ D : DataW Unit, w.ownsMap Tryz.prog 9 (plainElem Tryz.prog 3) b n D ∧
  ∀ k : Str, Maps.has D (.string k) = (f k).isSome ∧ D.atKey (.string k) (.lit (.int .i64 0)) = .lit (.int .i64 ((f k).getD 0 : Nat))
theorem MapIs.lt {w : World} {b n : Nat} {f : Str → Option Nat} (h : MapIs w b n f) : b < w.heap.size := by obtain ⟨D, h1, _⟩ := h.own; exact h1.lt
theorem MapIs.of_block {w w' : World} {b n : Nat} {f : Str → Option Nat} (h : MapIs w b n f) (k : w'.heap[b]? = w.heap[b]?) : MapIs w' b n f := by
 obtain ⟨D, ⟨es, clock, hb, r⟩, h2⟩ := h.own
 exact ⟨D, ⟨es, clock, by rw [k]; exact hb, r⟩, h2⟩
theorem MapIs.keep {w w' : World} {b n B : Nat} {f : Str → Option Nat} (h : MapIs w b n f) (k : Below B w w') (hb : b < B) : MapIs w' b n f := h.of_block (k.block b hb)
theorem MapIs.mono {w : World} {b n n' : Nat} {f : Str → Option Nat} (h : MapIs w b n f) (hn : n ≤ n') : MapIs w b n' f := by
 obtain ⟨D, h1, h2⟩ := h.own; exact ⟨D, h1.mono hn, h2⟩
theorem MapIs.made (w : World) : MapIs (w.alloc (.map #[] 0)) w.heap.size 0 (fun _ => none) :=
 ⟨.map [], World.ownsMap_made _ _ _ _, fun _ => ⟨rfl, rfl⟩⟩
theorem MapIs.look {w : World} {b n : Nat} {f : Str → Option Nat} (h : MapIs w b n f) {s : ByteArray} (hs : s.size ≤ maxLen) :
  (Instr.lookup 80 (.map (some b)) (.string s) false).run Tryz.prog w = .ok (.int .i64 ((f (toL s)).getD 0 : Nat)) w := by
 obtain ⟨D, h1, h2⟩ := h.own
 obtain ⟨c, hr, hc, _⟩ := h1.lookup_int kStr Tryz.underlying80 Tryz.underlying3 (zeroInt w) (keyStr hs)
 rw [(h2 (toL s)).2] at hc
 cases hc; exact hr
theorem MapIs.look_ok {w : World} {b n : Nat} {f : Str → Option Nat} (h : MapIs w b n f) {s : ByteArray} (hs : s.size ≤ maxLen) :
  (Instr.lookup 80 (.map (some b)) (.string s) true).run Tryz.prog w = .ok (.tuple #[.int .i64 ((f (toL s)).getD 0 : Nat), .bool (f (toL s)).isSome]) w := by
 obtain ⟨D, h1, h2⟩ := h.own
 obtain ⟨v, ps, hr, hv⟩ := h1.look_ok kStr Tryz.underlying80 (zeroInt w) (plainElem_int Tryz.underlying3 (by decide)) (keyStr hs)
 obtain ⟨c, rfl, hc, _⟩ := plainElem_int_inv Tryz.underlying3 hv
 rw [(h2 (toL s)).2] at hc
 rw [(h2 (toL s)).1] at hr
 cases hc; exact hr
theorem MapIs.put {w : World} {b n : Nat} {f : Str → Option Nat} (h : MapIs w b n f) (hn : n < maxLen) {s : ByteArray} (hs : s.size ≤ maxLen) {v : Nat} (hv : v ≤ maxLen) :
  ∃ w', (Instr.mapUpdate 80 (.map (some b)) (.string s) (.int .i64 (v : Int))).run Tryz.prog w = .ok () w' ∧ MapIs w' b (n + 1) (fun x => if x = toL s then some v else f x) ∧ w.grownBy w' (some b) := by
 obtain ⟨D, h1, h2⟩ := h.own
 obtain ⟨w', hr, ho, hg⟩ := h1.update kStr Tryz.underlying80 hn (keyStr hs) (plainElem_int (H := Unit) Tryz.underlying3 (a := (v : Int)) (WalkArith.wf_i64 (by unfold maxLen at hv; omega)))
 refine ⟨w', hr, ⟨_, ho, fun k => ?_⟩, hg⟩
 by_cases e : k = toL s
 ·subst e
  rw [has_put_same h1.isMap (k := .string (toL s)) trivial, atKey_put_same h1.isMap (k := .string (toL s)) trivial]
  simp
 ·have hne : (Lit.string k) ≠ Lit.string (toL s) := fun e2 => e (by cases e2; rfl)
  rw [has_put_other hne, atKey_put_other hne, (h2 k).1, (h2 k).2]
  simp [e]
theorem MapIs.wp_put {w : World} {b n : Nat} {f : Str → Option Nat} (h : MapIs w b n f) {ops : Array Oper} {rest : List Oper} {o : Oper} {a : Act} {Q : Exit → Act → World → Prop} (hg : o.guard = none) (m x v : Operand) (hop : o.op = Op.mapUpdate 80 m x v)
  (hm : a.eval m = .map (some b)) (s : ByteArray) (hx : a.eval x = .string s) (p : Nat) (hv : a.eval v = .int .i64 (p : Int)) (hn : n < maxLen) (hs : s.size ≤ maxLen) (hp : p ≤ maxLen)
  (hK : ∀ w', MapIs w' b (n + 1) (fun x => if x = toL s then some p else f x) → w.grownBy w' (some b) → wpList Tryz.prog ops Q rest (a.put o.dst undef) w') :
  wpList Tryz.prog ops Q (o :: rest) a w := by
 refine wpList_plain hg fun K' hK' => ?_
 obtain ⟨w', hrun, r1, r2⟩ := h.put hn hs hp
 unfold Oper.wp
 simp [execOp, hop, hm, hx, hv, hrun, Result.andThen]
 exact hK' _ _ (hK w' r1 r2)
end Go.Proofs.YtlmfbjhokkpjhaaGreatDoor
namespace Go.Proofs.YtlmfbjhokkpjhaaGreatDoor
open Go Go.RowKit
structure EI (P : Program) (T e : TypeId) (z : Value) (sz bytes : Nat) : Prop where
 und : P.underlying T = some (.slice e)
 info : ∃ i, P.info? e = some i ∧ i.zero = some z ∧ i.size = sz ∧ i.bytes = bytes
 zs : z.cells.size = sz
 sz0 : 0 < sz
 b0 : 0 < bytes
theorem EI.of {P : Program} {T e : TypeId} {z : Value} {sz bytes : Nat} (hu : P.underlying T = some (.slice e)) (h : (P.info? e).map (fun i => (i.zero, i.size, i.bytes)) = some (some z, sz, bytes)) (hz : z.cells.size = sz) (h0 : 0 < sz) (h1 : 0 < bytes) : EI P T e z sz bytes := by
 refine ⟨hu, ?_, hz, h0, h1⟩
 cases hi : P.info? e with
 | none => rw [hi] at h; cases h
 | some i =>
  rw [hi] at h
  simp only [Option.map_some, Option.some.injEq, Prod.mk.injEq] at h
  exact ⟨i, rfl, h.1, h.2.1, h.2.2⟩
structure Vec (e sz : Nat) (w0 w : World) (go : Option Nat) (n cap : Nat) (vs : List Value) : Prop where
 own : Own w e sz go n cap vs
 fresh : ∀ g, go = some g → w0.heap.size ≤ g
 below : Below w0.heap.size w0 w
variable {P : Program} {T e : TypeId} {z : Value} {sz bytes : Nat} {w0 w : World} {go : Option Nat} {n cap : Nat} {vs : List Value}
theorem Vec.nil (e sz : Nat) (w0 : World) {w : World} (h : Below w0.heap.size w0 w) : Vec e sz w0 w none 0 0 [] := ⟨Own.nil w e sz, (fun g h => by cases h), h⟩
theorem Vec.lt {g : Nat} (h : Vec e sz w0 w (some g) n cap vs) : g < w.heap.size := h.own.row.lt
theorem Vec.size (h : Vec e sz w0 w go n cap vs) : w0.heap.size ≤ w.heap.size := h.below.size
theorem Vec.next {w' : World} (h : Vec e sz w0 w go n cap vs) (k : Below w.heap.size w w') : Vec e sz w0 w' go n cap vs :=
 ⟨h.own.keep fun g hg => by subst hg; exact k.block g h.own.row.lt, h.fresh, h.below.trans (k.mono h.size)⟩
theorem Vec.alloc (h : Vec e sz w0 w go n cap vs) (o : Obj) : Vec e sz w0 (w.alloc o) go n cap vs := h.next ((Zl _ w).alloc (Zr _) o)
theorem Vec.chg {S : Nat → Prop} {w' : World} (h : Vec e sz w0 w go n cap vs) (k : Chg S w w') (hS : ∀ g, S g → w0.heap.size ≤ g) (hn : ∀ g, go = some g → ¬ S g) : Vec e sz w0 w' go n cap vs :=
 ⟨h.own.keep fun g hg => by subst hg; exact k.block g h.own.row.lt (hn g rfl), h.fresh, h.below.trans (k.below h.size fun b hb hs => by have := hS b hs; omega)⟩
theorem Vec.cell {g : Nat} (h : Vec e sz w0 w (some g) n cap vs) {j : Nat} {v : Value} (hj : vs[j]? = some v) : w.cell? ⟨g, j, none⟩ = some v := h.own.row.cell hj
theorem Vec.ptr (h : Vec e sz w0 w go n cap vs) (hn : 0 < n) : ∃ g, go = some g := by
 cases go with
 | none => have := h.own.2.1; omega
 | some g => exact ⟨g, rfl⟩
theorem Vec.from {wa : World} (h : Vec e sz w0 w go n cap vs) (k : Below wa.heap.size wa w0) : Vec e sz wa w go n cap vs := ⟨h.own, fun g hg => Nat.le_trans k.size (h.fresh g hg), k.trans (h.below.mono k.size)⟩
theorem Vec.made (w0 : World) {w : World} (h : Below w0.heap.size w0 w) (e sz m : Nat) (xs : Array Value) (hx : xs.size = m * sz) (hm : m ≤ maxLen) : Vec e sz w0 (w.alloc (.cells xs e)) (some w.heap.size) m m xs.toList :=
 ⟨Own.mk (Row.made hx hm) (by simpa using hx) (Zr _), fun g hg => by cases hg; exact h.size, h.alloc h.size _⟩
theorem Vec.app (h : Vec e sz w0 w go n cap vs) (I : EI P T e z sz bytes) {ops : Array Oper} {rest : List Oper} {o : Oper} {a : Act} {Q : Exit → Act → World → Prop} (hgd : o.guard = none) (s x : Operand)
  (ho : o.op = .call { callee := .builtin .append, args := #[s, x], argTypes := #[T, T] })
  (hs : a.eval s = sv go n cap) (sa : Option Addr) (m c : Nat) (news : List Value) (hx : a.eval x = .slice sa m c) (hsn : sa = none → m = 0 ∧ c = 0) (hl : news.length = m * sz)
  (hnews : ∀ ad, sa = some ad → ∀ j u, news[j]? = some u → w.cell? (ad.add j) = some u) (h1 : ∀ u ∈ news, u.oneCell' = true)
  (L : Nat) (hL : n + m = L) (hb : L * bytes ≤ 140737488355328)
  (hk : ∀ go' cap' w', Vec e sz w0 w' go' L cap' (vs ++ news) → w.grownBy w' go → wpList P ops Q rest (a.put o.dst (sv go' L cap')) w') : wpList P ops Q (o :: rest) a w := by
 subst hL
 obtain ⟨i, h2, h3, h4, h5⟩ := I.info
 refine wpList_app0 hgd s x T ho e i z sz bytes I.und h2 h3 h4 h5 I.zs I.sz0 I.b0 go n cap vs hs h.own sa m c news hx hsn hl hnews h1 hb fun go' cap' w' hO hG hat => hk go' cap' w' ⟨hO, fun k hkk => ?_, h.below.grown hG h.size fun k hk => h.fresh k hk⟩ hG
 rcases hat with e2 | e2
 ·rw [e2] at hkk; exact h.fresh _ hkk
 ·rw [e2] at hkk; cases hkk; exact h.size
theorem Vec.app1 (h : Vec e sz w0 w go n cap vs) (I : EI P T e z sz bytes) {ops : Array Oper} {rest : List Oper} {o : Oper} {a : Act} {Q : Exit → Act → World → Prop} (hgd : o.guard = none) (s x : Operand)
  (ho : o.op = .call { callee := .builtin .append, args := #[s, x], argTypes := #[T, T] })
  (hs : a.eval s = sv go n cap) (sa : Option Addr) (m c : Nat) (news : List Value) (hx : a.eval x = .slice sa m c) (hsn : sa = none → m = 0 ∧ c = 0) (hl : news.length = m * sz)
  (hnews : ∀ ad, sa = some ad → ∀ j u, news[j]? = some u → w.cell? (ad.add j) = some u) (h1 : ∀ u ∈ news, u.oneCell' = true)
  (L : Nat) (hL : n + m = L) (hb : L * bytes ≤ 140737488355328) (hpos : 0 < L)
  (hk : ∀ g cap' w', Vec e sz w0 w' (some g) L cap' (vs ++ news) → w.grownBy w' go → wpList P ops Q rest (a.put o.dst (.slice (some ⟨g, 0, none⟩) L cap')) w') : wpList P ops Q (o :: rest) a w :=
 h.app I hgd s x ho hs sa m c news hx hsn hl hnews h1 L hL hb fun go' cap' w' hV hG => by
  obtain ⟨g, rfl⟩ := hV.ptr hpos
  exact hk g cap' w' hV hG
theorem Vec.push (h : Vec e sz w0 w go n cap vs) (I : EI P T e z sz bytes) {ops : Array Oper} {rest : List Oper} {o : Oper} {a : Act} {Q : Exit → Act → World → Prop} (hgd : o.guard = none) (s x : Operand)
  (ho : o.op = .call { callee := .builtin .append, args := #[s, x], argTypes := #[T, T] })
  (hs : a.eval s = sv go n cap) (m : Nat) (news : List Value) (cs : Array Value) (hcs : cs.toList = news) (hx : a.eval x = .slice (some ⟨w.heap.size, 0, none⟩) m m) (hl : news.length = m * sz) (h1 : ∀ u ∈ news, u.oneCell' = true) (hm : 0 < m)
  (L : Nat) (hL : n + m = L) (hb : L * bytes ≤ 140737488355328)
  (hk : ∀ g cap' w', Vec e sz w0 w' (some g) L cap' (vs ++ news) → (w.alloc (.cells cs e)).grownBy w' go → wpList P ops Q rest (a.put o.dst (.slice (some ⟨g, 0, none⟩) L cap')) w') : wpList P ops Q (o :: rest) a (w.alloc (.cells cs e)) := by
 refine (h.alloc (.cells cs e)).app I hgd s x ho hs (some ⟨w.heap.size, 0, none⟩) m m news hx (fun h => by cases h) hl (news_new w news cs e hcs) h1 L hL hb fun go' cap' w' hV hG => ?_
 obtain ⟨g, rfl⟩ := hV.ptr (by omega)
 exact hk g cap' w' hV hG
end Go.Proofs.YtlmfbjhokkpjhaaGreatDoor
