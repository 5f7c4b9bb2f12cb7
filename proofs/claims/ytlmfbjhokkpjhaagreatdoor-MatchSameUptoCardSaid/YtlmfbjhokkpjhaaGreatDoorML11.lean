/- Part 11 of the walks and plain laws, joined: First, MatPart, MatOf, SchMk. -/
import Derived.Test.YtlmfbjhokkpjhaaGreatDoorML00
import Derived.Test.YtlmfbjhokkpjhaaGreatDoorML10
import Derived.Test.YtlmfbjhokkpjhaaGreatDoorML07
import Derived.Test.YtlmfbjhokkpjhaaGreatDoorShelfM
import Derived.Deep.QuietTactic
import Derived.BigQuiet
import Derived.Deep.Cut
import Derived.Outline
namespace Go.Proofs.YtlmfbjhokkpjhaaGreatDoor
open Go Go.RowKit Go.Maps
theorem eiStr : EI Tryz.prog 44 9 (.string ByteArray.empty) 1 16 := EI.of Tryz.underlying44 (by kernel_rfl) rfl (by decide) (by decide)
def strV (l : List ByteArray) : List Value := l.map .string
theorem strV_one (l : List ByteArray) : ∀ u ∈ strV l, u.oneCell' = true := fun u hu => by
 obtain ⟨s, _, rfl⟩ := List.mem_map.1 hu; rfl
theorem strV_get {l : List ByteArray} {i : Nat} (h : i < l.length) : (strV l)[i]? = some (.string l[i]) := by
 simp [strV, h]
theorem Texts.news {B : Nat} {w : World} {a : Option Addr} {n c : Nat} {l : List ByteArray} (h : Texts B w a n c l) : ∀ ad, a = some ad → ∀ (j : Nat) (u : Value), (strV l)[j]? = some u → ad.block < B ∧ w.cell? (ad.add j) = some u := by
 intro ad e j u hu
 simp only [strV, List.getElem?_map, Option.map_eq_some_iff] at hu
 obtain ⟨s, hs, rfl⟩ := hu
 have hn : 0 < n := by have := (List.getElem?_eq_some_iff.1 hs).1; have := h.len; omega
 obtain ⟨b, o, e2, hb⟩ := h.lies.ptr hn
 rw [e] at e2; cases e2
 rw [Addr.add_lit]
 exact ⟨hb, h.cell b o e j s hs⟩
theorem Texts.len0 {B : Nat} {w : World} {a : Option Addr} {n c : Nat} {l : List ByteArray} (h : Texts B w a n c l) : a = none → n = 0 ∧ c = 0 := h.lies.len0
theorem Chg.of_below {S : Nat → Prop} {w w' : World} (h : Below w.heap.size w w') : Chg S w w' := ⟨h.os, h.tape, h.output, h.size, fun k hk _ => h.block k hk⟩
def keysN (oid : ByteArray) (names : List ByteArray) : List Str := (oid :: names).map fun s => low (toL s)
theorem keys_take {oid : ByteArray} {names : List ByteArray} {i : Nat} (h : i < (oid :: names).length) : (keysN oid names).take (i + 1) = (keysN oid names).take i ++ [low (toL (oid :: names)[i])] := by
 have h2 : i < (keysN oid names).length := by simpa [keysN] using h
 rw [List.take_succ_eq_append_getElem h2]
 have : (keysN oid names)[i] = low (toL (oid :: names)[i]) := by simp only [keysN, List.getElem_map]
 rw [this]
set_option maxHeartbeats 1000000 in
theorem first_any (B N mb place : Nat) (f : Str → Option Nat) (oid : ByteArray) (a : Option Addr) (n c : Nat) (names : List ByteArray) (w : World) (h : Texts B w a n c names) (ho : oid.size ≤ 4294967280)
    (hm : MapIs w mb N f) (hB : B ≤ w.heap.size) (hN : N + n + 1 < maxLen) (hp : place ≤ maxLen) :
    Calls Tryz.prog 44 #[.map (some mb), .int .i64 (place : Int), .string oid, .slice a n c] w fun e w' => e = .returned (.tuple #[]) ∧ MapIs w' mb (N + n + 1) (addKeys f place (keysN oid names)) ∧ Chg (· = mb) w w' := by
  have hnl := h.len
  have hsm := h.small
  have hlt := hm.lt
  obtain ⟨L, hL⟩ : ∃ L, 1 + n = L := ⟨_, rfl⟩
  have hLp : 0 < L := by omega
  have hLs : L ≤ 4294967281 := by omega
  have hV := Vec.made w (Zl _ w) 9 1 1 #[.string oid] rfl (by unfold maxLen; omega)
  have hal : Below w.heap.size w (w.alloc (.cells #[.string oid] 9)) := (Zl _ w).alloc (Zr _) _
  have hnews : ∀ ad, a = some ad → ∀ (j : Nat) (u : Value), (strV names)[j]? = some u → (w.alloc (.cells #[.string oid] 9)).cell? (ad.add j) = some u := fun ad e j u hu => by
    have := h.news ad e j u hu; rw [hal.cell (p := ad.add j) (by rw [block_add]; exact Nat.lt_of_lt_of_le this.1 hB)]; exact this.2
  have hbt : L * 16 ≤ 140737488355328 := by omega
  have hsl : (strV names).length = n * 1 := by simp [strV, hnl]
  have hl0 := h.len0
  have hLn : L = names.length + 1 ∧ L = n + 1 := by omega
  have hsz : ∀ x ∈ oid :: names, x.size ≤ 4294967280 := fun x hx => by
    rcases List.mem_cons.1 hx with e | e
    · rw [e]; exact ho
    · exact h.size _ e
  have HV := Zh hV; have HN := Zh hnews; have HS := Zh (Zi hbt hsl); have HM := Zh hm; have HL0 := Zh hl0; have HL := Zh hL; have HZ := Zh hsz; have HC := Zh (Zi hLn (Zi hN hp)); have HAL := Zh hal
  clear h hV hal hm hl0 hnl hsm hnews hbt hsl hL hsz hLn hN hp ho hB
  go_enter Tryz.func44, Tryz.ntmps44
  go_wp2_with (at_builtin; refine HV.out.app1 eiStr rfl _ _ rfl rfl a n c (strV names) rfl HL0.out HS.out.2 HN.out (strV_one _) L HL.out HS.out.1 hLp ?_; intro g' cap' w1 hV1 hG1; have HV1 := Zh (Zi hV1 hG1); clear hV1 hG1)
  have hgf : w.heap.size ≤ g' := HV1.out.1.fresh g' rfl
  have HO1 : Hid (Own w1 9 1 (some g') L cap' (strV (oid :: names))) := Zh HV1.out.1.own
  have HB1 := Zh HV1.out.1.below
  clear HV1 HV HN HS HL0 HL HAL
  go_loopw [17] (fun iv wr => ∃ i : Nat, iv = .int .i64 i ∧ i ≤ L ∧ MapIs wr mb (N + i) (addKeys f place ((keysN oid names).take i)) ∧ Own wr 9 1 (some g') L cap' (strV (oid :: names)) ∧ Chg (· = mb) w wr) (fun iv _ => L - (intOf iv).toNat)
  case atStart => exact ⟨0, rfl, Nat.zero_le _, by simpa [addKeys_nil] using HM.out.keep HB1.out hlt, HO1.out, Chg.of_below HB1.out⟩
  case round =>
    clear HO1 HB1
    obtain ⟨i, rfl, hi, hmi, hown, hchg⟩ := hrel
    have hgne : g' ≠ mb := by omega
    by_cases hlt2 : i < L
    · have hli : i < (oid :: names).length := by simp only [List.length_cons]; have := HC.out.1.1; omega
      have hc := hown.row.cell (strV_get hli)
      have hsz := HZ.out _ (List.getElem_mem hli)
      have htk := keys_take hli
      have hNi : N + i + 1 < maxLen := by have := HC.out; omega
      generalize (oid :: names)[i] = s at hc hsz htk
      have HR := Zh (Zi hmi (Zi hown (Zi hchg (Zi htk hNi)))); clear hmi hown hchg htk hNi
      have HLK := Zh (fun w2 hb => (HR.out.1.keep (B := wr.heap.size) (w' := w2) hb HR.out.1.lt))
      have ho2 : ∀ w2, Below wr.heap.size wr w2 → Own w2 9 1 (some g') L cap' (strV (oid :: names)) := fun w2 hb => HR.out.2.1.keep fun k hk => by cases hk; exact hb.block _ HR.out.2.1.row.lt
      have HO2 := Zh ho2; clear ho2
      have hls : (ByteArray.mk (low (toL s)).toArray).size ≤ maxLen := by rw [low_size]; unfold maxLen; omega
      have hlk : ∀ w2, Below wr.heap.size wr w2 → (Instr.lookup 80 (.map (some mb)) (.string ⟨(low (toL s)).toArray⟩) true).run Tryz.prog w2 = .ok (.tuple #[.int .i64 (((addKeys f place ((keysN oid names).take i)) (low (toL s))).getD 0 : Nat), .bool ((addKeys f place ((keysN oid names).take i)) (low (toL s))).isSome]) w2 :=
        fun w2 hb => (HLK.out w2 hb).look_ok hls
      have HK2 := Zh hlk; clear hlk
      have HLS := Zh hls; clear hls
      cases hq : (addKeys f place ((keysN oid names).take i)) (low (toL s)) with
      | some q =>
        have hk2 : ∀ w2, Below wr.heap.size wr w2 → (Instr.lookup 80 (.map (some mb)) (.string ⟨(low (toL s)).toArray⟩) true).run Tryz.prog w2 = .ok (.tuple #[.int .i64 (q : Int), .bool true]) w2 := fun w2 hb => by
          have := HK2.out w2 hb; rw [hq] at this; exact this
        have HK3 := Zh hk2; have HQ := Zh hq; clear hk2 hq HK2
        go_wp2_with (first
          | (go_at_call 89; refine (small_any s _ (by omega)).mono ?_; rintro e w2 ⟨rfl, hb2⟩
             have hk3 := HK3.out w2 hb2
             have HB2 := Zh hb2; clear hb2)
          | fail)
        refine ⟨⟨i + 1, by simp, by omega, ?_, HO2.out _ HB2.out, HR.out.2.2.1.trans (Chg.of_below HB2.out)⟩, by simp [intOf]; omega⟩
        rw [HR.out.2.2.2.1, addKeys_snoc, addKeys_one_some (by rw [HQ.out]; rfl)]
        exact (HLK.out _ HB2.out).mono (by omega)
      | none =>
        have hk2 : ∀ w2, Below wr.heap.size wr w2 → (Instr.lookup 80 (.map (some mb)) (.string ⟨(low (toL s)).toArray⟩) true).run Tryz.prog w2 = .ok (.tuple #[.int .i64 0, .bool false]) w2 := fun w2 hb => by
          have := HK2.out w2 hb; rw [hq] at this; exact this
        have HK3 := Zh hk2; have HQ := Zh hq; clear hk2 hq HK2
        go_wp2_with (first
          | (go_at_call 89; refine (small_any s _ (by omega)).mono ?_; rintro e w2 ⟨rfl, hb2⟩
             have hk3 := HK3.out w2 hb2
             have HB2 := Zh hb2; clear hb2 HK3)
          | (go_at_call 89; refine (small_any s _ (by omega)).mono ?_; rintro e w3 ⟨rfl, hb3⟩
             have HB3 := Zh (bnext HB2.out hb3); clear hb3)
          | (at_mapUpdate; refine (HLK.out _ HB3.out).wp_put rfl _ _ _ rfl rfl ⟨(low (toL s)).toArray⟩ rfl place rfl (by have := HR.out.2.2.2.2; omega) HLS.out HC.out.2.2 ?_; intro w4 hm4 hg4; have H4 := Zh (Zi hm4 hg4); clear hm4 hg4)
          | fail)
        refine ⟨⟨i + 1, by simp, by omega, ?_, ?_, ?_⟩, by simp [intOf]; omega⟩
        · rw [HR.out.2.2.2.1, addKeys_snoc, addKeys_one_none (by rw [HQ.out]; rfl)]
          exact H4.out.1
        · exact (HO2.out _ HB3.out).keep fun k hk => by cases hk; exact H4.out.2.block _ (HO2.out _ HB3.out).row.lt (by simpa using hgne)
        · exact (HR.out.2.2.1.trans (Chg.of_below HB3.out)).grown H4.out.2 (fun k hk _ => by cases hk; rfl)
    · have hie : i = L := by omega
      subst hie
      have htk : (keysN oid names).take i = keysN oid names := List.take_of_length_le (by simp [keysN, HC.out.1.1])
      rw [htk] at hmi
      rw [show N + i = N + n + 1 by have := HC.out.1.2; omega] at hmi
      have HR := Zh (Zi hmi hchg); clear hmi hchg hown htk
      go_wp2_with fail
      go_end0
      exact ⟨rfl, HR.out⟩
end Go.Proofs.YtlmfbjhokkpjhaaGreatDoor
namespace Go.Proofs.YtlmfbjhokkpjhaaGreatDoor
open Go Go.RowKit Go.Maps
def pieceF (f wh : Int) (p : Str) : Str × Bool := if p = [] ∧ wh ≠ 1 then ([], true) else pieceL f wh p
structure PAt (w : World) (cf co : Nat) (f : Int) (ok : Bool) : Prop where
 form : w.cell? ⟨cf, 0, none⟩ = some (.int .i8 f)
 ok : w.cell? ⟨co, 0, none⟩ = some (.bool ok)
 fr : w.frozen? ⟨co, 0, none⟩ = false
 ne : cf ≠ co
theorem PAt.keep {w w' : World} {cf co : Nat} {f : Int} {ok : Bool} (h : PAt w cf co f ok) (k : Below w.heap.size w w') : PAt w' cf co f ok :=
 ⟨by rw [k.cell (Zb w _ h.form)]; exact h.form, by rw [k.cell (Zb w _ h.ok)]; exact h.ok, by rw [k.frozen (Zb w _ h.ok)]; exact h.fr, h.ne⟩
theorem PAt.set {w : World} {cf co : Nat} {f : Int} {ok : Bool} (h : PAt w cf co f ok) (b : Bool) : PAt (w.setCell ⟨co, 0, none⟩ (.bool b)) cf co f b :=
 ⟨by rw [World.cell?_setCell_other _ _ _ _ (by intro e; injection e with e1 _ _; exact h.ne e1.symm)]; exact h.form, by rw [World.cell?_setCell_same _ _ _ h.ok], by rw [World.frozen?_setCell]; exact h.fr, h.ne⟩
def PiecePost (w : World) (cf co : Nat) (f : Int) (ok : Bool) (p : Str × Bool) (e : Ending) (w' : World) : Prop :=
 e = .returned (.string ⟨p.1.toArray⟩) ∧ PAt w' cf co f (ok && p.2) ∧ Chg (· = co) w w'
set_option maxRecDepth 20000 in
set_option maxHeartbeats 1000000 in
theorem part1_any (wh : Int) (p : ByteArray) (cf co : Nat) (f : Int) (ok : Bool) (w : World) (h : PAt w cf co f ok) (hE : Env w) (hp : p.size ≤ 9223372036854775807) :
  Calls Tryz.prog 95 #[.int .i8 wh, .string p, .pointer (some ⟨cf, 0, none⟩), .pointer (some ⟨co, 0, none⟩)] w (PiecePost w cf co f ok (pieceF f wh (toL p))) := by
 by_cases hs : toL p = [] ∧ wh ≠ 1
 ·have hv : pieceF f wh (toL p) = ([], true) := if_pos hs
  rw [hv]
  obtain rfl := empty_of p hs.1
  have hb : (wh != 1) = true := by simpa using hs.2
  have H := Zh h; clear hv hs h hE
  go_enter Tryz.func95, Tryz.ntmps95
  go_wp2_with fail
  go_ret
  exact ⟨rfl, by rw [Bool.and_true]; exact H.out, Chg.refl _ _⟩
 ·have hv : pieceF f wh (toL p) = pieceL f wh (toL p) := if_neg hs
  rw [hv]
  have hpc := piece_any f wh p w hE hp
  change Calls Tryz.prog 96 #[.int .i8 f, .int .i8 wh, .string p] w fun e w' => e = .returned (ret2 (pieceL f wh (toL p))) ∧ Below w.heap.size w w' at hpc
  generalize pieceL f wh (toL p) = k at hpc ⊢
  obtain ⟨kl, kb⟩ := k
  unfold ret2 at hpc
  have fin : ∀ w2, Below w.heap.size w w2 → PiecePost w cf co f ok (kl, kb) (.returned (.string ⟨kl.toArray⟩)) (w2.setCell ⟨co, 0, none⟩ (.bool (ok && kb))) := fun w2 hb =>
   ⟨rfl, (h.keep hb).set _, Chg.setCell (S := fun x => x = co) (p := ⟨co, 0, none⟩) (Chg.of_below hb) (fun _ => rfl) _⟩
  have e1 := h.form
  have H := Zh h; have HP := Zh hpc; have HF := Zh fin; clear fin hpc hv h hE
  have arm : True := trivial
  clear arm
  by_cases he : toL p = []
  ·have h1 : wh = 1 := by by_cases e : wh = 1; exact e; exact absurd ⟨he, e⟩ hs
   subst h1
   obtain rfl := empty_of p he
   clear hs he
   cases ok <;> (
    go_enter Tryz.func95, Tryz.ntmps95
    go_wp2_with (first | (go_at_call 96; (with_reducible refine (HP.out).mono ?_); rintro e w2 ⟨rfl, hb2⟩; have e2 := (H.out.keep hb2).ok; have e3 := (H.out.keep hb2).fr; have HB2 := Zh hb2; clear hb2) | fail)
    go_ret
    exact HF.out _ HB2.out)
  ·obtain ⟨z1, z2, z3⟩ := nonempty_of p he
   clear hs he
   cases ok <;> (
    go_enter Tryz.func95, Tryz.ntmps95
    go_wp2_with (first | (go_at_call 96; (with_reducible refine (HP.out).mono ?_); rintro e w2 ⟨rfl, hb2⟩; have e2 := (H.out.keep hb2).ok; have e3 := (H.out.keep hb2).fr; have HB2 := Zh hb2; clear hb2) | fail)
    go_ret
    exact HF.out _ HB2.out)
end Go.Proofs.YtlmfbjhokkpjhaaGreatDoor
namespace Go.Proofs.YtlmfbjhokkpjhaaGreatDoor
open Go Go.RowKit
def KeyAt (w : World) (p : Option Addr) (r : Int) (K : Str → Str × Bool) : Prop :=
 ∀ (w' : World) (v : ByteArray), Below w.heap.size w w' → Calls Tryz.prog 11 #[.pointer p, .int .i8 r, .string v] w' fun e w'' => e = .returned (ret2 (K (toL v))) ∧ Below w'.heap.size w' w''
theorem KeyAt.next {w w' : World} {p : Option Addr} {r : Int} {K : Str → Str × Bool} (h : KeyAt w p r K) (k : Below w.heap.size w w') : KeyAt w' p r K := fun w2 v hb => h w2 v (bnext k hb)
theorem keyAt_form (p : Addr) (r : Int) (w : World) (hE : Env w) (hES : EnvS w) (hEM : EnvM w) (hr : -128 ≤ r ∧ r ≤ 127) (h19 : r ≠ 19) (h20 : r ≠ 20) : KeyAt w (some p) r (keyM r) :=
 fun w' v hb => mkey_form p r v w' (hE.next hb) (hES.next hb) (hEM.next hb) hr h19 h20
theorem of1_any (v : ByteArray) (w : World) : Calls Tryz.prog 101 #[.string v] w fun e w' => e = .returned (.int .i8 2) ∧ w = w' := by
 go_enter Tryz.func101, Tryz.ntmps101
 go_wp2_with fail
 go_ret
 exact ⟨rfl, rfl⟩
structure OfAt (w : World) (c1 c2 c3 c4 : Nat) (p : Option Addr) (r sort : Int) (f : FuncId) (key : Str) : Prop where
 s : w.cell? ⟨c1, 0, none⟩ = some (.pointer p)
 r : w.cell? ⟨c2, 0, none⟩ = some (.int .i8 r)
 sort : w.cell? ⟨c3, 0, none⟩ = some (.int .i8 sort)
 says : w.cell? ⟨c3, 1, none⟩ = some (.func (.func f) #[] #[])
 key : w.cell? ⟨c4, 0, none⟩ = some (.string ⟨key.toArray⟩)
theorem OfAt.keep {w w' : World} {c1 c2 c3 c4 : Nat} {p : Option Addr} {r sort : Int} {f : FuncId} {key : Str} (h : OfAt w c1 c2 c3 c4 p r sort f key) (k : Below w.heap.size w w') : OfAt w' c1 c2 c3 c4 p r sort f key :=
 ⟨by rw [k.cell (Zb w _ h.s)]; exact h.s, by rw [k.cell (Zb w _ h.r)]; exact h.r, by rw [k.cell (Zb w _ h.sort)]; exact h.sort,
  by rw [k.cell (Zb w _ h.says)]; exact h.says, by rw [k.cell (Zb w _ h.key)]; exact h.key⟩
def OfPost (p : Option Addr) (r sort : Int) (f : FuncId) (k : Str × Bool) (w : World) (e : Ending) (w' : World) : Prop :=
 Below w.heap.size w w' ∧ ((k.2 = false ∨ sortV r ≠ sort) ∧ e = .returned (.func (.func 101) #[] #[]) ∨
  (k.2 = true ∧ sortV r = sort) ∧ ∃ c1 c2 c3 c4, e = .returned (.func (.func 102) #[] #[.pointer (some ⟨c1, 0, none⟩), .pointer (some ⟨c2, 0, none⟩), .pointer (some ⟨c3, 0, none⟩), .pointer (some ⟨c4, 0, none⟩)]) ∧ OfAt w' c1 c2 c3 c4 p r sort f k.1)
def saysE (a b : Str) : Bool := a == b
def saysF (a b : Str) : Bool := !Op.bytesLess a b
def saysU (a b : Str) : Bool := Op.bytesLess a b || a == b
theorem saysE_any (a b : ByteArray) (w : World) : Calls Tryz.prog 56 #[.string a, .string b] w fun e w' => e = .returned (.bool (saysE (toL a) (toL b))) ∧ w = w' := by
 go_enter Tryz.func56, Tryz.ntmps56
 go_wp2_with fail
 go_ret
 refine ⟨?_, rfl⟩
 simp [saysE, toL, Lib.toList_data]
theorem saysF_any (a b : ByteArray) (w : World) : Calls Tryz.prog 58 #[.string a, .string b] w fun e w' => e = .returned (.bool (saysF (toL a) (toL b))) ∧ w = w' := by
 go_enter Tryz.func58, Tryz.ntmps58
 go_wp2_with fail
 go_ret
 refine ⟨?_, rfl⟩
 simp [saysF, toL, Lib.toList_data]
theorem saysU_any (a b : ByteArray) (w : World) : Calls Tryz.prog 59 #[.string a, .string b] w fun e w' => e = .returned (.bool (saysU (toL a) (toL b))) ∧ w = w' := by
 go_enter Tryz.func59, Tryz.ntmps59
 go_wp2_with fail
 go_ret
 refine ⟨?_, rfl⟩
 simp [saysU, toL, Lib.toList_data]
set_option maxRecDepth 20000 in
set_option maxHeartbeats 1000000 in
theorem tof_any (p : Option Addr) (r sort : Int) (f : FuncId) (K : Str → Str × Bool) (asked : ByteArray) (w : World) (hEM : EnvM w) (hr : -128 ≤ r ∧ r ≤ 127) (hK : KeyAt w p r K) :
  Calls Tryz.prog 57 #[.agg #[.int .i8 sort, .func (.func f) #[] #[]], .pointer p, .int .i8 r, .string asked] w (OfPost p r sort f (K (toL asked)) w) := by
 have hk := fun w' (hb : Below w.heap.size w w') => hK w' asked hb
 have hso := fun w' (hb : Below w.heap.size w w') => (sortOf_any r w' (hEM.next hb) hr).mono fun e w2 ⟨h1, h2⟩ => (⟨h1, h2.symm⟩ : e = Ending.returned (.int .i8 (sortV r)) ∧ w2 = w')
 generalize K (toL asked) = k at hk ⊢
 obtain ⟨kl, kb⟩ := k
 unfold ret2 at hk
 obtain ⟨so, hs⟩ : ∃ so, sortV r = so := ⟨_, rfl⟩
 rw [hs] at hso
 have HS := Zh hs
 have HK := Zh hk; have HSO := Zh hso; clear hk hso hK hEM hs hr
 have hb0 : Below w.heap.size w (((w.alloc (.cells #[.int .i8 sort, .func (.func f) #[] #[]] 104)).alloc (.cells #[.pointer p] 29)).alloc (.cells #[.int .i8 r] 26)) := (((Zl _ w).alloc (Zr _) _).alloc (by simp) _).alloc (by simp; omega) _
 have hz : (((w.alloc (.cells #[.int .i8 sort, .func (.func f) #[] #[]] 104)).alloc (.cells #[.pointer p] 29)).alloc (.cells #[.int .i8 r] 26)).heap.size = w.heap.size + 3 := by simp
 have hc : (((w.alloc (.cells #[.int .i8 sort, .func (.func f) #[] #[]] 104)).alloc (.cells #[.pointer p] 29)).alloc (.cells #[.int .i8 r] 26)).cell? ⟨w.heap.size + 1, 0, none⟩ = some (.pointer p) ∧ (((w.alloc (.cells #[.int .i8 sort, .func (.func f) #[] #[]] 104)).alloc (.cells #[.pointer p] 29)).alloc (.cells #[.int .i8 r] 26)).cell? ⟨w.heap.size + 1 + 1, 0, none⟩ = some (.int .i8 r) ∧ (((w.alloc (.cells #[.int .i8 sort, .func (.func f) #[] #[]] 104)).alloc (.cells #[.pointer p] 29)).alloc (.cells #[.int .i8 r] 26)).cell? ⟨w.heap.size, 0, none⟩ = some (.int .i8 sort) ∧ (((w.alloc (.cells #[.int .i8 sort, .func (.func f) #[] #[]] 104)).alloc (.cells #[.pointer p] 29)).alloc (.cells #[.int .i8 r] 26)).cell? ⟨w.heap.size, 1, none⟩ = some (.func (.func f) #[] #[]) := by
  have h1 := World.cell?_alloc_new (w.alloc (.cells #[.int .i8 sort, .func (.func f) #[] #[]] 104)) #[.pointer p] 29 0
  have h2 := World.cell?_alloc_new ((w.alloc (.cells #[.int .i8 sort, .func (.func f) #[] #[]] 104)).alloc (.cells #[.pointer p] 29)) #[.int .i8 r] 26 0
  rw [show (w.alloc (.cells #[.int .i8 sort, .func (.func f) #[] #[]] 104)).heap.size = w.heap.size + 1 by simp] at h1
  rw [show ((w.alloc (.cells #[.int .i8 sort, .func (.func f) #[] #[]] 104)).alloc (.cells #[.pointer p] 29)).heap.size = w.heap.size + 1 + 1 by simp] at h2
  refine ⟨?_, h2, ?_, ?_⟩
  ·rw [World.cell?_alloc_lt _ _ _ (by simp)]; exact h1
  ·rw [World.cell?_alloc_lt _ _ _ (by simp; omega), World.cell?_alloc_lt _ _ _ (by simp), World.cell?_alloc_new]; rfl
  ·rw [World.cell?_alloc_lt _ _ _ (by simp; omega), World.cell?_alloc_lt _ _ _ (by simp), World.cell?_alloc_new]; rfl
 have H0 := Zh (Zi hb0 (Zi hc hz)); clear hb0 hc hz
 go_enter Tryz.func57, Tryz.ntmps57
 go_upto_region 2 with (first | (go_at_call 11; refine (HK.out _ H0.out.1).mono ?_; rintro e w1 ⟨rfl, hb1⟩; have H1 := Zh (bnext H0.out.1 hb1); have hcc := H0.out.2.1; have k2 := (hb1.cell (Zb _ _ hcc.2.1)).trans hcc.2.1; have k3 := (hb1.cell (Zb _ _ hcc.2.2.1)).trans hcc.2.2.1; have HO := Zh (Zi ((hb1.cell (Zb _ _ hcc.1)).trans hcc.1) (Zi k2 (Zi k3 ((hb1.cell (Zb _ _ hcc.2.2.2)).trans hcc.2.2.2)))); clear hb1 hcc) | fail)
 have hoa : OfAt (w1.alloc (.cells #[.string ⟨kl.toArray⟩] 9)) (w.heap.size + 1) (w.heap.size + 1 + 1) w.heap.size w1.heap.size p r sort f kl := by
  have hk := (Zl w1.heap.size w1).alloc (Zr _) (.cells #[.string ⟨kl.toArray⟩] 9)
  exact ⟨(hk.cell (Zb _ _ HO.out.1)).trans HO.out.1, (hk.cell (Zb _ _ HO.out.2.1)).trans HO.out.2.1, (hk.cell (Zb _ _ HO.out.2.2.1)).trans HO.out.2.2.1, (hk.cell (Zb _ _ HO.out.2.2.2)).trans HO.out.2.2.2, by rw [World.cell?_alloc_new]; rfl⟩
 have hb2 : Below w.heap.size w (w1.alloc (.cells #[.string ⟨kl.toArray⟩] 9)) := H1.out.alloc H1.out.size _
 clear k2 k3
 generalize w1.alloc (.cells #[.string ⟨kl.toArray⟩] 9) = w2 at hoa hb2 ⊢
 have k2 := hoa.r
 have k3 := hoa.sort
 have H2 := Zh (Zi hoa hb2); clear hoa hb2
 cases kb with
 | false =>
  go_quiet (fail)
  go_wp2_with fail
  go_ret
  exact ⟨bdrewN H2.out.2 _, .inl ⟨.inl rfl, rfl⟩⟩
 | true =>
  by_cases hso : so = sort
  ·subst hso
   go_quiet ((go_at_call 51; exact Calls.quiet_of_same (HSO.out _ (bdrewN H2.out.2 _))))
   go_wp2_with fail
   go_ret
   exact ⟨bdrewN H2.out.2 _, .inr ⟨⟨rfl, HS.out⟩, _, _, _, _, rfl, H2.out.1.keep (bdrewN (Zl _ _) _)⟩⟩
  ·have hbs : (so != sort) = true := by simpa using hso
   have HNE := Zh hso; clear hso
   go_quiet ((go_at_call 51; exact Calls.quiet_of_same (HSO.out _ (bdrewN H2.out.2 _))))
   go_wp2_with fail
   go_ret
   exact ⟨bdrewN H2.out.2 _, .inl ⟨.inr (by rw [HS.out]; exact HNE.out), rfl⟩⟩
set_option maxRecDepth 20000 in
set_option maxHeartbeats 1000000 in
theorem of2_anyE (c1 c2 c3 c4 : Nat) (p : Option Addr) (r sort : Int) (K : Str → Str × Bool) (key : Str) (v : ByteArray) (w : World) (h : OfAt w c1 c2 c3 c4 p r sort 56 key) (hK : KeyAt w p r K) :
  Calls Tryz.prog 102 #[.string v, .pointer (some ⟨c1, 0, none⟩), .pointer (some ⟨c2, 0, none⟩), .pointer (some ⟨c3, 0, none⟩), .pointer (some ⟨c4, 0, none⟩)] w
   fun e w' => e = .returned (.int .i8 (truthV ((K (toL v)).2 && saysE (K (toL v)).1 key))) ∧ Below w.heap.size w w' := by
 have e1 := h.s
 have e2 := h.r
 have hk := fun w' (hb : Below w.heap.size w w') => hK w' v hb
 generalize K (toL v) = k at hk ⊢
 obtain ⟨kl, kb⟩ := k
 unfold ret2 at hk
 have hsy := fun w' => saysE_any ⟨kl.toArray⟩ ⟨key.toArray⟩ w'
 change ∀ w', Calls Tryz.prog 56 #[.string ⟨kl.toArray⟩, .string ⟨key.toArray⟩] w' fun e w'' => e = .returned (.bool (saysE kl key)) ∧ w' = w'' at hsy
 have HK := Zh hk; have HS := Zh hsy; have H := Zh h; clear hk hsy hK h
 cases kb with
 | false =>
  go_enter Tryz.func102, Tryz.ntmps102
  go_wp2_with (first
   | (go_at_call 11; with_reducible refine (HK.out _ (Zl _ _)).mono ?_; rintro e w1 ⟨rfl, hb1⟩; have HB1 := Zh hb1; clear hb1)
   | (go_at_call 62; with_reducible refine (truth_any _ _).mono ?_; rintro e w2 ⟨rfl, rfl⟩)
   | fail)
  go_ret
  exact ⟨rfl, HB1.out⟩
 | true =>
  generalize hsv : saysE kl key = sb at HS
  go_enter Tryz.func102, Tryz.ntmps102
  go_wp2_with (first
   | (go_at_call 11; with_reducible refine (HK.out _ (Zl _ _)).mono ?_; rintro e w1 ⟨rfl, hb1⟩; have HB1 := Zh hb1; have e3 := (H.out.keep hb1).says; have e4 := (H.out.keep hb1).key; clear hb1)
   | (go_at_call 62; with_reducible refine (truth_any _ _).mono ?_; rintro e w2 ⟨rfl, rfl⟩)
   | (go_at_call 56; with_reducible refine (HS.out _).mono ?_; rintro e w3 ⟨rfl, rfl⟩)
   | fail)
  go_ret
  exact ⟨by rw [← hsv]; rfl, HB1.out⟩
set_option maxRecDepth 20000 in
set_option maxHeartbeats 1000000 in
theorem ask_anyE (p : Option Addr) (r : Int) (K : Str → Str × Bool) (value asked : ByteArray) (w : World) (hEM : EnvM w) (hr : -128 ≤ r ∧ r ≤ 127) (hK : KeyAt w p r K) :
  Calls Tryz.prog 16 #[.pointer p, .int .i8 r, .string value, .string asked] w fun e w' => e = .returned (.int .i8 (askV 1 saysE K r (toL value) (toL asked))) ∧ Below w.heap.size w w' := by
 have hof := tof_any p r 1 56 K asked w hEM hr hK
 have HOF := Zh hof; have HK := Zh hK; clear hof hK hEM hr
 go_enter Tryz.func16, Tryz.ntmps16
 go_wp2_with fail
 refine (HOF.out).mono ?_
 rintro e w1 ⟨hb1, (⟨hc, rfl⟩ | ⟨hc, c1, c2, c3, c4, rfl, ho⟩)⟩
 ·have hv : askV 1 saysE K r (toL value) (toL asked) = 2 := if_pos hc
  have HV := Zh hv; have HB1 := Zh hb1; clear hv hb1 hc
  go_wp2_with (first | (go_at_call 101; with_reducible refine (of1_any _ _).mono ?_; rintro e w2 ⟨rfl, rfl⟩) | fail)
  go_ret
  exact ⟨by rw [HV.out]; rfl, HB1.out⟩
 ·have hv : askV 1 saysE K r (toL value) (toL asked) = truthV ((K (toL value)).2 && saysE (K (toL value)).1 (K (toL asked)).1) := if_neg (by rintro (h | h); rw [hc.1] at h; cases h; exact h hc.2)
  have h2 := of2_anyE c1 c2 c3 c4 p r 1 K (K (toL asked)).1 value w1 ho (HK.out.next hb1)
  rw [← hv] at h2
  generalize hav : askV 1 saysE K r (toL value) (toL asked) = av at h2
  have HAV := Zh hav; clear hav
  have H2 := Zh h2; have HB1 := Zh hb1; clear hv hb1 hc h2 ho
  go_wp2_with (first | (go_at_call 102; with_reducible refine (H2.out).mono ?_; rintro e w2 ⟨rfl, hb2⟩; have HB2 := Zh (bnext HB1.out hb2); clear hb2) | fail)
  go_ret
  exact ⟨by rw [HAV.out]; rfl, HB2.out⟩
set_option maxRecDepth 20000 in
set_option maxHeartbeats 1000000 in
theorem of2_anyF (c1 c2 c3 c4 : Nat) (p : Option Addr) (r sort : Int) (K : Str → Str × Bool) (key : Str) (v : ByteArray) (w : World) (h : OfAt w c1 c2 c3 c4 p r sort 58 key) (hK : KeyAt w p r K) :
  Calls Tryz.prog 102 #[.string v, .pointer (some ⟨c1, 0, none⟩), .pointer (some ⟨c2, 0, none⟩), .pointer (some ⟨c3, 0, none⟩), .pointer (some ⟨c4, 0, none⟩)] w
   fun e w' => e = .returned (.int .i8 (truthV ((K (toL v)).2 && saysF (K (toL v)).1 key))) ∧ Below w.heap.size w w' := by
 have e1 := h.s
 have e2 := h.r
 have hk := fun w' (hb : Below w.heap.size w w') => hK w' v hb
 generalize K (toL v) = k at hk ⊢
 obtain ⟨kl, kb⟩ := k
 unfold ret2 at hk
 have hsy := fun w' => saysF_any ⟨kl.toArray⟩ ⟨key.toArray⟩ w'
 change ∀ w', Calls Tryz.prog 58 #[.string ⟨kl.toArray⟩, .string ⟨key.toArray⟩] w' fun e w'' => e = .returned (.bool (saysF kl key)) ∧ w' = w'' at hsy
 have HK := Zh hk; have HS := Zh hsy; have H := Zh h; clear hk hsy hK h
 cases kb with
 | false =>
  go_enter Tryz.func102, Tryz.ntmps102
  go_wp2_with (first
   | (go_at_call 11; with_reducible refine (HK.out _ (Zl _ _)).mono ?_; rintro e w1 ⟨rfl, hb1⟩; have HB1 := Zh hb1; clear hb1)
   | (go_at_call 62; with_reducible refine (truth_any _ _).mono ?_; rintro e w2 ⟨rfl, rfl⟩)
   | fail)
  go_ret
  exact ⟨rfl, HB1.out⟩
 | true =>
  generalize hsv : saysF kl key = sb at HS
  go_enter Tryz.func102, Tryz.ntmps102
  go_wp2_with (first
   | (go_at_call 11; with_reducible refine (HK.out _ (Zl _ _)).mono ?_; rintro e w1 ⟨rfl, hb1⟩; have HB1 := Zh hb1; have e3 := (H.out.keep hb1).says; have e4 := (H.out.keep hb1).key; clear hb1)
   | (go_at_call 62; with_reducible refine (truth_any _ _).mono ?_; rintro e w2 ⟨rfl, rfl⟩)
   | (go_at_call 58; with_reducible refine (HS.out _).mono ?_; rintro e w3 ⟨rfl, rfl⟩)
   | fail)
  go_ret
  exact ⟨by rw [← hsv]; rfl, HB1.out⟩
set_option maxRecDepth 20000 in
set_option maxHeartbeats 1000000 in
theorem ask_anyF (p : Option Addr) (r : Int) (K : Str → Str × Bool) (value asked : ByteArray) (w : World) (hEM : EnvM w) (hr : -128 ≤ r ∧ r ≤ 127) (hK : KeyAt w p r K) :
  Calls Tryz.prog 17 #[.pointer p, .int .i8 r, .string value, .string asked] w fun e w' => e = .returned (.int .i8 (askV 2 saysF K r (toL value) (toL asked))) ∧ Below w.heap.size w w' := by
 have hof := tof_any p r 2 58 K asked w hEM hr hK
 have HOF := Zh hof; have HK := Zh hK; clear hof hK hEM hr
 go_enter Tryz.func17, Tryz.ntmps17
 go_wp2_with fail
 refine (HOF.out).mono ?_
 rintro e w1 ⟨hb1, (⟨hc, rfl⟩ | ⟨hc, c1, c2, c3, c4, rfl, ho⟩)⟩
 ·have hv : askV 2 saysF K r (toL value) (toL asked) = 2 := if_pos hc
  have HV := Zh hv; have HB1 := Zh hb1; clear hv hb1 hc
  go_wp2_with (first | (go_at_call 101; with_reducible refine (of1_any _ _).mono ?_; rintro e w2 ⟨rfl, rfl⟩) | fail)
  go_ret
  exact ⟨by rw [HV.out]; rfl, HB1.out⟩
 ·have hv : askV 2 saysF K r (toL value) (toL asked) = truthV ((K (toL value)).2 && saysF (K (toL value)).1 (K (toL asked)).1) := if_neg (by rintro (h | h); rw [hc.1] at h; cases h; exact h hc.2)
  have h2 := of2_anyF c1 c2 c3 c4 p r 2 K (K (toL asked)).1 value w1 ho (HK.out.next hb1)
  rw [← hv] at h2
  generalize hav : askV 2 saysF K r (toL value) (toL asked) = av at h2
  have HAV := Zh hav; clear hav
  have H2 := Zh h2; have HB1 := Zh hb1; clear hv hb1 hc h2 ho
  go_wp2_with (first | (go_at_call 102; with_reducible refine (H2.out).mono ?_; rintro e w2 ⟨rfl, hb2⟩; have HB2 := Zh (bnext HB1.out hb2); clear hb2) | fail)
  go_ret
  exact ⟨by rw [HAV.out]; rfl, HB2.out⟩
set_option maxRecDepth 20000 in
set_option maxHeartbeats 1000000 in
theorem of2_anyU (c1 c2 c3 c4 : Nat) (p : Option Addr) (r sort : Int) (K : Str → Str × Bool) (key : Str) (v : ByteArray) (w : World) (h : OfAt w c1 c2 c3 c4 p r sort 59 key) (hK : KeyAt w p r K) :
  Calls Tryz.prog 102 #[.string v, .pointer (some ⟨c1, 0, none⟩), .pointer (some ⟨c2, 0, none⟩), .pointer (some ⟨c3, 0, none⟩), .pointer (some ⟨c4, 0, none⟩)] w
   fun e w' => e = .returned (.int .i8 (truthV ((K (toL v)).2 && saysU (K (toL v)).1 key))) ∧ Below w.heap.size w w' := by
 have e1 := h.s
 have e2 := h.r
 have hk := fun w' (hb : Below w.heap.size w w') => hK w' v hb
 generalize K (toL v) = k at hk ⊢
 obtain ⟨kl, kb⟩ := k
 unfold ret2 at hk
 have hsy := fun w' => saysU_any ⟨kl.toArray⟩ ⟨key.toArray⟩ w'
 change ∀ w', Calls Tryz.prog 59 #[.string ⟨kl.toArray⟩, .string ⟨key.toArray⟩] w' fun e w'' => e = .returned (.bool (saysU kl key)) ∧ w' = w'' at hsy
 have HK := Zh hk; have HS := Zh hsy; have H := Zh h; clear hk hsy hK h
 cases kb with
 | false =>
  go_enter Tryz.func102, Tryz.ntmps102
  go_wp2_with (first
   | (go_at_call 11; with_reducible refine (HK.out _ (Zl _ _)).mono ?_; rintro e w1 ⟨rfl, hb1⟩; have HB1 := Zh hb1; clear hb1)
   | (go_at_call 62; with_reducible refine (truth_any _ _).mono ?_; rintro e w2 ⟨rfl, rfl⟩)
   | fail)
  go_ret
  exact ⟨rfl, HB1.out⟩
 | true =>
  generalize hsv : saysU kl key = sb at HS
  go_enter Tryz.func102, Tryz.ntmps102
  go_wp2_with (first
   | (go_at_call 11; with_reducible refine (HK.out _ (Zl _ _)).mono ?_; rintro e w1 ⟨rfl, hb1⟩; have HB1 := Zh hb1; have e3 := (H.out.keep hb1).says; have e4 := (H.out.keep hb1).key; clear hb1)
   | (go_at_call 62; with_reducible refine (truth_any _ _).mono ?_; rintro e w2 ⟨rfl, rfl⟩)
   | (go_at_call 59; with_reducible refine (HS.out _).mono ?_; rintro e w3 ⟨rfl, rfl⟩)
   | fail)
  go_ret
  exact ⟨by rw [← hsv]; rfl, HB1.out⟩
set_option maxRecDepth 20000 in
set_option maxHeartbeats 1000000 in
theorem ask_anyU (p : Option Addr) (r : Int) (K : Str → Str × Bool) (value asked : ByteArray) (w : World) (hEM : EnvM w) (hr : -128 ≤ r ∧ r ≤ 127) (hK : KeyAt w p r K) :
  Calls Tryz.prog 18 #[.pointer p, .int .i8 r, .string value, .string asked] w fun e w' => e = .returned (.int .i8 (askV 2 saysU K r (toL value) (toL asked))) ∧ Below w.heap.size w w' := by
 have hof := tof_any p r 2 59 K asked w hEM hr hK
 have HOF := Zh hof; have HK := Zh hK; clear hof hK hEM hr
 go_enter Tryz.func18, Tryz.ntmps18
 go_wp2_with fail
 refine (HOF.out).mono ?_
 rintro e w1 ⟨hb1, (⟨hc, rfl⟩ | ⟨hc, c1, c2, c3, c4, rfl, ho⟩)⟩
 ·have hv : askV 2 saysU K r (toL value) (toL asked) = 2 := if_pos hc
  have HV := Zh hv; have HB1 := Zh hb1; clear hv hb1 hc
  go_wp2_with (first | (go_at_call 101; with_reducible refine (of1_any _ _).mono ?_; rintro e w2 ⟨rfl, rfl⟩) | fail)
  go_ret
  exact ⟨by rw [HV.out]; rfl, HB1.out⟩
 ·have hv : askV 2 saysU K r (toL value) (toL asked) = truthV ((K (toL value)).2 && saysU (K (toL value)).1 (K (toL asked)).1) := if_neg (by rintro (h | h); rw [hc.1] at h; cases h; exact h hc.2)
  have h2 := of2_anyU c1 c2 c3 c4 p r 2 K (K (toL asked)).1 value w1 ho (HK.out.next hb1)
  rw [← hv] at h2
  generalize hav : askV 2 saysU K r (toL value) (toL asked) = av at h2
  have HAV := Zh hav; clear hav
  have H2 := Zh h2; have HB1 := Zh hb1; clear hv hb1 hc h2 ho
  go_wp2_with (first | (go_at_call 102; with_reducible refine (H2.out).mono ?_; rintro e w2 ⟨rfl, hb2⟩; have HB2 := Zh (bnext HB1.out hb2); clear hb2) | fail)
  go_ret
  exact ⟨by rw [HAV.out]; rfl, HB2.out⟩
end Go.Proofs.YtlmfbjhokkpjhaaGreatDoor
namespace Go.Proofs.YtlmfbjhokkpjhaaGreatDoor
open Go Go.RowKit Go.Maps
def intV (n : Nat) : Value := .int .i64 (n : Int)
theorem intV_get {l : List Nat} {i : Nat} (h : i < l.length) : (l.map intV)[i]? = some (.int .i64 (l[i] : Int)) := by simp [h, intV]
theorem eiInt : EI Tryz.prog 91 3 (.int .i64 0) 1 8 := EI.of Tryz.underlying91 (by kernel_rfl) rfl (by decide) (by decide)
structure Mk (w : World) (g : Nat) (S : PSchema) : Prop where
 lt : g < w.heap.size
 types : ∃ a n c, w.cell? ⟨g, 0, none⟩ = some (.slice a n c) ∧ Types g w a n c S.types
 classes : ∃ a n c, w.cell? ⟨g, 1, none⟩ = some (.slice a n c) ∧ Classes g w a n c S.classes
 tm : ∃ m N, w.cell? ⟨g, 2, none⟩ = some (.map (some m)) ∧ m < g ∧ MapIs w m N (placeOf (tK S))
 cm : ∃ m N, w.cell? ⟨g, 3, none⟩ = some (.map (some m)) ∧ m < g ∧ MapIs w m N (placeOf (cK S))
theorem Mk.keep4 {w w' : World} {g : Nat} {S : PSchema} (h : Mk w g S) (k : Below g w w') (hs : w.heap.size ≤ w'.heap.size) (hc : ∀ j, j < 4 → w'.cell? ⟨g, j, none⟩ = w.cell? ⟨g, j, none⟩) : Mk w' g S where
 lt := Nat.lt_of_lt_of_le h.lt hs
 types := by obtain ⟨a, n, c, h1, h2⟩ := h.types; exact ⟨a, n, c, by rw [hc 0 (by omega)]; exact h1, h2.keep k (Zr _)⟩
 classes := by obtain ⟨a, n, c, h1, h2⟩ := h.classes; exact ⟨a, n, c, by rw [hc 1 (by omega)]; exact h1, h2.keep k (Zr _)⟩
 tm := by obtain ⟨m, N, h1, h2, h3⟩ := h.tm; exact ⟨m, N, by rw [hc 2 (by omega)]; exact h1, h2, h3.keep k h2⟩
 cm := by obtain ⟨m, N, h1, h2, h3⟩ := h.cm; exact ⟨m, N, by rw [hc 3 (by omega)]; exact h1, h2, h3.keep k h2⟩
theorem Mk.keep {w w' : World} {g : Nat} {S : PSchema} (h : Mk w g S) (k : Below w.heap.size w w') : Mk w' g S :=
 h.keep4 (k.mono (Nat.le_of_lt h.lt)) k.size fun j _ => k.cell (by exact h.lt)
theorem contains_vec {w0 wr : World} {go : Option Nat} {n cap : Nat} {acc : List Nat} (h : Vec 3 1 w0 wr go n cap (acc.map intV)) (hn : n = acc.length) (hb : n ≤ 1000000) (t : Nat) :
  Calls Tryz.prog 94 #[sv go n cap, .int .i64 (t : Int)] wr fun e w' => e = .returned (.bool (acc.contains t)) ∧ wr = w' := by
 subst hn
 cases go with
 | none =>
  have := h.own.2.1
  have : acc = [] := List.eq_nil_of_length_eq_zero this
  subst this
  exact (Tryz.slices_Contains_int_empty none cap (t : Int) wr).mono fun e w' ⟨he, hw⟩ => ⟨he, hw.symm⟩
 | some g =>
  refine (Tryz.slices_Contains_int g 0 acc.length cap (acc.map (Int.ofNat)) (t : Int) wr (by simp) (by omega) (fun j hj => ?_)).mono fun e w' ⟨he, hw⟩ => ⟨?_, hw.symm⟩
  ·have hj' : j < acc.length := by simpa using hj
   rw [Nat.zero_add, h.cell (intV_get hj')]
   simp [List.getD, hj']
  ·rw [he, List.take_of_length_le (by simp)]
   congr 2
   rw [Bool.eq_iff_iff]
   simp only [List.contains_iff_mem, List.mem_map]
   exact ⟨fun ⟨a, ha, e⟩ => (Int.ofNat.inj e) ▸ ha, fun h => ⟨t, h, rfl⟩⟩
end Go.Proofs.YtlmfbjhokkpjhaaGreatDoor
