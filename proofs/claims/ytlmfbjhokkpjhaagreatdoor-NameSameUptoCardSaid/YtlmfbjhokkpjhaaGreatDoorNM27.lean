/- Part 27 of the walks and plain laws, joined: Find, SchTC, MatFull, MapG, NamM, AbvC, NamO. -/
import Derived.Test.YtlmfbjhokkpjhaaGreatDoorNM00
import Derived.Test.YtlmfbjhokkpjhaaGreatDoorNM10
import Derived.Test.YtlmfbjhokkpjhaaGreatDoorNM09
import Derived.Test.YtlmfbjhokkpjhaaGreatDoorNM12
import Derived.Test.YtlmfbjhokkpjhaaGreatDoorNM17
import Derived.Test.YtlmfbjhokkpjhaaGreatDoorNM23
import Derived.Test.YtlmfbjhokkpjhaaGreatDoorNM05
import Derived.Test.YtlmfbjhokkpjhaaGreatDoorNM07
import Derived.Test.YtlmfbjhokkpjhaaGreatDoorNM13
import Derived.Carry
import Derived.Laws.ResultCell
import Derived.Deep.DeepCutAuto
import Derived.BigRegion
import Derived.Laws.Rows
set_option linter.unusedVariables false
set_option linter.unusedSimpArgs false
namespace Go.Proofs.YtlmfbjhokkpjhaaGreatDoor
open Go Go.RowKit Go.Maps
def placeI : Option Nat → Int
 | some k => k
 | none => -1
set_option maxRecDepth 20000 in
theorem find_any (m N : Nat) (f : Str → Option Nat) (s : ByteArray) (w : World) (hm : MapIs w m N f) (hs : s.size ≤ 140737488355328) :
  Calls Tryz.prog 82 #[.map (some m), .string s] w fun e w' => e = .returned (.int .i64 (placeI (if toL s = [] then none else f (low (toL s))))) ∧ Below w.heap.size w w' := by
 have hls : (ByteArray.mk (low (toL s)).toArray).size ≤ maxLen := by rw [low_size]; unfold maxLen; omega
 obtain ⟨pp, hpp⟩ : ∃ pp, f (low (toL s)) = pp := ⟨_, rfl⟩
 have hlk : ∀ w2, Below w.heap.size w w2 → (Instr.lookup 80 (.map (some m)) (.string ⟨(low (toL s)).toArray⟩) true).run Tryz.prog w2 = .ok (.tuple #[.int .i64 (pp.getD 0 : Nat), .bool pp.isSome]) w2 := fun w2 hb => by
  rw [← hpp]; exact (hm.keep hb hm.lt).look_ok hls
 have hsm := fun w => small_any s w hs
 rw [hpp]
 have HLK := Zh hlk; have HSM := Zh hsm; clear hlk hsm hm hls hpp hs
 cases pp with
 | none =>
  have hr : (if toL s = [] then none else (none : Option Nat)) = none := by simp
  rw [hr]
  have hlk2 := fun w2 hb => HLK.out w2 hb
  simp only [Option.getD_none, Option.isSome_none] at hlk2
  have HLK2 := Zh hlk2; clear hlk2 HLK hr
  go_enter Tryz.func82, Tryz.ntmps82
  go_wp2_with (first | (go_at_call 89; with_reducible refine (HSM.out _).mono ?_; rintro e w1 ⟨rfl, hb1⟩; have hk := HLK2.out w1 hb1; have HB1 := Zh hb1; clear hb1) | fail)
  go_ret
  exact ⟨rfl, HB1.out⟩
 | some u =>
  have hlk2 := fun w2 hb => HLK.out w2 hb
  simp only [Option.getD_some, Option.isSome_some] at hlk2
  have HLK2 := Zh hlk2; clear hlk2 HLK
  by_cases hsu : toL s = []
  ·rw [if_pos hsu]
   obtain rfl := empty_of s hsu
   clear hsu
   go_enter Tryz.func82, Tryz.ntmps82
   go_wp2_with (first | (go_at_call 89; with_reducible refine (HSM.out _).mono ?_; rintro e w1 ⟨rfl, hb1⟩; have hk := HLK2.out w1 hb1; have HB1 := Zh hb1; clear hb1) | fail)
   go_ret
   exact ⟨rfl, HB1.out⟩
  ·rw [if_neg hsu]
   obtain ⟨z1, z2, z3⟩ := nonempty_of s hsu
   clear hsu
   go_enter Tryz.func82, Tryz.ntmps82
   go_wp2_with (first | (go_at_call 89; with_reducible refine (HSM.out _).mono ?_; rintro e w1 ⟨rfl, hb1⟩; have hk := HLK2.out w1 hb1; have HB1 := Zh hb1; clear hb1) | fail)
   go_ret
   exact ⟨rfl, HB1.out⟩
set_option maxRecDepth 20000 in
theorem type_any (S : PSchema) (g : Nat) (s : ByteArray) (w : World) (h : Sch w g S) (hs : s.size ≤ 140737488355328) :
  Calls Tryz.prog 35 #[.pointer (some ⟨g, 0, none⟩), .string s] w fun e w' => e = .returned (.int .i64 (placeI (typeAt S (toL s)))) ∧ Below w.heap.size w w' := by
 obtain ⟨m, N, e2, _, hm⟩ := h.base.tm
 have hf := find_any m N (placeOf (tK S)) s w hm hs
 change Calls Tryz.prog 82 _ _ fun e w' => e = .returned (.int .i64 (placeI (typeAt S (toL s)))) ∧ _ at hf
 generalize placeI (typeAt S (toL s)) = p at hf ⊢
 have HF := Zh hf; clear hf hm h hs
 go_enter Tryz.func35, Tryz.ntmps35
 go_wp2_with (first | (go_at_call 82; refine (HF.out).mono ?_; rintro e w1 ⟨rfl, hb1⟩; have HB1 := Zh hb1; clear hb1) | fail)
 go_ret
 exact ⟨rfl, HB1.out⟩
set_option maxRecDepth 20000 in
theorem class_any (S : PSchema) (g : Nat) (s : ByteArray) (w : World) (h : Sch w g S) (hs : s.size ≤ 140737488355328) :
  Calls Tryz.prog 53 #[.pointer (some ⟨g, 0, none⟩), .string s] w fun e w' => e = .returned (.int .i64 (placeI (classAt S (toL s)))) ∧ Below w.heap.size w w' := by
 obtain ⟨m, N, e2, _, hm⟩ := h.base.cm
 have hf := find_any m N (placeOf (cK S)) s w hm hs
 change Calls Tryz.prog 82 _ _ fun e w' => e = .returned (.int .i64 (placeI (classAt S (toL s)))) ∧ _ at hf
 generalize placeI (classAt S (toL s)) = p at hf ⊢
 have HF := Zh hf; clear hf hm h hs
 go_enter Tryz.func53, Tryz.ntmps53
 go_wp2_with (first | (go_at_call 82; refine (HF.out).mono ?_; rintro e w1 ⟨rfl, hb1⟩; have HB1 := Zh hb1; clear hb1) | fail)
 go_ret
 exact ⟨rfl, HB1.out⟩
theorem Texts.nil (B : Nat) (w : World) : Texts B w none 0 0 [] := ⟨rfl, ⟨Zr _, Nat.zero_le _, fun _ => rfl, (fun ad h => by cases h), (fun ad h => by cases h)⟩, Nat.zero_le _, (fun b o h => by cases h), (fun s h => by cases h)⟩
theorem Texts.setO {B : Nat} {w : World} {a : Option Addr} {n c : Nat} {l : List ByteArray} (h : Texts B w a n c l) {p : Addr} (hp : ∀ ad, a = some ad → ad.block ≠ p.block) (v : Value) : Texts B (w.setCell p v) a n c l :=
 ⟨h.len, h.lies, h.small, fun b o e i s hs => by rw [World.cell?_setCell_other _ _ _ _ (fun e2 => hp _ e (by rw [e2]))]; exact h.cell b o e i s hs, h.size⟩
def typeI (S : PSchema) (t : Int) : PType := if 0 ≤ t ∧ t < S.types.length then fullT S t.toNat else zeroT
def FullPost (x : PType) (w : World) (e : Ending) (w' : World) : Prop :=
 Below w.heap.size w w' ∧ ∃ a n c, e = .returned (.agg (tyAgg x (.slice a n c))) ∧ Texts w'.heap.size w' a n c x.names
set_option maxRecDepth 20000 in
set_option maxHeartbeats 1000000 in
theorem full_any (S : PSchema) (g : Nat) (t : Int) (w : World) (h : Sch w g S) : Calls Tryz.prog 22 #[.pointer (some ⟨g, 0, none⟩), .int .i64 t] w (FullPost (typeI S t) w) := by
 obtain ⟨go, cap, nv, e4, hown, hnv⟩ := h.full
 have hlen := h.small.1
 by_cases hneg : t < 0
 ·have hx : typeI S t = zeroT := by unfold typeI; rw [if_neg (by omega)]
  rw [hx]; clear hx h hown hnv e4
  go_enter Tryz.func22, Tryz.ntmps22
  go_wp2_with fail
  refine bodyPost_ret (v := .agg (tyAgg zeroT (.slice none 0 0))) (by simp [results, Tryz.results22, go_sem, tyAgg, zeroT, *]) rfl ?_
  exact ⟨(Zl _ w).alloc (Zr _) _, none, 0, 0, rfl, Texts.nil _ _⟩
 ·have hge : 0 ≤ t := by omega
  obtain ⟨u, rfl⟩ : ∃ u : Nat, t = (u : Int) := ⟨t.toNat, by omega⟩
  generalize hn : S.types.length = n at *
  by_cases hlt : u < n
  ·have hx : typeI S (u : Int) = fullT S u := by unfold typeI; rw [hn, if_pos (by omega)]; rfl
   rw [hx]; clear hx
   obtain ⟨gf, rfl⟩ : ∃ gf, go = some gf := by
    cases go with
    | none => have := hown.2.1; omega
    | some gf => exact ⟨gf, rfl⟩
   change w.cell? _ = some (.slice (some ⟨gf, 0, none⟩) n cap) at e4
   obtain ⟨na, nn, nc, hv, hte⟩ := hnv u hlt
   obtain ⟨x, hx⟩ : ∃ x, fullT S u = x := ⟨_, rfl⟩
   have hcell : ∀ j v, (tyAgg x (.slice na nn nc))[j]? = some v → w.cell? ⟨gf, u * 9 + j, none⟩ = some v := fun j v hj => by
    have hj9 : j < 9 := by have := (Array.getElem?_eq_some_iff.1 hj).1; simpa [tyAgg] using this
    have := fullCells_get S nv hlt hj9
    rw [hx, hv, hj] at this
    exact hown.row.cell this
   have h0 : w.cell? ⟨gf, u * 9 + 0, none⟩ = some (.string x.oid) := hcell 0 _ rfl
   have h1 : w.cell? ⟨gf, u * 9 + 1, none⟩ = some (.slice na nn nc) := hcell 1 _ rfl
   have h2 : w.cell? ⟨gf, u * 9 + 2, none⟩ = some (.string x.sup) := hcell 2 _ rfl
   have h3 : w.cell? ⟨gf, u * 9 + 3, none⟩ = some (.int .i8 x.syn) := hcell 3 _ rfl
   have h4 : w.cell? ⟨gf, u * 9 + 4, none⟩ = some (.int .i8 x.eq) := hcell 4 _ rfl
   have h5 : w.cell? ⟨gf, u * 9 + 5, none⟩ = some (.int .i8 x.ord) := hcell 5 _ rfl
   have h6 : w.cell? ⟨gf, u * 9 + 6, none⟩ = some (.int .i8 x.part) := hcell 6 _ rfl
   have h7 : w.cell? ⟨gf, u * 9 + 7, none⟩ = some (.bool x.single) := hcell 7 _ rfl
   have h8 : w.cell? ⟨gf, u * 9 + 8, none⟩ = some (.int .u8 x.index) := hcell 8 _ rfl
   rw [hx] at hte ⊢
   rw [Nat.add_zero] at h0
   have hui : (0 : Int) ≤ (u : Int) := by omega
   have hun : (u : Int) < (n : Int) := by omega
   have hgl := h.base.lt
   have hgfl := hown.row.lt
   have hcp := fun wq (hb : Below w.heap.size w wq) => copied_any g na nn nc x.names wq (hte.keep (hb.mono (Nat.le_of_lt h.base.lt)) (Zr _))
   have HCP := Zh hcp
   clear hcp hcell hx hv hte hnv hown hn hneg hge hlt h hlen
   go_enter Tryz.func22, Tryz.ntmps22
   go_upto_region 4 with fail
   clear h0 h1 h2 h3 h4 h5 h6 h7 h8 e4 hgl hgfl
   have hb2 : Below w.heap.size w ((w.alloc (.cells #[.string ⟨#[]⟩, .slice none 0 0, .string ⟨#[]⟩, .int .i8 0, .int .i8 0, .int .i8 0, .int .i8 0, .bool false, .int .u8 0] 46)).alloc (.cells #[.string x.oid, .slice na nn nc, .string x.sup, .int .i8 x.syn, .int .i8 x.eq, .int .i8 x.ord, .int .i8 x.part, .bool x.single, .int .u8 x.index] 46)) := ((Zl _ w).alloc (Zr _) _).alloc (by simp) _
   have hr0 : TyBlk (w.alloc (.cells #[.string ⟨#[]⟩, .slice none 0 0, .string ⟨#[]⟩, .int .i8 0, .int .i8 0, .int .i8 0, .int .i8 0, .bool false, .int .u8 0] 46)) w.heap.size zeroT (.slice none 0 0) := TyBlk.made w zeroT (.slice none 0 0) 46
   have hr2 := hr0.keep ((Zl _ (w.alloc (.cells #[.string ⟨#[]⟩, .slice none 0 0, .string ⟨#[]⟩, .int .i8 0, .int .i8 0, .int .i8 0, .int .i8 0, .bool false, .int .u8 0] 46))).alloc (Zr _) (.cells #[.string x.oid, .slice na nn nc, .string x.sup, .int .i8 x.syn, .int .i8 x.eq, .int .i8 x.ord, .int .i8 x.part, .bool x.single, .int .u8 x.index] 46))
   have hx2 : TyBlk ((w.alloc (.cells #[.string ⟨#[]⟩, .slice none 0 0, .string ⟨#[]⟩, .int .i8 0, .int .i8 0, .int .i8 0, .int .i8 0, .bool false, .int .u8 0] 46)).alloc (.cells #[.string x.oid, .slice na nn nc, .string x.sup, .int .i8 x.syn, .int .i8 x.eq, .int .i8 x.ord, .int .i8 x.part, .bool x.single, .int .u8 x.index] 46)) (w.alloc (.cells #[.string ⟨#[]⟩, .slice none 0 0, .string ⟨#[]⟩, .int .i8 0, .int .i8 0, .int .i8 0, .int .i8 0, .bool false, .int .u8 0] 46)).heap.size x (.slice na nn nc) := TyBlk.made (w.alloc (.cells #[.string ⟨#[]⟩, .slice none 0 0, .string ⟨#[]⟩, .int .i8 0, .int .i8 0, .int .i8 0, .int .i8 0, .bool false, .int .u8 0] 46)) x (.slice na nn nc) 46
   rw [show (w.alloc (.cells #[.string ⟨#[]⟩, .slice none 0 0, .string ⟨#[]⟩, .int .i8 0, .int .i8 0, .int .i8 0, .int .i8 0, .bool false, .int .u8 0] 46)).heap.size = w.heap.size + 1 by simp] at hx2
   generalize (w.alloc (.cells #[.string ⟨#[]⟩, .slice none 0 0, .string ⟨#[]⟩, .int .i8 0, .int .i8 0, .int .i8 0, .int .i8 0, .bool false, .int .u8 0] 46)).alloc (.cells #[.string x.oid, .slice na nn nc, .string x.sup, .int .i8 x.syn, .int .i8 x.eq, .int .i8 x.ord, .int .i8 x.part, .bool x.single, .int .u8 x.index] 46) = w2 at hb2 hr2 hx2 ⊢
   have hne : w.heap.size ≠ w.heap.size + 1 := by omega
   have hRl : w.heap.size ≤ w.heap.size := Zr _
   have hXl : w.heap.size ≤ w.heap.size + 1 := by omega
   clear hr0
   generalize hX : w.heap.size + 1 = X at hx2 hne hXl ⊢
   generalize hR : w.heap.size = R at hr2 hne hX ⊢
   have hRw : w.heap.size ≤ R := by omega
   have hXw : w.heap.size ≤ X := by omega
   have H2 := Zh (Zi hb2 (Zi hr2 (Zi hx2 (Zi hRw hXw)))); clear hb2 hr2 hx2 hRl hXl hX hR hRw hXw
   have k1 := H2.out.2.2.1.c1
   go_wp2_with (first | (go_at_call 63; refine (HCP.out _ H2.out.1).mono ?_; rintro e w3 ⟨v, rfl, hv⟩; obtain ⟨va, vn, vc, rfl, hvt, hvf, hvb⟩ := hv; have hx3 := H2.out.2.2.1.keep hvb; have hr3 := H2.out.2.1.keep hvb; have c0 : w3.cell? ⟨X, 0, none⟩ = some (.string x.oid) := hx3.c0; have c1 : w3.cell? ⟨X, 1, none⟩ = some (.slice na nn nc) := hx3.c1; have c2 : w3.cell? ⟨X, 2, none⟩ = some (.string x.sup) := hx3.c2; have c3 : w3.cell? ⟨X, 3, none⟩ = some (.int .i8 x.syn) := hx3.c3; have c4 : w3.cell? ⟨X, 4, none⟩ = some (.int .i8 x.eq) := hx3.c4; have c5 : w3.cell? ⟨X, 5, none⟩ = some (.int .i8 x.ord) := hx3.c5; have c6 : w3.cell? ⟨X, 6, none⟩ = some (.int .i8 x.part) := hx3.c6; have c7 : w3.cell? ⟨X, 7, none⟩ = some (.bool x.single) := hx3.c7; have c8 : w3.cell? ⟨X, 8, none⟩ = some (.int .u8 x.index) := hx3.c8; have d0 : w3.cell? ⟨R, 0, none⟩ = some (.string ⟨#[]⟩) := hr3.c0; have d1 : w3.cell? ⟨R, 1, none⟩ = some (.slice none 0 0) := hr3.c1; have d2 : w3.cell? ⟨R, 2, none⟩ = some (.string ⟨#[]⟩) := hr3.c2; have d3 : w3.cell? ⟨R, 3, none⟩ = some (.int .i8 0) := hr3.c3; have d4 : w3.cell? ⟨R, 4, none⟩ = some (.int .i8 0) := hr3.c4; have d5 : w3.cell? ⟨R, 5, none⟩ = some (.int .i8 0) := hr3.c5; have d6 : w3.cell? ⟨R, 6, none⟩ = some (.int .i8 0) := hr3.c6; have d7 : w3.cell? ⟨R, 7, none⟩ = some (.bool false) := hr3.c7; have d8 : w3.cell? ⟨R, 8, none⟩ = some (.int .u8 0) := hr3.c8; have hxf := hx3.fr; have hrf := hr3.fr; have hxl := H2.out.2.2.1.lt; have hrl := H2.out.2.1.lt; have H3 := Zh (Zi (bnext H2.out.1 hvb) (Zi hvt (Zi (fun ad e => (Nat.ne_of_gt (Nat.lt_of_lt_of_le hxl (hvf ad e)) : ad.block ≠ X)) (fun ad e => (Nat.ne_of_gt (Nat.lt_of_lt_of_le hrl (hvf ad e)) : ad.block ≠ R))))); clear hvb hvt hvf hx3 hr3 k1 hxl hrl) | fail)
   refine bodyPost_ret (v := .agg (tyAgg x (.slice va vn vc))) (by simp [results, Tryz.results22, go_sem, tyAgg, *]) rfl ?_
   have hRw := H2.out.2.2.2.1
   have hXw := H2.out.2.2.2.2
   have hX := H3.out.2.2.1
   have hRr := H3.out.2.2.2
   refine ⟨((((((((((H3.out.1.setCell hXw _).setCell hRw _).setCell hRw _).setCell hRw _).setCell hRw _).setCell hRw _).setCell hRw _).setCell hRw _).setCell hRw _).setCell hRw _), va, vn, vc, rfl, ?_⟩
   simp only [size_set]
   exact ((((((((((H3.out.2.1.setO hX _).setO hRr _).setO hRr _).setO hRr _).setO hRr _).setO hRr _).setO hRr _).setO hRr _).setO hRr _).setO hRr _)
  ·have hx : typeI S (u : Int) = zeroT := by unfold typeI; rw [hn, if_neg (by omega)]
   rw [hx]; clear hx
   have hnu : (n : Int) ≤ (u : Int) := by omega
   have hui : (0 : Int) ≤ (u : Int) := by omega
   have hgl := h.base.lt
   change w.cell? _ = some (.slice (go.map fun g => (⟨g, 0, none⟩ : Addr)) n cap) at e4
   generalize (go.map fun g => (⟨g, 0, none⟩ : Addr)) = ga at e4
   clear hnv hown hn hneg hge hlt h hlen
   go_enter Tryz.func22, Tryz.ntmps22
   go_wp2_with fail
   refine bodyPost_ret (v := .agg (tyAgg zeroT (.slice none 0 0))) (by simp [results, Tryz.results22, go_sem, tyAgg, zeroT, *]) rfl ?_
   exact ⟨(Zl _ w).alloc (Zr _) _, none, 0, 0, rfl, Texts.nil _ _⟩
end Go.Proofs.YtlmfbjhokkpjhaaGreatDoor
namespace Go.Proofs.YtlmfbjhokkpjhaaGreatDoor
open Go Go.RowKit
theorem upd_g {T K V : TypeId} {d : TypeDesc} (hT : Tryz.prog.underlying T = some (.map K V)) (hK : Tryz.prog.underlying K = some d) {w : World} {r : Nat} {es : List MapEntry} (hh : w.heap[r]? = some (.map es.toArray es.length)) (k v : Value) (hk : Go.MapKept.IsKey d k) (hn : Instr.findNow d k es 0 = some none) :
  (Instr.mapUpdate T (.map (some r)) k v).run Tryz.prog w = .ok () (setM w r (es ++ [⟨k, v, es.length⟩])) := by
 unfold Instr.mapUpdate
 simp only [Sem.run_bind, run_underlying hT, Result.andThen, Go.MapKept.run_getObj_map hh]
 rw [Go.MapKept.run_checkKey (P := Tryz.prog) (d := d) hK hk]
 simp only []
 rw [Go.MapKept.run_findKey (P := Tryz.prog) (d := d) (a := none) hK (by simpa using hn)]
 simp only []
 rw [Go.MapKept.run_setObj_map _ hh]
 simp [setM]
theorem look_g {T K V : TypeId} {d : TypeDesc} (hT : Tryz.prog.underlying T = some (.map K V)) (hK : Tryz.prog.underlying K = some d) {w : World} {r : Nat} {es : List MapEntry} (hh : w.heap[r]? = some (.map es.toArray es.length)) (k : Value) (hk : Go.MapKept.IsKey d k) (z : Value) (hz : (zeroValue V).run Tryz.prog w = .ok z w) {a : Option (Nat × Value)} (hn : Instr.findNow d k es 0 = some a) :
  (Instr.lookup T (.map (some r)) k true).run Tryz.prog w = .ok (match a with | some (_, v) => .tuple #[v, .bool true] | none => .tuple #[z, .bool false]) w ∧
  (Instr.lookup T (.map (some r)) k false).run Tryz.prog w = .ok (match a with | some (_, v) => v | none => z) w := by
 constructor
 all_goals
  unfold Instr.lookup
  simp only [Sem.run_bind, run_underlying hT, Result.andThen, Go.MapKept.run_getObj_map hh, Sem.run_pure]
  rw [Go.MapKept.run_checkKey (P := Tryz.prog) (d := d) hK hk]
  simp only []
  rw [Go.MapKept.run_findKey (P := Tryz.prog) (d := d) (a := a) hK (by simpa using hn)]
  cases a with
  | none => simp [hz, Result.andThen]
  | some p => simp
theorem setM_set (w : World) (r : Nat) (a b : List MapEntry) : setM (setM w r a) r b = setM w r b := by
 unfold setM; simp
def MapW (w : World) (es : List MapEntry) : World := setM (w.alloc (.map #[] 0)) w.heap.size es
theorem MapW.heap (w : World) (es : List MapEntry) : (MapW w es).heap[w.heap.size]? = some (.map es.toArray es.length) := setM_heap (by simp)
theorem MapW.below (w : World) (es : List MapEntry) : Below w.heap.size w (MapW w es) := setM_below ((Zl _ _).alloc (Zr _) _) (Zr _)
theorem MapW.size (w : World) (es : List MapEntry) : (MapW w es).heap.size = w.heap.size + 1 := by unfold MapW; rw [setM_size]; simp
theorem MapW.make (w : World) (T : TypeId) : (Instr.makeMap T none).run Tryz.prog w = .ok (.map (some w.heap.size)) (MapW w []) := by
 rw [run_makeMap]
 congr 1
 unfold MapW setM
 have h := heap_alloc_new w (.map #[] 0)
 have : (w.alloc (.map #[] 0)).heap.setIfInBounds w.heap.size (.map ([] : List MapEntry).toArray ([] : List MapEntry).length) = (w.alloc (.map #[] 0)).heap := by
  apply Array.ext
  ·simp
  ·intro i h1 h2
   by_cases hi : w.heap.size = i
   ·subst hi
    rw [Array.getElem_setIfInBounds_self]
    exact ((Array.getElem?_eq_some_iff.1 h).2).symm
   ·rw [Array.getElem_setIfInBounds_ne _ hi]
 rw [this]
theorem MapW.upd {T K V : TypeId} {d : TypeDesc} (hT : Tryz.prog.underlying T = some (.map K V)) (hK : Tryz.prog.underlying K = some d) (w : World) (es : List MapEntry) (k v : Value) (hk : Go.MapKept.IsKey d k) (hn : Instr.findNow d k es 0 = some none) :
  (Instr.mapUpdate T (.map (some w.heap.size)) k v).run Tryz.prog (MapW w es) = .ok () (MapW w (es ++ [⟨k, v, es.length⟩])) := by
 rw [upd_g hT hK (MapW.heap w es) k v hk hn]
 unfold MapW
 rw [setM_set]
structure Avas (B : Nat) (w : World) (a : Option Addr) (n c : Nat) (l : PRdn) : Prop where
 len : n = l.length
 lies : LiesW B a n c
 small : n ≤ 4294967280
 cell : ∀ b o, a = some ⟨b, o, none⟩ → ∀ i x, l[i]? = some x → w.cell? ⟨b, o + i * 2, none⟩ = some (.string x.1) ∧ w.cell? ⟨b, o + i * 2 + 1, none⟩ = some (.string x.2)
 size : ∀ x ∈ l, x.1.size ≤ 4294967280 ∧ x.2.size ≤ 4294967280
theorem Avas.keep {B B' : Nat} {w w' : World} {a : Option Addr} {n c : Nat} {l : PRdn} (h : Avas B w a n c l) (k : Below B w w') (hb : B ≤ B') : Avas B' w' a n c l :=
 ⟨h.len, h.lies.mono hb, h.small, fun b o e i x hx => by
  have hlt : b < B := h.lies.lt ⟨b, o, none⟩ e (by have h1 := h.len; have h2 := (List.getElem?_eq_some_iff.1 hx).1; omega)
  rw [k.cell (p := ⟨b, o + i * 2, none⟩) hlt, k.cell (p := ⟨b, o + i * 2 + 1, none⟩) hlt]
  exact h.cell b o e i x hx, h.size⟩
theorem Avas.nil (B : Nat) (w : World) : Avas B w none 0 0 [] := ⟨rfl, ⟨Zr _, Nat.zero_le _, fun _ => rfl, (fun ad h _ => by cases h), (fun ad h _ => by cases h)⟩, Nat.zero_le _, (fun b o h => by cases h), (fun s h => by cases h)⟩
structure Rdns (B : Nat) (w : World) (a : Option Addr) (n c : Nat) (l : PName) : Prop where
 len : n = l.length
 lies : LiesW B a n c
 small : n ≤ 4294967280
 cell : ∀ b o, a = some ⟨b, o, none⟩ → ∀ i r, l[i]? = some r → ∃ a' n' c', w.cell? ⟨b, o + i, none⟩ = some (.slice a' n' c') ∧ Avas B w a' n' c' r
theorem Rdns.keep {B B' : Nat} {w w' : World} {a : Option Addr} {n c : Nat} {l : PName} (h : Rdns B w a n c l) (k : Below B w w') (hb : B ≤ B') : Rdns B' w' a n c l :=
 ⟨h.len, h.lies.mono hb, h.small, fun b o e i r hr => by
  have hlt : b < B := h.lies.lt ⟨b, o, none⟩ e (by have h1 := h.len; have h2 := (List.getElem?_eq_some_iff.1 hr).1; omega)
  obtain ⟨a', n', c', h1, h2⟩ := h.cell b o e i r hr
  exact ⟨a', n', c', by rw [k.cell (p := ⟨b, o + i, none⟩) hlt]; exact h1, h2.keep k hb⟩⟩
theorem Rdns.nil (B : Nat) (w : World) : Rdns B w none 0 0 [] := ⟨rfl, ⟨Zr _, Nat.zero_le _, fun _ => rfl, (fun ad h _ => by cases h), (fun ad h _ => by cases h)⟩, Nat.zero_le _, (fun b o h => by cases h)⟩
theorem results_cell1 {fn : Func} {p : Tmp} {ty : TypeId} (h : fn.results = #[.cell p ty]) (tmps : Array Value) (P : Program) (w : World) :
  (results fn tmps).run P w = ((asAddr (tmps.getD p undef)).run P w).andThen fun a w₁ => ((loadVar ty a).run P w₁).andThen fun v w₂ => .ok v w₂ := by
 simp only [results, h]
 simp [Sem.run_bind, Result.andThen]
 cases (asAddr (tmps[p]?.getD undef)).run P w with
 | halt h w => rfl
 | ok a w => simp only []; cases (loadVar ty a).run P w <;> rfl
theorem eiAva : EI Tryz.prog 63 70 (.agg #[.string ByteArray.empty, .string ByteArray.empty]) 2 32 := EI.of Tryz.underlying63 (by kernel_rfl) rfl (by decide) (by decide)
theorem eiRdn : EI Tryz.prog 51 65 (.agg #[.slice none 0 0]) 1 24 := EI.of Tryz.underlying51 (by kernel_rfl) rfl (by decide) (by decide)
def avaV (l : PRdn) : List Value := l.flatMap fun x => [.string x.1, .string x.2]
theorem avaV_len (l : PRdn) : (avaV l).length = l.length * 2 := by
 induction l with
 | nil => rfl
 | cons x l ih => simp only [avaV, List.flatMap_cons, List.length_append, List.length_cons, List.length_nil] at ih ⊢; omega
theorem avaV_app (l m : PRdn) : avaV (l ++ m) = avaV l ++ avaV m := by unfold avaV; rw [List.flatMap_append]
theorem avaV_one (x : ByteArray × ByteArray) : avaV [x] = [.string x.1, .string x.2] := rfl
theorem avaV_at : ∀ (l : PRdn) (i : Nat) (x : ByteArray × ByteArray), l[i]? = some x → (avaV l)[i * 2]? = some (.string x.1) ∧ (avaV l)[i * 2 + 1]? = some (.string x.2)
 | [], _, _, h => by cases h
 | y :: l, 0, x, h => by cases h; exact ⟨rfl, rfl⟩
 | y :: l, i + 1, x, h => by
  have := avaV_at l i x h
  have e : avaV (y :: l) = Value.string y.1 :: Value.string y.2 :: avaV l := rfl
  rw [e, show (i + 1) * 2 = i * 2 + 1 + 1 by omega]
  exact this
theorem avaV_get : ∀ (l : PRdn) (j : Nat) (u : Value), (avaV l)[j]? = some u → ∃ i x, l[i]? = some x ∧ ((j = i * 2 ∧ u = .string x.1) ∨ (j = i * 2 + 1 ∧ u = .string x.2))
 | [], _, _, h => by cases h
 | y :: l, 0, u, h => by cases h; exact ⟨0, y, rfl, .inl ⟨rfl, rfl⟩⟩
 | y :: l, 1, u, h => by cases h; exact ⟨0, y, rfl, .inr ⟨rfl, rfl⟩⟩
 | y :: l, j + 2, u, h => by
  obtain ⟨i, x, h1, h2⟩ := avaV_get l j u h
  refine ⟨i + 1, x, h1, ?_⟩
  rcases h2 with ⟨rfl, rfl⟩ | ⟨rfl, rfl⟩
  ·exact .inl ⟨by omega, rfl⟩
  ·exact .inr ⟨by omega, rfl⟩
theorem avaV_cell' : ∀ (l : PRdn), ∀ u ∈ avaV l, u.oneCell' = true := fun l u hu => by
 obtain ⟨x, _, hx⟩ := List.mem_flatMap.1 hu
 simp at hx
 rcases hx with rfl | rfl <;> rfl
theorem Avas.src {B : Nat} {w : World} {a : Option Addr} {n c : Nat} {l : PRdn} (h : Avas B w a n c l) : ∀ ad, a = some ad → ∀ j u, (avaV l)[j]? = some u → w.cell? (ad.add j) = some u := by
 intro ad e j u hu
 obtain ⟨i, x, hx, hj⟩ := avaV_get l j u hu
 have hn := h.len
 have hil := (List.getElem?_eq_some_iff.1 hx).1
 have hs := h.lies.spot ad e (by omega)
 obtain ⟨b, o, sp⟩ := ad
 simp only at hs
 subst hs
 obtain ⟨h1, h2⟩ := h.cell b o e i x hx
 rcases hj with ⟨rfl, rfl⟩ | ⟨rfl, rfl⟩
 ·rw [show (⟨b, o, none⟩ : Addr).add (i * 2) = ⟨b, o + i * 2, none⟩ by simp [Addr.add]]; exact h1
 ·rw [show (⟨b, o, none⟩ : Addr).add (i * 2 + 1) = ⟨b, o + i * 2 + 1, none⟩ by simp [Addr.add, Nat.add_assoc]]; exact h2
theorem Vec.lies {e sz : Nat} {w0 w : World} {go : Option Nat} {n cap : Nat} {vs : List Value} (h : Vec e sz w0 w go n cap vs) (hs : 0 < sz) : LiesW w.heap.size (go.map fun g => (⟨g, 0, none⟩ : Addr)) n cap := by
 cases go with
 | none =>
  obtain ⟨_, rfl, rfl⟩ := h.own
  exact ⟨Zr _, Nat.zero_le _, fun _ => rfl, (fun ad h _ => by cases h), (fun ad h _ => by cases h)⟩
 | some g =>
  obtain ⟨_, _, _, hml⟩ := h.own.row
  refine ⟨h.own.le, hml, (fun e => by cases e), fun ad e _ => ?_, fun ad e _ => ?_⟩
  ·cases e; exact h.own.row.lt
  ·cases e; rfl
theorem Vec.appS {P : Program} {T e : TypeId} {z : Value} {sz bytes : Nat} {w0 w : World} {go : Option Nat} {n cap : Nat} {vs : List Value}
  (h : Vec e sz w0 w go n cap vs) (I : EI P T e z sz bytes) {ops : Array Oper} {rest : List Oper} {o : Oper} {a : Act} {Q : Exit → Act → World → Prop} (hgd : o.guard = none) (s x : Operand)
  (ho : o.op = .call { callee := .builtin .append, args := #[s, x], argTypes := #[T, T] })
  (hs : a.eval s = sv go n cap) (sa : Option Addr) (m c : Nat) (news : List Value) (hx : a.eval x = .slice sa m c) (hsn : sa = none → m = 0 ∧ c = 0) (hl : news.length = m * sz)
  (hnews : ∀ ad, sa = some ad → ∀ j u, news[j]? = some u → w.cell? (ad.add j) = some u) (h1 : ∀ u ∈ news, u.oneCell' = true)
  (L : Nat) (hL : n + m = L) (hb : L * bytes ≤ 140737488355328)
  (hk : ∀ go' cap' ga w', ga = go'.map (fun g => (⟨g, 0, none⟩ : Addr)) → Vec e sz w0 w' go' L cap' (vs ++ news) → w.grownBy w' go → wpList P ops Q rest (a.put o.dst (.slice ga L cap')) w') : wpList P ops Q (o :: rest) a w :=
 h.app I hgd s x ho hs sa m c news hx hsn hl hnews h1 L hL hb fun go' cap' w' hv hg => hk go' cap' _ w' rfl hv hg
theorem lt_grown {w w' : World} {b : Nat} {o : Obj} {row : Option Nat} (hg : w.grownBy w' row) (h : w.heap[b]? = some o) (hr : row ≠ some b) : w'.heap[b]? = some o := by
 rw [hg.block b (Array.getElem?_eq_some_iff.1 h).1 (fun e => hr e.symm)]; exact h
theorem heap_new1 (w : World) (o1 o2 : Obj) : ((w.alloc o1).alloc o2).heap[w.heap.size + 1]? = some o2 := by
 have h := heap_alloc_new (w.alloc o1) o2
 rw [show (w.alloc o1).heap.size = w.heap.size + 1 by simp] at h
 exact h
theorem Vec.setO {e sz : Nat} {w0 w : World} {go : Option Nat} {n cap : Nat} {vs : List Value} {b j : Nat} {cs : Array Value} {t : TypeId} {fz : Nat × Nat} (h : Vec e sz w0 w go n cap vs) (hr : w.heap[b]? = some (.cells cs t fz)) (ht : t ≠ e) (hb : w0.heap.size ≤ b) (v : Value) : Vec e sz w0 (w.setCell ⟨b, j, none⟩ v) go n cap vs :=
 ⟨h.own.keep fun g hg => Below.heap_setCell w ⟨b, j, none⟩ v g (by
  subst hg
  obtain ⟨sp, h1, _⟩ := h.own.row
  intro e2
  simp only at e2
  subst e2
  rw [hr] at h1
  cases h1
  exact ht rfl), h.fresh, h.below.setCell (p := ⟨b, j, none⟩) hb v⟩
def TwinP (r : PRdn) (w : World) (e : Ending) (w' : World) : Prop :=
 ∃ (go : Option Nat) (n cap : Nat) (ga : Option Addr), ga = go.map (fun g => (⟨g, 0, none⟩ : Addr)) ∧ e = .returned (.agg #[.slice ga n cap]) ∧ Vec 70 2 w w' go n cap (avaV r) ∧ n = r.length
set_option maxRecDepth 20000 in
set_option maxHeartbeats 4000000 in
theorem ntwin_any (B : Nat) (a : Option Addr) (n c : Nat) (r : PRdn) (w : World) (h : Avas B w a n c r) (hB : B ≤ w.heap.size) : Calls Tryz.prog 83 #[.agg #[.slice a n c]] w (TwinP r w) := by
 obtain ⟨wa, hwa⟩ : ∃ wa, wa = ((w.alloc (.cells #[.slice a n c] 65)).alloc (.cells #[.slice none 0 0] 65)) := ⟨_, rfl⟩
 have hb0 : Below w.heap.size w ((w.alloc (.cells #[.slice a n c] 65)).alloc (.cells #[.slice none 0 0] 65)) := ((Zl _ _).alloc (Zr _) _).alloc (by simp) _
 have hres : ((w.alloc (.cells #[.slice a n c] 65)).alloc (.cells #[.slice none 0 0] 65)).heap[w.heap.size + 1]? = some (.cells #[.slice none 0 0] 65 (0, 0)) := heap_new1 _ _ _
 have h2 := h.keep (hb0.mono hB) (Zr _)
 have hsrc := h2.src
 have hn := h.len
 have hv := Vec.nil 70 2 w hb0
 have hnil : a = none → n = 0 ∧ c = 0 := fun e => by have h1 := h.lies.nil e; have h2 := h.lies.le; omega
 have hsm := h.small
 have HV := Zh (Zi hv (Zi hsrc (Zi hnil (Zi hn hres))))
 clear hb0 h2 hsrc hn hv hnil h hres hwa
 go_enter Tryz.func83, Tryz.ntmps83
 go_wp2_with (at_builtin; refine HV.out.1.appS eiAva rfl _ _ rfl rfl a n c (avaV r) rfl HV.out.2.2.1 (by rw [avaV_len, HV.out.2.2.2.1]) HV.out.2.1 (avaV_cell' r) n (Nat.zero_add n) (by omega) ?_; intro go cap ga w2 hga hv2 hg2; have hr2 := lt_grown hg2 HV.out.2.2.2.2 (by simp); have c2 := Lib.cell_of_heap hr2 0; have f2 := Lib.frozen_of_heap hr2 0; have HV2 := Zh (Zi hv2 (Zi hr2 hga)); clear hv2 hg2 hr2 hga)
 have hv3 := HV2.out.1.setO (j := 0) HV2.out.2.1 (by decide) (by omega) (.slice ga n cap)
 have r0 : (w2.setCell ⟨w.heap.size + 1, 0, none⟩ (.slice ga n cap)).cell? ⟨w.heap.size + 1, 0, none⟩ = some (.slice ga n cap) := World.cell?_setCell_same _ _ _ c2
 clear c2 f2
 generalize w2.setCell ⟨w.heap.size + 1, 0, none⟩ (.slice ga n cap) = w3 at hv3 r0 ⊢
 have HV3 := Zh hv3
 clear hv3
 refine bodyPost_ret (v := .agg #[.slice ga n cap]) ((results_cell1 rfl _ _ _).trans ?hres) rfl ?_
 case hres => go_simp
 exact ⟨go, n, cap, ga, HV2.out.2.2, rfl, HV3.out, HV.out.2.2.2.1⟩
structure KeepA (B : Nat) (w w' : World) : Prop where
 size : w.heap.size ≤ w'.heap.size
 row : ∀ k cs fz, k < B → w.heap[k]? = some (.cells cs 70 fz) → w'.heap[k]? = some (.cells cs 70 fz)
theorem KeepA.refl (B : Nat) (w : World) : KeepA B w w := ⟨Zr _, fun _ _ _ _ h => h⟩
theorem KeepA.trans {B : Nat} {w w' w'' : World} (h : KeepA B w w') (k : KeepA B w' w'') : KeepA B w w'' := ⟨Nat.le_trans h.size k.size, fun q cs fz hq e => k.row q cs fz hq (h.row q cs fz hq e)⟩
theorem KeepA.mono {B B' : Nat} {w w' : World} (h : KeepA B' w w') (hb : B ≤ B') : KeepA B w w' := ⟨h.size, fun q cs fz hq e => h.row q cs fz (by omega) e⟩
theorem KeepA.below {B B' : Nat} {w w' : World} (h : Below B' w w') (hb : B ≤ B') : KeepA B w w' := ⟨h.size, fun q cs fz hq e => by rw [h.block q (by omega)]; exact e⟩
theorem KeepA.setCell {B : Nat} {w : World} {b j : Nat} {cs : Array Value} {t : TypeId} {fz : Nat × Nat} (hr : w.heap[b]? = some (.cells cs t fz)) (ht : t ≠ 70) (v : Value) : KeepA B w (w.setCell ⟨b, j, none⟩ v) :=
 ⟨by simp [World.setCell], fun k c2 f2 _ e => by
  rw [Below.heap_setCell w ⟨b, j, none⟩ v k (by
   intro e2
   simp only at e2
   subst e2
   rw [hr] at e
   cases e
   exact ht rfl)]
  exact e⟩
theorem KeepA.grown {B : Nat} {w w' : World} {row : Option Nat} (h : w.grownBy w' row) (hr : ∀ g, row = some g → B ≤ g ∨ ∃ cs t fz, w.heap[g]? = some (.cells cs t fz) ∧ t ≠ 70) : KeepA B w w' := by
 refine ⟨h.size, fun k cs fz hk e => ?_⟩
 rw [h.block k (Array.getElem?_eq_some_iff.1 e).1 (fun e2 => by
  rcases hr k e2.symm with h3 | ⟨c2, t2, f2, e3, h3⟩
  ·omega
  ·rw [e3] at e; cases e; exact h3 rfl)]
 exact e
theorem Own.lies {w : World} {e sz : Nat} {go : Option Nat} {n cap : Nat} {vs : List Value} (h : Own w e sz go n cap vs) : LiesW w.heap.size (go.map fun g => (⟨g, 0, none⟩ : Addr)) n cap := by
 cases go with
 | none =>
  obtain ⟨_, rfl, rfl⟩ := h
  exact ⟨Zr _, Nat.zero_le _, fun _ => rfl, (fun ad h _ => by cases h), (fun ad h _ => by cases h)⟩
 | some g =>
  obtain ⟨_, _, _, hml⟩ := h.row
  refine ⟨h.le, hml, (fun e => by cases e), fun ad e _ => ?_, fun ad e _ => ?_⟩
  ·cases e; exact h.row.lt
  ·cases e; rfl
theorem Avas.of_own {w : World} {go : Option Nat} {n cap : Nat} {l : PRdn} (h : Own w 70 2 go n cap (avaV l)) (hn : n ≤ 4294967280) (hs : ∀ x ∈ l, x.1.size ≤ 4294967280 ∧ x.2.size ≤ 4294967280) :
  Avas w.heap.size w (go.map fun g => (⟨g, 0, none⟩ : Addr)) n cap l := by
 have hl := h.len
 rw [avaV_len] at hl
 refine ⟨by omega, h.lies, hn, fun b o e i x hx => ?_, hs⟩
 cases go with
 | none => cases e
 | some g =>
  cases e
  obtain ⟨h1, h2⟩ := avaV_at l i x hx
  rw [Nat.zero_add]
  exact ⟨h.row.cell h1, h.row.cell h2⟩
abbrev PartO := (Option Nat × Nat) × PRdn
def rowV (x : PartO) : Value := .slice (x.1.1.map fun g => (⟨g, 0, none⟩ : Addr)) x.2.length x.1.2
structure RowsO (B0 B : Nat) (w : World) (gs : List PartO) : Prop where
 own : ∀ x ∈ gs, Own w 70 2 x.1.1 x.2.length x.1.2 (avaV x.2)
 bnd : ∀ x ∈ gs, ∀ g, x.1.1 = some g → B0 ≤ g ∧ g < B
 sep : gs.Pairwise fun x y => ∀ g, x.1.1 = some g → y.1.1 ≠ some g
 size : ∀ x ∈ gs, x.2.length ≤ 4294967280 ∧ ∀ a ∈ x.2, a.1.size ≤ 4294967280 ∧ a.2.size ≤ 4294967280
theorem RowsO.nil (B0 B : Nat) (w : World) : RowsO B0 B w [] := ⟨(fun x h => by cases h), (fun x h => by cases h), .nil, (fun x h => by cases h)⟩
theorem RowsO.keep {B0 B : Nat} {w w' : World} {gs : List PartO} (h : RowsO B0 B w gs) (k : KeepA B w w') : RowsO B0 B w' gs :=
 ⟨fun x hx => (h.own x hx).keep fun g e => by
  have h1 := h.own x hx
  rw [e] at h1
  obtain ⟨sp, h2, _⟩ := h1.row
  rw [h2, k.row g _ _ (h.bnd x hx g e).2 h2], h.bnd, h.sep, h.size⟩
theorem RowsO.mono {B0 B B' : Nat} {w : World} {gs : List PartO} (h : RowsO B0 B w gs) (hb : B ≤ B') : RowsO B0 B' w gs :=
 ⟨h.own, fun x hx g e => ⟨(h.bnd x hx g e).1, by have := (h.bnd x hx g e).2; omega⟩, h.sep, h.size⟩
theorem RowsO.push {B0 B B' : Nat} {w : World} {gs : List PartO} {go : Option Nat} {cap : Nat} {r : PRdn} (h : RowsO B0 B w gs) (own : Own w 70 2 go r.length cap (avaV r)) (hg : ∀ g, go = some g → B ≤ g ∧ g < B') (h0 : B0 ≤ B) (hb : B ≤ B')
  (hs : r.length ≤ 4294967280 ∧ ∀ a ∈ r, a.1.size ≤ 4294967280 ∧ a.2.size ≤ 4294967280) : RowsO B0 B' w (gs ++ [((go, cap), r)]) := by
 refine ⟨fun x hx => ?_, fun x hx g e => ?_, ?_, fun x hx => ?_⟩
 ·rcases List.mem_append.1 hx with hx | hx
  ·exact h.own x hx
  ·simp at hx; subst hx; exact own
 ·rcases List.mem_append.1 hx with hx | hx
  ·have := h.bnd x hx g e; omega
  ·simp at hx; subst hx
   have := hg g e; omega
 ·rw [List.pairwise_append]
  refine ⟨h.sep, by simp, fun x hx y hy g e e2 => ?_⟩
  simp at hy; subst hy
  have h1 := h.bnd x hx g e
  have h2 := hg g e2
  omega
 ·rcases List.mem_append.1 hx with hx | hx
  ·exact h.size x hx
  ·simp at hx; subst hx; exact hs
theorem Rdns.of_rows {w0 w : World} {go : Option Nat} {n cap : Nat} {gs : List PartO} {B0 B : Nat} (h : Vec 65 1 w0 w go n cap (gs.map rowV)) (hr : RowsO B0 B w gs) (hn : n ≤ 4294967280) :
  Rdns w.heap.size w (go.map fun g => (⟨g, 0, none⟩ : Addr)) n cap (gs.map (·.2)) := by
 have hl := h.own.len
 rw [List.length_map] at hl
 refine ⟨by rw [List.length_map]; omega, h.own.lies, hn, fun b o e i r hx => ?_⟩
 rw [List.getElem?_map] at hx
 cases hg : gs[i]? with
 | none => rw [hg] at hx; cases hx
 | some x =>
  rw [hg] at hx
  cases hx
  have hm := List.mem_of_getElem? hg
  cases go with
  | none => cases e
  | some g =>
   cases e
   refine ⟨_, _, _, ?_, Avas.of_own (hr.own x hm) (hr.size x hm).1 (hr.size x hm).2⟩
   rw [Nat.zero_add]
   exact h.cell (by rw [List.getElem?_map, hg]; rfl)
theorem RowsO.from {B0 B1 B : Nat} {w : World} {gs : List PartO} (h : RowsO B1 B w gs) (hb : B0 ≤ B1) : RowsO B0 B w gs :=
 ⟨h.own, fun x hx g e => ⟨by have := (h.bnd x hx g e).1; omega, (h.bnd x hx g e).2⟩, h.sep, h.size⟩
structure UpO (L B : Nat) (w0 wr : World) (u : Nat) (go : Option Nat) (m cap : Nat) (gs : List PartO) : Prop where
 head : wr.heap[u]? = some (.cells #[sv go m cap] 53 (0, 0))
 new : w0.heap.size ≤ u
 vec : Vec 65 1 w0 wr go m cap (gs.map rowV)
 rows : RowsO L B wr gs
 le : B ≤ wr.heap.size
 lo : w0.heap.size ≤ L
 lb : L ≤ B
 lv : ∀ g, go = some g → L ≤ g
theorem UpO.len {L B : Nat} {w0 wr : World} {u : Nat} {go : Option Nat} {m cap : Nat} {gs : List PartO} (h : UpO L B w0 wr u go m cap gs) : m = gs.length := by
 have hl := h.vec.own.len
 rw [List.length_map] at hl
 omega
theorem UpO.mono {L B B' : Nat} {w0 wr : World} {u : Nat} {go : Option Nat} {m cap : Nat} {gs : List PartO} (h : UpO L B w0 wr u go m cap gs) (hb : B ≤ B') (hl : B' ≤ wr.heap.size) : UpO L B' w0 wr u go m cap gs :=
 ⟨h.head, h.new, h.vec, h.rows.mono hb, hl, h.lo, Nat.le_trans h.lb hb, h.lv⟩
theorem UpO.keep {L B : Nat} {w0 w w' : World} {u : Nat} {go : Option Nat} {m cap : Nat} {gs : List PartO} (h : UpO L B w0 w u go m cap gs) (k : Below w.heap.size w w') : UpO L B w0 w' u go m cap gs :=
 ⟨by rw [k.block u (Array.getElem?_eq_some_iff.1 h.head).1]; exact h.head, h.new, h.vec.next k, h.rows.keep (KeepA.below k h.le), Nat.le_trans h.le k.size, h.lo, h.lb, h.lv⟩
theorem UpO.drewN {L B : Nat} {w0 w : World} {u : Nat} {go : Option Nat} {m cap : Nat} {gs : List PartO} (h : UpO L B w0 w u go m cap gs) (q : Nat) : UpO L B w0 (w.drewN q) u go m cap gs := h.keep ⟨rfl, rfl, rfl, Zr _, fun _ _ => rfl⟩
theorem UpO.chg {L B : Nat} {w0 w w' : World} {u g : Nat} {go : Option Nat} {m cap : Nat} {gs : List PartO} (h : UpO L B w0 w u go m cap gs) (k : Chg (· = g) w w') (h1 : w0.heap.size ≤ g) (h2 : g < L) (h3 : u ≠ g) : UpO L B w0 w' u go m cap gs :=
 ⟨by rw [k.block u (Array.getElem?_eq_some_iff.1 h.head).1 h3]; exact h.head, h.new, h.vec.chg k (fun b e => by rw [e]; exact h1) (fun b e e2 => by have := h.lv b e; have e2 : b = g := e2; omega),
  ⟨fun x hx => (h.rows.own x hx).keep fun b e => k.block b (by have := (h.rows.bnd x hx b e).2; have := h.le; omega) (fun e2 => by have := (h.rows.bnd x hx b e).1; have e2 : b = g := e2; omega), h.rows.bnd, h.rows.sep, h.rows.size⟩,
  Nat.le_trans h.le k.size, h.lo, h.lb, h.lv⟩
theorem UpO.ne {L B : Nat} {w0 w : World} {u : Nat} {go : Option Nat} {m cap : Nat} {gs : List PartO} (h : UpO L B w0 w u go m cap gs) : go ≠ some u := fun e => by
 subst e
 obtain ⟨sp, h1, _⟩ := h.vec.own.row
 rw [h.head] at h1
 have : (53 : Nat) = 65 := by injection h1 with h1; injection h1
 exact absurd this (by decide)
theorem UpO.push {L B : Nat} {w0 w7 w9 : World} {u : Nat} {go : Option Nat} {m cap : Nat} {gs : List PartO} (h : UpO L B w0 w7 u go m cap gs) {g9 cap9 : Nat} {ga : Option Nat} {c : Nat} {r : PRdn}
  (own9 : Own w9 65 1 (some g9) (m + 1) cap9 (gs.map rowV ++ [rowV ((ga, c), r)])) (gr9 : w7.grownBy w9 go) (at9 : go = some g9 ∨ w7.heap.size ≤ g9) (own : Own w7 70 2 ga r.length c (avaV r)) (hg : ∀ g, ga = some g → B ≤ g)
  (hs : r.length ≤ 4294967280 ∧ ∀ a ∈ r, a.1.size ≤ 4294967280 ∧ a.2.size ≤ 4294967280) :
  w9.heap[u]? = some (.cells #[sv go m cap] 53 (0, 0)) ∧ UpO L w7.heap.size w0 (w9.setCell ⟨u, 0, none⟩ (.slice (some ⟨g9, 0, none⟩) (m + 1) cap9)) u (some g9) (m + 1) cap9 (gs ++ [((ga, c), r)]) := by
 have h9 := lt_grown gr9 h.head h.ne
 have hs0 := h.vec.size
 have hl9 : L ≤ g9 := by
  rcases at9 with e | e
  ·exact h.lv _ e
  ·have := h.le; have := h.lb; omega
 have hv9 : Vec 65 1 w0 w9 (some g9) (m + 1) cap9 ((gs ++ [((ga, c), r)]).map rowV) := ⟨by rw [List.map_append]; exact own9, fun g e => by
  cases e
  have := h.lo
  omega, h.vec.below.grown gr9 h.vec.size fun k e => h.vec.fresh k e⟩
 have hk9 : KeepA w7.heap.size w7 w9 := KeepA.grown gr9 fun g e => by
  subst e
  obtain ⟨sp, h1, _⟩ := h.vec.own.row
  exact .inr ⟨_, _, _, h1, by decide⟩
 have hp := h.rows.push (B' := w7.heap.size) own (fun g e => ⟨hg g e, by subst e; exact own.row.lt⟩) h.lb h.le hs
 refine ⟨h9, ?_, h.new, hv9.setO h9 (by decide) h.new _, ?_, by simp [World.setCell]; exact gr9.size, h.lo, Nat.le_trans h.lb h.le, fun g e => by cases e; exact hl9⟩
 ·rw [heap_setCell_same w9 u 0 _ _ _ h9]; rfl
 ·exact (hp.keep hk9).keep (KeepA.setCell (b := u) (j := 0) h9 (by decide) (.slice (some ⟨g9, 0, none⟩) (m + 1) cap9))
def NewName (w w' : World) (na : Option Addr) (n c : Nat) (l : PName) : Prop :=
 ∃ (go : Option Nat) (gs : List PartO), na = go.map (fun g => (⟨g, 0, none⟩ : Addr)) ∧ Vec 65 1 w w' go n c (gs.map rowV) ∧ RowsO w.heap.size w'.heap.size w' gs ∧ gs.map (·.2) = l ∧ n ≤ 4294967280
theorem NewName.rdns {w w' : World} {na : Option Addr} {n c : Nat} {l : PName} (h : NewName w w' na n c l) : Rdns w'.heap.size w' na n c l ∧ Below w.heap.size w w' := by
 obtain ⟨go, gs, rfl, hv, hr, rfl, hn⟩ := h
 exact ⟨Rdns.of_rows hv hr hn, hv.below⟩
theorem NewName.keep {w w1 w' : World} {na : Option Addr} {n c : Nat} {l : PName} (h : NewName w w1 na n c l) (k : Below w1.heap.size w1 w') : NewName w w' na n c l := by
 obtain ⟨go, gs, h1, hv, hr, h2, hn⟩ := h
 exact ⟨go, gs, h1, hv.next k, (hr.keep (KeepA.below k (Zr _))).mono k.size, h2, hn⟩
theorem UpO.new_name {L B : Nat} {w0 w : World} {u : Nat} {go : Option Nat} {m cap : Nat} {gs : List PartO} (h : UpO L B w0 w u go m cap gs) (hm : m ≤ 4294967280) : NewName w0 w (go.map fun g => (⟨g, 0, none⟩ : Addr)) m cap (gs.map (·.2)) :=
 ⟨go, gs, rfl, h.vec, (h.rows.mono h.le).from h.lo, rfl, hm⟩
end Go.Proofs.YtlmfbjhokkpjhaaGreatDoor
