/- Part 20 of the walks and plain laws, joined: SchP3, MatFull, MatFits, Voice. -/
import Derived.Test.YtlmfbjhokkpjhaaGreatDoorML12
import Derived.Test.YtlmfbjhokkpjhaaGreatDoorML19
import Derived.Test.YtlmfbjhokkpjhaaGreatDoorML14
import Derived.Test.YtlmfbjhokkpjhaaGreatDoorML11
import Derived.Test.YtlmfbjhokkpjhaaGreatDoorML00
import Derived.Test.YtlmfbjhokkpjhaaGreatDoorShelfM
import Derived.BigQuiet
set_option linter.unusedVariables false
set_option linter.unusedSimpArgs false
namespace Go.Proofs.YtlmfbjhokkpjhaaGreatDoor
open Go
theorem firstE_none (f : Nat → Int) : ∀ (n i : Nat), firstE f i n = none → ∀ j, i ≤ j → j < i + n → f j = 0
 | 0, i, _, j, h1, h2 => by omega
 | n + 1, i, h, j, h1, h2 => by
  have e : firstE f i (n + 1) = if f i ≠ 0 then some (f i, i) else firstE f (i + 1) n := rfl
  rw [e] at h
  by_cases h0 : f i ≠ 0
  ·rw [if_pos h0] at h; cases h
  ·rw [if_neg h0] at h
   by_cases hj : j = i
   ·subst hj; simpa using h0
   ·exact firstE_none f n (i + 1) h j (by omega) (by omega)
theorem firstE_some (f : Nat → Int) : ∀ (n i : Nat) (p : Int × Nat), firstE f i n = some p → p.1 ≠ 0 ∧ p.1 = f p.2 ∧ i ≤ p.2 ∧ p.2 < i + n
 | 0, i, p, h => by cases h
 | n + 1, i, p, h => by
  have e : firstE f i (n + 1) = if f i ≠ 0 then some (f i, i) else firstE f (i + 1) n := rfl
  rw [e] at h
  by_cases h0 : f i ≠ 0
  ·rw [if_pos h0] at h; cases h; exact ⟨h0, rfl, by simp, by simp⟩
  ·rw [if_neg h0] at h
   obtain ⟨a, b, c, d⟩ := firstE_some f n (i + 1) p h
   exact ⟨a, b, by omega, by omega⟩
structure OkS (S : PSchema) : Prop where
 types : S.types.length ≤ 1024
 classes : S.classes.length ≤ 1024
 ty : ∀ t, t < S.types.length → typeE S t = 0
 cl : ∀ c, c < S.classes.length → classE S c = 0
 obj : objE S = 0
theorem newE_ok {S : PSchema} (h : (newE S).1 = 0) : OkS S := by
 unfold newE at h
 by_cases hb : 1024 < S.types.length ∨ 1024 < S.classes.length
 ·rw [if_pos hb] at h; cases h
 ·rw [if_neg hb] at h
  cases ht : firstE (typeE S) 0 S.types.length with
  | some p => rw [ht] at h; exact absurd h (firstE_some _ _ _ _ ht).1
  | none =>
   rw [ht] at h
   simp only at h
   cases hc : firstE (classE S) 0 S.classes.length with
   | some p => rw [hc] at h; exact absurd h (firstE_some _ _ _ _ hc).1
   | none =>
    rw [hc] at h
    exact ⟨by omega, by omega, fun t h1 => firstE_none _ _ _ ht t (Nat.zero_le _) (by omega), fun c h1 => firstE_none _ _ _ hc c (Nat.zero_le _) (by omega), h⟩
theorem inheritT_same (S : PSchema) (t : Nat) (up : List Nat) : (inheritT S t up).names = (tyAt S t).names ∧ (inheritT S t up).oid = (tyAt S t).oid ∧ (inheritT S t up).sup = (tyAt S t).sup ∧ (inheritT S t up).syn = (tyAt S t).syn ∧ (inheritT S t up).single = (tyAt S t).single ∧ (inheritT S t up).index = (tyAt S t).index := by
 unfold inheritT
 generalize tyAt S t = x
 generalize up.drop 1 = l
 induction l generalizing x with
 | nil => exact ⟨rfl, rfl, rfl, rfl, rfl, rfl⟩
 | cons p l ih => rw [List.foldl_cons]; exact ih (mixT x (tyAt S p))
theorem typeE_named {S : PSchema} {t : Nat} (h : typeE S t = 0) : namedE (tyAt S t).oid (tyAt S t).names = 0 := by
 unfold typeE at h
 simp only at h
 by_cases hn : namedE (tyAt S t).oid (tyAt S t).names ≠ 0
 ·rw [if_pos hn] at h; exact absurd h hn
 ·simpa using hn
theorem namedE_zero {oid : ByteArray} {names : List ByteArray} (h : namedE oid names = 0) : oidB (toL oid) = true ∧ oid.size ≤ 65536 ∧ names ≠ [] ∧ (∀ n ∈ names, wordB (toL n) = true ∧ n.size ≤ 65536) ∧ names.length ≤ 16 := by
 unfold namedE at h
 by_cases h1 : (!oidB (toL oid) || decide (65536 < oid.size) || names.isEmpty) = true
 ·rw [if_pos h1] at h; cases h
 ·rw [if_neg h1] at h
  by_cases h2 : (names.all fun n => wordB (toL n) && decide (n.size ≤ 65536)) = true
  ·rw [if_pos h2] at h
   by_cases h3 : 16 < names.length
   ·rw [if_pos h3] at h; cases h
   ·simp at h1
    refine ⟨h1.1.1, h1.1.2, ?_, ?_, by omega⟩
    ·have := h1.2; cases names <;> simp_all
    ·intro n hn
     have := List.all_eq_true.1 h2 n hn
     simpa using this
  ·rw [if_neg h2] at h; cases h
theorem OkS.names {S : PSchema} (h : OkS S) {t : Nat} (ht : t < S.types.length) : (fullT S t).names ≠ [] := by
 unfold fullT; rw [(inheritT_same S t _).1]; exact (namedE_zero (typeE_named (h.ty t ht))).2.2.1
theorem typeE_syn {S : PSchema} {t : Nat} (h : typeE S t = 0) : 0 ≤ (tyAt S t).syn ∧ (tyAt S t).syn ≤ 8 := by
 unfold typeE at h
 simp only at h
 split at h
 ·contradiction
 ·split at h
  ·cases h
  ·split at h
   ·cases h
   ·split at h
    ·cases h
    ·split at h
     ·cases h
     ·split at h
      ·cases h
      ·rename_i hn; omega
theorem OkS.syn {S : PSchema} (h : OkS S) {t : Nat} (ht : t < S.types.length) : 0 ≤ (fullT S t).syn ∧ (fullT S t).syn ≤ 8 := by
 unfold fullT; rw [(inheritT_same S t _).2.2.2.1]; exact typeE_syn (h.ty t ht)
theorem inheritT_range (S : PSchema) (hS : ∀ t, (-128 ≤ (tyAt S t).eq ∧ (tyAt S t).eq ≤ 127) ∧ (-128 ≤ (tyAt S t).ord ∧ (tyAt S t).ord ≤ 127) ∧ (-128 ≤ (tyAt S t).part ∧ (tyAt S t).part ≤ 127)) (t : Nat) (up : List Nat) :
  (-128 ≤ (inheritT S t up).eq ∧ (inheritT S t up).eq ≤ 127) ∧ (-128 ≤ (inheritT S t up).ord ∧ (inheritT S t up).ord ≤ 127) ∧ (-128 ≤ (inheritT S t up).part ∧ (inheritT S t up).part ≤ 127) := by
 unfold inheritT
 have h0 := hS t
 generalize tyAt S t = x at h0
 generalize up.drop 1 = l
 induction l generalizing x with
 | nil => exact h0
 | cons p l ih =>
  rw [List.foldl_cons]
  apply ih
  have hp := hS p
  unfold mixT
  refine ⟨?_, ?_, ?_⟩ <;> (dsimp only; split <;> omega)
end Go.Proofs.YtlmfbjhokkpjhaaGreatDoor
namespace Go.Proofs.YtlmfbjhokkpjhaaGreatDoor
open Go Go.RowKit Go.Maps
theorem Texts.nil (B : Nat) (w : World) : Texts B w none 0 0 [] := ⟨rfl, ⟨Zr _, Nat.zero_le _, fun _ => rfl, (fun ad h => by cases h), (fun ad h => by cases h)⟩, Nat.zero_le _, (fun b o h => by cases h), (fun s h => by cases h)⟩
theorem Texts.setO {B : Nat} {w : World} {a : Option Addr} {n c : Nat} {l : List ByteArray} (h : Texts B w a n c l) {p : Addr} (hp : ∀ ad, a = some ad → ad.block ≠ p.block) (v : Value) : Texts B (w.setCell p v) a n c l :=
 ⟨h.len, h.lies, h.small, fun b o e i s hs => by rw [World.cell?_setCell_other _ _ _ _ (fun e2 => hp _ e (by rw [e2]))]; exact h.cell b o e i s hs, h.size⟩
def typeI (S : PSchema) (t : Int) : PType := if 0 ≤ t ∧ t < S.types.length then fullT S t.toNat else zeroT
def FullPost (x : PType) (w : World) (e : Ending) (w' : World) : Prop :=
 Below w.heap.size w w' ∧ ∃ a n c, e = .returned (.agg (tyAgg x (.slice a n c))) ∧ Texts w'.heap.size w' a n c x.names
set_option maxRecDepth 20000 in
set_option maxHeartbeats 1000000 in
theorem full_any (S : PSchema) (g : Nat) (t : Int) (w : World) (h : Sch w g S) : Calls Tryz.prog 22 #[.pointer (some ⟨g, 0, none⟩), .int .i64 t] w (FullPost (typeI S t) w) := by
 obtain ⟨go, cap, nv, e4, hown, hnv⟩ := h.full
 have hlen := h.small.1
 by_cases hneg : t < 0
 ·have hx : typeI S t = zeroT := by unfold typeI; rw [if_neg (by omega)]
  rw [hx]; clear hx h hown hnv e4
  go_enter Tryz.func22, Tryz.ntmps22
  go_wp2_with fail
  refine bodyPost_ret (v := .agg (tyAgg zeroT (.slice none 0 0))) (by simp [results, Tryz.results22, go_sem, tyAgg, zeroT, *]) rfl ?_
  exact ⟨(Zl _ w).alloc (Zr _) _, none, 0, 0, rfl, Texts.nil _ _⟩
 ·have hge : 0 ≤ t := by omega
  obtain ⟨u, rfl⟩ : ∃ u : Nat, t = (u : Int) := ⟨t.toNat, by omega⟩
  generalize hn : S.types.length = n at *
  by_cases hlt : u < n
  ·have hx : typeI S (u : Int) = fullT S u := by unfold typeI; rw [hn, if_pos (by omega)]; rfl
   rw [hx]; clear hx
   obtain ⟨gf, rfl⟩ : ∃ gf, go = some gf := by
    cases go with
    | none => have := hown.2.1; omega
    | some gf => exact ⟨gf, rfl⟩
   change w.cell? _ = some (.slice (some ⟨gf, 0, none⟩) n cap) at e4
   obtain ⟨na, nn, nc, hv, hte⟩ := hnv u hlt
   obtain ⟨x, hx⟩ : ∃ x, fullT S u = x := ⟨_, rfl⟩
   have hcell : ∀ j v, (tyAgg x (.slice na nn nc))[j]? = some v → w.cell? ⟨gf, u * 9 + j, none⟩ = some v := fun j v hj => by
    have hj9 : j < 9 := by have := (Array.getElem?_eq_some_iff.1 hj).1; simpa [tyAgg] using this
    have := fullCells_get S nv hlt hj9
    rw [hx, hv, hj] at this
    exact hown.row.cell this
   have h0 : w.cell? ⟨gf, u * 9 + 0, none⟩ = some (.string x.oid) := hcell 0 _ rfl
   have h1 : w.cell? ⟨gf, u * 9 + 1, none⟩ = some (.slice na nn nc) := hcell 1 _ rfl
   have h2 : w.cell? ⟨gf, u * 9 + 2, none⟩ = some (.string x.sup) := hcell 2 _ rfl
   have h3 : w.cell? ⟨gf, u * 9 + 3, none⟩ = some (.int .i8 x.syn) := hcell 3 _ rfl
   have h4 : w.cell? ⟨gf, u * 9 + 4, none⟩ = some (.int .i8 x.eq) := hcell 4 _ rfl
   have h5 : w.cell? ⟨gf, u * 9 + 5, none⟩ = some (.int .i8 x.ord) := hcell 5 _ rfl
   have h6 : w.cell? ⟨gf, u * 9 + 6, none⟩ = some (.int .i8 x.part) := hcell 6 _ rfl
   have h7 : w.cell? ⟨gf, u * 9 + 7, none⟩ = some (.bool x.single) := hcell 7 _ rfl
   have h8 : w.cell? ⟨gf, u * 9 + 8, none⟩ = some (.int .u8 x.index) := hcell 8 _ rfl
   rw [hx] at hte ⊢
   rw [Nat.add_zero] at h0
   have hui : (0 : Int) ≤ (u : Int) := by omega
   have hun : (u : Int) < (n : Int) := by omega
   have hgl := h.base.lt
   have hgfl := hown.row.lt
   have hcp := fun wq (hb : Below w.heap.size w wq) => copied_any g na nn nc x.names wq (hte.keep (hb.mono (Nat.le_of_lt h.base.lt)) (Zr _))
   have HCP := Zh hcp
   clear hcp hcell hx hv hte hnv hown hn hneg hge hlt h hlen
   go_enter Tryz.func22, Tryz.ntmps22
   go_upto_region 4 with fail
   clear h0 h1 h2 h3 h4 h5 h6 h7 h8 e4 hgl hgfl
   have hb2 : Below w.heap.size w ((w.alloc (.cells #[.string ⟨#[]⟩, .slice none 0 0, .string ⟨#[]⟩, .int .i8 0, .int .i8 0, .int .i8 0, .int .i8 0, .bool false, .int .u8 0] 46)).alloc (.cells #[.string x.oid, .slice na nn nc, .string x.sup, .int .i8 x.syn, .int .i8 x.eq, .int .i8 x.ord, .int .i8 x.part, .bool x.single, .int .u8 x.index] 46)) := ((Zl _ w).alloc (Zr _) _).alloc (by simp) _
   have hr0 : TyBlk (w.alloc (.cells #[.string ⟨#[]⟩, .slice none 0 0, .string ⟨#[]⟩, .int .i8 0, .int .i8 0, .int .i8 0, .int .i8 0, .bool false, .int .u8 0] 46)) w.heap.size zeroT (.slice none 0 0) := TyBlk.made w zeroT (.slice none 0 0) 46
   have hr2 := hr0.keep ((Zl _ (w.alloc (.cells #[.string ⟨#[]⟩, .slice none 0 0, .string ⟨#[]⟩, .int .i8 0, .int .i8 0, .int .i8 0, .int .i8 0, .bool false, .int .u8 0] 46))).alloc (Zr _) (.cells #[.string x.oid, .slice na nn nc, .string x.sup, .int .i8 x.syn, .int .i8 x.eq, .int .i8 x.ord, .int .i8 x.part, .bool x.single, .int .u8 x.index] 46))
   have hx2 : TyBlk ((w.alloc (.cells #[.string ⟨#[]⟩, .slice none 0 0, .string ⟨#[]⟩, .int .i8 0, .int .i8 0, .int .i8 0, .int .i8 0, .bool false, .int .u8 0] 46)).alloc (.cells #[.string x.oid, .slice na nn nc, .string x.sup, .int .i8 x.syn, .int .i8 x.eq, .int .i8 x.ord, .int .i8 x.part, .bool x.single, .int .u8 x.index] 46)) (w.alloc (.cells #[.string ⟨#[]⟩, .slice none 0 0, .string ⟨#[]⟩, .int .i8 0, .int .i8 0, .int .i8 0, .int .i8 0, .bool false, .int .u8 0] 46)).heap.size x (.slice na nn nc) := TyBlk.made (w.alloc (.cells #[.string ⟨#[]⟩, .slice none 0 0, .string ⟨#[]⟩, .int .i8 0, .int .i8 0, .int .i8 0, .int .i8 0, .bool false, .int .u8 0] 46)) x (.slice na nn nc) 46
   rw [show (w.alloc (.cells #[.string ⟨#[]⟩, .slice none 0 0, .string ⟨#[]⟩, .int .i8 0, .int .i8 0, .int .i8 0, .int .i8 0, .bool false, .int .u8 0] 46)).heap.size = w.heap.size + 1 by simp] at hx2
   generalize (w.alloc (.cells #[.string ⟨#[]⟩, .slice none 0 0, .string ⟨#[]⟩, .int .i8 0, .int .i8 0, .int .i8 0, .int .i8 0, .bool false, .int .u8 0] 46)).alloc (.cells #[.string x.oid, .slice na nn nc, .string x.sup, .int .i8 x.syn, .int .i8 x.eq, .int .i8 x.ord, .int .i8 x.part, .bool x.single, .int .u8 x.index] 46) = w2 at hb2 hr2 hx2 ⊢
   have hne : w.heap.size ≠ w.heap.size + 1 := by omega
   have hRl : w.heap.size ≤ w.heap.size := Zr _
   have hXl : w.heap.size ≤ w.heap.size + 1 := by omega
   clear hr0
   generalize hX : w.heap.size + 1 = X at hx2 hne hXl ⊢
   generalize hR : w.heap.size = R at hr2 hne hX ⊢
   have hRw : w.heap.size ≤ R := by omega
   have hXw : w.heap.size ≤ X := by omega
   have H2 := Zh (Zi hb2 (Zi hr2 (Zi hx2 (Zi hRw hXw)))); clear hb2 hr2 hx2 hRl hXl hX hR hRw hXw
   have k1 := H2.out.2.2.1.c1
   go_wp2_with (first | (go_at_call 63; refine (HCP.out _ H2.out.1).mono ?_; rintro e w3 ⟨v, rfl, hv⟩; obtain ⟨va, vn, vc, rfl, hvt, hvf, hvb⟩ := hv; have hx3 := H2.out.2.2.1.keep hvb; have hr3 := H2.out.2.1.keep hvb; have c0 : w3.cell? ⟨X, 0, none⟩ = some (.string x.oid) := hx3.c0; have c1 : w3.cell? ⟨X, 1, none⟩ = some (.slice na nn nc) := hx3.c1; have c2 : w3.cell? ⟨X, 2, none⟩ = some (.string x.sup) := hx3.c2; have c3 : w3.cell? ⟨X, 3, none⟩ = some (.int .i8 x.syn) := hx3.c3; have c4 : w3.cell? ⟨X, 4, none⟩ = some (.int .i8 x.eq) := hx3.c4; have c5 : w3.cell? ⟨X, 5, none⟩ = some (.int .i8 x.ord) := hx3.c5; have c6 : w3.cell? ⟨X, 6, none⟩ = some (.int .i8 x.part) := hx3.c6; have c7 : w3.cell? ⟨X, 7, none⟩ = some (.bool x.single) := hx3.c7; have c8 : w3.cell? ⟨X, 8, none⟩ = some (.int .u8 x.index) := hx3.c8; have d0 : w3.cell? ⟨R, 0, none⟩ = some (.string ⟨#[]⟩) := hr3.c0; have d1 : w3.cell? ⟨R, 1, none⟩ = some (.slice none 0 0) := hr3.c1; have d2 : w3.cell? ⟨R, 2, none⟩ = some (.string ⟨#[]⟩) := hr3.c2; have d3 : w3.cell? ⟨R, 3, none⟩ = some (.int .i8 0) := hr3.c3; have d4 : w3.cell? ⟨R, 4, none⟩ = some (.int .i8 0) := hr3.c4; have d5 : w3.cell? ⟨R, 5, none⟩ = some (.int .i8 0) := hr3.c5; have d6 : w3.cell? ⟨R, 6, none⟩ = some (.int .i8 0) := hr3.c6; have d7 : w3.cell? ⟨R, 7, none⟩ = some (.bool false) := hr3.c7; have d8 : w3.cell? ⟨R, 8, none⟩ = some (.int .u8 0) := hr3.c8; have hxf := hx3.fr; have hrf := hr3.fr; have hxl := H2.out.2.2.1.lt; have hrl := H2.out.2.1.lt; have H3 := Zh (Zi (bnext H2.out.1 hvb) (Zi hvt (Zi (fun ad e => (Nat.ne_of_gt (Nat.lt_of_lt_of_le hxl (hvf ad e)) : ad.block ≠ X)) (fun ad e => (Nat.ne_of_gt (Nat.lt_of_lt_of_le hrl (hvf ad e)) : ad.block ≠ R))))); clear hvb hvt hvf hx3 hr3 k1 hxl hrl) | fail)
   refine bodyPost_ret (v := .agg (tyAgg x (.slice va vn vc))) (by simp [results, Tryz.results22, go_sem, tyAgg, *]) rfl ?_
   have hRw := H2.out.2.2.2.1
   have hXw := H2.out.2.2.2.2
   have hX := H3.out.2.2.1
   have hRr := H3.out.2.2.2
   refine ⟨((((((((((H3.out.1.setCell hXw _).setCell hRw _).setCell hRw _).setCell hRw _).setCell hRw _).setCell hRw _).setCell hRw _).setCell hRw _).setCell hRw _).setCell hRw _), va, vn, vc, rfl, ?_⟩
   simp only [size_set]
   exact ((((((((((H3.out.2.1.setO hX _).setO hRr _).setO hRr _).setO hRr _).setO hRr _).setO hRr _).setO hRr _).setO hRr _).setO hRr _).setO hRr _)
  ·have hx : typeI S (u : Int) = zeroT := by unfold typeI; rw [hn, if_neg (by omega)]
   rw [hx]; clear hx
   have hnu : (n : Int) ≤ (u : Int) := by omega
   have hui : (0 : Int) ≤ (u : Int) := by omega
   have hgl := h.base.lt
   change w.cell? _ = some (.slice (go.map fun g => (⟨g, 0, none⟩ : Addr)) n cap) at e4
   generalize (go.map fun g => (⟨g, 0, none⟩ : Addr)) = ga at e4
   clear hnv hown hn hneg hge hlt h hlen
   go_enter Tryz.func22, Tryz.ntmps22
   go_wp2_with fail
   refine bodyPost_ret (v := .agg (tyAgg zeroT (.slice none 0 0))) (by simp [results, Tryz.results22, go_sem, tyAgg, zeroT, *]) rfl ?_
   exact ⟨(Zl _ w).alloc (Zr _) _, none, 0, 0, rfl, Texts.nil _ _⟩
end Go.Proofs.YtlmfbjhokkpjhaaGreatDoor
namespace Go.Proofs.YtlmfbjhokkpjhaaGreatDoor
open Go Go.RowKit Go.Maps
def hasT (S : PSchema) (t : Int) : Bool := decide (0 ≤ t ∧ t < S.types.length)
def MFullPost (S : PSchema) (t : Int) (w : World) (e : Ending) (w' : World) : Prop :=
 Below w.heap.size w w' ∧ ∃ a n c, e = .returned (.tuple #[.agg (tyAgg (typeI S t) (.slice a n c)), .bool (hasT S t)])
set_option maxRecDepth 20000 in
set_option maxHeartbeats 1000000 in
theorem mfull_any (S : PSchema) (g : Nat) (t : Int) (w : World) (h : Sch w g S) : Calls Tryz.prog 60 #[.pointer (some ⟨g, 0, none⟩), .int .i64 t] w (MFullPost S t w) := by
  by_cases hneg : t < 0
  · have hx : typeI S t = zeroT := by unfold typeI; rw [if_neg (by omega)]
    have hh : hasT S t = false := decide_eq_false (by omega)
    have HH := Zh (Zi hx hh); clear hx hh h
    go_enter Tryz.func60, Tryz.ntmps60
    go_wp2_with fail
    refine bodyPost_ret (v := .tuple #[.agg (tyAgg zeroT (.slice none 0 0)), .bool false]) (by simp [results, Tryz.results60, go_sem, tyAgg, zeroT, *]) rfl ?_
    exact ⟨(Zl _ w).alloc (Zr _) _, none, 0, 0, by rw [HH.out.1, HH.out.2]⟩
  · have hge : 0 ≤ t := by omega
    have hok := newE_ok (S := S) (by rw [h.ok])
    have hnz : (typeI S t).names.length = 0 ↔ hasT S t = false := by
      unfold typeI hasT
      by_cases hlt : t < S.types.length
      · rw [if_pos ⟨hge, hlt⟩, decide_eq_true ⟨hge, hlt⟩]
        have := hok.names (t := t.toNat) (by omega)
        constructor
        · intro h; exact absurd (List.eq_nil_of_length_eq_zero h) this
        · intro h; cases h
      · rw [if_neg (by omega), decide_eq_false (by omega)]
        simp [zeroT]
    have hfu := fun wq (hb : Below w.heap.size w wq) => full_any S g t wq (h.keep hb)
    unfold FullPost at hfu
    obtain ⟨x, hx⟩ : ∃ x, typeI S t = x := ⟨_, rfl⟩
    rw [hx] at hfu hnz
    unfold tyAgg at hfu
    have HX := Zh hx; have HNZ := Zh hnz; have HFU := Zh hfu; clear hx hnz hfu h hok hneg
    have hal := (Zl w.heap.size w).alloc (Zr _) (.cells #[.string ⟨#[]⟩, .slice none 0 0, .string ⟨#[]⟩, .int .i8 0, .int .i8 0, .int .i8 0, .int .i8 0, .bool false, .int .u8 0] 46)
    have HAL := Zh hal; clear hal
    go_enter Tryz.func60, Tryz.ntmps60
    go_upto_region 4 with (first | (go_at_call 22; refine (HFU.out _ HAL.out).mono ?_; rintro e w2 ⟨hb2, a, n, c, rfl, ht⟩; have H2 := Zh (Zi hb2 ht); clear hb2 ht) | fail)
    have hr0 : TyBlk (w.alloc (.cells #[.string ⟨#[]⟩, .slice none 0 0, .string ⟨#[]⟩, .int .i8 0, .int .i8 0, .int .i8 0, .int .i8 0, .bool false, .int .u8 0] 46)) w.heap.size zeroT (.slice none 0 0) := TyBlk.made w zeroT (.slice none 0 0) 46
    have hr2 := hr0.keep H2.out.1
    have hk3 := (Zl w2.heap.size w2).alloc (Zr _) (.cells #[.string x.oid, .slice a n c, .string x.sup, .int .i8 x.syn, .int .i8 x.eq, .int .i8 x.ord, .int .i8 x.part, .bool x.single, .int .u8 x.index] 46)
    have hr3 := hr2.keep hk3
    have hx3 : TyBlk (w2.alloc (.cells #[.string x.oid, .slice a n c, .string x.sup, .int .i8 x.syn, .int .i8 x.eq, .int .i8 x.ord, .int .i8 x.part, .bool x.single, .int .u8 x.index] 46)) w2.heap.size x (.slice a n c) := TyBlk.made w2 x (.slice a n c) 46
    have hb3 : Below w.heap.size w (w2.alloc (.cells #[.string x.oid, .slice a n c, .string x.sup, .int .i8 x.syn, .int .i8 x.eq, .int .i8 x.ord, .int .i8 x.part, .bool x.single, .int .u8 x.index] 46)) := bnext (bnext HAL.out H2.out.1) hk3
    have hne : w.heap.size ≠ w2.heap.size := Nat.ne_of_lt hr2.lt
    have hRw : w.heap.size ≤ w.heap.size := Zr _
    clear hr0 hr2 hk3
    generalize w2.alloc (.cells #[.string x.oid, .slice a n c, .string x.sup, .int .i8 x.syn, .int .i8 x.eq, .int .i8 x.ord, .int .i8 x.part, .bool x.single, .int .u8 x.index] 46) = w3 at hb3 hr3 hx3 ⊢
    generalize w2.heap.size = X at hx3 hne ⊢
    have hlen : n = x.names.length := H2.out.2.len
    generalize hR : w.heap.size = R at hr3 hne ⊢
    have hRw2 : w.heap.size ≤ R := by omega
    have c0 : w3.cell? ⟨X, 0, none⟩ = some (.string x.oid) := hx3.c0
    have c1 : w3.cell? ⟨X, 1, none⟩ = some (.slice a n c) := hx3.c1
    have c2 : w3.cell? ⟨X, 2, none⟩ = some (.string x.sup) := hx3.c2
    have c3 : w3.cell? ⟨X, 3, none⟩ = some (.int .i8 x.syn) := hx3.c3
    have c4 : w3.cell? ⟨X, 4, none⟩ = some (.int .i8 x.eq) := hx3.c4
    have c5 : w3.cell? ⟨X, 5, none⟩ = some (.int .i8 x.ord) := hx3.c5
    have c6 : w3.cell? ⟨X, 6, none⟩ = some (.int .i8 x.part) := hx3.c6
    have c7 : w3.cell? ⟨X, 7, none⟩ = some (.bool x.single) := hx3.c7
    have c8 : w3.cell? ⟨X, 8, none⟩ = some (.int .u8 x.index) := hx3.c8
    have d0 : w3.cell? ⟨R, 0, none⟩ = some (.string ⟨#[]⟩) := hr3.c0
    have d1 : w3.cell? ⟨R, 1, none⟩ = some (.slice none 0 0) := hr3.c1
    have d2 : w3.cell? ⟨R, 2, none⟩ = some (.string ⟨#[]⟩) := hr3.c2
    have d3 : w3.cell? ⟨R, 3, none⟩ = some (.int .i8 0) := hr3.c3
    have d4 : w3.cell? ⟨R, 4, none⟩ = some (.int .i8 0) := hr3.c4
    have d5 : w3.cell? ⟨R, 5, none⟩ = some (.int .i8 0) := hr3.c5
    have d6 : w3.cell? ⟨R, 6, none⟩ = some (.int .i8 0) := hr3.c6
    have d7 : w3.cell? ⟨R, 7, none⟩ = some (.bool false) := hr3.c7
    have d8 : w3.cell? ⟨R, 8, none⟩ = some (.int .u8 0) := hr3.c8
    have hrf := hr3.fr
    have HB3 := Zh (Zi hb3 hRw2)
    clear hr3 hx3 hb3 hRw hR hRw2 H2 HFU HAL
    have hpb : hasT S t = decide ((0 : Int) < (n : Int)) := by
      cases hh : hasT S t with
      | false => have := HNZ.out.2 hh; rw [decide_eq_false (by omega)]
      | true => have : ¬ x.names.length = 0 := fun e => by have := HNZ.out.1 e; rw [hh] at this; cases this
                rw [decide_eq_true (by omega)]
    have HPB := Zh hpb; clear hpb hlen HNZ
    go_region
    all_goals go_wp2_with fail
    all_goals
      refine bodyPost_ret (v := .tuple #[.agg (tyAgg x (.slice a n c)), .bool (decide ((0 : Int) < (n : Int)))]) (by simp [results, Tryz.results60, go_sem, tyAgg, *]) rfl ?_
    all_goals
      exact ⟨((((((((((HB3.out.1.setCell HB3.out.2 _).setCell HB3.out.2 _).setCell HB3.out.2 _).setCell HB3.out.2 _).setCell HB3.out.2 _).setCell HB3.out.2 _).setCell HB3.out.2 _).setCell HB3.out.2 _).setCell HB3.out.2 _).drew), a, n, c, by rw [HX.out, HPB.out]⟩
def fitsV (S : PSchema) (t : Int) (K : Str → Str × Bool) (v : Str) : Bool := hasT S t && (if (typeI S t).syn = 7 then (K v).2 else (keyL (formV (typeI S t).syn) v).2)
set_option maxRecDepth 20000 in
set_option maxHeartbeats 1000000 in
theorem fits_any (S : PSchema) (g : Nat) (t : Int) (K : Str → Str × Bool) (v : ByteArray) (w : World) (h : Sch w g S) (hE : Env w) (hEM : EnvM w) (hK : hasT S t = true → (typeI S t).syn = 7 → KeyAt w (some ⟨g, 0, none⟩) 19 K) :
  Calls Tryz.prog 20 #[.pointer (some ⟨g, 0, none⟩), .int .i64 t, .string v] w fun e w' => e = .returned (.bool (fitsV S t K (toL v))) ∧ Below w.heap.size w w' := by
 have hm := mfull_any S g t w h
 have hsy : hasT S t = true → 0 ≤ (typeI S t).syn ∧ (typeI S t).syn ≤ 8 := fun hh => by
  have h1 := of_decide_eq_true hh
  have := (newE_ok (S := S) (by rw [h.ok])).syn (t := t.toNat) (by omega)
  unfold typeI; rw [if_pos h1]; exact this
 unfold MFullPost at hm
 obtain ⟨fv, hfv⟩ : ∃ fv, fitsV S t K (toL v) = fv := ⟨_, rfl⟩
 have hfv2 := hfv
 unfold fitsV at hfv2
 rw [hfv]
 generalize typeI S t = x at hm hsy hK hfv2
 unfold tyAgg at hm
 cases hh : hasT S t with
 | false =>
  rw [hh] at hm hfv2
  have HM := Zh hm; have HF := Zh hfv2; clear hm hfv2 hfv hsy hK hh hE hEM h
  go_enter Tryz.func20, Tryz.ntmps20
  go_wp2_with (first | (go_at_call 60; refine (HM.out).mono ?_; rintro e w1 ⟨hb1, a, n, c, rfl⟩; have HB1 := Zh hb1; clear hb1) | fail)
  go_ret
  exact ⟨by rw [← HF.out]; rfl, HB1.out.alloc HB1.out.size _⟩
 | true =>
  rw [hh] at hm hfv2
  have hsy := hsy hh
  by_cases h7 : x.syn = 7
  ·rw [if_pos h7] at hfv2
   have hk := fun w' (hb : Below w.heap.size w w') => hK hh h7 w' v hb
   generalize K (toL v) = k at hk hfv2
   obtain ⟨kl, kb⟩ := k
   unfold ret2 at hk
   have HM := Zh hm; have HF := Zh hfv2; have HK := Zh hk; have H7 := Zh h7; clear hm hfv2 hfv hsy hK hh hE hEM h hk h7
   go_enter Tryz.func20, Tryz.ntmps20
   go_upto_region 4 with (first | (go_at_call 60; refine (HM.out).mono ?_; rintro e w1 ⟨hb1, a, n, c, rfl⟩; have HB1 := Zh hb1; clear hb1) | fail)
   have hx3 : TyBlk (w1.alloc (.cells #[.string x.oid, .slice a n c, .string x.sup, .int .i8 x.syn, .int .i8 x.eq, .int .i8 x.ord, .int .i8 x.part, .bool x.single, .int .u8 x.index] 46)) w1.heap.size x (.slice a n c) := TyBlk.made w1 x (.slice a n c) 46
   have hb3 : Below w.heap.size w (w1.alloc (.cells #[.string x.oid, .slice a n c, .string x.sup, .int .i8 x.syn, .int .i8 x.eq, .int .i8 x.ord, .int .i8 x.part, .bool x.single, .int .u8 x.index] 46)) := HB1.out.alloc HB1.out.size _
   generalize w1.alloc (.cells #[.string x.oid, .slice a n c, .string x.sup, .int .i8 x.syn, .int .i8 x.eq, .int .i8 x.ord, .int .i8 x.part, .bool x.single, .int .u8 x.index] 46) = w3 at hb3 hx3 ⊢
   have c3 := hx3.c3
   rw [H7.out] at c3
   have HB3 := Zh hb3; clear hb3 hx3
   go_wp2_with (first | (go_at_call 11; refine (HK.out _ HB3.out).mono ?_; rintro e w4 ⟨rfl, hb4⟩; have HB4 := Zh (bnext HB3.out hb4); clear hb4) | fail)
   go_ret
   exact ⟨by rw [← HF.out]; rfl, HB4.out⟩
  ·rw [if_neg h7] at hfv2
   have hb7 : (x.syn == 7) = false := beq_eq_false_iff_ne.2 h7
   obtain ⟨q, hq⟩ : ∃ q : Nat, x.syn = (q : Int) := ⟨x.syn.toNat, by omega⟩
   have hq9 : q < 9 := by omega
   have hfc := fun w' (hb : Below w.heap.size w w') => (hEM.next hb).forms q formsV[q] (List.getElem?_eq_getElem hq9)
   have hfe : formV x.syn = formsV[q] := by unfold formV; rw [hq]; simp only [Int.toNat_natCast]; rw [List.getD_eq_getElem?_getD, List.getElem?_eq_getElem hq9]; rfl
   rw [hfe] at hfv2
   generalize formsV[q] = fm at hfc hfv2
   have hk := fun w' (hb : Below w.heap.size w w') => key_any fm v w' (hE.next hb)
   change ∀ w' (_ : Below w.heap.size w w'), Calls Tryz.prog 52 #[.int .i8 fm, .string v] w' fun e w'' => e = .returned (ret2 (keyL fm (toL v))) ∧ Below w'.heap.size w' w'' at hk
   generalize keyL fm (toL v) = k at hk hfv2
   obtain ⟨kl, kb⟩ := k
   unfold ret2 at hk
   rw [hq] at hb7
   have hqi : (q : Int) < 9 := by omega
   have hqi0 : (0 : Int) ≤ (q : Int) := by omega
   have HM := Zh hm; have HF := Zh hfv2; have HK := Zh hk; have HQ := Zh hq; have HFC := Zh hfc; clear hm hfv2 hfv hsy hK hh hE hEM h hk h7 hq hfc hfe
   go_enter Tryz.func20, Tryz.ntmps20
   go_upto_region 4 with (first | (go_at_call 60; refine (HM.out).mono ?_; rintro e w1 ⟨hb1, a, n, c, rfl⟩; have HB1 := Zh hb1; clear hb1) | fail)
   have hx3 : TyBlk (w1.alloc (.cells #[.string x.oid, .slice a n c, .string x.sup, .int .i8 x.syn, .int .i8 x.eq, .int .i8 x.ord, .int .i8 x.part, .bool x.single, .int .u8 x.index] 46)) w1.heap.size x (.slice a n c) := TyBlk.made w1 x (.slice a n c) 46
   have hb3 : Below w.heap.size w (w1.alloc (.cells #[.string x.oid, .slice a n c, .string x.sup, .int .i8 x.syn, .int .i8 x.eq, .int .i8 x.ord, .int .i8 x.part, .bool x.single, .int .u8 x.index] 46)) := HB1.out.alloc HB1.out.size _
   generalize w1.alloc (.cells #[.string x.oid, .slice a n c, .string x.sup, .int .i8 x.syn, .int .i8 x.eq, .int .i8 x.ord, .int .i8 x.part, .bool x.single, .int .u8 x.index] 46) = w3 at hb3 hx3 ⊢
   have c3 := hx3.c3
   rw [HQ.out] at c3
   have cf := HFC.out w3 hb3
   have HB3 := Zh hb3; clear hb3 hx3
   go_wp2_with (first | (go_at_call 52; refine (HK.out _ HB3.out).mono ?_; rintro e w4 ⟨rfl, hb4⟩; have HB4 := Zh (bnext HB3.out hb4); clear hb4) | fail)
   go_ret
   exact ⟨by rw [← HF.out]; rfl, HB4.out⟩
end Go.Proofs.YtlmfbjhokkpjhaaGreatDoor
namespace Go.Proofs.YtlmfbjhokkpjhaaGreatDoor
open Go Go.RowKit
def voiceI (r : Int) : Int :=
 if r = 98 ∨ r = 102 ∨ r = 112 ∨ r = 118 then 49
 else if r = 99 ∨ r = 103 ∨ r = 106 ∨ r = 107 ∨ r = 113 ∨ r = 115 ∨ r = 120 ∨ r = 122 then 50
 else if r = 100 ∨ r = 116 then 51 else if r = 108 then 52 else if r = 109 ∨ r = 110 then 53 else if r = 114 then 54 else 0
set_option maxRecDepth 20000 in
set_option maxHeartbeats 4000000 in
theorem voice_any (r : Int) (w : World) :
  Calls Tryz.prog 154 #[.int .i32 r] w fun e w' => e = .returned (.int .u8 (voiceI r)) ∧ w' = w := by
 go_enter Tryz.func154, Tryz.ntmps154
 go_wp2_with fail
 all_goals (
  go_ret
  refine ⟨?_, rfl⟩
  simp only [beq_iff_eq, beq_eq_false_iff_ne, ne_eq] at *
  unfold voiceI
  first
  | (rw [if_pos (by omega)] <;> rfl)
  | (rw [if_neg (by omega), if_pos (by omega)] <;> rfl)
  | (rw [if_neg (by omega), if_neg (by omega), if_pos (by omega)] <;> rfl)
  | (rw [if_neg (by omega), if_neg (by omega), if_neg (by omega), if_pos (by omega)] <;> rfl)
  | (rw [if_neg (by omega), if_neg (by omega), if_neg (by omega), if_neg (by omega), if_pos (by omega)] <;> rfl)
  | (rw [if_neg (by omega), if_neg (by omega), if_neg (by omega), if_neg (by omega), if_neg (by omega), if_pos (by omega)] <;> rfl)
  | (rw [if_neg (by omega), if_neg (by omega), if_neg (by omega), if_neg (by omega), if_neg (by omega), if_neg (by omega)] <;> rfl)
  | trace_state)
def parts (r : Nat) : Bool := decide (r < 97) || decide (122 < r)
set_option maxRecDepth 20000 in
theorem part_any (r : Int) (w : World) :
  Calls Tryz.prog 105 #[.int .i32 r] w fun e w' => e = .returned (.bool (decide (r < 97) || decide (122 < r))) ∧ w' = w := by
 by_cases h1 : r < 97
 ·go_enter Tryz.func105, Tryz.ntmps105
  go_wp2_with fail
  go_ret
  exact ⟨by simp only [decide_eq_true h1, Bool.true_or]; rfl, rfl⟩
 ·by_cases h2 : 122 < r
  ·have g1 : ¬ r < 97 := h1
   go_enter Tryz.func105, Tryz.ntmps105
   go_wp2_with fail
   go_ret
   exact ⟨rfl, rfl⟩
  ·have H := Zh (Zi h1 h2)
   go_enter Tryz.func105, Tryz.ntmps105
   go_wp2_with fail
   go_ret
   exact ⟨by rw [decide_eq_false (by omega : ¬ r < 97), decide_eq_false (by omega : ¬ 122 < r)]; rfl, rfl⟩
theorem parts_runes (w : World) : PredAtRunes Tryz.prog 105 #[] parts w := fun W x hx hb => by
 have h := part_any (x : Int) W
 have e : (decide ((x : Int) < 97) || decide (122 < (x : Int))) = parts x := by
  unfold parts
  congr 1 <;> (apply decide_eq_decide.2; omega)
 rw [e] at h
 exact Calls.mono h fun e w' ⟨a, b⟩ => ⟨a, 0, b⟩
end Go.Proofs.YtlmfbjhokkpjhaaGreatDoor
