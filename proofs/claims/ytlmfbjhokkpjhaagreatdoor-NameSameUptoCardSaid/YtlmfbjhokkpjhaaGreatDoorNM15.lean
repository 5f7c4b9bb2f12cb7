/- Part 15 of the walks and plain laws, joined: NewM, NewMade, NewM2. -/
import Derived.Test.YtlmfbjhokkpjhaaGreatDoorNM00
import Derived.Test.YtlmfbjhokkpjhaaGreatDoorNM12
import Derived.Test.YtlmfbjhokkpjhaaGreatDoorNM14
import Derived.Laws.MakeOwn
set_option linter.unusedVariables false
set_option linter.unusedSimpArgs false
namespace Go.Proofs.YtlmfbjhokkpjhaaGreatDoor
open Go Go.RowKit Go.Maps
theorem Types.up {B B' : Nat} {w : World} {a : Option Addr} {n c : Nat} {l : List PType} (h : Types B w a n c l) (hb : B ≤ B') : Types B' w a n c l := h.keep (Zl _ _) hb
theorem Classes.up {B B' : Nat} {w : World} {a : Option Addr} {n c : Nat} {l : List PClass} (h : Classes B w a n c l) (hb : B ≤ B') : Classes B' w a n c l := h.keep (Zl _ _) hb
theorem cell_chg {T : Nat → Prop} {w w' : World} (k : Chg T w w') {p : Addr} {v : Value} (h : w.cell? p = some v) (hn : ¬ T p.block) : w'.cell? p = some v := by
 rw [World.cell?_of_block (a := p) (k.block p.block (Zb w _ h) hn)]; exact h
structure New0 (S : PSchema) (w0 w : World) (B b0 M g mt mc : Nat) (a a2 a' a2' : Option Addr) (n c n2 c2 c' c2' N N2 : Nat) (fT fC : Str → Option Nat) : Prop where
 hb : Below w0.heap.size w0 w
 b0e : w0.heap.size = b0 ∧ B ≤ b0 ∧ b0 < mt ∧ mc = mt + 1 ∧ g = mt + 2 ∧ M = mt + 3 ∧ M < w.heap.size
 s0 : w.cell? ⟨b0, 0, none⟩ = some (.slice a n c)
 s1 : w.cell? ⟨b0, 1, none⟩ = some (.slice a2 n2 c2)
 m : w.cell? ⟨M, 0, none⟩ = some (.pointer (some ⟨g, 0, none⟩))
 g0 : w.cell? ⟨g, 0, none⟩ = some (.slice a' n c')
 g1 : w.cell? ⟨g, 1, none⟩ = some (.slice a2' n2 c2')
 g2 : w.cell? ⟨g, 2, none⟩ = some (.map (some mt))
 g3 : w.cell? ⟨g, 3, none⟩ = some (.map (some mc))
 g4 : w.cell? ⟨g, 4, none⟩ = some (.slice none 0 0)
 g5 : w.cell? ⟨g, 5, none⟩ = some (.slice none 0 0)
 g6 : w.cell? ⟨g, 6, none⟩ = some (.slice none 0 0)
 fr : ∀ j, w.frozen? ⟨g, j, none⟩ = false
 ty : Types B w a n c S.types
 cl : Classes B w a2 n2 c2 S.classes
 ty' : Types mt w a' n c' S.types
 cl' : Classes mt w a2' n2 c2' S.classes
 mapT : MapIs w mt N fT
 mapC : MapIs w mc N2 fC
section
variable {S : PSchema} {w0 w w' : World} {B b0 M g mt mc : Nat} {a a2 a' a2' : Option Addr} {n c n2 c2 c' c2' N N2 : Nat} {fT fC : Str → Option Nat}
theorem New0.keep (h : New0 S w0 w B b0 M g mt mc a a2 a' a2' n c n2 c2 c' c2' N N2 fT fC) (k : Below w.heap.size w w') : New0 S w0 w' B b0 M g mt mc a a2 a' a2' n c n2 c2 c' c2' N N2 fT fC where
 hb := bnext h.hb k
 b0e := by obtain ⟨h1, h2, h3, h4, h5, h6, h7⟩ := h.b0e; exact ⟨h1, h2, h3, h4, h5, h6, Nat.lt_of_lt_of_le h7 k.size⟩
 s0 := by rw [k.cell (Zb w _ h.s0)]; exact h.s0
 s1 := by rw [k.cell (Zb w _ h.s1)]; exact h.s1
 m := by rw [k.cell (Zb w _ h.m)]; exact h.m
 g0 := by rw [k.cell (Zb w _ h.g0)]; exact h.g0
 g1 := by rw [k.cell (Zb w _ h.g1)]; exact h.g1
 g2 := by rw [k.cell (Zb w _ h.g2)]; exact h.g2
 g3 := by rw [k.cell (Zb w _ h.g3)]; exact h.g3
 g4 := by rw [k.cell (Zb w _ h.g4)]; exact h.g4
 g5 := by rw [k.cell (Zb w _ h.g5)]; exact h.g5
 g6 := by rw [k.cell (Zb w _ h.g6)]; exact h.g6
 fr := fun j => by rw [k.frozen (p := ⟨g, j, none⟩) (show g < _ from Zb w _ h.g0)]; exact h.fr j
 ty := h.ty.keep (k.mono (by have := h.b0e; omega)) (Zr _)
 cl := h.cl.keep (k.mono (by have := h.b0e; omega)) (Zr _)
 ty' := h.ty'.keep (k.mono (by have := h.b0e; omega)) (Zr _)
 cl' := h.cl'.keep (k.mono (by have := h.b0e; omega)) (Zr _)
 mapT := h.mapT.keep k h.mapT.lt
 mapC := h.mapC.keep k h.mapC.lt
theorem New0.putT {N' : Nat} {fT' : Str → Option Nat} (h : New0 S w0 w B b0 M g mt mc a a2 a' a2' n c n2 c2 c' c2' N N2 fT fC) (k : Chg (· = mt) w w') (hm : MapIs w' mt N' fT') : New0 S w0 w' B b0 M g mt mc a a2 a' a2' n c n2 c2 c' c2' N' N2 fT' fC where
 hb := h.hb.trans (k.below h.hb.size fun b hb e => by have := h.b0e; omega)
 b0e := by obtain ⟨h1, h2, h3, h4, h5, h6, h7⟩ := h.b0e; exact ⟨h1, h2, h3, h4, h5, h6, Nat.lt_of_lt_of_le h7 k.size⟩
 s0 := cell_chg k h.s0 (by show ¬ b0 = mt; have := h.b0e; omega)
 s1 := cell_chg k h.s1 (by show ¬ b0 = mt; have := h.b0e; omega)
 m := cell_chg k h.m (by show ¬ M = mt; have := h.b0e; omega)
 g0 := cell_chg k h.g0 (by show ¬ g = mt; have := h.b0e; omega)
 g1 := cell_chg k h.g1 (by show ¬ g = mt; have := h.b0e; omega)
 g2 := cell_chg k h.g2 (by show ¬ g = mt; have := h.b0e; omega)
 g3 := cell_chg k h.g3 (by show ¬ g = mt; have := h.b0e; omega)
 g4 := cell_chg k h.g4 (by show ¬ g = mt; have := h.b0e; omega)
 g5 := cell_chg k h.g5 (by show ¬ g = mt; have := h.b0e; omega)
 g6 := cell_chg k h.g6 (by show ¬ g = mt; have := h.b0e; omega)
 fr := fun j => by rw [World.frozen?_of_block (a := ⟨g, j, none⟩) (k.block g (Zb w _ h.g0) (by have := h.b0e; omega))]; exact h.fr j
 ty := h.ty.keep (k.below (by have := h.b0e; omega) fun b hb e => by have := h.b0e; omega) (Zr _)
 cl := h.cl.keep (k.below (by have := h.b0e; omega) fun b hb e => by have := h.b0e; omega) (Zr _)
 ty' := h.ty'.keep (k.below (by have := h.b0e; omega) fun b hb e => by omega) (Zr _)
 cl' := h.cl'.keep (k.below (by have := h.b0e; omega) fun b hb e => by omega) (Zr _)
 mapT := hm
 mapC := h.mapC.of_block (k.block mc h.mapC.lt (by have := h.b0e; omega))
theorem New0.putC {N' : Nat} {fC' : Str → Option Nat} (h : New0 S w0 w B b0 M g mt mc a a2 a' a2' n c n2 c2 c' c2' N N2 fT fC) (k : Chg (· = mc) w w') (hm : MapIs w' mc N' fC') : New0 S w0 w' B b0 M g mt mc a a2 a' a2' n c n2 c2 c' c2' N N' fT fC' where
 hb := h.hb.trans (k.below h.hb.size fun b hb e => by have := h.b0e; omega)
 b0e := by obtain ⟨h1, h2, h3, h4, h5, h6, h7⟩ := h.b0e; exact ⟨h1, h2, h3, h4, h5, h6, Nat.lt_of_lt_of_le h7 k.size⟩
 s0 := cell_chg k h.s0 (by show ¬ b0 = mc; have := h.b0e; omega)
 s1 := cell_chg k h.s1 (by show ¬ b0 = mc; have := h.b0e; omega)
 m := cell_chg k h.m (by show ¬ M = mc; have := h.b0e; omega)
 g0 := cell_chg k h.g0 (by show ¬ g = mc; have := h.b0e; omega)
 g1 := cell_chg k h.g1 (by show ¬ g = mc; have := h.b0e; omega)
 g2 := cell_chg k h.g2 (by show ¬ g = mc; have := h.b0e; omega)
 g3 := cell_chg k h.g3 (by show ¬ g = mc; have := h.b0e; omega)
 g4 := cell_chg k h.g4 (by show ¬ g = mc; have := h.b0e; omega)
 g5 := cell_chg k h.g5 (by show ¬ g = mc; have := h.b0e; omega)
 g6 := cell_chg k h.g6 (by show ¬ g = mc; have := h.b0e; omega)
 fr := fun j => by rw [World.frozen?_of_block (a := ⟨g, j, none⟩) (k.block g (Zb w _ h.g0) (by have := h.b0e; omega))]; exact h.fr j
 ty := h.ty.keep (k.below (by have := h.b0e; omega) fun b hb e => by have := h.b0e; omega) (Zr _)
 cl := h.cl.keep (k.below (by have := h.b0e; omega) fun b hb e => by have := h.b0e; omega) (Zr _)
 ty' := h.ty'.keep (k.below (by have := h.b0e; omega) fun b hb e => by have := h.b0e; omega) (Zr _)
 cl' := h.cl'.keep (k.below (by have := h.b0e; omega) fun b hb e => by have := h.b0e; omega) (Zr _)
 mapT := h.mapT.of_block (k.block mt h.mapT.lt (by have := h.b0e; omega))
 mapC := hm
theorem New0.base (h : New0 S w0 w B b0 M g mt mc a a2 a' a2' n c n2 c2 c' c2' N N2 (placeOf (tK S)) (placeOf (cK S))) : Mk w g S where
 lt := Zb w _ h.g0
 types := ⟨a', n, c', h.g0, h.ty'.up (by have := h.b0e; omega)⟩
 classes := ⟨a2', n2, c2', h.g1, h.cl'.up (by have := h.b0e; omega)⟩
 tm := ⟨mt, N, h.g2, by have := h.b0e; omega, h.mapT⟩
 cm := ⟨mc, N2, h.g3, by have := h.b0e; omega, h.mapC⟩
end
def NewPost (S : PSchema) (w : World) (e : Ending) (w' : World) : Prop :=
 Below w.heap.size w w' ∧ ((newE S = (0, 0) ∧ ∃ g, e = .returned (.tuple #[.pointer (some ⟨g, 0, none⟩), .int .i64 0, .int .i64 0]) ∧ Sch w' g S) ∨
  ((newE S).1 ≠ 0 ∧ e = .returned (.tuple #[.pointer none, .int .i64 (newE S).1, .int .i64 ((newE S).2 : Nat)])))
theorem take_keysT (S : PSchema) {i : Nat} (h : i < S.types.length) : placeOf ((tK S).take (i + 1)) = addKeys (placeOf ((tK S).take i)) i (keysN (S.types[i]).oid (S.types[i]).names) := by
 have h2 : i < (tK S).length := by simpa [tK] using h
 funext k
 rw [List.take_succ_eq_append_getElem h2, placeOf_snoc]
 have h3 : ((tK S).take i).length = i := by rw [List.length_take]; omega
 rw [h3]
 simp only [tK, List.getElem_map]
 rfl
theorem take_keysC (S : PSchema) {i : Nat} (h : i < S.classes.length) : placeOf ((cK S).take (i + 1)) = addKeys (placeOf ((cK S).take i)) i (keysN (S.classes[i]).oid (S.classes[i]).names) := by
 have h2 : i < (cK S).length := by simpa [cK] using h
 funext k
 rw [List.take_succ_eq_append_getElem h2, placeOf_snoc]
 have h3 : ((cK S).take i).length = i := by rw [List.length_take]; omega
 rw [h3]
 simp only [cK, List.getElem_map]
 rfl
theorem firstE_at (f : Nat → Int) (i m : Nat) (h : f i = 0) : firstE f i (m + 1) = firstE f (i + 1) m := by
 show (if f i ≠ 0 then some (f i, i) else firstE f (i + 1) m) = _
 rw [if_neg (by simpa using h)]
theorem firstE_hit (f : Nat → Int) (i m : Nat) (h : f i ≠ 0) : firstE f i (m + 1) = some (f i, i) := by
 show (if f i ≠ 0 then some (f i, i) else firstE f (i + 1) m) = _
 rw [if_pos h]
theorem newE_big {S : PSchema} (h : 1024 < S.types.length ∨ 1024 < S.classes.length) : newE S = (3, 0) := by unfold newE; rw [if_pos h]
theorem newE_type {S : PSchema} (h : ¬ (1024 < S.types.length ∨ 1024 < S.classes.length)) {p : Int × Nat} (hf : firstE (typeE S) 0 S.types.length = some p) : newE S = p := by
 unfold newE; rw [if_neg h, hf]
theorem newE_class {S : PSchema} (h : ¬ (1024 < S.types.length ∨ 1024 < S.classes.length)) {p : Int × Nat} (hf : firstE (typeE S) 0 S.types.length = none) (hc : firstE (classE S) 0 S.classes.length = some p) : newE S = (p.1, S.types.length + p.2) := by
 unfold newE; rw [if_neg h, hf]; simp only; rw [hc]
theorem newE_obj {S : PSchema} (h : ¬ (1024 < S.types.length ∨ 1024 < S.classes.length)) (hf : firstE (typeE S) 0 S.types.length = none) (hc : firstE (classE S) 0 S.classes.length = none) : newE S = (objE S, 0) := by
 unfold newE; rw [if_neg h, hf]; simp only; rw [hc]
structure New5 (S : PSchema) (w0 w : World) (b0 M g : Nat) (a a2 : Option Addr) (n c n2 c2 : Nat) : Prop where
 hb : Below w0.heap.size w0 w
 b0e : w0.heap.size = b0 ∧ b0 < g ∧ M = g + 1
 s0 : w.cell? ⟨b0, 0, none⟩ = some (.slice a n c)
 m : w.cell? ⟨M, 0, none⟩ = some (.pointer (some ⟨g, 0, none⟩))
 fr : ∀ j, w.frozen? ⟨g, j, none⟩ = false
 base : Mk w g S
theorem New5.keep {S : PSchema} {w0 w w' : World} {b0 M g : Nat} {a a2 : Option Addr} {n c n2 c2 : Nat} (h : New5 S w0 w b0 M g a a2 n c n2 c2) (k : Below w.heap.size w w') : New5 S w0 w' b0 M g a a2 n c n2 c2 where
 hb := bnext h.hb k
 b0e := h.b0e
 s0 := by rw [k.cell (Zb w _ h.s0)]; exact h.s0
 m := by rw [k.cell (Zb w _ h.m)]; exact h.m
 fr := fun j => by rw [k.frozen (p := ⟨g, j, none⟩) h.base.lt]; exact h.fr j
 base := h.base.keep k
theorem New5.turn {S : PSchema} {w0 w w' : World} {b0 M g : Nat} {a a2 : Option Addr} {n c n2 c2 : Nat} (h : New5 S w0 w b0 M g a a2 n c n2 c2) {T : Nat → Prop} (k : Chg T w w') (hT : ∀ b, T b → M < b) : New5 S w0 w' b0 M g a a2 n c n2 c2 where
 hb := h.hb.trans (k.below h.hb.size fun b hb e => by have := h.b0e; have := hT b e; omega)
 b0e := h.b0e
 s0 := cell_chg k h.s0 (fun e => by have := h.b0e; have := hT _ e; simp only at this; omega)
 m := cell_chg k h.m (fun e => by have := hT _ e; simp only at this; omega)
 fr := fun j => by rw [World.frozen?_of_block (a := ⟨g, j, none⟩) (k.block g h.base.lt (fun e => by have := h.b0e; have := hT _ e; omega))]; exact h.fr j
 base := h.base.keep4 (k.below (Nat.le_of_lt h.base.lt) fun b hb e => by have := h.b0e; have := hT b e; omega) k.size fun j _ => World.cell?_of_block (a := ⟨g, j, none⟩) (k.block g h.base.lt (fun e => by have := h.b0e; have := hT _ e; omega))
theorem New5.setG {S : PSchema} {w0 w : World} {b0 M g : Nat} {a a2 : Option Addr} {n c n2 c2 : Nat} (h : New5 S w0 w b0 M g a a2 n c n2 c2) {j : Nat} (hj : 4 ≤ j) (v : Value) : New5 S w0 (w.setCell ⟨g, j, none⟩ v) b0 M g a a2 n c n2 c2 where
 hb := h.hb.setCell (by have := h.b0e; show w0.heap.size ≤ g; omega) v
 b0e := h.b0e
 s0 := by rw [World.cell?_setCell_other _ _ _ _ (by intro e; injection e with e1 _ _; have := h.b0e; omega)]; exact h.s0
 m := by rw [World.cell?_setCell_other _ _ _ _ (by intro e; injection e with e1 _ _; have := h.b0e; omega)]; exact h.m
 fr := fun i => by rw [World.frozen?_setCell]; exact h.fr i
 base := h.base.keep4 ((Zl _ w).setCell (Zr g) v) (by rw [size_set]; exact Zr _) fun i hi => World.cell?_setCell_other _ _ _ _ (by intro e; injection e with _ e2 _; omega)
def laidN (w2 : World) (a' a2' : Option Addr) (n c' n2 c2' : Nat) : World :=
 (((w2.alloc (.map #[] 0)).alloc (.map #[] 0)).alloc (.cells #[.slice a' n c', .slice a2' n2 c2', .map (some w2.heap.size), .map (some (w2.heap.size + 1)), .slice none 0 0, .slice none 0 0, .slice none 0 0] 84)).alloc (.cells #[.pointer (some ⟨w2.heap.size + 1 + 1, 0, none⟩)] 86)
theorem New0.made (S : PSchema) {w w2 : World} {B : Nat} {a a2 a' a2' : Option Addr} {n c n2 c2 c' c2' : Nat} (hB : B ≤ w.heap.size)
  (h : Types B w a n c S.types) (h2 : Classes B w a2 n2 c2 S.classes)
  (hb2 : Below (w.alloc (.cells #[.slice a n c, .slice a2 n2 c2] 25)).heap.size (w.alloc (.cells #[.slice a n c, .slice a2 n2 c2] 25)) w2)
  (ht : Types w2.heap.size w2 a' n c' S.types) (hc : Classes w2.heap.size w2 a2' n2 c2' S.classes) :
  New0 S w (laidN w2 a' a2' n c' n2 c2') B w.heap.size (w2.heap.size + 1 + 1 + 1) (w2.heap.size + 1 + 1) w2.heap.size (w2.heap.size + 1) a a2 a' a2' n c n2 c2 c' c2' 0 0 (placeOf ((tK S).take 0)) (placeOf ((cK S).take 0)) := by
 have hk : Below w2.heap.size w2 (laidN w2 a' a2' n c' n2 c2') := ((((Zl _ w2).alloc (Zr _) _).alloc (by simp) _).alloc (by simp; omega) _).alloc (by simp; omega) _
 have hbx : Below w.heap.size w (w.alloc (.cells #[.slice a n c, .slice a2 n2 c2] 25)) := (Zl _ w).alloc (Zr _) _
 have hw2 : w.heap.size + 1 ≤ w2.heap.size := by have := hb2.size; simpa using this
 have hba : Below w.heap.size w (laidN w2 a' a2' n c' n2 c2') := bnext (bnext hbx hb2) hk
 have hsz : (laidN w2 a' a2' n c' n2 c2').heap.size = w2.heap.size + 4 := by simp [laidN]
 have hs : ∀ j v, (#[.slice a n c, .slice a2 n2 c2] : Array Value)[j]? = some v → (laidN w2 a' a2' n c' n2 c2').cell? ⟨w.heap.size, j, none⟩ = some v := fun j v hv => by
  rw [hk.cell (p := ⟨w.heap.size, j, none⟩) (show w.heap.size < _ by omega), hb2.cell (p := ⟨w.heap.size, j, none⟩) (by simp), World.cell?_alloc_new]; exact hv
 have e1 : (w2.alloc (.map #[] 0)).heap.size = w2.heap.size + 1 := by simp
 have e2 : ((w2.alloc (.map #[] 0)).alloc (.map #[] 0)).heap.size = w2.heap.size + 1 + 1 := by simp
 generalize hcs : (#[.slice a' n c', .slice a2' n2 c2', .map (some w2.heap.size), .map (some (w2.heap.size + 1)), .slice none 0 0, .slice none 0 0, .slice none 0 0] : Array Value) = cs
 have e3 : (((w2.alloc (.map #[] 0)).alloc (.map #[] 0)).alloc (.cells cs 84)).heap.size = w2.heap.size + 1 + 1 + 1 := by simp
 have hg : ∀ j v, cs[j]? = some v → (laidN w2 a' a2' n c' n2 c2').cell? ⟨w2.heap.size + 1 + 1, j, none⟩ = some v := fun j v hv => by
  unfold laidN
  rw [hcs, World.cell?_alloc_lt _ _ _ (by show w2.heap.size + 1 + 1 < _; rw [e3]; omega)]
  have := World.cell?_alloc_new ((w2.alloc (.map #[] 0)).alloc (.map #[] 0)) cs 84 j
  rw [e2] at this
  rw [this]; exact hv
 have hm : (laidN w2 a' a2' n c' n2 c2').cell? ⟨w2.heap.size + 1 + 1 + 1, 0, none⟩ = some (.pointer (some ⟨w2.heap.size + 1 + 1, 0, none⟩)) := by
  unfold laidN
  rw [hcs]
  have := World.cell?_alloc_new (((w2.alloc (.map #[] 0)).alloc (.map #[] 0)).alloc (.cells cs 84)) #[.pointer (some ⟨w2.heap.size + 1 + 1, 0, none⟩)] 86 0
  rw [e3] at this
  rw [this]; rfl
 have hfr : ∀ j, (laidN w2 a' a2' n c' n2 c2').frozen? ⟨w2.heap.size + 1 + 1, j, none⟩ = false := fun j => by
  refine frozen_of_row _ _ j cs 84 ?_
  unfold laidN
  rw [hcs, Below.heap_alloc _ _ _ (by rw [e3]; omega)]
  have := heap_alloc_new ((w2.alloc (.map #[] 0)).alloc (.map #[] 0)) (.cells cs 84)
  rw [e2] at this
  exact this
 subst hcs
 have hmT : MapIs (laidN w2 a' a2' n c' n2 c2') w2.heap.size 0 (fun _ => none) := by
  have h0 := MapIs.made w2
  have h1 := h0.keep ((Zl _ (w2.alloc (.map #[] 0))).alloc (Zr _) (.map #[] 0)) h0.lt
  have h3 := h1.keep ((((Zl _ ((w2.alloc (.map #[] 0)).alloc (.map #[] 0))).alloc (Zr _) (.cells #[.slice a' n c', .slice a2' n2 c2', .map (some w2.heap.size), .map (some (w2.heap.size + 1)), .slice none 0 0, .slice none 0 0, .slice none 0 0] 84))).alloc (by simp) (.cells #[.pointer (some ⟨w2.heap.size + 1 + 1, 0, none⟩)] 86)) h1.lt
  exact h3
 have hmC : MapIs (laidN w2 a' a2' n c' n2 c2') (w2.heap.size + 1) 0 (fun _ => none) := by
  have h0 := MapIs.made (w2.alloc (.map #[] 0))
  have h3 := h0.keep ((((Zl _ ((w2.alloc (.map #[] 0)).alloc (.map #[] 0))).alloc (Zr _) (.cells #[.slice a' n c', .slice a2' n2 c2', .map (some w2.heap.size), .map (some (w2.heap.size + 1)), .slice none 0 0, .slice none 0 0, .slice none 0 0] 84))).alloc (by simp) (.cells #[.pointer (some ⟨w2.heap.size + 1 + 1, 0, none⟩)] 86)) h0.lt
  rw [e1] at h3
  exact h3
 exact ⟨hba, ⟨rfl, hB, by omega, rfl, rfl, rfl, by omega⟩, hs 0 _ rfl, hs 1 _ rfl, hm, hg 0 _ rfl, hg 1 _ rfl, hg 2 _ rfl, hg 3 _ rfl, hg 4 _ rfl, hg 5 _ rfl, hg 6 _ rfl, hfr,
  h.keep (hba.mono hB) (Zr _), h2.keep (hba.mono hB) (Zr _), ht.keep hk (Zr _), hc.keep hk (Zr _), hmT, hmC⟩
structure New6 (S : PSchema) (w0 w : World) (b0 M g : Nat) (a a2 : Option Addr) (n c n2 c2 bb m : Nat) (go : Option Nat) (cap : Nat) (nv : Nat → Value) (L : Nat → List Nat) (f : Nat → Option Nat × Nat) : Prop where
 five : New5 S w0 w b0 M g a a2 n c n2 c2
 g4 : w.cell? ⟨g, 4, none⟩ = some (sv go m cap)
 own : Own w 46 9 go m cap (fullCells S nv m)
 nv : NvOk g w S nv m
 g5 : w.cell? ⟨g, 5, none⟩ = some (.slice (some ⟨bb, 0, none⟩) n n)
 bel : Bel w bb n L f
 lo : M < bb ∧ ∀ b, go = some b → M < b ∧ b ≠ bb ∧ ∀ p, p < n → (f p).1 ≠ some b
 ab : ∃ hi g6 c6 vs, hi ≤ bb ∧ (∀ b, go = some b → hi ≤ b) ∧ Ups w g M hi S S.classes.length g6 c6 vs
section
variable {S : PSchema} {w0 w w' wa : World} {b0 M g : Nat} {a a2 : Option Addr} {n c n2 c2 bb m : Nat} {go : Option Nat} {cap : Nat} {nv : Nat → Value} {L : Nat → List Nat} {f : Nat → Option Nat × Nat}
theorem New6.keep (h : New6 S w0 w b0 M g a a2 n c n2 c2 bb m go cap nv L f) (k : Below w.heap.size w w') : New6 S w0 w' b0 M g a a2 n c n2 c2 bb m go cap nv L f where
 five := h.five.keep k
 g4 := by rw [k.cell (Zb w _ h.g4)]; exact h.g4
 own := h.own.keep fun b hb => k.block b (by have := h.own; rw [hb] at this; exact this.row.lt)
 nv := h.nv.keep (k.mono (Nat.le_of_lt h.five.base.lt))
 g5 := by rw [k.cell (Zb w _ h.g5)]; exact h.g5
 bel := h.bel.keep k
 lo := h.lo
 ab := by
  obtain ⟨hi, g6, c6, vs, h1, h2, h3⟩ := h.ab
  exact ⟨hi, g6, c6, vs, h1, h2, h3.keep (by have := h.bel.lt; omega) k⟩
theorem chg_grown {row : Option Nat} (k : wa.grownBy w' row) : Chg (fun b => row = some b) wa w' := Chg.grown (Chg.refl _ _) k fun _ hb _ => hb
theorem New6.pushFull (h : New6 S w0 w b0 M g a a2 n c n2 c2 bb m go cap nv L f) (k0 : Below w.heap.size w wa) {g' cap' : Nat} {na : Option Addr} {nn nc : Nat}
  (ho : Own w' 46 9 (some g') (m + 1) cap' (fullCells S nv m ++ (tyAgg (fullT S m) (.slice na nn nc)).toList)) (hg : wa.grownBy w' go) (hat : go = some g' ∨ g' = wa.heap.size) (ht : Texts g wa na nn nc (fullT S m).names) :
  New6 S w0 (w'.setCell ⟨g, 4, none⟩ (.slice (some ⟨g', 0, none⟩) (m + 1) cap')) b0 M g a a2 n c n2 c2 bb (m + 1) (some g') cap' (fun t => if t = m then .slice na nn nc else nv t) L f := by
 have hA := h.keep k0
 have hge := hA.five.b0e
 have hch := chg_grown hg
 have hT : ∀ b, go = some b → M < b := fun b e => (hA.lo.2 b e).1
 have h5 : New5 S w0 w' b0 M g a a2 n c n2 c2 := hA.five.turn hch hT
 have hgM : M < g' := by
  rcases hat with e | e
  ·exact hT g' e
  ·rw [e]; have := Zb wa _ hA.five.m; simpa using this
 have hbbT : go ≠ some bb := fun e => (hA.lo.2 bb e).2.1 rfl
 have hbel : Bel w' bb n L f := by
  have hcell : ∀ b, bb ≤ b → b < wa.heap.size → go ≠ some b → w'.heap[b]? = wa.heap[b]? := fun b _ hlt hne => hg.block b hlt (Ne.symm hne)
  refine ⟨Nat.lt_of_lt_of_le hA.bel.lt hg.size, fun p hp => ?_, fun p hp => (hA.bel.own p hp).keep fun b hb => ?_, hA.bel.up, hA.bel.ne, fun j => ?_⟩
  ·rw [World.cell?_of_block (a := ⟨bb, p, none⟩) (hcell bb (Zr _) hA.bel.lt hbbT)]; exact hA.bel.cell p hp
  ·exact hcell b (Nat.le_of_lt (hA.bel.up p hp b hb)) (hA.bel.ptr hp hb) fun e => (hA.lo.2 b e).2.2 p hp hb
  ·rw [World.frozen?_of_block (a := ⟨bb, j, none⟩) (hcell bb (Zr _) hA.bel.lt hbbT)]; exact hA.bel.fr j
 have hg4 : w'.cell? ⟨g, 4, none⟩ = some (sv go m cap) := cell_chg hch hA.g4 (fun e => by have := hT _ e; simp only at this; omega)
 have hg5 : w'.cell? ⟨g, 5, none⟩ = some (.slice (some ⟨bb, 0, none⟩) n n) := cell_chg hch hA.g5 (fun e => by have := hT _ e; simp only at this; omega)
 have hab : ∃ hi g6 c6 vs, hi ≤ bb ∧ (∀ b, some g' = some b → hi ≤ b) ∧ Ups (w'.setCell ⟨g, 4, none⟩ (.slice (some ⟨g', 0, none⟩) (m + 1) cap')) g M hi S S.classes.length g6 c6 vs := by
  obtain ⟨hi, g6, c6, vs, q1, q2, q3⟩ := hA.ab
  refine ⟨hi, g6, c6, vs, q1, fun b e => ?_, q3.keepAt (fun b hb1 hb2 => ?_) ?_⟩
  ·cases e
   rcases hat with e | e
   ·exact q2 _ e
   ·have := hA.bel.lt; omega
  ·rw [Below.heap_setCell w' ⟨g, 4, none⟩ _ b (by show b ≠ g; omega)]
   exact hg.block b (by have := hA.bel.lt; omega) (fun e => by have := q2 b e.symm; omega)
  ·rw [World.cell?_setCell_other _ _ _ _ (by intro e; injection e with _ e2 _; omega)]
   rw [cell_chg hch q3.g6 (fun e => by have := hT _ e; simp only at this; omega), q3.g6]
 refine ⟨h5.setG (Zr 4) _, ?_, ?_, ?_, ?_, ?_, ⟨hA.lo.1, fun b e => ?_⟩, hab⟩
 ·rw [World.cell?_setCell_same _ _ _ hg4]; rfl
 ·rw [fullCells_succ]
  exact ho.keep fun b hb => by cases hb; exact Below.heap_setCell w' ⟨g, 4, none⟩ _ g' (by show g' ≠ g; omega)
 ·have hbw : Below g wa w' := hch.below (Nat.le_of_lt hA.five.base.lt) fun b hb e => by have := hT b e; omega
  have hbs : Below g wa (w'.setCell ⟨g, 4, none⟩ (.slice (some ⟨g', 0, none⟩) (m + 1) cap')) := hbw.setCell (Zr g) _
  exact NvOk.succ (hA.nv.keep hbs) (ht.keep hbs (Zr _))
 ·rw [World.cell?_setCell_other _ _ _ _ (by intro e; injection e with _ e2 _; omega)]; exact hg5
 ·refine hbel.other (by rw [size_set]; exact Zr _) fun b hb _ => Below.heap_setCell w' ⟨g, 4, none⟩ _ b (by have := hA.lo.1; show b ≠ g; omega)
 ·cases e
  refine ⟨hgM, ?_, fun p hp e => ?_⟩
  ·rcases hat with e | e
   ·exact (hA.lo.2 g' e).2.1
   ·have := hA.bel.lt; omega
  ·rcases hat with e2 | e2
   ·exact (hA.lo.2 g' e2).2.2 p hp e
   ·have := hA.bel.ptr hp e; omega
theorem New6.pushBel (h : New6 S w0 w b0 M g a a2 n c n2 c2 bb m go cap nv L f) (k0 : Below w.heap.size w wa) {p : Nat} (hp : p < n) {g' cap' i q : Nat} (hq : q = (L p).length + 1)
  (ho : Own w' 3 1 (some g') q cap' ((L p).map intV ++ [intV i])) (hg : wa.grownBy w' (f p).1) (hat : (f p).1 = some g' ∨ g' = wa.heap.size) :
  New6 S w0 (w'.setCell ⟨bb, p, none⟩ (.slice (some ⟨g', 0, none⟩) q cap')) b0 M g a a2 n c n2 c2 bb m go cap nv (fun r => if r = p then L p ++ [i] else L r) (fun r => if r = p then (some g', cap') else f r) := by
 have hA := h.keep k0
 have hge := hA.five.b0e
 have hch := chg_grown hg
 have hT : ∀ b, (f p).1 = some b → M < b := fun b e => by have := hA.bel.up p hp b e; have := hA.lo.1; omega
 have h5 : New5 S w0 w' b0 M g a a2 n c n2 c2 := hA.five.turn hch hT
 have h5s : New5 S w0 (w'.setCell ⟨bb, p, none⟩ (.slice (some ⟨g', 0, none⟩) q cap')) b0 M g a a2 n c n2 c2 := by
  refine h5.turn (T := fun b => b = bb) (Chg.setCell (p := ⟨bb, p, none⟩) (Chg.refl (fun b => b = bb) w') (fun _ => rfl) _) fun b e => ?_
  rw [e]; exact hA.lo.1
 have hcells : ∀ j v, wa.cell? ⟨g, j, none⟩ = some v → (w'.setCell ⟨bb, p, none⟩ (.slice (some ⟨g', 0, none⟩) q cap')).cell? ⟨g, j, none⟩ = some v := fun j v hv => by
  rw [World.cell?_setCell_other _ _ _ _ (by intro e; injection e with e1 _ _; have := hA.lo.1; omega)]
  exact cell_chg hch hv (fun e => by have := hT _ e; simp only at this; omega)
 have hab : ∃ hi g6 c6 vs, hi ≤ bb ∧ (∀ b, go = some b → hi ≤ b) ∧ Ups (w'.setCell ⟨bb, p, none⟩ (.slice (some ⟨g', 0, none⟩) q cap')) g M hi S S.classes.length g6 c6 vs := by
  obtain ⟨hi, g6, c6, vs, q1, q2, q3⟩ := hA.ab
  refine ⟨hi, g6, c6, vs, q1, q2, q3.keepAt (fun b hb1 hb2 => ?_) ?_⟩
  ·rw [Below.heap_setCell w' ⟨bb, p, none⟩ _ b (by show b ≠ bb; omega)]
   exact hg.block b (by have := hA.bel.lt; omega) (fun e => by have := hA.bel.up p hp b e.symm; omega)
  ·rw [hcells 6 _ q3.g6, q3.g6]
 refine ⟨h5s, hcells 4 _ hA.g4, ?_, ?_, hcells 5 _ hA.g5, hA.bel.app hp hq ho hg hat, ⟨hA.lo.1, fun b e => ?_⟩, hab⟩
 ·refine hA.own.keep fun b hb => ?_
  have h1 := hA.lo.2 b hb
  rw [Below.heap_setCell w' ⟨bb, p, none⟩ _ b h1.2.1]
  exact hg.block b (by have := hA.own; rw [hb] at this; exact this.row.lt) fun e => h1.2.2 p hp e.symm
 ·have hbw : Below g wa w' := hch.below (Nat.le_of_lt hA.five.base.lt) fun b hb e => by have := hT b e; omega
  exact hA.nv.keep (hbw.setCell (by have := hA.lo.1; show g ≤ bb; omega) _)
 ·have h1 := hA.lo.2 b e
  refine ⟨h1.1, h1.2.1, fun r hr e2 => ?_⟩
  by_cases e3 : r = p
  ·simp only [if_pos e3] at e2
   cases e2
   rcases hat with e4 | e4
   ·exact h1.2.2 p hp e4
   ·have := hA.own; rw [e] at this; have := this.row.lt; omega
  ·simp only [if_neg e3] at e2
   exact h1.2.2 r hr e2
end
def belowI (S : PSchema) (i p : Nat) : List Nat := (List.range i).filter fun t => (chainOf S t).1.contains p
def belowK (S : PSchema) (i k p : Nat) : List Nat := if ((chainOf S i).1.take k).contains p then belowI S i p ++ [i] else belowI S i p
theorem belowK_zero (S : PSchema) (i : Nat) : belowK S i 0 = belowI S i := by funext p; simp [belowK]
theorem snoc_has (A : List Nat) (x : Nat) : (A ++ [x]).contains x = true := by simp
theorem snoc_not {A : List Nat} {x r : Nat} (h : ¬ r = x) : (A ++ [x]).contains r = A.contains r := by rw [Bool.eq_iff_iff]; simp [h]
theorem belowK_succ (S : PSchema) (i k : Nat) (hd : (chainOf S i).1.Nodup) (hk : k < (chainOf S i).1.length) :
  (fun r => if r = (chainOf S i).1[k] then belowK S i k (chainOf S i).1[k] ++ [i] else belowK S i k r) = belowK S i (k + 1) := by
 funext r
 have hnot : ((chainOf S i).1.take k).contains (chainOf S i).1[k] = false := by
  rw [Bool.eq_false_iff]
  intro h
  have h2 : (chainOf S i).1[k] ∈ (chainOf S i).1.take k := by simpa using h
  obtain ⟨j, hj, e⟩ := List.mem_iff_getElem.1 h2
  have hj2 : j < k := by have := hj; rw [List.length_take] at this; omega
  rw [List.getElem_take] at e
  have := (List.getElem_inj hd).1 e
  omega
 have htk : (chainOf S i).1.take (k + 1) = (chainOf S i).1.take k ++ [(chainOf S i).1[k]] := List.take_succ_eq_append_getElem hk
 by_cases e : r = (chainOf S i).1[k]
 ·subst e
  rw [if_pos rfl]
  unfold belowK
  rw [hnot, htk, snoc_has, if_pos rfl, if_neg (by simp)]
 ·rw [if_neg e]
  unfold belowK
  rw [htk]
  rw [snoc_not e]
theorem belowK_full (S : PSchema) (i : Nat) : belowK S i (chainOf S i).1.length = belowI S (i + 1) := by
 funext p
 unfold belowK belowI
 rw [List.take_length, List.range_succ, List.filter_append]
 by_cases h : (chainOf S i).1.contains p = true
 ·rw [if_pos h]; simp only [List.filter_cons, List.filter_nil]; rw [if_pos h]
 ·rw [if_neg h]; simp only [List.filter_cons, List.filter_nil]; rw [if_neg h, List.append_nil]
theorem belowI_len (S : PSchema) (i p : Nat) : (belowI S i p).length ≤ i := by
 have := List.length_filter_le (fun t => (chainOf S t).1.contains p) (List.range i)
 simpa [belowI] using this
theorem belowK_len (S : PSchema) (i k p : Nat) : (belowK S i k p).length ≤ i + 1 := by
 unfold belowK
 have := belowI_len S i p
 split
 ·simp; omega
 ·omega
theorem step_appE {P : Program} {T e : TypeId} {z : Value} {sz bytes : Nat} (I : EI P T e z sz bytes) {w : World} {ops : Array Oper} {o : Oper} {a : Act} {K : Act → World → Prop} {Q : Exit → Act → World → Prop} {E : Prop} (hgd : o.guard = none) (s x : Operand)
  (ho : o.op = .call { callee := .builtin .append, args := #[s, x], argTypes := #[T, T] })
  (go : Option Nat) (n cap : Nat) (xs : List Value) (hs : a.eval s = sv go n cap) (hown : Own w e sz go n cap xs)
  (sa : Option Addr) (m c : Nat) (news : List Value) (hx : a.eval x = .slice sa m c) (hsn : sa = none → m = 0 ∧ c = 0) (hl : news.length = m * sz)
  (hnews : ∀ ad, sa = some ad → ∀ j u, news[j]? = some u → w.cell? (ad.add j) = some u) (h1 : ∀ u ∈ news, u.oneCell' = true)
  (L : Nat) (hL : n + m = L) (hb : L * bytes ≤ 140737488355328) (hpos : 0 < L)
  (h : ∀ g cap' w', Own w' e sz (some g) L cap' (xs ++ news) → w.grownBy w' go → (go = some g ∨ g = w.heap.size) → K (a.put o.dst (.slice (some ⟨g, 0, none⟩) L cap')) w') :
  if Region.wanted o (yielded ops a.tmps) = true then Oper.wp P o a w K Q else E := by
 subst hL
 obtain ⟨i, h2, h3, h4, h5⟩ := I.info
 exact step_app hgd s x T ho e i z sz bytes I.und h2 h3 h4 h5 I.zs I.sz0 I.b0 go n cap xs hs hown sa m c news hx hsn hl hnews h1 hb (.inl hpos) h
theorem eiSlI : EI Tryz.prog 81 91 (.slice none 0 0) 1 24 := EI.of Tryz.underlying81 (by kernel_rfl) rfl (by decide) (by decide)
theorem eiTyp : EI Tryz.prog 22 46 (.agg (tyAgg zeroT (.slice none 0 0))) 9 64 := EI.of Tryz.underlying22 (by kernel_rfl) rfl (by decide) (by decide)
theorem makeBel (n : Nat) (hn : n ≤ 1024) : ∃ cs : Array Value, (∀ p, p < n → cs[p]? = some (.slice none 0 0)) ∧ ∀ w : World, (Instr.makeSlice 81 (.int .i64 (n : Int)) (.int .i64 (n : Int))).run Tryz.prog w = .ok (.slice (some ⟨w.heap.size, 0, none⟩) n n) (w.alloc (.cells cs 91)) := by
 obtain ⟨i, h2, h3, h4, h5⟩ := eiSlI.info
 refine ⟨madeCells (Value.slice none 0 0).cells n, fun p hp => ?_, fun w => ?_⟩
 ·simp [madeCells, hp, Value.cells, Nat.mod_one]
 ·have hr := run_make (P := Tryz.prog) w 81 91 i (.slice none 0 0) eiSlI.und h2 h3 .i64 .i64 (n : Int) (n : Int) (by omega) (Int.le_refl _) (by rw [h5]; omega) (by omega)
  simp only [Int.toNat_natCast, h4, Nat.mul_one] at hr
  exact hr
theorem New0.five {S : PSchema} {w0 w : World} {B b0 M g mt mc : Nat} {a a2 a' a2' : Option Addr} {n c n2 c2 c' c2' N N2 : Nat} (h : New0 S w0 w B b0 M g mt mc a a2 a' a2' n c n2 c2 c' c2' N N2 (placeOf (tK S)) (placeOf (cK S))) : New5 S w0 w b0 M g a a2 n c n2 c2 :=
 ⟨h.hb, by have := h.b0e; omega, h.s0, h.m, h.fr, h.base⟩
structure New4 (S : PSchema) (w0 w : World) (b0 M g : Nat) (a a2 : Option Addr) (n c n2 c2 hi j : Nat) (go : Option Nat) (cap : Nat) (vs : List Value) : Prop where
 five : New5 S w0 w b0 M g a a2 n c n2 c2
 g4 : w.cell? ⟨g, 4, none⟩ = some (.slice none 0 0)
 g5 : w.cell? ⟨g, 5, none⟩ = some (.slice none 0 0)
 ups : Ups w g M hi S j go cap vs
 top : hi ≤ w.heap.size
section
variable {S : PSchema} {w0 w w' : World} {b0 M g : Nat} {a a2 : Option Addr} {n c n2 c2 hi j : Nat} {go : Option Nat} {cap : Nat} {vs : List Value}
theorem New4.keep (h : New4 S w0 w b0 M g a a2 n c n2 c2 hi j go cap vs) (k : Below w.heap.size w w') : New4 S w0 w' b0 M g a a2 n c n2 c2 hi j go cap vs where
 five := h.five.keep k
 g4 := by rw [k.cell (Zb w _ h.g4)]; exact h.g4
 g5 := by rw [k.cell (Zb w _ h.g5)]; exact h.g5
 ups := h.ups.keep h.top k
 top := Nat.le_trans h.top k.size
end
theorem New4.zero {S : PSchema} {w0 w : World} {B b0 M g mt mc : Nat} {a a2 a' a2' : Option Addr} {n c n2 c2 c' c2' N N2 : Nat} (h : New0 S w0 w B b0 M g mt mc a a2 a' a2' n c n2 c2 c' c2' N N2 (placeOf (tK S)) (placeOf (cK S))) :
  New4 S w0 w b0 M g a a2 n c n2 c2 w.heap.size 0 none 0 [] :=
 ⟨h.five, h.g4, h.g5, ⟨h.g6, Own.nil _ _ _, (fun b e => by cases e), fun i hi => by omega⟩, Zr _⟩
theorem New6.start {S : PSchema} {w0 w : World} {b0 M g : Nat} {a a2 : Option Addr} {n c n2 c2 hi : Nat} {g6 : Option Nat} {c6 : Nat} {vs : List Value} {j : Nat} (h : New4 S w0 w b0 M g a a2 n c n2 c2 hi j g6 c6 vs) (hj : j = S.classes.length) {cs : Array Value} (hcs : ∀ p, p < n → cs[p]? = some (.slice none 0 0)) :
  New6 S w0 ((w.alloc (.cells cs 91)).setCell ⟨g, 5, none⟩ (.slice (some ⟨w.heap.size, 0, none⟩) n n)) b0 M g a a2 n c n2 c2 w.heap.size 0 none 0 (fun _ => .slice none 0 0) (belowI S 0) (fun _ => (none, 0)) := by
 subst hj
 have hk : Below w.heap.size w (w.alloc (.cells cs 91)) := (Zl _ w).alloc (Zr _) _
 have h1 := h.keep hk
 have hb := h.five.b0e
 have hM : M < w.heap.size := by have := Zb w _ h.five.m; simpa using this
 have hg : (w.alloc (.cells cs 91)).setCell ⟨g, 5, none⟩ (.slice (some ⟨w.heap.size, 0, none⟩) n n) = (w.alloc (.cells cs 91)).setCell ⟨g, 5, none⟩ (.slice (some ⟨w.heap.size, 0, none⟩) n n) := rfl
 refine ⟨h1.five.setG (by omega) _, ?_, Own.nil _ _ _, fun t ht => by omega, ?_, ?_, ⟨hM, fun b e => by cases e⟩, ⟨hi, g6, c6, vs, h.top, (fun b e => by cases e), h1.ups.keepAt (fun b hb1 hb2 => Below.heap_setCell _ ⟨g, 5, none⟩ _ b (by show b ≠ g; omega)) (World.cell?_setCell_other _ _ _ _ (by intro e; injection e with _ e2 _; omega))⟩⟩
 ·rw [World.cell?_setCell_other _ _ _ _ (by intro e; injection e with _ e2 _; omega)]; exact h1.g4
 ·rw [World.cell?_setCell_same _ _ _ h1.g5]
 ·have hne : w.heap.size ≠ g := by omega
  have hbl : ((w.alloc (.cells cs 91)).setCell ⟨g, 5, none⟩ (.slice (some ⟨w.heap.size, 0, none⟩) n n)).heap[w.heap.size]? = some (.cells cs 91) := by
   rw [Below.heap_setCell _ ⟨g, 5, none⟩ _ _ hne]; exact heap_alloc_new _ _
  have hB : Bel ((w.alloc (.cells cs 91)).setCell ⟨g, 5, none⟩ (.slice (some ⟨w.heap.size, 0, none⟩) n n)) w.heap.size n (fun _ => []) (fun _ => (none, 0)) :=
   Bel.made (by rw [size_set]; simp) (fun p hp => by rw [cell_of_row _ _ _ _ _ (0, 0) hbl]; exact hcs p hp) (fun j => frozen_of_row _ _ j _ _ hbl)
  exact hB
theorem New6.sch {S : PSchema} {w0 w : World} {b0 M g : Nat} {a a2 : Option Addr} {n c n2 c2 bb : Nat} {go : Option Nat} {cap : Nat} {nv : Nat → Value} {f : Nat → Option Nat × Nat} (h : New6 S w0 w b0 M g a a2 n c n2 c2 bb n go cap nv (belowI S n) f) (hn : n = S.types.length) (h1 : n ≤ 1024) (h2 : S.classes.length ≤ 1024) (hok : newE S = (0, 0)) : Sch w g S := by
 subst hn
 exact ⟨h.five.base, ⟨go, cap, nv, h.g4, h.own, h.nv⟩, ⟨bb, f, h.g5, h.bel⟩, (by obtain ⟨hi, g6, c6, vs, q1, _, q3⟩ := h.ab; exact ⟨M, hi, g6, c6, vs, by have := h.bel.lt; omega, q3⟩), ⟨h1, h2⟩, hok⟩
theorem objE_none {S : PSchema} (h : placeOf (tK S) (bytesOf "objectclass") = none) : objE S = 80 := by unfold objE; rw [h]
theorem objE_some {S : PSchema} {u : Nat} (h : placeOf (tK S) (bytesOf "objectclass") = some u) : objE S = if (fullT S u).syn = 8 ∧ (fullT S u).eq = 20 ∧ (fullT S u).single = false then 0 else 80 := by unfold objE; rw [h]
end Go.Proofs.YtlmfbjhokkpjhaaGreatDoor
