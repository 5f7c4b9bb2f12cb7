/- Part 13 of the walks and plain laws, joined: TwinS, Inherit. -/
import Derived.Test.YtlmfbjhokkpjhaaGreatDoorML00
import Derived.Test.YtlmfbjhokkpjhaaGreatDoorML12
import Derived.BigRegion
namespace Go.Proofs.YtlmfbjhokkpjhaaGreatDoor
open Go Go.RowKit Go.Maps
def IsSl (w : World) (p : Addr) : Prop := ∃ x y z, w.cell? p = some (.slice x y z)
theorem cell_set_ne {w : World} {p q : Addr} {v u : Value} (hc : w.cell? q = some u) (hne : q ≠ p) : (w.setCell p v).cell? q = some u := by
 rw [World.cell?_setCell_other _ _ _ _ (Ne.symm hne)]; exact hc
theorem cell_set_kind {w : World} {p q : Addr} {v u : Value} (hp : IsSl w p) (hc : w.cell? q = some u) (hu : ∀ x y z, u ≠ .slice x y z) : (w.setCell p v).cell? q = some u :=
 cell_set_ne hc fun e => by
  obtain ⟨x, y, z, h⟩ := hp
  rw [e, h] at hc; cases hc; exact hu _ _ _ rfl
theorem Texts.set {B : Nat} {w : World} {a : Option Addr} {n c : Nat} {l : List ByteArray} (h : Texts B w a n c l) {p : Addr} (hp : IsSl w p) (v : Value) : Texts B (w.setCell p v) a n c l :=
 ⟨h.len, h.lies, h.small, fun b o e i s hs => cell_set_kind hp (h.cell b o e i s hs) (fun _ _ _ e => by cases e), h.size⟩
theorem TypeAt.set {B : Nat} {w : World} {b o : Nat} {x : PType} (h : TypeAt B w b o x) {p : Addr} (hp : IsSl w p) (v : Value) (hne : (⟨b, o + 1, none⟩ : Addr) ≠ p) : TypeAt B (w.setCell p v) b o x where
 c0 := cell_set_kind hp h.c0 (fun _ _ _ e => by cases e)
 c1 := by obtain ⟨a, n, c, h1, h2⟩ := h.c1; exact ⟨a, n, c, cell_set_ne h1 hne, h2.set hp v⟩
 c2 := cell_set_kind hp h.c2 (fun _ _ _ e => by cases e)
 c3 := cell_set_kind hp h.c3 (fun _ _ _ e => by cases e)
 c4 := cell_set_kind hp h.c4 (fun _ _ _ e => by cases e)
 c5 := cell_set_kind hp h.c5 (fun _ _ _ e => by cases e)
 c6 := cell_set_kind hp h.c6 (fun _ _ _ e => by cases e)
 c7 := cell_set_kind hp h.c7 (fun _ _ _ e => by cases e)
 c8 := cell_set_kind hp h.c8 (fun _ _ _ e => by cases e)
theorem TypeAt.setN {B : Nat} {w : World} {b o : Nat} {x : PType} (h : TypeAt B w b o x) {a : Option Addr} {n c : Nat} (ht : Texts B w a n c x.names) : TypeAt B (w.setCell ⟨b, o + 1, none⟩ (.slice a n c)) b o x := by
 obtain ⟨a0, n0, c0, h1, _⟩ := h.c1
 have hp : IsSl w ⟨b, o + 1, none⟩ := ⟨a0, n0, c0, h1⟩
 exact ⟨cell_set_kind hp h.c0 (fun _ _ _ e => by cases e), ⟨a, n, c, by rw [World.cell?_setCell_same _ _ _ h1], ht.set hp _⟩, cell_set_kind hp h.c2 (fun _ _ _ e => by cases e), cell_set_kind hp h.c3 (fun _ _ _ e => by cases e),
  cell_set_kind hp h.c4 (fun _ _ _ e => by cases e), cell_set_kind hp h.c5 (fun _ _ _ e => by cases e), cell_set_kind hp h.c6 (fun _ _ _ e => by cases e), cell_set_kind hp h.c7 (fun _ _ _ e => by cases e), cell_set_kind hp h.c8 (fun _ _ _ e => by cases e)⟩
theorem Types.set {B : Nat} {w : World} {a : Option Addr} {n c : Nat} {l : List PType} (h : Types B w a n c l) {p : Addr} (hp : IsSl w p) (v : Value) (hne : ∀ ad, a = some ad → ad.block ≠ p.block) : Types B (w.setCell p v) a n c l :=
 ⟨h.len, h.lies, fun b o e i x hx => (h.cell b o e i x hx).set hp v (fun e2 => hne _ e (by rw [← e2])), h.ok, h.top⟩
theorem Types.setN {B : Nat} {w : World} {g o n c : Nat} {l : List PType} (h : Types B w (some ⟨g, o, none⟩) n c l) {i : Nat} {x : PType} (hi : l[i]? = some x) {a : Option Addr} {n' c' : Nat} (ht : Texts B w a n' c' x.names) : Types B (w.setCell ⟨g, o + i * 9 + 1, none⟩ (.slice a n' c')) (some ⟨g, o, none⟩) n c l := by
 refine ⟨h.len, h.lies, fun b o2 e j y hy => ?_, h.ok, h.top⟩
 cases e
 have hT := h.cell g o rfl i x hi
 by_cases e : j = i
 ·subst e
  rw [hi] at hy; cases hy
  exact hT.setN ht
 ·obtain ⟨a0, n0, c0, h1, _⟩ := hT.c1
  refine (h.cell g o rfl j y hy).set ⟨a0, n0, c0, h1⟩ _ (fun e2 => e ?_)
  injection e2 with _ e3 _
  omega
theorem ClassAt.set {B : Nat} {w : World} {b o : Nat} {x : PClass} (h : ClassAt B w b o x) {p : Addr} (hp : IsSl w p) (v : Value) (h1 : (⟨b, o + 1, none⟩ : Addr) ≠ p) (h2 : (⟨b, o + 2, none⟩ : Addr) ≠ p) (h4 : (⟨b, o + 4, none⟩ : Addr) ≠ p) (h5 : (⟨b, o + 5, none⟩ : Addr) ≠ p) : ClassAt B (w.setCell p v) b o x where
 c0 := cell_set_kind hp h.c0 (fun _ _ _ e => by cases e)
 c1 := by obtain ⟨a, n, c, k1, k2⟩ := h.c1; exact ⟨a, n, c, cell_set_ne k1 h1, k2.set hp v⟩
 c2 := by obtain ⟨a, n, c, k1, k2⟩ := h.c2; exact ⟨a, n, c, cell_set_ne k1 h2, k2.set hp v⟩
 c3 := cell_set_kind hp h.c3 (fun _ _ _ e => by cases e)
 c4 := by obtain ⟨a, n, c, k1, k2⟩ := h.c4; exact ⟨a, n, c, cell_set_ne k1 h4, k2.set hp v⟩
 c5 := by obtain ⟨a, n, c, k1, k2⟩ := h.c5; exact ⟨a, n, c, cell_set_ne k1 h5, k2.set hp v⟩
theorem Classes.set {B : Nat} {w : World} {a : Option Addr} {n c : Nat} {l : List PClass} (h : Classes B w a n c l) {p : Addr} (hp : IsSl w p) (v : Value) (hne : ∀ ad, a = some ad → ad.block ≠ p.block) : Classes B (w.setCell p v) a n c l :=
 ⟨h.len, h.lies, fun b o e i x hx => (h.cell b o e i x hx).set hp v (fun e2 => hne _ e (by rw [← e2])) (fun e2 => hne _ e (by rw [← e2])) (fun e2 => hne _ e (by rw [← e2])) (fun e2 => hne _ e (by rw [← e2])), h.ok, h.top⟩
def slotOf (x : PClass) : Nat → List ByteArray
 | 1 => x.names
 | 2 => x.sups
 | 4 => x.must
 | _ => x.may
def isSlot (k : Nat) : Prop := k = 1 ∨ k = 2 ∨ k = 4 ∨ k = 5
theorem ClassAt.slot {B : Nat} {w : World} {b o : Nat} {x : PClass} (h : ClassAt B w b o x) {k : Nat} (hk : isSlot k) : ∃ a n c, w.cell? ⟨b, o + k, none⟩ = some (.slice a n c) ∧ Texts B w a n c (slotOf x k) := by
 rcases hk with rfl | rfl | rfl | rfl
 ·exact h.c1
 ·exact h.c2
 ·exact h.c4
 ·exact h.c5
theorem ClassAt.of_slots {B : Nat} {w : World} {b o : Nat} {x : PClass} (h0 : w.cell? ⟨b, o, none⟩ = some (.string x.oid)) (h3 : w.cell? ⟨b, o + 3, none⟩ = some (.int .i8 x.kind)) (h : ∀ k, isSlot k → ∃ a n c, w.cell? ⟨b, o + k, none⟩ = some (.slice a n c) ∧ Texts B w a n c (slotOf x k)) : ClassAt B w b o x :=
 ⟨h0, h 1 (.inl rfl), h 2 (.inr (.inl rfl)), h3, h 4 (.inr (.inr (.inl rfl))), h 5 (.inr (.inr (.inr rfl)))⟩
theorem ClassAt.setK {B : Nat} {w : World} {b o : Nat} {x : PClass} (h : ClassAt B w b o x) {k : Nat} (hk : isSlot k) {a : Option Addr} {n c : Nat} (ht : Texts B w a n c (slotOf x k)) : ClassAt B (w.setCell ⟨b, o + k, none⟩ (.slice a n c)) b o x := by
 obtain ⟨a0, n0, c0, h1, _⟩ := h.slot hk
 have hp : IsSl w ⟨b, o + k, none⟩ := ⟨a0, n0, c0, h1⟩
 refine .of_slots (cell_set_kind hp h.c0 (fun _ _ _ e => by cases e)) (cell_set_kind hp h.c3 (fun _ _ _ e => by cases e)) fun j hj => ?_
 by_cases e : j = k
 ·subst e
  exact ⟨a, n, c, by rw [World.cell?_setCell_same _ _ _ h1], ht.set hp _⟩
 ·obtain ⟨a1, n1, c1, k1, k2⟩ := h.slot hj
  exact ⟨a1, n1, c1, cell_set_ne k1 (fun e2 => e (by injection e2 with _ e3 _; omega)), k2.set hp _⟩
theorem Classes.setK {B : Nat} {w : World} {g o n c : Nat} {l : List PClass} (h : Classes B w (some ⟨g, o, none⟩) n c l) {i : Nat} {x : PClass} (hi : l[i]? = some x) {k : Nat} (hk : isSlot k) {a : Option Addr} {n' c' : Nat} (ht : Texts B w a n' c' (slotOf x k)) : Classes B (w.setCell ⟨g, o + i * 6 + k, none⟩ (.slice a n' c')) (some ⟨g, o, none⟩) n c l := by
 refine ⟨h.len, h.lies, fun b o2 e j y hy => ?_, h.ok, h.top⟩
 cases e
 have hT := h.cell g o rfl i x hi
 by_cases e : j = i
 ·subst e
  rw [hi] at hy; cases hy
  exact hT.setK hk ht
 ·obtain ⟨a0, n0, c0, h1, _⟩ := hT.slot hk
  have hk6 : k < 6 := by rcases hk with rfl | rfl | rfl | rfl <;> omega
  have nq : ∀ m, m < 6 → (⟨g, o + j * 6 + m, none⟩ : Addr) ≠ ⟨g, o + i * 6 + k, none⟩ := fun m hm e2 => e (by injection e2 with _ e3 _; omega)
  exact (h.cell g o rfl j y hy).set ⟨a0, n0, c0, h1⟩ _ (nq 1 (by omega)) (nq 2 (by omega)) (nq 4 (by omega)) (nq 5 (by omega))
structure TwinX (S : PSchema) (n n2 : Nat) (w0 w : World) (Z : Nat) (a : Option Addr) (c : Nat) (a2 : Option Addr) (c2 : Nat) : Prop where
 zlt : w0.heap.size ≤ Z
 zw : Z < w.heap.size
 below : Below w0.heap.size w0 w
 t0 : w.cell? ⟨Z, 0, none⟩ = some (.slice a n c)
 t1 : w.cell? ⟨Z, 1, none⟩ = some (.slice a2 n2 c2)
 types : Types w.heap.size w a n c S.types
 classes : Classes w.heap.size w a2 n2 c2 S.classes
 tf : ∀ ad, a = some ad → w0.heap.size ≤ ad.block ∧ ad.block ≠ Z ∧ ∀ j, w.frozen? ⟨ad.block, j, none⟩ = false
 cf : ∀ ad, a2 = some ad → w0.heap.size ≤ ad.block ∧ ad.block ≠ Z ∧ ∀ j, w.frozen? ⟨ad.block, j, none⟩ = false
 ne : ∀ ad ad2, a = some ad → a2 = some ad2 → ad.block ≠ ad2.block
theorem TwinX.next {S : PSchema} {n n2 : Nat} {w0 w w' : World} {Z : Nat} {a a2 : Option Addr} {c c2 : Nat} (h : TwinX S n n2 w0 w Z a c a2 c2) (k : Below w.heap.size w w') : TwinX S n n2 w0 w' Z a c a2 c2 where
 zlt := h.zlt
 zw := Nat.lt_of_lt_of_le h.zw k.size
 below := h.below.trans (k.mono h.below.size)
 t0 := by rw [k.cell (by exact h.zw)]; exact h.t0
 t1 := by rw [k.cell (by exact h.zw)]; exact h.t1
 types := h.types.keep k k.size
 classes := h.classes.keep k k.size
 tf := fun ad e => ⟨(h.tf ad e).1, (h.tf ad e).2.1, fun j => by rw [k.frozen (p := ⟨ad.block, j, none⟩) (show ad.block < _ from h.types.lies.lt _ e)]; exact (h.tf ad e).2.2 j⟩
 cf := fun ad e => ⟨(h.cf ad e).1, (h.cf ad e).2.1, fun j => by rw [k.frozen (p := ⟨ad.block, j, none⟩) (show ad.block < _ from h.classes.lies.lt _ e)]; exact (h.cf ad e).2.2 j⟩
 ne := h.ne
theorem size_set (w : World) (p : Addr) (v : Value) : (w.setCell p v).heap.size = w.heap.size := by simp [World.setCell]
theorem TwinX.setT {S : PSchema} {n n2 : Nat} {w0 w : World} {Z tb tx : Nat} {a2 : Option Addr} {c c2 : Nat} (h : TwinX S n n2 w0 w Z (some ⟨tb, tx, none⟩) c a2 c2) {i : Nat} {x : PType} (hi : S.types[i]? = some x) {a' : Option Addr} {n' c' : Nat} (ht : Texts w.heap.size w a' n' c' x.names) :
  TwinX S n n2 w0 (w.setCell ⟨tb, tx + i * 9 + 1, none⟩ (.slice a' n' c')) Z (some ⟨tb, tx, none⟩) c a2 c2 := by
 obtain ⟨a0, n0, c0, k1, _⟩ := (h.types.cell tb tx rfl i x hi).c1
 have hp : IsSl w ⟨tb, tx + i * 9 + 1, none⟩ := ⟨a0, n0, c0, k1⟩
 obtain ⟨q1, q2, q3⟩ := h.tf _ rfl
 refine ⟨h.zlt, by rw [size_set]; exact h.zw, h.below.setCell (by exact q1) _, cell_set_ne h.t0 (fun e => q2 (by injection e with e1 _ _; exact e1.symm)), cell_set_ne h.t1 (fun e => q2 (by injection e with e1 _ _; exact e1.symm)), by rw [size_set]; exact h.types.setN hi ht, by rw [size_set]; exact h.classes.set hp _ (fun ad e => Ne.symm (h.ne ⟨tb, tx, none⟩ ad rfl e)), fun ad e => ?_, fun ad e => ?_, h.ne⟩
 ·refine ⟨(h.tf ad e).1, (h.tf ad e).2.1, fun j => by rw [World.frozen?_setCell]; exact (h.tf ad e).2.2 j⟩
 ·refine ⟨(h.cf ad e).1, (h.cf ad e).2.1, fun j => by rw [World.frozen?_setCell]; exact (h.cf ad e).2.2 j⟩
theorem TwinX.setC {S : PSchema} {n n2 : Nat} {w0 w : World} {Z tb tx : Nat} {a : Option Addr} {c c2 : Nat} (h : TwinX S n n2 w0 w Z a c (some ⟨tb, tx, none⟩) c2) {i : Nat} {x : PClass} (hi : S.classes[i]? = some x) {k : Nat} (hk : isSlot k) {a' : Option Addr} {n' c' : Nat} (ht : Texts w.heap.size w a' n' c' (slotOf x k)) :
  TwinX S n n2 w0 (w.setCell ⟨tb, tx + i * 6 + k, none⟩ (.slice a' n' c')) Z a c (some ⟨tb, tx, none⟩) c2 := by
 obtain ⟨a0, n0, c0, k1, _⟩ := (h.classes.cell tb tx rfl i x hi).slot hk
 have hp : IsSl w ⟨tb, tx + i * 6 + k, none⟩ := ⟨a0, n0, c0, k1⟩
 obtain ⟨q1, q2, q3⟩ := h.cf _ rfl
 refine ⟨h.zlt, by rw [size_set]; exact h.zw, h.below.setCell (by exact q1) _, cell_set_ne h.t0 (fun e => q2 (by injection e with e1 _ _; exact e1.symm)), cell_set_ne h.t1 (fun e => q2 (by injection e with e1 _ _; exact e1.symm)), by rw [size_set]; exact h.types.set hp _ (fun ad e => h.ne ad ⟨tb, tx, none⟩ e rfl), by rw [size_set]; exact h.classes.setK hi hk ht, fun ad e => ?_, fun ad e => ?_, h.ne⟩
 ·refine ⟨(h.tf ad e).1, (h.tf ad e).2.1, fun j => by rw [World.frozen?_setCell]; exact (h.tf ad e).2.2 j⟩
 ·refine ⟨(h.cf ad e).1, (h.cf ad e).2.1, fun j => by rw [World.frozen?_setCell]; exact (h.cf ad e).2.2 j⟩
theorem TwinX.sl {S : PSchema} {n n2 : Nat} {w0 w : World} {Z tb tx : Nat} {a : Option Addr} {c c2 : Nat} (h : TwinX S n n2 w0 w Z a c (some ⟨tb, tx, none⟩) c2) {i : Nat} {x : PClass} (hi : S.classes[i]? = some x) {k : Nat} (hk : isSlot k) : IsSl w ⟨tb, tx + i * 6 + k, none⟩ := by
 obtain ⟨a0, n0, c0, k1, _⟩ := (h.classes.cell tb tx rfl i x hi).slot hk
 exact ⟨a0, n0, c0, k1⟩
theorem Texts.set' {w : World} {a : Option Addr} {n c : Nat} {l : List ByteArray} (h : Texts w.heap.size w a n c l) {p : Addr} (hp : IsSl w p) (v : Value) : Texts (w.setCell p v).heap.size (w.setCell p v) a n c l := by
 rw [size_set]; exact h.set hp v
theorem TwinX.setC4 {S : PSchema} {n n2 : Nat} {w0 w : World} {Z tb tx : Nat} {a : Option Addr} {c c2 : Nat} (h : TwinX S n n2 w0 w Z a c (some ⟨tb, tx, none⟩) c2) {i : Nat} {x : PClass} (hi : S.classes[i]? = some x)
  {a1 a3 a4 a5 : Option Addr} {m1 m3 m4 m5 d1 d3 d4 d5 : Nat} (t1 : Texts w.heap.size w a1 m1 d1 x.names) (t2 : Texts w.heap.size w a3 m3 d3 x.sups) (t4 : Texts w.heap.size w a4 m4 d4 x.must) (t5 : Texts w.heap.size w a5 m5 d5 x.may) :
  TwinX S n n2 w0 ((((w.setCell ⟨tb, tx + i * 6 + 1, none⟩ (.slice a1 m1 d1)).setCell ⟨tb, tx + i * 6 + 2, none⟩ (.slice a3 m3 d3)).setCell ⟨tb, tx + i * 6 + 4, none⟩ (.slice a4 m4 d4)).setCell ⟨tb, tx + i * 6 + 5, none⟩ (.slice a5 m5 d5)) Z a c (some ⟨tb, tx, none⟩) c2 := by
 have s1 := h.sl hi (k := 1) (.inl rfl)
 have g1 := h.setC hi (k := 1) (.inl rfl) t1
 have s2 := g1.sl hi (k := 2) (.inr (.inl rfl))
 have g2 := g1.setC hi (k := 2) (.inr (.inl rfl)) (Texts.set' t2 s1 _)
 have s4 := g2.sl hi (k := 4) (.inr (.inr (.inl rfl)))
 have g4 := g2.setC hi (k := 4) (.inr (.inr (.inl rfl))) (Texts.set' (Texts.set' t4 s1 _) s2 _)
 exact g4.setC hi (k := 5) (.inr (.inr (.inr rfl))) (Texts.set' (Texts.set' (Texts.set' t5 s1 _) s2 _) s4 _)
end Go.Proofs.YtlmfbjhokkpjhaaGreatDoor
namespace Go.Proofs.YtlmfbjhokkpjhaaGreatDoor
open Go Go.RowKit Go.Maps
def tyAgg (x : PType) (nv : Value) : Array Value := #[.string x.oid, nv, .string x.sup, .int .i8 x.syn, .int .i8 x.eq, .int .i8 x.ord, .int .i8 x.part, .bool x.single, .int .u8 x.index]
structure TyBlk (w : World) (X : Nat) (x : PType) (nv : Value) : Prop where
 cell : ∀ (j : Nat) v, (tyAgg x nv)[j]? = some v → w.cell? ⟨X, j, none⟩ = some v
 fr : ∀ j, w.frozen? ⟨X, j, none⟩ = false
 lt : X < w.heap.size
theorem TyBlk.made (w : World) (x : PType) (nv : Value) (T : TypeId) : TyBlk (w.alloc (.cells (tyAgg x nv) T)) w.heap.size x nv where
 cell := fun j v h => by rw [World.cell?_alloc_new]; exact h
 fr := fun j => frozen_of_row _ _ j _ _ (heap_alloc_new _ _)
 lt := by simp
theorem TyBlk.keep {w w' : World} {X : Nat} {x : PType} {nv : Value} (h : TyBlk w X x nv) (k : Below w.heap.size w w') : TyBlk w' X x nv where
 cell := fun j v hj => by rw [k.cell (p := ⟨X, j, none⟩) h.lt]; exact h.cell j v hj
 fr := fun j => by rw [k.frozen (p := ⟨X, j, none⟩) h.lt]; exact h.fr j
 lt := Nat.lt_of_lt_of_le h.lt k.size
theorem TyBlk.set {w : World} {X : Nat} {x y : PType} {nv : Value} (h : TyBlk w X x nv) (k : Nat) (v : Value) (hk : k < 9) (hy : tyAgg y nv = (tyAgg x nv).setIfInBounds k v) : TyBlk (w.setCell ⟨X, k, none⟩ v) X y nv where
 cell := fun j u hj => by
  rw [hy] at hj
  by_cases e : j = k
  ·subst e
   have h0 : (tyAgg x nv)[j]? = some ((tyAgg x nv)[j]'(by exact hk)) := Array.getElem?_eq_getElem _
   rw [World.cell?_setCell_same _ _ _ (h.cell j _ h0)]
   rw [Array.getElem?_setIfInBounds] at hj
   simp at hj
   rw [← hj.2]
  ·rw [World.cell?_setCell_other _ _ _ _ (by intro e2; injection e2 with _ e3 _; omega)]
   rw [Array.getElem?_setIfInBounds, if_neg (by omega)] at hj
   exact h.cell j u hj
 fr := fun j => by rw [World.frozen?_setCell]; exact h.fr j
 lt := by have := h.lt; simpa [World.setCell] using this
theorem TyBlk.other {w : World} {X : Nat} {x : PType} {nv : Value} (h : TyBlk w X x nv) {p : Addr} (hp : X ≠ p.block) (v : Value) : TyBlk (w.setCell p v) X x nv where
 cell := fun j u hj => by rw [World.cell?_setCell_other _ _ _ _ (by intro e; apply hp; rw [e])]; exact h.cell j u hj
 fr := fun j => by rw [World.frozen?_setCell]; exact h.fr j
 lt := by have := h.lt; simpa [World.setCell] using this
def InhPost (_S : PSchema) (g : Nat) (x : PType) (w : World) (e : Ending) (w' : World) : Prop :=
 ∃ a n c, e = .returned (.agg (tyAgg x (.slice a n c))) ∧ Texts g w a n c x.names ∧ Below w.heap.size w w'
def mixK : Nat → PType → PType → PType
 | 0, x, _ => x
 | 1, x, y => { x with eq := if x.eq = 0 then y.eq else x.eq }
 | 2, x, y => { x with eq := if x.eq = 0 then y.eq else x.eq, ord := if x.ord = 0 then y.ord else x.ord }
 | _, x, y => mixT x y
theorem mix_foldl (S : PSchema) (x : PType) (l : List Nat) {i : Nat} (h : i < l.length) : (l.take (i + 1)).foldl (fun x p => mixT x (tyAt S p)) x = mixT ((l.take i).foldl (fun x p => mixT x (tyAt S p)) x) (tyAt S l[i]) := by
 rw [List.take_succ_eq_append_getElem h, List.foldl_append]; rfl
set_option maxRecDepth 20000 in
set_option maxHeartbeats 4000000 in
theorem inherit_any (S : PSchema) (g t gl m cap : Nat) (up : List Nat) (w : World) (h : Mk w g S) (ht : t < S.types.length) (hm : m = up.length) (hm1 : 1 ≤ m) (hm2 : m ≤ 1024) (hc : m ≤ cap) (hlt : ∀ a ∈ up, a < S.types.length)
  (hup : ∀ i, i < m → w.cell? ⟨gl, i, none⟩ = some (.int .i64 (up.getD i 0 : Nat))) (hgl : gl < w.heap.size) :
  Calls Tryz.prog 48 #[.agg #[.pointer (some ⟨g, 0, none⟩)], .int .i64 (t : Int), .slice (some ⟨gl, 0, none⟩) m cap] w (InhPost S g (inheritT S t up) w) := by
 obtain ⟨a0, n0, c0, hc0, hty⟩ := h.types
 obtain ⟨tb, tx, rfl, htb⟩ := hty.lies.ptr (by have := hty.len; omega)
 have hT := hty.cell tb tx rfl t _ (List.getElem?_eq_getElem ht)
 have hsup : tyAt S t = S.types[t] := by unfold tyAt; simp [List.getD, ht]
 rw [← hsup] at hT
 obtain ⟨na, nn, nc, h1, hte⟩ := hT.c1
 have h2 := hT.c2
 have h0 := hT.c0
 have h3 := hT.c3
 have h4 := hT.c4
 have h5 := hT.c5
 have h6 := hT.c6
 have h7 := hT.c7
 have h8 := hT.c8
 have htn : (t : Int) < (n0 : Int) := by have := hty.len; omega
 have hti : (0 : Int) ≤ (t : Int) := by omega
 have hglt := Zb w _ hc0
 have htlt := Zb w _ h0
 simp only at hglt htlt
 have hML := Zh hm; have HUP := Zh hup; have HLT := Zh hlt; have HMK := Zh h; have HTE := Zh hte
 have HG := Zh (Zi hgl (Zi hglt htlt))
 clear hm hup hlt h hte hsup hT hty htb hgl
 generalize hx : tyAt S t = x at *
 have HX := Zh hx; clear hx
 go_enter Tryz.func48, Tryz.ntmps48
 go_upto_region 2 with fail
 clear h0 h1 h2 h3 h4 h5 h6 h7 h8 hglt htlt
 have htb := TyBlk.made ((w.alloc (.cells #[.pointer (some ⟨g, 0, none⟩)] 86)).alloc (.cells #[.string ⟨#[]⟩, .slice none 0 0, .string ⟨#[]⟩, .int .i8 0, .int .i8 0, .int .i8 0, .int .i8 0, .bool false, .int .u8 0] 46)) x (.slice na nn nc) 46
 have htr := (TyBlk.made (w.alloc (.cells #[.pointer (some ⟨g, 0, none⟩)] 86)) zeroT (.slice none 0 0) 46).keep ((Zl _ _).alloc (Zr _) (.cells (tyAgg x (.slice na nn nc)) 46))
 have hbw : Below w.heap.size w (((w.alloc (.cells #[.pointer (some ⟨g, 0, none⟩)] 86)).alloc (.cells #[.string ⟨#[]⟩, .slice none 0 0, .string ⟨#[]⟩, .int .i8 0, .int .i8 0, .int .i8 0, .int .i8 0, .bool false, .int .u8 0] 46)).alloc (.cells (tyAgg x (.slice na nn nc)) 46)) := ((((Zl _ w).alloc (Zr _) _).alloc (by simp) _).alloc (by simp; omega) _)
 have hmc : (((w.alloc (.cells #[.pointer (some ⟨g, 0, none⟩)] 86)).alloc (.cells #[.string ⟨#[]⟩, .slice none 0 0, .string ⟨#[]⟩, .int .i8 0, .int .i8 0, .int .i8 0, .int .i8 0, .bool false, .int .u8 0] 46)).alloc (.cells (tyAgg x (.slice na nn nc)) 46)).cell? ⟨w.heap.size, 0, none⟩ = some (.pointer (some ⟨g, 0, none⟩)) := by
  rw [World.cell?_alloc_lt _ _ _ (by simp; omega), World.cell?_alloc_lt _ _ _ (by simp), World.cell?_alloc_new]; rfl
 rw [show ((w.alloc (.cells #[.pointer (some ⟨g, 0, none⟩)] 86)).alloc (.cells #[.string ⟨#[]⟩, .slice none 0 0, .string ⟨#[]⟩, .int .i8 0, .int .i8 0, .int .i8 0, .int .i8 0, .bool false, .int .u8 0] 46)).heap.size = w.heap.size + 1 + 1 by simp] at htb
 rw [show (w.alloc (.cells #[.pointer (some ⟨g, 0, none⟩)] 86)).heap.size = w.heap.size + 1 by simp] at htr
 unfold zeroT at htr
 have htb2 : TyBlk (((w.alloc (.cells #[.pointer (some ⟨g, 0, none⟩)] 86)).alloc (.cells #[.string ⟨#[]⟩, .slice none 0 0, .string ⟨#[]⟩, .int .i8 0, .int .i8 0, .int .i8 0, .int .i8 0, .bool false, .int .u8 0] 46)).alloc (.cells #[.string x.oid, .slice na nn nc, .string x.sup, .int .i8 x.syn, .int .i8 x.eq, .int .i8 x.ord, .int .i8 x.part, .bool x.single, .int .u8 x.index] 46)) (w.heap.size + 1 + 1) x (.slice na nn nc) := htb
 have htr2 : TyBlk (((w.alloc (.cells #[.pointer (some ⟨g, 0, none⟩)] 86)).alloc (.cells #[.string ⟨#[]⟩, .slice none 0 0, .string ⟨#[]⟩, .int .i8 0, .int .i8 0, .int .i8 0, .int .i8 0, .bool false, .int .u8 0] 46)).alloc (.cells #[.string x.oid, .slice na nn nc, .string x.sup, .int .i8 x.syn, .int .i8 x.eq, .int .i8 x.ord, .int .i8 x.part, .bool x.single, .int .u8 x.index] 46)) (w.heap.size + 1) zeroT (.slice none 0 0) := htr
 have hbw2 : Below w.heap.size w (((w.alloc (.cells #[.pointer (some ⟨g, 0, none⟩)] 86)).alloc (.cells #[.string ⟨#[]⟩, .slice none 0 0, .string ⟨#[]⟩, .int .i8 0, .int .i8 0, .int .i8 0, .int .i8 0, .bool false, .int .u8 0] 46)).alloc (.cells #[.string x.oid, .slice na nn nc, .string x.sup, .int .i8 x.syn, .int .i8 x.eq, .int .i8 x.ord, .int .i8 x.part, .bool x.single, .int .u8 x.index] 46)) := hbw
 have hmc2 : (((w.alloc (.cells #[.pointer (some ⟨g, 0, none⟩)] 86)).alloc (.cells #[.string ⟨#[]⟩, .slice none 0 0, .string ⟨#[]⟩, .int .i8 0, .int .i8 0, .int .i8 0, .int .i8 0, .bool false, .int .u8 0] 46)).alloc (.cells #[.string x.oid, .slice na nn nc, .string x.sup, .int .i8 x.syn, .int .i8 x.eq, .int .i8 x.ord, .int .i8 x.part, .bool x.single, .int .u8 x.index] 46)).cell? ⟨w.heap.size, 0, none⟩ = some (.pointer (some ⟨g, 0, none⟩)) := hmc
 clear htb htr hbw hmc
 generalize ((w.alloc (.cells #[.pointer (some ⟨g, 0, none⟩)] 86)).alloc (.cells #[.string ⟨#[]⟩, .slice none 0 0, .string ⟨#[]⟩, .int .i8 0, .int .i8 0, .int .i8 0, .int .i8 0, .bool false, .int .u8 0] 46)).alloc (.cells #[.string x.oid, .slice na nn nc, .string x.sup, .int .i8 x.syn, .int .i8 x.eq, .int .i8 x.ord, .int .i8 x.part, .bool x.single, .int .u8 x.index] 46) = w1 at htb2 htr2 hbw2 hmc2 ⊢
 have hXR : w.heap.size ≤ w.heap.size ∧ w.heap.size ≤ w.heap.size + 1 ∧ w.heap.size ≤ w.heap.size + 1 + 1 ∧ w.heap.size + 1 + 1 ≠ w.heap.size + 1 ∧ w.heap.size + 1 + 1 ≠ w.heap.size := by omega
 generalize hX : w.heap.size + 1 + 1 = X at htb2 hXR ⊢
 generalize hR : w.heap.size + 1 = R at htr2 hXR ⊢
 generalize hM : w.heap.size = M at hmc2 hXR ⊢
 have HM1 : Hid (w.heap.size ≤ X) := Zh (by omega)
 have HM2 : Hid (w.heap.size ≤ R) := Zh (by omega)
 have H1 := Zh (Zi htb2 (Zi htr2 (Zi hbw2 (Zi hmc2 (Zi hXR hM))))); clear htb2 htr2 hbw2 hmc2 hXR hM hR hX
 go_cut [23, 24, 25] from 22 to 25 (fun sv lv iv wx => ∃ ad c', sv = .slice (some ad) (m - 1) c' ∧ lv = .int .i64 ((m - 1 : Nat) : Int) ∧ iv = .int .i64 0 ∧ (1 < m → ad = ⟨gl, 1, none⟩) ∧ wx = w1)
 case first =>
  by_cases hc1 : cap = 1
  ·have hm3 : m = 1 := by omega
   subst hc1; subst hm3
   go_wp2_with fail
   go_meet
   exact ⟨_, _, rfl, rfl, rfl, fun h => by omega, rfl⟩
  ·go_wp2_with fail
   go_meet
   exact ⟨_, _, rfl, rfl, rfl, fun h => rfl, rfl⟩
 case rest =>
  obtain ⟨ad, c', rfl, rfl, rfl, had, rfl⟩ := hcut
  have HAD := Zh had; clear had
  obtain ⟨mm, hmm⟩ : ∃ mm, m - 1 = mm := ⟨_, rfl⟩
  rw [hmm]
  have HMM := Zh hmm; clear hmm
  go_wp2_with fail
  have hmm2 : mm ≤ 1024 := by have := HMM.out; omega
  go_loopw [25] (fun iv wr => ∃ i : Nat, iv = .int .i64 i ∧ i ≤ mm ∧ TyBlk wr X (((up.drop 1).take i).foldl (fun x p => mixT x (tyAt S p)) x) (.slice na nn nc) ∧ TyBlk wr R zeroT (.slice none 0 0) ∧ Below w.heap.size w wr ∧ wr.cell? ⟨M, 0, none⟩ = some (.pointer (some ⟨g, 0, none⟩))) (fun iv _ => mm - (intOf iv).toNat)
  case atStart => exact ⟨0, rfl, Nat.zero_le _, H1.out.1, H1.out.2.1, H1.out.2.2.1, H1.out.2.2.2.1⟩
  case round =>
   obtain ⟨i, rfl, hi, hx, hr, hb, hmcl⟩ := hrel
   have HMC := Zh hmcl
   have hXl := hx.lt
   by_cases hlt : i < mm
   ·have had := HAD.out (by have := HMM.out; omega)
    subst had
    have hil : i < (up.drop 1).length := by have := hML.out; have := HMM.out; simp; omega
    have hfold := mix_foldl S x (up.drop 1) hil
    have hpe : (up.drop 1)[i] = up.getD (i + 1) 0 := by
     have : i + 1 < up.length := by simp at hil; omega
     simp [List.getD, this]
    have hpl : (up.drop 1)[i] < S.types.length := HLT.out _ (List.mem_of_mem_drop (List.getElem_mem hil))
    have hcu := HUP.out (i + 1) (by have := HMM.out; omega)
    rw [← hpe] at hcu
    rw [← hb.cell (p := ⟨gl, i + 1, none⟩) HG.out.1, show i + 1 = 1 + i by omega] at hcu
    generalize (up.drop 1)[i] = p at hfold hpl hcu
    generalize ((up.drop 1).take i).foldl (fun x p => mixT x (tyAt S p)) x = xi at hfold hx
    have hmk := HMK.out.keep hb
    obtain ⟨b0, m0, d0, k0, hty⟩ := hmk.types
    obtain ⟨pb, px, rfl, hpb⟩ := hty.lies.ptr (by have := hty.len; omega)
    have hT := hty.cell pb px rfl p _ (List.getElem?_eq_getElem hpl)
    have hsup : tyAt S p = S.types[p] := by unfold tyAt; simp [List.getD, hpl]
    rw [← hsup] at hT
    generalize tyAt S p = y at hT hfold
    obtain ⟨ya, yn, yc, h1, _⟩ := hT.c1
    have h2 := hT.c2
    have h0 := hT.c0
    have h3 := hT.c3
    have h4 := hT.c4
    have h5 := hT.c5
    have h6 := hT.c6
    have h7 := hT.c7
    have h8 := hT.c8
    have hpn : (p : Int) < (m0 : Int) := by have := hty.len; omega
    have hpi : (0 : Int) ≤ (p : Int) := by omega
    have HF := Zh (Zi hfold (Zi hx (Zi hr hb)))
    clear hT hty hmk hfold hx hr hb hsup hpl hpb hpe hil
    go_upto_region 6 with fail
    clear h0 h1 h2 h3 h4 h5 h6 h7 h8 hcu k0
    have hy2 : TyBlk (wr.alloc (.cells #[.string y.oid, .slice ya yn yc, .string y.sup, .int .i8 y.syn, .int .i8 y.eq, .int .i8 y.ord, .int .i8 y.part, .bool y.single, .int .u8 y.index] 46)) wr.heap.size y (.slice ya yn yc) := TyBlk.made wr y (.slice ya yn yc) 46
    have hk2 : Below wr.heap.size wr (wr.alloc (.cells #[.string y.oid, .slice ya yn yc, .string y.sup, .int .i8 y.syn, .int .i8 y.eq, .int .i8 y.ord, .int .i8 y.part, .bool y.single, .int .u8 y.index] 46)) := (Zl _ _).alloc (Zr _) _
    generalize wr.alloc (.cells #[.string y.oid, .slice ya yn yc, .string y.sup, .int .i8 y.syn, .int .i8 y.eq, .int .i8 y.ord, .int .i8 y.part, .bool y.single, .int .u8 y.index] 46) = w2 at hy2 hk2 ⊢
    have hYX : wr.heap.size ≠ X ∧ wr.heap.size ≠ R := ⟨by omega, by have := HF.out.2.2.1.lt; omega⟩
    generalize hY : wr.heap.size = Y at hy2 hYX ⊢
    have H2 := Zh (Zi hy2 (Zi (HF.out.2.1.keep hk2) (Zi (HF.out.2.2.1.keep hk2) (Zi (bnext HF.out.2.2.2 hk2) (Zi hYX (hk2.cell (Zb wr _ HMC.out) |>.trans HMC.out))))))
    clear hy2 hk2 hYX hY
    go_wp2_with fail
    go_loopw [48] (fun kv wq => ∃ k : Nat, kv = .int .i64 k ∧ k ≤ 3 ∧ TyBlk wq X (mixK k xi y) (.slice na nn nc) ∧ TyBlk wq Y y (.slice ya yn yc) ∧ TyBlk wq R zeroT (.slice none 0 0) ∧ Below w.heap.size w wq ∧ wq.cell? ⟨M, 0, none⟩ = some (.pointer (some ⟨g, 0, none⟩))) (fun kv _ => 3 - (intOf kv).toNat)
    case atStart => exact ⟨0, rfl, by omega, H2.out.2.1, H2.out.1, H2.out.2.2.1, H2.out.2.2.2.1, H2.out.2.2.2.2.2⟩
    case round =>
     obtain ⟨k, rfl, hk, hx, hyb, hrb, hbb, hmcl2⟩ := hrel
     have HQ := Zh (Zi hx (Zi hyb (Zi hrb (Zi hbb hmcl2))))
     have hXlt := hx.lt
     have hYlt := hyb.lt
     by_cases hk3 : k < 3
     ·rcases (by omega : k = 0 ∨ k = 1 ∨ k = 2) with rfl | rfl | rfl
      ·have e1 : wr.cell? ⟨X, 4, none⟩ = some (.int .i8 (mixK 0 xi y).eq) := hx.cell 4 _ rfl
       have e2 : wr.cell? ⟨Y, 4, none⟩ = some (.int .i8 y.eq) := hyb.cell 4 _ rfl
       have ef := hx.fr 4
       clear hx hyb hrb hbb hmcl2 hmcl
       generalize hz : mixK 0 xi y = z at e1 HQ
       have HZ := Zh hz; clear hz
       rw [show ((0 : Nat) : Int) = 0 from rfl]
       have hix : (Instr.index 160 (.agg #[.pointer (some ⟨X, 4, none⟩), .pointer (some ⟨Y, 4, none⟩), .pointer (some ⟨X, 5, none⟩), .pointer (some ⟨Y, 5, none⟩), .pointer (some ⟨X, 6, none⟩), .pointer (some ⟨Y, 6, none⟩)]) (.int .i64 0)).run Tryz.prog wr = .ok (.agg #[.pointer (some ⟨X, 4, none⟩), .pointer (some ⟨Y, 4, none⟩)]) wr := by kernel_rfl
       by_cases h0 : z.eq = 0
       ·rw [h0] at e1
        go_wp2_with fail
        go_region
        all_goals go_wp2_with fail
        all_goals
         have hm : mixK 1 xi y = { z with eq := y.eq } := by rw [← HZ.out] at h0 ⊢; simp only [mixK] at h0 ⊢; try rw [if_pos h0]
         have hk := (((Zl (wr.setCell ⟨X, 4, none⟩ (.int .i8 y.eq)).heap.size (wr.setCell ⟨X, 4, none⟩ (.int .i8 y.eq))).alloc (Zr _) (.cells #[.pointer (some ⟨X, 4, none⟩), .pointer (some ⟨Y, 4, none⟩)] 159)).drew)
         have hs := (HQ.out.1.set (y := { z with eq := y.eq }) 4 (.int .i8 y.eq) (by omega) rfl).keep hk
         have hmm := cell_set_ne (p := ⟨X, 4, none⟩) (v := .int .i8 y.eq) HQ.out.2.2.2.2 (fun e => H1.out.2.2.2.2.1.2.2.2.2 (by injection e with e1 _ _; exact e1.symm))
         exact ⟨⟨1, rfl, by omega, by rw [hm]; exact hs, (HQ.out.2.1.other H2.out.2.2.2.2.1.1 _).keep hk, (HQ.out.2.2.1.other (Ne.symm H1.out.2.2.2.2.1.2.2.2.1) _).keep hk, (HQ.out.2.2.2.1.setCell (by exact HM1.out) _).trans (hk.mono (by rw [size_set]; exact HQ.out.2.2.2.1.size)), (hk.cell (Zb _ _ hmm)).trans hmm⟩, by simp [intOf]⟩
       ·go_wp2_with fail
        have hm : mixK 1 xi y = z := by rw [← HZ.out] at h0 ⊢; simp only [mixK] at h0 ⊢; try rw [if_neg h0]
        have hk := ((Zl wr.heap.size wr).alloc (Zr _) (.cells #[.pointer (some ⟨X, 4, none⟩), .pointer (some ⟨Y, 4, none⟩)] 159))
        exact ⟨⟨1, rfl, by omega, by rw [hm]; exact HQ.out.1.keep hk, HQ.out.2.1.keep hk, HQ.out.2.2.1.keep hk, bnext HQ.out.2.2.2.1 hk, (hk.cell (Zb wr _ HQ.out.2.2.2.2)).trans HQ.out.2.2.2.2⟩, by simp [intOf]⟩
      ·have e1 : wr.cell? ⟨X, 5, none⟩ = some (.int .i8 (mixK 1 xi y).ord) := hx.cell 5 _ rfl
       have e2 : wr.cell? ⟨Y, 5, none⟩ = some (.int .i8 y.ord) := hyb.cell 5 _ rfl
       have ef := hx.fr 5
       clear hx hyb hrb hbb hmcl2 hmcl
       generalize hz : mixK 1 xi y = z at e1 HQ
       have HZ := Zh hz; clear hz
       rw [show ((1 : Nat) : Int) = 1 from rfl]
       have hix : (Instr.index 160 (.agg #[.pointer (some ⟨X, 4, none⟩), .pointer (some ⟨Y, 4, none⟩), .pointer (some ⟨X, 5, none⟩), .pointer (some ⟨Y, 5, none⟩), .pointer (some ⟨X, 6, none⟩), .pointer (some ⟨Y, 6, none⟩)]) (.int .i64 1)).run Tryz.prog wr = .ok (.agg #[.pointer (some ⟨X, 5, none⟩), .pointer (some ⟨Y, 5, none⟩)]) wr := by kernel_rfl
       by_cases h0 : z.ord = 0
       ·rw [h0] at e1
        go_wp2_with fail
        go_region
        all_goals go_wp2_with fail
        all_goals
         have hm : mixK 2 xi y = { z with ord := y.ord } := by rw [← HZ.out] at h0 ⊢; simp only [mixK] at h0 ⊢; try rw [if_pos h0]
         have hk := (((Zl (wr.setCell ⟨X, 5, none⟩ (.int .i8 y.ord)).heap.size (wr.setCell ⟨X, 5, none⟩ (.int .i8 y.ord))).alloc (Zr _) (.cells #[.pointer (some ⟨X, 5, none⟩), .pointer (some ⟨Y, 5, none⟩)] 159)).drew)
         have hs := (HQ.out.1.set (y := { z with ord := y.ord }) 5 (.int .i8 y.ord) (by omega) rfl).keep hk
         have hmm := cell_set_ne (p := ⟨X, 5, none⟩) (v := .int .i8 y.ord) HQ.out.2.2.2.2 (fun e => H1.out.2.2.2.2.1.2.2.2.2 (by injection e with e1 _ _; exact e1.symm))
         exact ⟨⟨2, rfl, by omega, by rw [hm]; exact hs, (HQ.out.2.1.other H2.out.2.2.2.2.1.1 _).keep hk, (HQ.out.2.2.1.other (Ne.symm H1.out.2.2.2.2.1.2.2.2.1) _).keep hk, (HQ.out.2.2.2.1.setCell (by exact HM1.out) _).trans (hk.mono (by rw [size_set]; exact HQ.out.2.2.2.1.size)), (hk.cell (Zb _ _ hmm)).trans hmm⟩, by simp [intOf]⟩
       ·go_wp2_with fail
        have hm : mixK 2 xi y = z := by rw [← HZ.out] at h0 ⊢; simp only [mixK] at h0 ⊢; try rw [if_neg h0]
        have hk := ((Zl wr.heap.size wr).alloc (Zr _) (.cells #[.pointer (some ⟨X, 5, none⟩), .pointer (some ⟨Y, 5, none⟩)] 159))
        exact ⟨⟨2, rfl, by omega, by rw [hm]; exact HQ.out.1.keep hk, HQ.out.2.1.keep hk, HQ.out.2.2.1.keep hk, bnext HQ.out.2.2.2.1 hk, (hk.cell (Zb wr _ HQ.out.2.2.2.2)).trans HQ.out.2.2.2.2⟩, by simp [intOf]⟩
      ·have e1 : wr.cell? ⟨X, 6, none⟩ = some (.int .i8 (mixK 2 xi y).part) := hx.cell 6 _ rfl
       have e2 : wr.cell? ⟨Y, 6, none⟩ = some (.int .i8 y.part) := hyb.cell 6 _ rfl
       have ef := hx.fr 6
       clear hx hyb hrb hbb hmcl2 hmcl
       generalize hz : mixK 2 xi y = z at e1 HQ
       have HZ := Zh hz; clear hz
       rw [show ((2 : Nat) : Int) = 2 from rfl]
       have hix : (Instr.index 160 (.agg #[.pointer (some ⟨X, 4, none⟩), .pointer (some ⟨Y, 4, none⟩), .pointer (some ⟨X, 5, none⟩), .pointer (some ⟨Y, 5, none⟩), .pointer (some ⟨X, 6, none⟩), .pointer (some ⟨Y, 6, none⟩)]) (.int .i64 2)).run Tryz.prog wr = .ok (.agg #[.pointer (some ⟨X, 6, none⟩), .pointer (some ⟨Y, 6, none⟩)]) wr := by kernel_rfl
       by_cases h0 : z.part = 0
       ·rw [h0] at e1
        go_wp2_with fail
        go_region
        all_goals go_wp2_with fail
        all_goals
         have hm : mixK 3 xi y = { z with part := y.part } := by rw [← HZ.out] at h0 ⊢; simp only [mixK, mixT] at h0 ⊢; try rw [if_pos h0]
         have hk := (((Zl (wr.setCell ⟨X, 6, none⟩ (.int .i8 y.part)).heap.size (wr.setCell ⟨X, 6, none⟩ (.int .i8 y.part))).alloc (Zr _) (.cells #[.pointer (some ⟨X, 6, none⟩), .pointer (some ⟨Y, 6, none⟩)] 159)).drew)
         have hs := (HQ.out.1.set (y := { z with part := y.part }) 6 (.int .i8 y.part) (by omega) rfl).keep hk
         have hmm := cell_set_ne (p := ⟨X, 6, none⟩) (v := .int .i8 y.part) HQ.out.2.2.2.2 (fun e => H1.out.2.2.2.2.1.2.2.2.2 (by injection e with e1 _ _; exact e1.symm))
         exact ⟨⟨3, rfl, by omega, by rw [hm]; exact hs, (HQ.out.2.1.other H2.out.2.2.2.2.1.1 _).keep hk, (HQ.out.2.2.1.other (Ne.symm H1.out.2.2.2.2.1.2.2.2.1) _).keep hk, (HQ.out.2.2.2.1.setCell (by exact HM1.out) _).trans (hk.mono (by rw [size_set]; exact HQ.out.2.2.2.1.size)), (hk.cell (Zb _ _ hmm)).trans hmm⟩, by simp [intOf]⟩
       ·go_wp2_with fail
        have hm : mixK 3 xi y = z := by rw [← HZ.out] at h0 ⊢; simp only [mixK, mixT] at h0 ⊢; try rw [if_neg h0]
        have hk := ((Zl wr.heap.size wr).alloc (Zr _) (.cells #[.pointer (some ⟨X, 6, none⟩), .pointer (some ⟨Y, 6, none⟩)] 159))
        exact ⟨⟨3, rfl, by omega, by rw [hm]; exact HQ.out.1.keep hk, HQ.out.2.1.keep hk, HQ.out.2.2.1.keep hk, bnext HQ.out.2.2.2.1 hk, (hk.cell (Zb wr _ HQ.out.2.2.2.2)).trans HQ.out.2.2.2.2⟩, by simp [intOf]⟩
     ·
      have hk4 : k = 3 := by omega
      subst hk4
      clear hx hyb hrb hbb hmcl2 hmcl
      rw [show ((3 : Nat) : Int) = 3 from rfl]
      go_wp2_with fail
      refine ⟨⟨i + 1, by simp, by omega, ?_, HQ.out.2.2.1, HQ.out.2.2.2.1, HQ.out.2.2.2.2⟩, by simp [intOf]; omega⟩
      rw [HF.out.1]; exact HQ.out.1
   ·have hie : i = mm := by omega
    subst hie
    have hfull : (up.drop 1).take i = up.drop 1 := List.take_of_length_le (by have := hML.out; have := HMM.out; simp; omega)
    rw [hfull] at hx
    have hfin : (up.drop 1).foldl (fun x p => mixT x (tyAt S p)) x = inheritT S t up := by unfold inheritT; rw [HX.out]
    rw [hfin] at hx
    have hnm : (inheritT S t up).names = x.names := by
     unfold inheritT; rw [HX.out]
     generalize up.drop 1 = l
     clear hfin hfull hx
     have : ∀ (l : List Nat) (x : PType), (l.foldl (fun x p => mixT x (tyAt S p)) x).names = x.names := by
      intro l
      induction l with
      | nil => intro x; rfl
      | cons p l ih => intro x; rw [List.foldl_cons, ih]; rfl
     exact this l x
    have HNM := Zh hnm
    generalize hz : inheritT S t up = z at hx HNM
    have HZ := Zh hz; clear hz
    have c0 : wr.cell? ⟨X, 0, none⟩ = some (.string z.oid) := hx.cell 0 _ rfl
    have c1 : wr.cell? ⟨X, 1, none⟩ = some (.slice na nn nc) := hx.cell 1 _ rfl
    have c2 : wr.cell? ⟨X, 2, none⟩ = some (.string z.sup) := hx.cell 2 _ rfl
    have c3 : wr.cell? ⟨X, 3, none⟩ = some (.int .i8 z.syn) := hx.cell 3 _ rfl
    have c4 : wr.cell? ⟨X, 4, none⟩ = some (.int .i8 z.eq) := hx.cell 4 _ rfl
    have c5 : wr.cell? ⟨X, 5, none⟩ = some (.int .i8 z.ord) := hx.cell 5 _ rfl
    have c6 : wr.cell? ⟨X, 6, none⟩ = some (.int .i8 z.part) := hx.cell 6 _ rfl
    have c7 : wr.cell? ⟨X, 7, none⟩ = some (.bool z.single) := hx.cell 7 _ rfl
    have c8 : wr.cell? ⟨X, 8, none⟩ = some (.int .u8 z.index) := hx.cell 8 _ rfl
    have hrf := hr.fr
    have d0 : wr.cell? ⟨R, 0, none⟩ = some (.string ⟨#[]⟩) := hr.cell 0 _ rfl
    have d1 : wr.cell? ⟨R, 1, none⟩ = some (.slice none 0 0) := hr.cell 1 _ rfl
    have d2 : wr.cell? ⟨R, 2, none⟩ = some (.string ⟨#[]⟩) := hr.cell 2 _ rfl
    have d3 : wr.cell? ⟨R, 3, none⟩ = some (.int .i8 0) := hr.cell 3 _ rfl
    have d4 : wr.cell? ⟨R, 4, none⟩ = some (.int .i8 0) := hr.cell 4 _ rfl
    have d5 : wr.cell? ⟨R, 5, none⟩ = some (.int .i8 0) := hr.cell 5 _ rfl
    have d6 : wr.cell? ⟨R, 6, none⟩ = some (.int .i8 0) := hr.cell 6 _ rfl
    have d7 : wr.cell? ⟨R, 7, none⟩ = some (.bool false) := hr.cell 7 _ rfl
    have d8 : wr.cell? ⟨R, 8, none⟩ = some (.int .u8 0) := hr.cell 8 _ rfl
    have HB := Zh (Zi hb hr)
    clear hx hr hb hfin hfull hmcl hnm
    go_wp2_with fail
    refine bodyPost_ret (v := .agg (tyAgg z (.slice na nn nc))) (by simp [results, Tryz.results48, go_sem, tyAgg, *]) rfl ?_
    have hr : w.heap.size ≤ R := HM2.out
    exact ⟨na, nn, nc, by rw [HZ.out], by rw [HZ.out, HNM.out]; exact HTE.out, ((((((((HB.out.1.setCell hr _).setCell hr _).setCell hr _).setCell hr _).setCell hr _).setCell hr _).setCell hr _).setCell hr _).setCell hr _⟩
end Go.Proofs.YtlmfbjhokkpjhaaGreatDoor
