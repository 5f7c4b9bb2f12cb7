/- Part 29 of the walks and plain laws, joined: AbvC, NamO, Read. -/
import Derived.Test.YtlmfbjhokkpjhaaGreatDoorML00
import Derived.Test.YtlmfbjhokkpjhaaGreatDoorML28
import Derived.Test.YtlmfbjhokkpjhaaGreatDoorML10
import Derived.Test.YtlmfbjhokkpjhaaGreatDoorML14
import Derived.Test.YtlmfbjhokkpjhaaGreatDoorML08
import Derived.Test.YtlmfbjhokkpjhaaGreatDoorShelfM
import Derived.Laws.ResultCell
import Derived.Deep.DeepCutAuto
import Derived.BigRegion
import Derived.Laws.Rows
import Derived.BigQuiet
set_option linter.unusedVariables false
set_option linter.unusedSimpArgs false
namespace Go.Proofs.YtlmfbjhokkpjhaaGreatDoor
open Go Go.RowKit
theorem eiAva : EI Tryz.prog 63 70 (.agg #[.string ByteArray.empty, .string ByteArray.empty]) 2 32 := EI.of Tryz.underlying63 (by kernel_rfl) rfl (by decide) (by decide)
theorem eiRdn : EI Tryz.prog 51 65 (.agg #[.slice none 0 0]) 1 24 := EI.of Tryz.underlying51 (by kernel_rfl) rfl (by decide) (by decide)
def avaV (l : PRdn) : List Value := l.flatMap fun x => [.string x.1, .string x.2]
theorem avaV_len (l : PRdn) : (avaV l).length = l.length * 2 := by
 induction l with
 | nil => rfl
 | cons x l ih => simp only [avaV, List.flatMap_cons, List.length_append, List.length_cons, List.length_nil] at ih ⊢; omega
theorem avaV_app (l m : PRdn) : avaV (l ++ m) = avaV l ++ avaV m := by unfold avaV; rw [List.flatMap_append]
theorem avaV_one (x : ByteArray × ByteArray) : avaV [x] = [.string x.1, .string x.2] := rfl
theorem avaV_at : ∀ (l : PRdn) (i : Nat) (x : ByteArray × ByteArray), l[i]? = some x → (avaV l)[i * 2]? = some (.string x.1) ∧ (avaV l)[i * 2 + 1]? = some (.string x.2)
 | [], _, _, h => by cases h
 | y :: l, 0, x, h => by cases h; exact ⟨rfl, rfl⟩
 | y :: l, i + 1, x, h => by
  have := avaV_at l i x h
  have e : avaV (y :: l) = Value.string y.1 :: Value.string y.2 :: avaV l := rfl
  rw [e, show (i + 1) * 2 = i * 2 + 1 + 1 by omega]
  exact this
theorem avaV_get : ∀ (l : PRdn) (j : Nat) (u : Value), (avaV l)[j]? = some u → ∃ i x, l[i]? = some x ∧ ((j = i * 2 ∧ u = .string x.1) ∨ (j = i * 2 + 1 ∧ u = .string x.2))
 | [], _, _, h => by cases h
 | y :: l, 0, u, h => by cases h; exact ⟨0, y, rfl, .inl ⟨rfl, rfl⟩⟩
 | y :: l, 1, u, h => by cases h; exact ⟨0, y, rfl, .inr ⟨rfl, rfl⟩⟩
 | y :: l, j + 2, u, h => by
  obtain ⟨i, x, h1, h2⟩ := avaV_get l j u h
  refine ⟨i + 1, x, h1, ?_⟩
  rcases h2 with ⟨rfl, rfl⟩ | ⟨rfl, rfl⟩
  ·exact .inl ⟨by omega, rfl⟩
  ·exact .inr ⟨by omega, rfl⟩
theorem Avas.src {B : Nat} {w : World} {a : Option Addr} {n c : Nat} {l : PRdn} (h : Avas B w a n c l) : ∀ ad, a = some ad → ∀ j u, (avaV l)[j]? = some u → w.cell? (ad.add j) = some u := by
 intro ad e j u hu
 obtain ⟨i, x, hx, hj⟩ := avaV_get l j u hu
 have hn := h.len
 have hil := (List.getElem?_eq_some_iff.1 hx).1
 have hs := h.lies.spot ad e (by omega)
 obtain ⟨b, o, sp⟩ := ad
 simp only at hs
 subst hs
 obtain ⟨h1, h2⟩ := h.cell b o e i x hx
 rcases hj with ⟨rfl, rfl⟩ | ⟨rfl, rfl⟩
 ·rw [show (⟨b, o, none⟩ : Addr).add (i * 2) = ⟨b, o + i * 2, none⟩ by simp [Addr.add]]; exact h1
 ·rw [show (⟨b, o, none⟩ : Addr).add (i * 2 + 1) = ⟨b, o + i * 2 + 1, none⟩ by simp [Addr.add, Nat.add_assoc]]; exact h2
theorem Vec.lies {e sz : Nat} {w0 w : World} {go : Option Nat} {n cap : Nat} {vs : List Value} (h : Vec e sz w0 w go n cap vs) (hs : 0 < sz) : LiesW w.heap.size (go.map fun g => (⟨g, 0, none⟩ : Addr)) n cap := by
 cases go with
 | none =>
  obtain ⟨_, rfl, rfl⟩ := h.own
  exact ⟨Zr _, Nat.zero_le _, fun _ => rfl, (fun ad h _ => by cases h), (fun ad h _ => by cases h)⟩
 | some g =>
  obtain ⟨_, _, _, hml⟩ := h.own.row
  refine ⟨h.own.le, hml, (fun e => by cases e), fun ad e _ => ?_, fun ad e _ => ?_⟩
  ·cases e; exact h.own.row.lt
  ·cases e; rfl
theorem lt_grown {w w' : World} {b : Nat} {o : Obj} {row : Option Nat} (hg : w.grownBy w' row) (h : w.heap[b]? = some o) (hr : row ≠ some b) : w'.heap[b]? = some o := by
 rw [hg.block b (Array.getElem?_eq_some_iff.1 h).1 (fun e => hr e.symm)]; exact h
theorem heap_new1 (w : World) (o1 o2 : Obj) : ((w.alloc o1).alloc o2).heap[w.heap.size + 1]? = some o2 := by
 have h := heap_alloc_new (w.alloc o1) o2
 rw [show (w.alloc o1).heap.size = w.heap.size + 1 by simp] at h
 exact h
theorem Vec.setO {e sz : Nat} {w0 w : World} {go : Option Nat} {n cap : Nat} {vs : List Value} {b j : Nat} {cs : Array Value} {t : TypeId} {fz : Nat × Nat} (h : Vec e sz w0 w go n cap vs) (hr : w.heap[b]? = some (.cells cs t fz)) (ht : t ≠ e) (hb : w0.heap.size ≤ b) (v : Value) : Vec e sz w0 (w.setCell ⟨b, j, none⟩ v) go n cap vs :=
 ⟨h.own.keep fun g hg => Below.heap_setCell w ⟨b, j, none⟩ v g (by
  subst hg
  obtain ⟨sp, h1, _⟩ := h.own.row
  intro e2
  simp only at e2
  subst e2
  rw [hr] at h1
  cases h1
  exact ht rfl), h.fresh, h.below.setCell (p := ⟨b, j, none⟩) hb v⟩
end Go.Proofs.YtlmfbjhokkpjhaaGreatDoor
namespace Go.Proofs.YtlmfbjhokkpjhaaGreatDoor
open Go Go.RowKit
structure KeepA (B : Nat) (w w' : World) : Prop where
 size : w.heap.size ≤ w'.heap.size
 row : ∀ k cs fz, k < B → w.heap[k]? = some (.cells cs 70 fz) → w'.heap[k]? = some (.cells cs 70 fz)
theorem KeepA.refl (B : Nat) (w : World) : KeepA B w w := ⟨Zr _, fun _ _ _ _ h => h⟩
theorem KeepA.trans {B : Nat} {w w' w'' : World} (h : KeepA B w w') (k : KeepA B w' w'') : KeepA B w w'' := ⟨Nat.le_trans h.size k.size, fun q cs fz hq e => k.row q cs fz hq (h.row q cs fz hq e)⟩
theorem KeepA.mono {B B' : Nat} {w w' : World} (h : KeepA B' w w') (hb : B ≤ B') : KeepA B w w' := ⟨h.size, fun q cs fz hq e => h.row q cs fz (by omega) e⟩
theorem KeepA.below {B B' : Nat} {w w' : World} (h : Below B' w w') (hb : B ≤ B') : KeepA B w w' := ⟨h.size, fun q cs fz hq e => by rw [h.block q (by omega)]; exact e⟩
theorem KeepA.setCell {B : Nat} {w : World} {b j : Nat} {cs : Array Value} {t : TypeId} {fz : Nat × Nat} (hr : w.heap[b]? = some (.cells cs t fz)) (ht : t ≠ 70) (v : Value) : KeepA B w (w.setCell ⟨b, j, none⟩ v) :=
 ⟨by simp [World.setCell], fun k c2 f2 _ e => by
  rw [Below.heap_setCell w ⟨b, j, none⟩ v k (by
   intro e2
   simp only at e2
   subst e2
   rw [hr] at e
   cases e
   exact ht rfl)]
  exact e⟩
theorem KeepA.grown {B : Nat} {w w' : World} {row : Option Nat} (h : w.grownBy w' row) (hr : ∀ g, row = some g → B ≤ g ∨ ∃ cs t fz, w.heap[g]? = some (.cells cs t fz) ∧ t ≠ 70) : KeepA B w w' := by
 refine ⟨h.size, fun k cs fz hk e => ?_⟩
 rw [h.block k (Array.getElem?_eq_some_iff.1 e).1 (fun e2 => by
  rcases hr k e2.symm with h3 | ⟨c2, t2, f2, e3, h3⟩
  ·omega
  ·rw [e3] at e; cases e; exact h3 rfl)]
 exact e
theorem Own.lies {w : World} {e sz : Nat} {go : Option Nat} {n cap : Nat} {vs : List Value} (h : Own w e sz go n cap vs) : LiesW w.heap.size (go.map fun g => (⟨g, 0, none⟩ : Addr)) n cap := by
 cases go with
 | none =>
  obtain ⟨_, rfl, rfl⟩ := h
  exact ⟨Zr _, Nat.zero_le _, fun _ => rfl, (fun ad h _ => by cases h), (fun ad h _ => by cases h)⟩
 | some g =>
  obtain ⟨_, _, _, hml⟩ := h.row
  refine ⟨h.le, hml, (fun e => by cases e), fun ad e _ => ?_, fun ad e _ => ?_⟩
  ·cases e; exact h.row.lt
  ·cases e; rfl
theorem Avas.of_own {w : World} {go : Option Nat} {n cap : Nat} {l : PRdn} (h : Own w 70 2 go n cap (avaV l)) (hn : n ≤ 4294967280) (hs : ∀ x ∈ l, x.1.size ≤ 4294967280 ∧ x.2.size ≤ 4294967280) :
  Avas w.heap.size w (go.map fun g => (⟨g, 0, none⟩ : Addr)) n cap l := by
 have hl := h.len
 rw [avaV_len] at hl
 refine ⟨by omega, h.lies, hn, fun b o e i x hx => ?_, hs⟩
 cases go with
 | none => cases e
 | some g =>
  cases e
  obtain ⟨h1, h2⟩ := avaV_at l i x hx
  rw [Nat.zero_add]
  exact ⟨h.row.cell h1, h.row.cell h2⟩
abbrev PartO := (Option Nat × Nat) × PRdn
def rowV (x : PartO) : Value := .slice (x.1.1.map fun g => (⟨g, 0, none⟩ : Addr)) x.2.length x.1.2
structure RowsO (B0 B : Nat) (w : World) (gs : List PartO) : Prop where
 own : ∀ x ∈ gs, Own w 70 2 x.1.1 x.2.length x.1.2 (avaV x.2)
 bnd : ∀ x ∈ gs, ∀ g, x.1.1 = some g → B0 ≤ g ∧ g < B
 sep : gs.Pairwise fun x y => ∀ g, x.1.1 = some g → y.1.1 ≠ some g
 size : ∀ x ∈ gs, x.2.length ≤ 4294967280 ∧ ∀ a ∈ x.2, a.1.size ≤ 4294967280 ∧ a.2.size ≤ 4294967280
theorem RowsO.nil (B0 B : Nat) (w : World) : RowsO B0 B w [] := ⟨(fun x h => by cases h), (fun x h => by cases h), .nil, (fun x h => by cases h)⟩
theorem RowsO.keep {B0 B : Nat} {w w' : World} {gs : List PartO} (h : RowsO B0 B w gs) (k : KeepA B w w') : RowsO B0 B w' gs :=
 ⟨fun x hx => (h.own x hx).keep fun g e => by
  have h1 := h.own x hx
  rw [e] at h1
  obtain ⟨sp, h2, _⟩ := h1.row
  rw [h2, k.row g _ _ (h.bnd x hx g e).2 h2], h.bnd, h.sep, h.size⟩
theorem RowsO.mono {B0 B B' : Nat} {w : World} {gs : List PartO} (h : RowsO B0 B w gs) (hb : B ≤ B') : RowsO B0 B' w gs :=
 ⟨h.own, fun x hx g e => ⟨(h.bnd x hx g e).1, by have := (h.bnd x hx g e).2; omega⟩, h.sep, h.size⟩
theorem RowsO.push {B0 B B' : Nat} {w : World} {gs : List PartO} {go : Option Nat} {cap : Nat} {r : PRdn} (h : RowsO B0 B w gs) (own : Own w 70 2 go r.length cap (avaV r)) (hg : ∀ g, go = some g → B ≤ g ∧ g < B') (h0 : B0 ≤ B) (hb : B ≤ B')
  (hs : r.length ≤ 4294967280 ∧ ∀ a ∈ r, a.1.size ≤ 4294967280 ∧ a.2.size ≤ 4294967280) : RowsO B0 B' w (gs ++ [((go, cap), r)]) := by
 refine ⟨fun x hx => ?_, fun x hx g e => ?_, ?_, fun x hx => ?_⟩
 ·rcases List.mem_append.1 hx with hx | hx
  ·exact h.own x hx
  ·simp at hx; subst hx; exact own
 ·rcases List.mem_append.1 hx with hx | hx
  ·have := h.bnd x hx g e; omega
  ·simp at hx; subst hx
   have := hg g e; omega
 ·rw [List.pairwise_append]
  refine ⟨h.sep, by simp, fun x hx y hy g e e2 => ?_⟩
  simp at hy; subst hy
  have h1 := h.bnd x hx g e
  have h2 := hg g e2
  omega
 ·rcases List.mem_append.1 hx with hx | hx
  ·exact h.size x hx
  ·simp at hx; subst hx; exact hs
theorem Rdns.of_rows {w0 w : World} {go : Option Nat} {n cap : Nat} {gs : List PartO} {B0 B : Nat} (h : Vec 65 1 w0 w go n cap (gs.map rowV)) (hr : RowsO B0 B w gs) (hn : n ≤ 4294967280) :
  Rdns w.heap.size w (go.map fun g => (⟨g, 0, none⟩ : Addr)) n cap (gs.map (·.2)) := by
 have hl := h.own.len
 rw [List.length_map] at hl
 refine ⟨by rw [List.length_map]; omega, h.own.lies, hn, fun b o e i r hx => ?_⟩
 rw [List.getElem?_map] at hx
 cases hg : gs[i]? with
 | none => rw [hg] at hx; cases hx
 | some x =>
  rw [hg] at hx
  cases hx
  have hm := List.mem_of_getElem? hg
  cases go with
  | none => cases e
  | some g =>
   cases e
   refine ⟨_, _, _, ?_, Avas.of_own (hr.own x hm) (hr.size x hm).1 (hr.size x hm).2⟩
   rw [Nat.zero_add]
   exact h.cell (by rw [List.getElem?_map, hg]; rfl)
theorem RowsO.from {B0 B1 B : Nat} {w : World} {gs : List PartO} (h : RowsO B1 B w gs) (hb : B0 ≤ B1) : RowsO B0 B w gs :=
 ⟨h.own, fun x hx g e => ⟨by have := (h.bnd x hx g e).1; omega, (h.bnd x hx g e).2⟩, h.sep, h.size⟩
structure UpO (L B : Nat) (w0 wr : World) (u : Nat) (go : Option Nat) (m cap : Nat) (gs : List PartO) : Prop where
 head : wr.heap[u]? = some (.cells #[sv go m cap] 53 (0, 0))
 new : w0.heap.size ≤ u
 vec : Vec 65 1 w0 wr go m cap (gs.map rowV)
 rows : RowsO L B wr gs
 le : B ≤ wr.heap.size
 lo : w0.heap.size ≤ L
 lb : L ≤ B
 lv : ∀ g, go = some g → L ≤ g
theorem UpO.len {L B : Nat} {w0 wr : World} {u : Nat} {go : Option Nat} {m cap : Nat} {gs : List PartO} (h : UpO L B w0 wr u go m cap gs) : m = gs.length := by
 have hl := h.vec.own.len
 rw [List.length_map] at hl
 omega
theorem UpO.mono {L B B' : Nat} {w0 wr : World} {u : Nat} {go : Option Nat} {m cap : Nat} {gs : List PartO} (h : UpO L B w0 wr u go m cap gs) (hb : B ≤ B') (hl : B' ≤ wr.heap.size) : UpO L B' w0 wr u go m cap gs :=
 ⟨h.head, h.new, h.vec, h.rows.mono hb, hl, h.lo, Nat.le_trans h.lb hb, h.lv⟩
theorem UpO.keep {L B : Nat} {w0 w w' : World} {u : Nat} {go : Option Nat} {m cap : Nat} {gs : List PartO} (h : UpO L B w0 w u go m cap gs) (k : Below w.heap.size w w') : UpO L B w0 w' u go m cap gs :=
 ⟨by rw [k.block u (Array.getElem?_eq_some_iff.1 h.head).1]; exact h.head, h.new, h.vec.next k, h.rows.keep (KeepA.below k h.le), Nat.le_trans h.le k.size, h.lo, h.lb, h.lv⟩
theorem UpO.drewN {L B : Nat} {w0 w : World} {u : Nat} {go : Option Nat} {m cap : Nat} {gs : List PartO} (h : UpO L B w0 w u go m cap gs) (q : Nat) : UpO L B w0 (w.drewN q) u go m cap gs := h.keep ⟨rfl, rfl, rfl, Zr _, fun _ _ => rfl⟩
theorem UpO.chg {L B : Nat} {w0 w w' : World} {u g : Nat} {go : Option Nat} {m cap : Nat} {gs : List PartO} (h : UpO L B w0 w u go m cap gs) (k : Chg (· = g) w w') (h1 : w0.heap.size ≤ g) (h2 : g < L) (h3 : u ≠ g) : UpO L B w0 w' u go m cap gs :=
 ⟨by rw [k.block u (Array.getElem?_eq_some_iff.1 h.head).1 h3]; exact h.head, h.new, h.vec.chg k (fun b e => by rw [e]; exact h1) (fun b e e2 => by have := h.lv b e; have e2 : b = g := e2; omega),
  ⟨fun x hx => (h.rows.own x hx).keep fun b e => k.block b (by have := (h.rows.bnd x hx b e).2; have := h.le; omega) (fun e2 => by have := (h.rows.bnd x hx b e).1; have e2 : b = g := e2; omega), h.rows.bnd, h.rows.sep, h.rows.size⟩,
  Nat.le_trans h.le k.size, h.lo, h.lb, h.lv⟩
theorem UpO.ne {L B : Nat} {w0 w : World} {u : Nat} {go : Option Nat} {m cap : Nat} {gs : List PartO} (h : UpO L B w0 w u go m cap gs) : go ≠ some u := fun e => by
 subst e
 obtain ⟨sp, h1, _⟩ := h.vec.own.row
 rw [h.head] at h1
 have : (53 : Nat) = 65 := by injection h1 with h1; injection h1
 exact absurd this (by decide)
theorem UpO.push {L B : Nat} {w0 w7 w9 : World} {u : Nat} {go : Option Nat} {m cap : Nat} {gs : List PartO} (h : UpO L B w0 w7 u go m cap gs) {g9 cap9 : Nat} {ga : Option Nat} {c : Nat} {r : PRdn}
  (own9 : Own w9 65 1 (some g9) (m + 1) cap9 (gs.map rowV ++ [rowV ((ga, c), r)])) (gr9 : w7.grownBy w9 go) (at9 : go = some g9 ∨ w7.heap.size ≤ g9) (own : Own w7 70 2 ga r.length c (avaV r)) (hg : ∀ g, ga = some g → B ≤ g)
  (hs : r.length ≤ 4294967280 ∧ ∀ a ∈ r, a.1.size ≤ 4294967280 ∧ a.2.size ≤ 4294967280) :
  w9.heap[u]? = some (.cells #[sv go m cap] 53 (0, 0)) ∧ UpO L w7.heap.size w0 (w9.setCell ⟨u, 0, none⟩ (.slice (some ⟨g9, 0, none⟩) (m + 1) cap9)) u (some g9) (m + 1) cap9 (gs ++ [((ga, c), r)]) := by
 have h9 := lt_grown gr9 h.head h.ne
 have hs0 := h.vec.size
 have hl9 : L ≤ g9 := by
  rcases at9 with e | e
  ·exact h.lv _ e
  ·have := h.le; have := h.lb; omega
 have hv9 : Vec 65 1 w0 w9 (some g9) (m + 1) cap9 ((gs ++ [((ga, c), r)]).map rowV) := ⟨by rw [List.map_append]; exact own9, fun g e => by
  cases e
  have := h.lo
  omega, h.vec.below.grown gr9 h.vec.size fun k e => h.vec.fresh k e⟩
 have hk9 : KeepA w7.heap.size w7 w9 := KeepA.grown gr9 fun g e => by
  subst e
  obtain ⟨sp, h1, _⟩ := h.vec.own.row
  exact .inr ⟨_, _, _, h1, by decide⟩
 have hp := h.rows.push (B' := w7.heap.size) own (fun g e => ⟨hg g e, by subst e; exact own.row.lt⟩) h.lb h.le hs
 refine ⟨h9, ?_, h.new, hv9.setO h9 (by decide) h.new _, ?_, by simp [World.setCell]; exact gr9.size, h.lo, Nat.le_trans h.lb h.le, fun g e => by cases e; exact hl9⟩
 ·rw [heap_setCell_same w9 u 0 _ _ _ h9]; rfl
 ·exact (hp.keep hk9).keep (KeepA.setCell (b := u) (j := 0) h9 (by decide) (.slice (some ⟨g9, 0, none⟩) (m + 1) cap9))
def NewName (w w' : World) (na : Option Addr) (n c : Nat) (l : PName) : Prop :=
 ∃ (go : Option Nat) (gs : List PartO), na = go.map (fun g => (⟨g, 0, none⟩ : Addr)) ∧ Vec 65 1 w w' go n c (gs.map rowV) ∧ RowsO w.heap.size w'.heap.size w' gs ∧ gs.map (·.2) = l ∧ n ≤ 4294967280
theorem NewName.rdns {w w' : World} {na : Option Addr} {n c : Nat} {l : PName} (h : NewName w w' na n c l) : Rdns w'.heap.size w' na n c l ∧ Below w.heap.size w w' := by
 obtain ⟨go, gs, rfl, hv, hr, rfl, hn⟩ := h
 exact ⟨Rdns.of_rows hv hr hn, hv.below⟩
theorem NewName.keep {w w1 w' : World} {na : Option Addr} {n c : Nat} {l : PName} (h : NewName w w1 na n c l) (k : Below w1.heap.size w1 w') : NewName w w' na n c l := by
 obtain ⟨go, gs, h1, hv, hr, h2, hn⟩ := h
 exact ⟨go, gs, h1, hv.next k, (hr.keep (KeepA.below k (Zr _))).mono k.size, h2, hn⟩
theorem UpO.new_name {L B : Nat} {w0 w : World} {u : Nat} {go : Option Nat} {m cap : Nat} {gs : List PartO} (h : UpO L B w0 w u go m cap gs) (hm : m ≤ 4294967280) : NewName w0 w (go.map fun g => (⟨g, 0, none⟩ : Addr)) m cap (gs.map (·.2)) :=
 ⟨go, gs, rfl, h.vec, (h.rows.mono h.le).from h.lo, rfl, hm⟩
end Go.Proofs.YtlmfbjhokkpjhaaGreatDoor
namespace Go.Proofs.YtlmfbjhokkpjhaaGreatDoor
open Go Go.RowKit
theorem quiet_callv {P : Program} {C : World → Prop} {o : Oper} {a : Act} {K : Act → Prop} (f : FuncId) (vs : Array Value) (hr : ∀ w, (execOp a.eval o).run P w = .ok (.enter f vs) w) (v : Value) (hc : ∀ w, C w → Calls P f vs w fun e w' => e = .returned v ∧ C w') (hk : K (a.put o.dst v)) : o.quiet P a C K := by
 refine ⟨v, fun w hw => ?_, hk⟩
 unfold Oper.quietAt
 rw [hr]
 exact ⟨rfl, hc w hw⟩
structure Rd (w : World) (g : Nat) (s : ByteArray) (p : Nat) (bad : Option Addr) : Prop where
 c0 : w.cell? ⟨g, 0, none⟩ = some (.string s)
 c1 : w.cell? ⟨g, 1, none⟩ = some (.int .i64 (p : Nat))
 c2 : w.cell? ⟨g, 2, none⟩ = some (.pointer bad)
 fr : ∀ j, w.frozen? ⟨g, j, none⟩ = false
 le : p ≤ s.size
 small : s.size ≤ 1099511627776
theorem Rd.lt {w : World} {g : Nat} {s : ByteArray} {p : Nat} {bad : Option Addr} (h : Rd w g s p bad) : g < w.heap.size := Zb w _ h.c0
theorem Rd.drewN {w : World} {g : Nat} {s : ByteArray} {p : Nat} {bad : Option Addr} (h : Rd w g s p bad) (q : Nat) : Rd (w.drewN q) g s p bad := ⟨h.c0, h.c1, h.c2, h.fr, h.le, h.small⟩
theorem Rd.keep {w w' : World} {g : Nat} {s : ByteArray} {p : Nat} {bad : Option Addr} (h : Rd w g s p bad) (k : Below w.heap.size w w') : Rd w' g s p bad :=
 ⟨by rw [k.cell h.lt]; exact h.c0, by rw [k.cell h.lt]; exact h.c1, by rw [k.cell h.lt]; exact h.c2, fun j => by rw [k.frozen (p := ⟨g, j, none⟩) h.lt]; exact h.fr j, h.le, h.small⟩
theorem Rd.put {w : World} {g : Nat} {s : ByteArray} {p : Nat} {bad : Option Addr} (h : Rd w g s p bad) {q : Nat} (hq : q ≤ s.size) : Rd (w.setCell ⟨g, 1, none⟩ (.int .i64 (q : Nat))) g s q bad :=
 ⟨by rw [World.cell?_setCell_other _ _ _ _ (fun e => by cases e)]; exact h.c0, by rw [World.cell?_setCell_same _ _ _ h.c1], by rw [World.cell?_setCell_other _ _ _ _ (fun e => by cases e)]; exact h.c2, fun j => by rw [World.frozen?_setCell]; exact h.fr j, hq, h.small⟩
def rdAt (g : Nat) (w : World) : Nat := match w.cell? ⟨g, 1, none⟩ with
 | some (.int _ x) => x.toNat
 | _ => 0
theorem rdAt_of {w : World} {g p : Nat} (h : w.cell? ⟨g, 1, none⟩ = some (.int .i64 (p : Nat))) : rdAt g w = p := by unfold rdAt; rw [h]; simp
theorem nletter_any (b : UInt8) (w : World) : Calls Tryz.prog 116 #[.int .u8 (b.toNat : Int)] w fun e w' => e = .returned (.bool (isLet b)) ∧ w' = w := by
 have hl : isLet b = (decide (97 ≤ b.toNat ∧ b.toNat ≤ 122) || decide (65 ≤ b.toNat ∧ b.toNat ≤ 90)) := rfl
 rw [hl]
 generalize b.toNat = n
 rcases (by omega : n < 65 ∨ (65 ≤ n ∧ n ≤ 90) ∨ (90 < n ∧ n < 97) ∨ (97 ≤ n ∧ n ≤ 122) ∨ 122 < n) with h | ⟨h, h2⟩ | ⟨h, h2⟩ | ⟨h, h2⟩ | h
 ·have e1 : (decide (97 ≤ n ∧ n ≤ 122) || decide (65 ≤ n ∧ n ≤ 90)) = false := by simp; omega
  rw [e1]
  have i1 : ¬ (97 : Int) ≤ n := by omega
  have i2 : ¬ (65 : Int) ≤ n := by omega
  clear e1 h
  go_enter Tryz.func116, Tryz.ntmps116
  go_wp2_with fail
  go_ret
  exact ⟨rfl, rfl⟩
 ·have e1 : (decide (97 ≤ n ∧ n ≤ 122) || decide (65 ≤ n ∧ n ≤ 90)) = true := by simp; omega
  rw [e1]
  have i1 : ¬ (97 : Int) ≤ n := by omega
  have i2 : (65 : Int) ≤ n := by omega
  have i3 : (n : Int) ≤ 90 := by omega
  clear e1 h h2
  go_enter Tryz.func116, Tryz.ntmps116
  go_wp2_with fail
  go_ret
  exact ⟨rfl, rfl⟩
 ·have e1 : (decide (97 ≤ n ∧ n ≤ 122) || decide (65 ≤ n ∧ n ≤ 90)) = false := by simp; omega
  rw [e1]
  have i1 : ¬ (97 : Int) ≤ n := by omega
  have i2 : (65 : Int) ≤ n := by omega
  have i3 : ¬ (n : Int) ≤ 90 := by omega
  clear e1 h h2
  go_enter Tryz.func116, Tryz.ntmps116
  go_wp2_with fail
  go_ret
  exact ⟨rfl, rfl⟩
 ·have e1 : (decide (97 ≤ n ∧ n ≤ 122) || decide (65 ≤ n ∧ n ≤ 90)) = true := by simp; omega
  rw [e1]
  have i1 : (97 : Int) ≤ n := by omega
  have i2 : (n : Int) ≤ 122 := by omega
  clear e1 h h2
  go_enter Tryz.func116, Tryz.ntmps116
  go_wp2_with fail
  go_ret
  exact ⟨rfl, rfl⟩
 ·have e1 : (decide (97 ≤ n ∧ n ≤ 122) || decide (65 ≤ n ∧ n ≤ 90)) = false := by simp; omega
  rw [e1]
  have i1 : (97 : Int) ≤ n := by omega
  have i2 : ¬ (n : Int) ≤ 122 := by omega
  have i3 : (65 : Int) ≤ n := by omega
  have i4 : ¬ (n : Int) ≤ 90 := by omega
  clear e1 h
  go_enter Tryz.func116, Tryz.ntmps116
  go_wp2_with fail
  go_ret
  exact ⟨rfl, rfl⟩
theorem ndigit_any (b : UInt8) (w : World) : Calls Tryz.prog 119 #[.int .u8 (b.toNat : Int)] w fun e w' => e = .returned (.bool (dig b)) ∧ w' = w := by
 have hl : dig b = decide (48 ≤ b.toNat ∧ b.toNat ≤ 57) := rfl
 rw [hl]
 generalize b.toNat = n
 rcases (by omega : n < 48 ∨ (48 ≤ n ∧ n ≤ 57) ∨ 57 < n) with h | ⟨h, h2⟩ | h
 ·have e1 : decide (48 ≤ n ∧ n ≤ 57) = false := by simp; omega
  rw [e1]
  have i1 : ¬ (48 : Int) ≤ n := by omega
  clear e1 h
  go_enter Tryz.func119, Tryz.ntmps119
  go_wp2_with fail
  go_ret
  exact ⟨rfl, rfl⟩
 ·have e1 : decide (48 ≤ n ∧ n ≤ 57) = true := by simp; omega
  rw [e1]
  have i1 : (48 : Int) ≤ n := by omega
  have i3 : (n : Int) ≤ 57 := by omega
  clear e1 h h2
  go_enter Tryz.func119, Tryz.ntmps119
  go_wp2_with fail
  go_ret
  exact ⟨rfl, rfl⟩
 ·have e1 : decide (48 ≤ n ∧ n ≤ 57) = false := by simp; omega
  rw [e1]
  have i1 : (48 : Int) ≤ n := by omega
  have i3 : ¬ (n : Int) ≤ 57 := by omega
  clear e1 h
  go_enter Tryz.func119, Tryz.ntmps119
  go_wp2_with fail
  go_ret
  exact ⟨rfl, rfl⟩
set_option maxRecDepth 20000 in
theorem nkind1_any (b : UInt8) (w : World) : Calls Tryz.prog 118 #[.int .u8 (b.toNat : Int)] w fun e w' => e = .returned (.bool (tailC b)) ∧ w' = w := by
 have hl := fun w => nletter_any b w
 have hd := fun w => ndigit_any b w
 have ht : tailC b = (isLet b || dig b || b == 45) := rfl
 rw [ht]
 have h45 : (b == 45) = decide ((b.toNat : Int) = 45) := by
  by_cases e : b = 45
  ·subst e; rfl
  ·have h1 : (b == 45) = false := by simpa using e
   rw [h1]
   symm
   exact decide_eq_false fun h => e (UInt8.toNat_inj.1 (by show b.toNat = 45; omega))
 rw [h45]
 clear h45 ht
 generalize isLet b = x at hl
 generalize dig b = y at hd
 have HL := Zh hl; have HD := Zh hd; clear hl hd
 by_cases h : (b.toNat : Int) = 45
 ·have hb : ((b.toNat : Int) == 45) = true := by simpa using h
  rw [decide_eq_true h]
  clear h
  cases x <;> cases y <;> (
   go_enter Tryz.func118, Tryz.ntmps118
   go_wp2_with (first
    | (go_at_call 116; (with_reducible refine (HL.out _).mono ?_); rintro e w1 ⟨rfl, rfl⟩)
    | (go_at_call 119; (with_reducible refine (HD.out _).mono ?_); rintro e w1 ⟨rfl, rfl⟩)
    | fail)
   go_ret
   exact ⟨rfl, rfl⟩)
 ·have hb : ((b.toNat : Int) == 45) = false := by simpa using h
  rw [decide_eq_false h]
  clear h
  cases x <;> cases y <;> (
   go_enter Tryz.func118, Tryz.ntmps118
   go_wp2_with (first
    | (go_at_call 116; (with_reducible refine (HL.out _).mono ?_); rintro e w1 ⟨rfl, rfl⟩)
    | (go_at_call 119; (with_reducible refine (HD.out _).mono ?_); rintro e w1 ⟨rfl, rfl⟩)
    | fail)
   go_ret
   exact ⟨rfl, rfl⟩)
def twEnd (P : UInt8 → Bool) (l : Str) (p : Nat) : Nat := p + ((l.drop p).takeWhile P).length
theorem tw_in {P : UInt8 → Bool} {s : ByteArray} {p q : Nat} (h1 : p ≤ q) (h2 : q < twEnd P (toL s) p) : ∃ h : q < s.size, P s[q] = true := by
 unfold twEnd at h2
 have h3 : q - p < (((toL s).drop p).takeWhile P).length := by omega
 have hp := List.takeWhile_prefix P (l := (toL s).drop p)
 have hl := hp.length_le
 have hq : q < s.size := by have := Lib.size_eq s; simp only [List.length_drop] at hl; unfold toL at hl h3; omega
 refine ⟨hq, ?_⟩
 have h4 : (((toL s).drop p).takeWhile P)[q - p] ∈ ((toL s).drop p).takeWhile P := List.getElem_mem h3
 have h5 := List.all_eq_true.1 (tw_all P ((toL s).drop p)) _ h4
 have h6 : (((toL s).drop p).takeWhile P)[q - p]? = ((toL s).drop p)[q - p]? := by
  obtain ⟨t, ht⟩ := hp
  conv => rhs; rw [← ht]
  rw [List.getElem?_append_left h3]
 rw [List.getElem?_eq_getElem h3, List.getElem?_drop, show p + (q - p) = q by omega] at h6
 have h7 : (toL s)[q]? = some s[q] := by
  unfold toL
  have := drop_at s hq
  have h8 := congrArg (·[0]?) this
  simpa using h8
 rw [h7] at h6
 rw [Option.some.inj h6] at h5
 exact h5
where
 tw_all (p : UInt8 → Bool) (l : Str) : (l.takeWhile p).all p = true := by
  induction l with
  | nil => rfl
  | cons a l ih =>
   rw [List.takeWhile_cons]
   split
   ·rename_i h; simp [h]
   ·rfl
theorem tw_out {P : UInt8 → Bool} {s : ByteArray} {p : Nat} (hp : p ≤ s.size) : twEnd P (toL s) p ≤ s.size ∧ ∀ h : twEnd P (toL s) p < s.size, P (s[twEnd P (toL s) p]'h) = false := by
 have hpre := List.takeWhile_prefix P (l := (toL s).drop p)
 have hl := hpre.length_le
 have hz := Lib.size_eq s
 have hle : twEnd P (toL s) p ≤ s.size := by unfold twEnd; simp only [List.length_drop] at hl; unfold toL at hl ⊢; omega
 refine ⟨hle, fun h => ?_⟩
 have h7 : (toL s)[twEnd P (toL s) p]? = some (s[twEnd P (toL s) p]'h) := by
  unfold toL at h ⊢
  have := drop_at s h
  have h8 := congrArg (·[0]?) this
  simpa using h8
 have h9 : ((toL s).drop p)[(((toL s).drop p).takeWhile P).length]? = some (s[twEnd P (toL s) p]'h) := by
  rw [List.getElem?_drop]; exact h7
 exact tw_stop P _ h9
where
 tw_stop (P : UInt8 → Bool) (l : Str) {c : UInt8} (h : l[(l.takeWhile P).length]? = some c) : P c = false := by
  induction l with
  | nil => simp at h
  | cons a l ih =>
   rw [List.takeWhile_cons] at h
   split at h
   ·simp at h; exact ih h
   ·rename_i h2; simp at h; rw [← h]; simpa using h2
set_option maxRecDepth 20000 in
set_option maxHeartbeats 1000000 in
theorem skipT_any (g : Nat) (s : ByteArray) (p : Nat) (bad : Option Addr) (w : World) (h : Rd w g s p bad) :
  Calls Tryz.prog 117 #[.pointer (some ⟨g, 0, none⟩), .func (.func 118) #[] #[]] w fun e w' =>
   e = .returned (.int .i64 ((twEnd tailC (toL s) p : Nat) - (p : Nat))) ∧ Rd w' g s (twEnd tailC (toL s) p) bad ∧ Chg (· = g) w w' := by
 have hin := fun q h1 h2 => @tw_in tailC s p q h1 h2
 obtain ⟨ho1, ho2⟩ := @tw_out tailC s p h.le
 have hpe : p ≤ twEnd tailC (toL s) p := by unfold twEnd; omega
 generalize twEnd tailC (toL s) p = pe at hin ho1 ho2 hpe ⊢
 have hsm := h.small
 have c1 := h.c1
 have HR := Zh h; have HIN := Zh hin; have HO := Zh ho2; clear h hin ho2
 go_enter Tryz.func117, Tryz.ntmps117
 go_wp2_with fail
 go_loopw [] (fun wr => ∃ q : Nat, p ≤ q ∧ q ≤ pe ∧ Rd wr g s q bad ∧ Chg (· = g) w wr) (fun wr => pe - rdAt g wr)
 case atStart => exact ⟨p, Zr _, hpe, HR.out, Chg.refl _ _⟩
 case round =>
  obtain ⟨q, h1, h2, hrd, hch⟩ := hrel
  have e0 := hrd.c0
  have e1 := hrd.c1
  have ef := hrd.fr 1
  have HRD := Zh (Zi hrd hch); clear hrd hch
  have hat := rdAt_of e1
  have HAT := Zh hat; clear hat
  by_cases hz : q < s.size
  ·have d1 : decide ((q : Int) < (s.size : Int)) = true := by simp; omega
   have d2 : (q : Int) < (s.size : Int) := by omega
   have d3 : (0 : Int) ≤ (q : Int) := by omega
   by_cases hlt : q < pe
   ·obtain ⟨hz2, hb⟩ := HIN.out q h1 hlt
    have hc := fun w => nkind1_any (s[q]'hz) w
    rw [hb] at hc
    have HC := Zh hc; clear hc hb
    generalize hbb : (s[q]'hz) = bb at HC
    go_wp2_with fail
    refine wp_region_quiet_lit (by kernel_rfl) (by kernel_rfl) ?_
    repeat (go_big_quiet_step (fail))
    go_big_quiet_want
    refine quiet_callv 118 #[.int .u8 (bb.toNat : Int)] (fun w => by kernel_rfl) (.bool true) (fun w hw => ?_) ?_
    ·obtain ⟨m, rfl⟩ := hw
     exact (HC.out _).mono fun e w' ⟨h1, h2⟩ => ⟨h1, m, h2⟩
    simp only [Act.put, Z1, Z2, Z3]
    go_big_quiet_on
    repeat (go_big_quiet_step (fail))
    refine wpQuiet_nil ?_
    intro _ hw'
    obtain ⟨nq, hw''⟩ := hw'
    subst hw''
    go_wp2_with fail
    have hfin := (HRD.out.1.drewN nq).put (q := q + 1) (by omega)
    rw [show (((q + 1 : Nat)) : Int) = (q : Int) + 1 by omega] at hfin
    refine ⟨⟨q + 1, by omega, by omega, hfin, (HRD.out.2.drewN nq).setCell (p := ⟨g, 1, none⟩) (fun _ => rfl) _⟩, ?_⟩
    rw [HAT.out, rdAt_of (p := q + 1) hfin.c1]
    omega
   ·obtain rfl : q = pe := by omega
    have hb := HO.out hz
    have hc := fun w => nkind1_any (s[q]'hz) w
    rw [hb] at hc
    have HC := Zh hc; clear hc hb
    generalize hbb : (s[q]'hz) = bb at HC
    go_wp2_with fail
    refine wp_region_quiet_lit (by kernel_rfl) (by kernel_rfl) ?_
    repeat (go_big_quiet_step (fail))
    go_big_quiet_want
    refine quiet_callv 118 #[.int .u8 (bb.toNat : Int)] (fun w => by kernel_rfl) (.bool false) (fun w hw => ?_) ?_
    ·obtain ⟨m, rfl⟩ := hw
     exact (HC.out _).mono fun e w' ⟨h1, h2⟩ => ⟨h1, m, h2⟩
    simp only [Act.put, Z1, Z2, Z3]
    go_big_quiet_on
    repeat (go_big_quiet_step (fail))
    refine wpQuiet_nil ?_
    intro _ hw'
    obtain ⟨nq, hw''⟩ := hw'
    subst hw''
    go_wp2_with fail
    go_ret
    exact ⟨rfl, HRD.out.1.drewN _, HRD.out.2.drewN _⟩
  ·have hq1 := HRD.out.1.le
   obtain rfl : q = pe := by omega
   have d1 : decide ((q : Int) < (s.size : Int)) = false := by simp; omega
   go_wp2_with fail
   go_quiet (fail)
   go_wp2_with fail
   go_ret
   exact ⟨rfl, HRD.out.1.drewN _, HRD.out.2.drewN _⟩
set_option maxRecDepth 20000 in
set_option maxHeartbeats 1000000 in
theorem skipD_any (g : Nat) (s : ByteArray) (p : Nat) (bad : Option Addr) (w : World) (h : Rd w g s p bad) :
  Calls Tryz.prog 117 #[.pointer (some ⟨g, 0, none⟩), .func (.func 119) #[] #[]] w fun e w' =>
   e = .returned (.int .i64 ((twEnd dig (toL s) p : Nat) - (p : Nat))) ∧ Rd w' g s (twEnd dig (toL s) p) bad ∧ Chg (· = g) w w' := by
 have hin := fun q h1 h2 => @tw_in dig s p q h1 h2
 obtain ⟨ho1, ho2⟩ := @tw_out dig s p h.le
 have hpe : p ≤ twEnd dig (toL s) p := by unfold twEnd; omega
 generalize twEnd dig (toL s) p = pe at hin ho1 ho2 hpe ⊢
 have hsm := h.small
 have c1 := h.c1
 have HR := Zh h; have HIN := Zh hin; have HO := Zh ho2; clear h hin ho2
 go_enter Tryz.func117, Tryz.ntmps117
 go_wp2_with fail
 go_loopw [] (fun wr => ∃ q : Nat, p ≤ q ∧ q ≤ pe ∧ Rd wr g s q bad ∧ Chg (· = g) w wr) (fun wr => pe - rdAt g wr)
 case atStart => exact ⟨p, Zr _, hpe, HR.out, Chg.refl _ _⟩
 case round =>
  obtain ⟨q, h1, h2, hrd, hch⟩ := hrel
  have e0 := hrd.c0
  have e1 := hrd.c1
  have ef := hrd.fr 1
  have HRD := Zh (Zi hrd hch); clear hrd hch
  have hat := rdAt_of e1
  have HAT := Zh hat; clear hat
  by_cases hz : q < s.size
  ·have d1 : decide ((q : Int) < (s.size : Int)) = true := by simp; omega
   have d2 : (q : Int) < (s.size : Int) := by omega
   have d3 : (0 : Int) ≤ (q : Int) := by omega
   by_cases hlt : q < pe
   ·obtain ⟨hz2, hb⟩ := HIN.out q h1 hlt
    have hc := fun w => ndigit_any (s[q]'hz) w
    rw [hb] at hc
    have HC := Zh hc; clear hc hb
    generalize hbb : (s[q]'hz) = bb at HC
    go_wp2_with fail
    refine wp_region_quiet_lit (by kernel_rfl) (by kernel_rfl) ?_
    repeat (go_big_quiet_step (fail))
    go_big_quiet_want
    refine quiet_callv 119 #[.int .u8 (bb.toNat : Int)] (fun w => by kernel_rfl) (.bool true) (fun w hw => ?_) ?_
    ·obtain ⟨m, rfl⟩ := hw
     exact (HC.out _).mono fun e w' ⟨h1, h2⟩ => ⟨h1, m, h2⟩
    simp only [Act.put, Z1, Z2, Z3]
    go_big_quiet_on
    repeat (go_big_quiet_step (fail))
    refine wpQuiet_nil ?_
    intro _ hw'
    obtain ⟨nq, hw''⟩ := hw'
    subst hw''
    go_wp2_with fail
    have hfin := (HRD.out.1.drewN nq).put (q := q + 1) (by omega)
    rw [show (((q + 1 : Nat)) : Int) = (q : Int) + 1 by omega] at hfin
    refine ⟨⟨q + 1, by omega, by omega, hfin, (HRD.out.2.drewN nq).setCell (p := ⟨g, 1, none⟩) (fun _ => rfl) _⟩, ?_⟩
    rw [HAT.out, rdAt_of (p := q + 1) hfin.c1]
    omega
   ·obtain rfl : q = pe := by omega
    have hb := HO.out hz
    have hc := fun w => ndigit_any (s[q]'hz) w
    rw [hb] at hc
    have HC := Zh hc; clear hc hb
    generalize hbb : (s[q]'hz) = bb at HC
    go_wp2_with fail
    refine wp_region_quiet_lit (by kernel_rfl) (by kernel_rfl) ?_
    repeat (go_big_quiet_step (fail))
    go_big_quiet_want
    refine quiet_callv 119 #[.int .u8 (bb.toNat : Int)] (fun w => by kernel_rfl) (.bool false) (fun w hw => ?_) ?_
    ·obtain ⟨m, rfl⟩ := hw
     exact (HC.out _).mono fun e w' ⟨h1, h2⟩ => ⟨h1, m, h2⟩
    simp only [Act.put, Z1, Z2, Z3]
    go_big_quiet_on
    repeat (go_big_quiet_step (fail))
    refine wpQuiet_nil ?_
    intro _ hw'
    obtain ⟨nq, hw''⟩ := hw'
    subst hw''
    go_wp2_with fail
    go_ret
    exact ⟨rfl, HRD.out.1.drewN _, HRD.out.2.drewN _⟩
  ·have hq1 := HRD.out.1.le
   obtain rfl : q = pe := by omega
   have d1 : decide ((q : Int) < (s.size : Int)) = false := by simp; omega
   go_wp2_with fail
   go_quiet (fail)
   go_wp2_with fail
   go_ret
   exact ⟨rfl, HRD.out.1.drewN _, HRD.out.2.drewN _⟩
end Go.Proofs.YtlmfbjhokkpjhaaGreatDoor
