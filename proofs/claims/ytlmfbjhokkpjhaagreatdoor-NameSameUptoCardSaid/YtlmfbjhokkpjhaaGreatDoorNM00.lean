/- Part 0 of the walks and plain laws, joined: Mem, Txt, Env. -/
import Derived.Below
import Derived.Test.YtlmfbjhokkpjhaaGreatDoorProg
import Derived.WalkKit
import Derived.WalkSpells
import Derived.WalkLawsBesides
import Derived.Deep.QuietTactic
import Derived.BigQuiet
import Derived.Lib.Hide
import Derived.Maps.AppendAt
import Derived.Deep.RegionLaw
import Derived.Deep.RegionHeld3
import Derived.Deep.DrawnRows
import Derived.Laws.CopyOwn
import Derived.Lib.Strings
import Derived.Lib.Bytealg
import Derived.Lib.LaidTab
import Derived.Lib.ItoaMem
set_option linter.unusedVariables false
set_option linter.unusedSimpArgs false
namespace Go.Proofs.YtlmfbjhokkpjhaaGreatDoor
open Go Go.RowKit
theorem Z1 {α : Type _} (l : List α) (i : Nat) (a : α) : l.toArray.setIfInBounds i a = (l.set i a).toArray := List.setIfInBounds_toArray l i a
theorem Z2 {α : Type _} {x : α} {xs : List α} {a : α} : (x :: xs).set 0 a = a :: xs := List.set_cons_zero
theorem Z3 {α : Type _} {x : α} {xs : List α} {i : Nat} {a : α} : (x :: xs).set (i + 1) a = x :: xs.set i a := List.set_cons_succ
theorem Z4 {α : Type _} {xs : List α} {i : Nat} (h : i < xs.toArray.size) : xs.toArray[i] = xs[i]'(by simpa using h) := List.getElem_toArray h
theorem Z5 {α : Type _} (a : α) (xs : List α) (h : 0 < (a :: xs).length) : (a :: xs)[0] = a := List.getElem_cons_zero a xs h
theorem Z6 {α : Type _} (a : α) (xs : List α) (i : Nat) (h : i + 1 < (a :: xs).length) : (a :: xs)[i + 1] = xs[i]'(Nat.lt_of_succ_lt_succ h) := List.getElem_cons_succ a xs i h
theorem Zb (w : World) (a : Addr) {v : Value} (h : w.cell? a = some v) : a.block < w.heap.size := World.block_lt_of_cell? w a h
theorem Zh {p : Prop} (h : p) : Hid p := Lib.hid h
theorem Zi {a b : Prop} (h : a) (k : b) : a ∧ b := ⟨h, k⟩
theorem Zr (n : Nat) : n ≤ n := Nat.le_refl n
theorem Zl (B : Nat) (w : World) : Below B w w := Below.refl B w
theorem Zk {P : Program} {ops : Array Oper} {md : Region.Mode} {Q : Exit → Act → World → Prop} {S : World → Prop} {i : Nat} {oi : Oper} {v : Value} {fuel : Nat} {listed : Array Bool} {a : Act} {w : World} (hi : ops[i]? = some oi)
    (h : wpAnyH P md ops Q S fuel (listed.setIfInBounds i true) (a.put oi.dst v) w) (hs : Region.noSelect ops = true := by kernel_rfl) (hf : Region.free md ops listed i = true := by kernel_rfl) (hr : (Region.ready md ops listed).contains i = true := by kernel_rfl)
    (hQ : ∀ c a w, Q (.panic c) (a.put oi.dst v) w → Q (.panic c) a w := by exact fun _ _ _ h => h) (hy : YieldsIf P ops S oi v a := by exact Or.inl ⟨by rfl, by (intro w hSw; (try dsimp only at hSw); go_simp; (first | done | with_reducible rfl))⟩) (hS : S w := by assumption) : wpAnyH P md ops Q S (fuel + 1) listed a w := wpAnyH_take hi hs hf hr hQ hy hS h
def Row (w : World) (g : Nat) (e sz cap : Nat) (xs : List Value) : Prop :=
 ∃ sp : List Value, w.heap[g]? = some (.cells (xs ++ sp).toArray e (0, 0)) ∧ cap * sz ≤ xs.length + sp.length ∧ cap ≤ maxLen
theorem Row.lt {w : World} {g e sz cap : Nat} {xs : List Value} (h : Row w g e sz cap xs) : g < w.heap.size := by
 obtain ⟨sp, hh, _⟩ := h
 exact (Array.getElem?_eq_some_iff.1 hh).1
theorem Row.pre {w : World} {g e sz cap : Nat} {xs ys : List Value} (h : Row w g e sz cap (xs ++ ys)) : Row w g e sz cap xs := by
 obtain ⟨sp, hh, hl, hm⟩ := h
 exact ⟨ys ++ sp, by rw [← List.append_assoc]; exact hh, by simp at hl ⊢; omega, hm⟩
theorem Row.take {w : World} {g e sz cap : Nat} {xs : List Value} (h : Row w g e sz cap xs) (n : Nat) : Row w g e sz cap (xs.take n) := by
 apply Row.pre (ys := xs.drop n); rw [List.take_append_drop]; exact h
theorem Row.cap {w : World} {g e sz cap cap' : Nat} {xs : List Value} (h : Row w g e sz cap xs) (hc : cap' ≤ cap) : Row w g e sz cap' xs := by
 obtain ⟨sp, hh, hl, hm⟩ := h
 exact ⟨sp, hh, Nat.le_trans (Nat.mul_le_mul_right _ hc) hl, Nat.le_trans hc hm⟩
theorem Row.cell {w : World} {g e sz cap : Nat} {xs : List Value} (h : Row w g e sz cap xs) {j : Nat} {v : Value} (hj : xs[j]? = some v) : w.cell? ⟨g, j, none⟩ = some v := by
 obtain ⟨sp, hh, _⟩ := h
 have hlt : j < xs.length := (List.getElem?_eq_some_iff.1 hj).1
 rw [cell_of_row w g j _ e (0, 0) hh]
 simp [List.getElem?_append_left hlt, hj]
theorem Row.frozen {w : World} {g e sz cap : Nat} {xs : List Value} (h : Row w g e sz cap xs) (j : Nat) : w.frozen? ⟨g, j, none⟩ = false := by
 obtain ⟨sp, hh, _⟩ := h
 exact frozen_of_row w g j _ e hh
theorem Row.keep {w w' : World} {g e sz cap : Nat} {xs : List Value} (h : Row w g e sz cap xs) (hk : w'.heap[g]? = w.heap[g]?) : Row w' g e sz cap xs := by
 obtain ⟨sp, hh, r⟩ := h
 exact ⟨sp, by rw [hk]; exact hh, r⟩
theorem Row.grown {w w' : World} {row : Option Nat} {g e sz cap : Nat} {xs : List Value} (h : Row w g e sz cap xs) (hg : w.grownBy w' row) (hne : some g ≠ row) : Row w' g e sz cap xs :=
 h.keep (hg.block g h.lt hne)
theorem Row.drewN {w : World} {g e sz cap : Nat} {xs : List Value} (h : Row w g e sz cap xs) (q : Nat) : Row (w.drewN q) g e sz cap xs := h.keep rfl
theorem Row.drew {w : World} {g e sz cap : Nat} {xs : List Value} (h : Row w g e sz cap xs) : Row w.drew g e sz cap xs := h.keep rfl
theorem Row.set {w : World} {g e sz cap : Nat} {xs : List Value} (h : Row w g e sz cap xs) {j : Nat} (hj : j < xs.length) (v : Value) : Row (w.setCell ⟨g, j, none⟩ v) g e sz cap (xs.set j v) := by
 obtain ⟨sp, hh, hl, hm⟩ := h
 refine ⟨sp, ?_, by simpa using hl, hm⟩
 rw [heap_setCell_same w g j _ e v hh]
 congr 2
 apply Array.ext'
 simp [List.set_append_left _ _ hj]
theorem Row.setNe {w : World} {g e sz cap : Nat} {xs : List Value} (h : Row w g e sz cap xs) {a : Addr} (hne : g ≠ a.block) (v : Value) : Row (w.setCell a v) g e sz cap xs :=
 h.keep (Below.heap_setCell w a v g hne)
def sv (go : Option Nat) (n cap : Nat) : Value := .slice (go.map fun g => (⟨g, 0, none⟩ : Addr)) n cap
def Own (w : World) (e sz : Nat) (go : Option Nat) (n cap : Nat) (xs : List Value) : Prop :=
 xs.length = n * sz ∧ match go with
  | none => n = 0 ∧ cap = 0
  | some g => n ≤ cap ∧ Row w g e sz cap xs
theorem Own.nil (w : World) (e sz : Nat) : Own w e sz none 0 0 [] := ⟨by simp, rfl, rfl⟩
theorem Own.mk {w : World} {e sz g n cap : Nat} {xs : List Value} (h : Row w g e sz cap xs) (hl : xs.length = n * sz) (hn : n ≤ cap) : Own w e sz (some g) n cap xs := ⟨hl, hn, h⟩
theorem Own.row {w : World} {e sz g n cap : Nat} {xs : List Value} (h : Own w e sz (some g) n cap xs) : Row w g e sz cap xs := h.2.2
theorem Own.le {w : World} {e sz g n cap : Nat} {xs : List Value} (h : Own w e sz (some g) n cap xs) : n ≤ cap := h.2.1
theorem Own.len {w : World} {e sz n cap : Nat} {go : Option Nat} {xs : List Value} (h : Own w e sz go n cap xs) : xs.length = n * sz := h.1
theorem Own.keep {w w' : World} {e sz n cap : Nat} {go : Option Nat} {xs : List Value} (h : Own w e sz go n cap xs) (hk : ∀ g, go = some g → w'.heap[g]? = w.heap[g]?) : Own w' e sz go n cap xs := by
 cases go with
 | none => exact h
 | some g => exact ⟨h.1, h.2.1, h.2.2.keep (hk g rfl)⟩
section
variable {P : Program}
theorem Row.of_owns {w : World} {e sz g k cap : Nat} {xs : List Value} (h : w.ownsRow 0 e sz (.slice (some ⟨g, 0, none⟩) k cap) k xs) : Row w g e sz cap xs := by
 obtain ⟨hl, h2⟩ := h
 rcases h2 with ⟨h3, _⟩ | ⟨g', cap', cur, h3, _, hh, hn, hm, hs, ht⟩
 ·cases h3
 ·simp only [Value.slice.injEq, Option.some.injEq, Addr.mk.injEq, and_true, true_and] at h3
  obtain ⟨rfl, rfl⟩ := h3
  refine ⟨cur.toList.drop (k * sz), ?_, ?_, hm⟩
  ·rw [← ht, List.take_append_drop]; simpa using hh
  ·have h1 : k * sz ≤ cap * sz := Nat.mul_le_mul_right _ hn
   rw [hl]; simp [hs]; omega
theorem run_app (w : World) (t ty e : TypeId) (i : TypeInfo) (z : Value) (sz bytes : Nat) (ht : P.underlying t = some (.slice e)) (hi : P.info? e = some i) (hz : i.zero = some z)
  (hsize : i.size = sz) (hby : i.bytes = bytes) (hzs : z.cells.size = sz) (hsz : 0 < sz) (hbp : 0 < bytes)
  {go : Option Nat} {n cap : Nat} {xs : List Value} (hown : Own w e sz go n cap xs)
  (sa : Option Addr) (m c : Nat) (news : List Value) (hsn : sa = none → m = 0 ∧ c = 0) (hl : news.length = m * sz)
  (hnews : ∀ ad, sa = some ad → ∀ j u, news[j]? = some u → w.cell? (ad.add j) = some u) (h1 : ∀ u ∈ news, u.oneCell' = true)
  (hbytes : (n + m) * bytes ≤ 140737488355328) :
  ∃ go' cap' w', (Builtin.append_ #[t, t] ty #[sv go n cap, .slice sa m c]).run P w = .ok (sv go' (n + m) cap') w' ∧ Own w' e sz go' (n + m) cap' (xs ++ news) ∧
   w.grownBy w' go ∧ (go' = go ∨ go' = some w.heap.size) := by
 subst hsize
 subst hby
 have h63 : n + m ≤ maxLen := by
  have : (n + m) * 1 ≤ (n + m) * i.bytes := Nat.mul_le_mul_left _ hbp
  simp only [maxLen]; omega
 have hsmall : n + m ≤ 9223372036854775807 := by simp only [maxLen] at h63; omega
 have hlen : (xs ++ news).length = (n + m) * i.size := by rw [List.length_append, hown.1, hl, Nat.add_mul]
 by_cases hm : m = 0
 ·subst hm
  have hn : news = [] := List.eq_nil_of_length_eq_zero (by simpa using hl)
  subst hn
  refine ⟨go, cap, w, ?_, by simpa using hown, ⟨rfl, rfl, rfl, Zr _, fun _ _ _ => rfl⟩, .inl rfl⟩
  cases go with
  | none =>
   obtain ⟨rfl, rfl⟩ := hown.2
   cases sa <;> simp [sv, Builtin.append_, run_underlying ht, sizeOf, typeInfo, hi, Builtin.lenOf, Builtin.firstCells, loadCells, loadCellsFrom]
  | some g =>
   have hnc := hown.le
   cases sa <;> simp [sv, Builtin.append_, run_underlying ht, sizeOf, typeInfo, hi, Builtin.lenOf, Builtin.firstCells, loadCells, loadCellsFrom, hnc, storeCells]
 obtain ⟨a, rfl⟩ : ∃ a, sa = some a := by
  cases sa with
  | none => exact absurd (hsn rfl).1 hm
  | some a => exact ⟨a, rfl⟩
 have hnews' := hnews a rfl
 have grown : ∀ (old : Nat) (row : Option Nat),
   Own (w.drew.alloc (.cells (xs.toArray ++ news.toArray ++ Builtin.zeroCells z.cells (grownCap w (n + m) old e - (n + m))) e)) e i.size (some w.heap.size) (n + m) (grownCap w (n + m) old e) (xs ++ news) ∧
   w.grownBy (w.drew.alloc (.cells (xs.toArray ++ news.toArray ++ Builtin.zeroCells z.cells (grownCap w (n + m) old e - (n + m))) e)) row := by
  intro old row
  have hge := grownCap_ge w (n + m) old e
  have hcm : grownCap w (n + m) old e ≤ maxLen := grownCap_le_maxLen w (n + m) old e h63
  refine ⟨Own.mk ⟨(Builtin.zeroCells z.cells (grownCap w (n + m) old e - (n + m))).toList, ?_, ?_, hcm⟩ hlen hge, ⟨rfl, rfl, rfl, by simp, fun k hk _ => Below.heap_alloc w.drew _ k hk⟩⟩
  ·have := heap_alloc_new w.drew (.cells (xs.toArray ++ news.toArray ++ Builtin.zeroCells z.cells (grownCap w (n + m) old e - (n + m))) e)
   refine this.trans ?_
   congr 2
   apply Array.ext'
   simp
  ·rw [hlen]
   simp only [Array.length_toList, size_zeroCells, hzs, ← Nat.add_mul]
   exact Nat.mul_le_mul_right _ (by omega)
 cases go with
 | none =>
  obtain ⟨rfl, rfl⟩ := hown.2
  have hx : xs = [] := List.eq_nil_of_length_eq_zero (by simpa using hown.1)
  subst hx
  have hr := run_append_nil (P := P) w t ty e i z ht hi hz a m c news hl hnews' (by omega) (by omega) (by have hb := hbytes; simp only [Nat.zero_add] at hb; omega)
  have hgr := grown 0 none
  simp only [Nat.zero_add, List.nil_append, Array.empty_append] at hgr ⊢
  exact ⟨some w.heap.size, grownCap w m 0 e, _, hr, hgr.1, hgr.2, .inr rfl⟩
 | some g =>
  obtain ⟨sp, hh, hsl, hcm⟩ := hown.row
  by_cases hroom : n + m ≤ cap
  ·have hle : (n + m) * i.size ≤ cap * i.size := Nat.mul_le_mul_right _ hroom
   have hx1 := hown.1
   have hfit : n * i.size + news.length ≤ (xs ++ sp).toArray.size := by
    rw [hl, ← Nat.add_mul]; simp; omega
   have hr := run_append_room (P := P) w t ty e i ht hi g n cap (xs ++ sp).toArray hh a m c news hl hnews' h1 hroom hfit
   refine ⟨some g, cap, _, hr, Own.mk ⟨(xs ++ sp).drop (n * i.size + news.length), ?_, ?_, hcm⟩ hlen hroom, ⟨rfl, rfl, rfl, by simp [World.setRow], fun k _ hk => setRow_other w g k _ (fun e => hk (by simp [e]))⟩, .inl rfl⟩
   ·rw [setRow_heap w g _ _ e _ hh]
    congr 2
    rw [← hown.1]
    simp
   ·rw [hlen, hl, List.length_drop, List.length_append, ← Nat.add_mul]; omega
  ·have holds : ∀ j u, xs[j]? = some u → w.cell? ((⟨g, 0, none⟩ : Addr).add j) = some u := fun j u hu => by
    rw [Addr.add_lit, Nat.zero_add]; exact hown.row.cell hu
   have hr := run_append_grow (P := P) w t ty e i z ht hi hz ⟨g, 0, none⟩ n cap xs hown.1 holds a m c news hl hnews' (by omega) (by omega) (growslice_fits (by omega) hbytes)
   have hgr := grown cap (some g)
   exact ⟨some w.heap.size, grownCap w (n + m) cap e, _, hr, hgr.1, hgr.2, .inr rfl⟩
theorem wp_app {w : World} {o : Oper} {a : Act} {K : Act → World → Prop} {Q : Exit → Act → World → Prop} (s x : Operand) (t : TypeId)
  (ho : o.op = .call { callee := .builtin .append, args := #[s, x], argTypes := #[t, t] })
  (e : TypeId) (i : TypeInfo) (z : Value) (sz bytes : Nat) (ht : P.underlying t = some (.slice e)) (hi : P.info? e = some i) (hz : i.zero = some z)
  (hsize : i.size = sz) (hby : i.bytes = bytes) (hzs : z.cells.size = sz) (hsz : 0 < sz) (hbp : 0 < bytes)
  (go : Option Nat) (n cap : Nat) (xs : List Value) (hs : a.eval s = sv go n cap) (hown : Own w e sz go n cap xs)
  (sa : Option Addr) (m c : Nat) (news : List Value) (hx : a.eval x = .slice sa m c) (hsn : sa = none → m = 0 ∧ c = 0) (hl : news.length = m * sz)
  (hnews : ∀ ad, sa = some ad → ∀ j u, news[j]? = some u → w.cell? (ad.add j) = some u) (h1 : ∀ u ∈ news, u.oneCell' = true)
  (hbytes : (n + m) * bytes ≤ 140737488355328)
  (h : ∀ go' cap' w', Own w' e sz go' (n + m) cap' (xs ++ news) → w.grownBy w' go → (go' = go ∨ go' = some w.heap.size) → K (a.put o.dst (sv go' (n + m) cap')) w') : o.wp P a w K Q := by
 obtain ⟨go', cap', w', hr, h2, h3, h4⟩ := run_app (P := P) w t o.type e i z sz bytes ht hi hz hsize hby hzs hsz hbp hown sa m c news hsn hl hnews h1 hbytes
 unfold Oper.wp execOp
 simp only [ho, resolve, invoke, builtin, Sem.run_bind, Sem.run_pure, Result.andThen_ok, List.map_toArray, List.map_cons, List.map_nil, hs, hx, hr]
 exact h go' cap' w' h2 h3 h4
theorem wpList_app {w : World} {ops : Array Oper} {rest : List Oper} {o : Oper} {a : Act} {Q : Exit → Act → World → Prop} (hgd : o.guard = none) (s x : Operand) (t : TypeId)
  (ho : o.op = .call { callee := .builtin .append, args := #[s, x], argTypes := #[t, t] })
  (e : TypeId) (i : TypeInfo) (z : Value) (sz bytes : Nat) (ht : P.underlying t = some (.slice e)) (hi : P.info? e = some i) (hz : i.zero = some z)
  (hsize : i.size = sz) (hby : i.bytes = bytes) (hzs : z.cells.size = sz) (hsz : 0 < sz) (hbp : 0 < bytes)
  (go : Option Nat) (n cap : Nat) (xs : List Value) (hs : a.eval s = sv go n cap) (hown : Own w e sz go n cap xs)
  (sa : Option Addr) (m c : Nat) (news : List Value) (hx : a.eval x = .slice sa m c) (hsn : sa = none → m = 0 ∧ c = 0) (hl : news.length = m * sz)
  (hnews : ∀ ad, sa = some ad → ∀ j u, news[j]? = some u → w.cell? (ad.add j) = some u) (h1 : ∀ u ∈ news, u.oneCell' = true)
  (hbytes : (n + m) * bytes ≤ 140737488355328) (hpos : 0 < n + m)
  (h : ∀ g cap' w', Own w' e sz (some g) (n + m) cap' (xs ++ news) → w.grownBy w' go → (go = some g ∨ g = w.heap.size) → wpList P ops Q rest (a.put o.dst (.slice (some ⟨g, 0, none⟩) (n + m) cap')) w') : wpList P ops Q (o :: rest) a w :=
 wpList_plain hgd fun _ hK => wp_app s x t ho e i z sz bytes ht hi hz hsize hby hzs hsz hbp go n cap xs hs hown sa m c news hx hsn hl hnews h1 hbytes fun go' cap' w' h2 h3 h4 => by
  cases go' with
  | none => have := h2.2.1; omega
  | some g => exact hK _ _ (h g cap' w' h2 h3 (h4.elim (fun h => .inl h.symm) (fun h => .inr (Option.some.inj h))))
theorem wpList_app0 {w : World} {ops : Array Oper} {rest : List Oper} {o : Oper} {a : Act} {Q : Exit → Act → World → Prop} (hgd : o.guard = none) (s x : Operand) (t : TypeId)
  (ho : o.op = .call { callee := .builtin .append, args := #[s, x], argTypes := #[t, t] })
  (e : TypeId) (i : TypeInfo) (z : Value) (sz bytes : Nat) (ht : P.underlying t = some (.slice e)) (hi : P.info? e = some i) (hz : i.zero = some z)
  (hsize : i.size = sz) (hby : i.bytes = bytes) (hzs : z.cells.size = sz) (hsz : 0 < sz) (hbp : 0 < bytes)
  (go : Option Nat) (n cap : Nat) (xs : List Value) (hs : a.eval s = sv go n cap) (hown : Own w e sz go n cap xs)
  (sa : Option Addr) (m c : Nat) (news : List Value) (hx : a.eval x = .slice sa m c) (hsn : sa = none → m = 0 ∧ c = 0) (hl : news.length = m * sz)
  (hnews : ∀ ad, sa = some ad → ∀ j u, news[j]? = some u → w.cell? (ad.add j) = some u) (h1 : ∀ u ∈ news, u.oneCell' = true)
  (hbytes : (n + m) * bytes ≤ 140737488355328)
  (h : ∀ go' cap' w', Own w' e sz go' (n + m) cap' (xs ++ news) → w.grownBy w' go → (go' = go ∨ go' = some w.heap.size) → wpList P ops Q rest (a.put o.dst (sv go' (n + m) cap')) w') : wpList P ops Q (o :: rest) a w :=
 wpList_plain hgd fun _ hK => wp_app s x t ho e i z sz bytes ht hi hz hsize hby hzs hsz hbp go n cap xs hs hown sa m c news hx hsn hl hnews h1 hbytes fun go' cap' w' h2 h3 h4 => hK _ _ (h go' cap' w' h2 h3 h4)
theorem step_app {w : World} {ops : Array Oper} {o : Oper} {a : Act} {K : Act → World → Prop} {Q : Exit → Act → World → Prop} {E : Prop} (hgd : o.guard = none) (s x : Operand) (t : TypeId)
  (ho : o.op = .call { callee := .builtin .append, args := #[s, x], argTypes := #[t, t] })
  (e : TypeId) (i : TypeInfo) (z : Value) (sz bytes : Nat) (ht : P.underlying t = some (.slice e)) (hi : P.info? e = some i) (hz : i.zero = some z)
  (hsize : i.size = sz) (hby : i.bytes = bytes) (hzs : z.cells.size = sz) (hsz : 0 < sz) (hbp : 0 < bytes)
  (go : Option Nat) (n cap : Nat) (xs : List Value) (hs : a.eval s = sv go n cap) (hown : Own w e sz go n cap xs)
  (sa : Option Addr) (m c : Nat) (news : List Value) (hx : a.eval x = .slice sa m c) (hsn : sa = none → m = 0 ∧ c = 0) (hl : news.length = m * sz)
  (hnews : ∀ ad, sa = some ad → ∀ j u, news[j]? = some u → w.cell? (ad.add j) = some u) (h1 : ∀ u ∈ news, u.oneCell' = true)
  (hbytes : (n + m) * bytes ≤ 140737488355328) (hpos : 0 < n + m ∨ ∃ g, go = some g)
  (h : ∀ g cap' w', Own w' e sz (some g) (n + m) cap' (xs ++ news) → w.grownBy w' go → (go = some g ∨ g = w.heap.size) → K (a.put o.dst (.slice (some ⟨g, 0, none⟩) (n + m) cap')) w') :
  if Region.wanted o (yielded ops a.tmps) = true then Oper.wp P o a w K Q else E := by
 have hw : Region.wanted o (yielded ops a.tmps) = true := by simp [Region.wanted, hgd]
 rw [if_pos hw]
 refine wp_app s x t ho e i z sz bytes ht hi hz hsize hby hzs hsz hbp go n cap xs hs hown sa m c news hx hsn hl hnews h1 hbytes fun go' cap' w' h2 h3 h4 => ?_
 cases go' with
 | none =>
  have h5 := h2.2.1
  rcases hpos with hp | ⟨g, rfl⟩
  ·omega
  ·rcases h4 with h4 | h4 <;> cases h4
 | some g => exact h g cap' w' h2 h3 (h4.elim (fun h => .inl h.symm) (fun h => .inr (Option.some.inj h)))
end
structure Chg (S : Nat → Prop) (w w' : World) : Prop where
 os : w'.os = w.os
 tape : w'.tape = w.tape
 output : w'.output = w.output
 size : w.heap.size ≤ w'.heap.size
 block : ∀ k, k < w.heap.size → ¬ S k → w'.heap[k]? = w.heap[k]?
theorem Chg.refl (S : Nat → Prop) (w : World) : Chg S w w := ⟨rfl, rfl, rfl, Zr _, fun _ _ _ => rfl⟩
theorem Chg.trans {S : Nat → Prop} {a b c : World} (h : Chg S a b) (k : Chg S b c) : Chg S a c :=
 ⟨k.os.trans h.os, k.tape.trans h.tape, k.output.trans h.output, Nat.le_trans h.size k.size, fun i hi hn => (k.block i (Nat.lt_of_lt_of_le hi h.size) hn).trans (h.block i hi hn)⟩
theorem Chg.mono {S T : Nat → Prop} {w w' : World} (h : Chg S w w') (hs : ∀ k, k < w.heap.size → S k → T k) : Chg T w w' := ⟨h.os, h.tape, h.output, h.size, fun k hk hn => h.block k hk fun s => hn (hs k hk s)⟩
theorem Chg.then {S T : Nat → Prop} {a b c : World} (h : Chg S a b) (k : Chg T b c) (hs : ∀ k, k < a.heap.size → T k → S k) : Chg S a c :=
 ⟨k.os.trans h.os, k.tape.trans h.tape, k.output.trans h.output, Nat.le_trans h.size k.size, fun i hi hn => (k.block i (Nat.lt_of_lt_of_le hi h.size) fun t => hn (hs i hi t)).trans (h.block i hi hn)⟩
theorem Chg.drewN {S : Nat → Prop} {a w : World} (h : Chg S a w) (q : Nat) : Chg S a (w.drewN q) := ⟨h.os, h.tape, h.output, h.size, h.block⟩
theorem Chg.drew {S : Nat → Prop} {a w : World} (h : Chg S a w) : Chg S a w.drew := ⟨h.os, h.tape, h.output, h.size, h.block⟩
theorem Chg.grown {S : Nat → Prop} {a w w' : World} {row : Option Nat} (h : Chg S a w) (hg : w.grownBy w' row) (hr : ∀ k, row = some k → k < a.heap.size → S k) : Chg S a w' :=
 h.then (T := fun k => row = some k) ⟨hg.os, hg.tape, hg.output, hg.size, fun k hk hn => hg.block k hk (fun e => hn e.symm)⟩ (fun k hk t => hr k t hk)
theorem Chg.setCell {S : Nat → Prop} {a w : World} (h : Chg S a w) {p : Addr} (hp : p.block < a.heap.size → S p.block) (v : Value) : Chg S a (w.setCell p v) :=
 h.then (T := fun k => k = p.block) ⟨rfl, rfl, rfl, by simp [World.setCell], fun k _ hn => Below.heap_setCell w p v k hn⟩ (fun k hk t => by subst t; exact hp hk)
theorem Chg.alloc {S : Nat → Prop} {a w : World} (h : Chg S a w) (o : Obj) : Chg S a (w.alloc o) :=
 h.then (T := fun _ => False) ⟨rfl, rfl, rfl, by simp, fun k hk _ => Below.heap_alloc w o k hk⟩ (fun k hk t => t.elim)
theorem Chg.below {S : Nat → Prop} {w w' : World} (h : Chg S w w') {B : Nat} (hB : B ≤ w.heap.size) (hS : ∀ k, k < B → ¬ S k) : Below B w w' :=
 ⟨h.os, h.tape, h.output, h.size, fun k hk => h.block k (by omega) (hS k hk)⟩
theorem Row.chg {S : Nat → Prop} {w w' : World} {g e sz cap : Nat} {xs : List Value} (h : Row w g e sz cap xs) (hc : Chg S w w') (hn : ¬ S g) : Row w' g e sz cap xs := h.keep (hc.block g h.lt hn)
theorem Row.alloc {w : World} {g e sz cap : Nat} {xs : List Value} (h : Row w g e sz cap xs) (o : Obj) : Row (w.alloc o) g e sz cap xs := h.keep (Below.heap_alloc w o g h.lt)
theorem Row.made {w : World} {e sz cap : Nat} {xs : Array Value} (hl : xs.size = cap * sz) (hc : cap ≤ maxLen) : Row (w.alloc (.cells xs e)) w.heap.size e sz cap xs.toList :=
 ⟨[], by rw [heap_alloc_new]; simp, by simp [hl], hc⟩
theorem news_new (w : World) (cs : List Value) (cs' : Array Value) (e : TypeId) (hc : cs'.toList = cs) :
  ∀ ad, some (⟨w.heap.size, 0, none⟩ : Addr) = some ad → ∀ j u, cs[j]? = some u → (w.alloc (.cells cs' e)).cell? (ad.add j) = some u := by
 intro ad had j u hu
 obtain rfl := Option.some.inj had
 subst hc
 rw [Addr.add_lit, World.cell?_alloc_new]
 simpa using hu
def dig (b : UInt8) : Bool := decide (48 ≤ b.toNat ∧ b.toNat ≤ 57)
def lowB (b : UInt8) : UInt8 := if 65 ≤ b.toNat ∧ b.toNat ≤ 90 then b + 32 else b
def low (l : List UInt8) : List UInt8 := l.map lowB
def sqz : Bool → List UInt8 → List UInt8
 | _, [] => []
 | p, b :: l => if b = 32 ∧ p = true then sqz true l else b :: sqz (b == 32) l
def onlyL (o : List UInt8) (l : List UInt8) : Bool := l.all fun b => dig b || o.contains b
theorem drop_at (s : ByteArray) {i : Nat} (h : i < s.size) : s.data.toList.drop i = s[i] :: s.data.toList.drop (i + 1) := by
 have hl : i < s.data.toList.length := by simpa using h
 rw [List.drop_eq_getElem_cons hl]; rfl
theorem drop_end (s : ByteArray) {i : Nat} (h : ¬ i < s.size) : s.data.toList.drop i = [] :=
 List.drop_eq_nil_of_le (by simpa using Nat.le_of_not_lt h)
theorem u8_of (b : UInt8) : ((b.toNat : Int).toNat).toUInt8 = b := by simp
theorem idx_neg (l : List UInt8) (c : UInt8) : (Lib.indexByte l c < 0) ↔ l.contains c = false := by
 induction l with
 | nil => simp [Lib.indexByte]
 | cons b l ih =>
  have hg := Lib.indexByte_ge l c
  unfold Lib.indexByte
  by_cases h : b = c
  ·simp [h]
  ·have h' : (b == c) = false := by simpa using h
   have h'' : (c == b) = false := by simpa using fun e => h e.symm
   rw [h', List.contains_cons, h'']
   simp only [Bool.false_eq_true, if_false, Bool.false_or]
   rw [← ih]
   by_cases hn : Lib.indexByte l c = -1
   ·rw [hn]; decide
   ·have : (Lib.indexByte l c == -1) = false := by simpa using hn
    rw [this]; simp only [Bool.false_eq_true, if_false]; omega
theorem onlyL_cons (o : List UInt8) (b : UInt8) (l : List UInt8) : onlyL o (b :: l) = ((dig b || o.contains b) && onlyL o l) := rfl
theorem only_test (o : List UInt8) (b : UInt8) : ((dig b || o.contains b) = true ∧ ((48 ≤ (b.toNat : Int) ∧ (b.toNat : Int) ≤ 57) ∨ 0 ≤ Lib.indexByte o b)) ∨ ((dig b || o.contains b) = false ∧ ((b.toNat : Int) < 48 ∨ 57 < (b.toNat : Int)) ∧ Lib.indexByte o b < 0) := by
 have h := idx_neg o b
 by_cases hc : o.contains b = true
 ·left
  refine ⟨by rw [hc, Bool.or_true], .inr ?_⟩
  have : ¬ Lib.indexByte o b < 0 := fun e => by rw [h.1 e] at hc; cases hc
  omega
 ·have hc' : o.contains b = false := by simpa using hc
  have hn := h.2 hc'
  by_cases hd : 48 ≤ b.toNat ∧ b.toNat ≤ 57
  ·left; exact ⟨by simp [dig, hd], .inl (by omega)⟩
  ·right
   refine ⟨by rw [hc', Bool.or_false]; simpa [dig] using hd, by omega, hn⟩
theorem bnext {a b c : World} (h : Below a.heap.size a b) (k : Below b.heap.size b c) : Below a.heap.size a c := h.trans (k.mono h.size)
theorem bdrewN {B : Nat} {a w : World} (h : Below B a w) (q : Nat) : Below B a (w.drewN q) := ⟨h.os, h.tape, h.output, h.size, h.block⟩
theorem empty_of (v : ByteArray) (h : v.data.toList = []) : v = ⟨#[]⟩ := by
 obtain ⟨⟨l⟩⟩ := v
 have : l = [] := h
 rw [this]
theorem nonempty_of (v : ByteArray) (h : v.data.toList ≠ []) : ¬ v.toList = [] ∧ v.toList.isEmpty = false ∧ 0 < v.size := by
 have e : v.toList = v.data.toList := Lib.toList_data v
 rw [e]
 refine ⟨h, by cases hl : v.data.toList with | nil => exact absurd hl h | cons => rfl, ?_⟩
 rw [Lib.size_eq]; exact List.length_pos_iff.2 h
theorem bmk (s : ByteArray) : (⟨s.data.toList.toArray⟩ : ByteArray) = s := by obtain ⟨⟨l⟩⟩ := s; rfl
structure Env (w : World) : Prop where
 max : ∃ m, w.cell? ⟨4, 0, none⟩ = some (.int .i64 m)
 pow : Lib.TabIs Tryz.prog w "internal/strconv.uint64pow10" .u64 Lib.pow10Tab
theorem var_below {P : Program} {w w' : World} {n : String} {cs : Array Value} (h : w.var? P n = some cs) (k : Below w.heap.size w w') : w'.var? P n = some cs := by
 unfold World.var? at h ⊢
 cases hg : P.globalNamed n with
 | none => simp [hg] at h
 | some g =>
  simp only [hg, Option.bind_some] at h ⊢
  have hlt : g < w.heap.size := by
   rcases Nat.lt_or_ge g w.heap.size with h' | h'
   ·exact h'
   ·simp [Array.getElem?_eq_none h'] at h
  rw [k.block g hlt]
  exact h
theorem Env.next {w w' : World} (h : Env w) (k : Below w.heap.size w w') : Env w' where
 max := by
  obtain ⟨m, hm⟩ := h.max
  exact ⟨m, by rw [k.cell (Zb w _ hm)]; exact hm⟩
 pow := var_below h.pow k
end Go.Proofs.YtlmfbjhokkpjhaaGreatDoor
