/- Part 11 of the walks and plain laws, joined: TwinM, TwinS. -/
import Derived.Test.YtlmfbjhokkpjhaaGreatDoorNM00
import Derived.Test.YtlmfbjhokkpjhaaGreatDoorNM10
set_option linter.unusedVariables false
set_option linter.unusedSimpArgs false
namespace Go.Proofs.YtlmfbjhokkpjhaaGreatDoor
open Go Go.RowKit Go.Maps
theorem cells_read {w : World} {b o m : Nat} (h : ∀ j, j < m → ∃ u, w.cell? ⟨b, o + j, none⟩ = some u ∧ u.oneCell' = true) :
  ∃ news : List Value, news.length = m ∧ (∀ (j : Nat) u, news[j]? = some u → w.cell? ⟨b, o + j, none⟩ = some u) ∧ (∀ u ∈ news, u.oneCell' = true) ∧ ∀ j, j < m → news[j]? = w.cell? ⟨b, o + j, none⟩ := by
 refine ⟨(List.range m).map fun j => (w.cell? ⟨b, o + j, none⟩).getD undef, by simp, ?_, ?_, ?_⟩
 ·intro j u hj
  simp only [List.getElem?_map, Option.map_eq_some_iff] at hj
  obtain ⟨k, hk, rfl⟩ := hj
  have hk' := List.getElem?_eq_some_iff.1 hk
  obtain ⟨hlt, hk2⟩ := hk'
  simp at hk2 hlt
  subst hk2
  obtain ⟨u, hu, _⟩ := h j hlt
  rw [hu]; rfl
 ·intro u hu
  obtain ⟨j, hj, rfl⟩ := List.mem_map.1 hu
  obtain ⟨v, hv, h1⟩ := h j (by simpa using hj)
  rw [hv]; exact h1
 ·intro j hj
  obtain ⟨v, hv, h1⟩ := h j hj
  simp [hj, hv]
theorem TypeAt.cells {B : Nat} {w : World} {b o : Nat} {x : PType} (h : TypeAt B w b o x) : ∀ k, k < 9 → ∃ u, w.cell? ⟨b, o + k, none⟩ = some u ∧ u.oneCell' = true := by
 obtain ⟨a, n, c, h1, _⟩ := h.c1
 intro k hk
 match k, hk with
 | 0, _ => exact ⟨_, h.c0, rfl⟩
 | 1, _ => exact ⟨_, h1, rfl⟩
 | 2, _ => exact ⟨_, h.c2, rfl⟩
 | 3, _ => exact ⟨_, h.c3, rfl⟩
 | 4, _ => exact ⟨_, h.c4, rfl⟩
 | 5, _ => exact ⟨_, h.c5, rfl⟩
 | 6, _ => exact ⟨_, h.c6, rfl⟩
 | 7, _ => exact ⟨_, h.c7, rfl⟩
 | 8, _ => exact ⟨_, h.c8, rfl⟩
theorem ClassAt.cells {B : Nat} {w : World} {b o : Nat} {x : PClass} (h : ClassAt B w b o x) : ∀ k, k < 6 → ∃ u, w.cell? ⟨b, o + k, none⟩ = some u ∧ u.oneCell' = true := by
 obtain ⟨a, n, c, h1, _⟩ := h.c1
 obtain ⟨a2, n2, c2, h2, _⟩ := h.c2
 obtain ⟨a4, n4, c4, h4, _⟩ := h.c4
 obtain ⟨a5, n5, c5, h5, _⟩ := h.c5
 intro k hk
 match k, hk with
 | 0, _ => exact ⟨_, h.c0, rfl⟩
 | 1, _ => exact ⟨_, h1, rfl⟩
 | 2, _ => exact ⟨_, h2, rfl⟩
 | 3, _ => exact ⟨_, h.c3, rfl⟩
 | 4, _ => exact ⟨_, h4, rfl⟩
 | 5, _ => exact ⟨_, h5, rfl⟩
theorem TypeAt.move {B B' : Nat} {w w' : World} {b o b' o' : Nat} {x : PType} (h : TypeAt B w b o x) (k : Below B w w') (hb : B ≤ B') (e : ∀ k, k < 9 → w'.cell? ⟨b', o' + k, none⟩ = w.cell? ⟨b, o + k, none⟩) : TypeAt B' w' b' o' x where
 c0 := (e 0 (by omega)).trans h.c0
 c1 := by obtain ⟨a, n, c, h1, h2⟩ := h.c1; exact ⟨a, n, c, (e 1 (by omega)).trans h1, h2.keep k hb⟩
 c2 := (e 2 (by omega)).trans h.c2
 c3 := (e 3 (by omega)).trans h.c3
 c4 := (e 4 (by omega)).trans h.c4
 c5 := (e 5 (by omega)).trans h.c5
 c6 := (e 6 (by omega)).trans h.c6
 c7 := (e 7 (by omega)).trans h.c7
 c8 := (e 8 (by omega)).trans h.c8
theorem ClassAt.move {B B' : Nat} {w w' : World} {b o b' o' : Nat} {x : PClass} (h : ClassAt B w b o x) (k : Below B w w') (hb : B ≤ B') (e : ∀ k, k < 6 → w'.cell? ⟨b', o' + k, none⟩ = w.cell? ⟨b, o + k, none⟩) : ClassAt B' w' b' o' x where
 c0 := (e 0 (by omega)).trans h.c0
 c1 := by obtain ⟨a, n, c, h1, h2⟩ := h.c1; exact ⟨a, n, c, (e 1 (by omega)).trans h1, h2.keep k hb⟩
 c2 := by obtain ⟨a, n, c, h1, h2⟩ := h.c2; exact ⟨a, n, c, (e 2 (by omega)).trans h1, h2.keep k hb⟩
 c3 := (e 3 (by omega)).trans h.c3
 c4 := by obtain ⟨a, n, c, h1, h2⟩ := h.c4; exact ⟨a, n, c, (e 4 (by omega)).trans h1, h2.keep k hb⟩
 c5 := by obtain ⟨a, n, c, h1, h2⟩ := h.c5; exact ⟨a, n, c, (e 5 (by omega)).trans h1, h2.keep k hb⟩
theorem infoT : ∃ i z, Tryz.prog.info? 46 = some i ∧ i.zero = some z ∧ i.size = 9 ∧ i.bytes = 64 ∧ z.cells.size = 9 := by
 have h : (Tryz.prog.info? 46).map (fun i => (i.zero.map (·.cells.size), i.size, i.bytes)) = some (some 9, 9, 64) := by kernel_rfl
 cases hi : Tryz.prog.info? 46 with
 | none => rw [hi] at h; cases h
 | some i =>
  rw [hi] at h
  simp only [Option.map_some, Option.some.injEq, Prod.mk.injEq] at h
  obtain ⟨h1, h2, h3⟩ := h
  cases hz : i.zero with
  | none => rw [hz] at h1; cases h1
  | some z => rw [hz] at h1; exact ⟨i, z, rfl, hz, h2, h3, by simpa using h1⟩
theorem infoC : ∃ i z, Tryz.prog.info? 89 = some i ∧ i.zero = some z ∧ i.size = 6 ∧ i.bytes = 120 ∧ z.cells.size = 6 := by
 have h : (Tryz.prog.info? 89).map (fun i => (i.zero.map (·.cells.size), i.size, i.bytes)) = some (some 6, 6, 120) := by kernel_rfl
 cases hi : Tryz.prog.info? 89 with
 | none => rw [hi] at h; cases h
 | some i =>
  rw [hi] at h
  simp only [Option.map_some, Option.some.injEq, Prod.mk.injEq] at h
  obtain ⟨h1, h2, h3⟩ := h
  cases hz : i.zero with
  | none => rw [hz] at h1; cases h1
  | some z => rw [hz] at h1; exact ⟨i, z, rfl, hz, h2, h3, by simpa using h1⟩
theorem cloneT_any (B : Nat) (a : Option Addr) (n c : Nat) (l : List PType) (w : World) (h : Types B w a n c l) (hB : B ≤ w.heap.size) (hn : n ≤ 1024) :
  Calls Tryz.prog 87 #[.slice a n c] w fun e w' => ∃ a' c', e = .returned (.slice a' n c') ∧ Below w.heap.size w w' ∧ Types w'.heap.size w' a' n c' l ∧ (∀ ad, a' = some ad → w.heap.size ≤ ad.block ∧ ∀ j, w'.frozen? ⟨ad.block, j, none⟩ = false) := by
 obtain ⟨i0, z, hi, hz0, hz1, hz2, hzs⟩ := infoT
 have hl := h.len
 cases ha : a with
 | none =>
  have h0 := (h.lies.len0 ha).1
  have hl0 : l = [] := List.eq_nil_of_length_eq_zero (by omega)
  subst hl0; subst h0
  refine (AnyE.slices_Clone_nil layT 0 c w).mono fun e w' ⟨he, hw⟩ => ⟨none, 0, he, by rw [hw]; exact Zl _ _, ⟨rfl, ⟨Zr _, Nat.zero_le _, fun _ => rfl, (fun ad h => by cases h), (fun ad h => by cases h)⟩, (fun b o h => by cases h), (fun s h => by cases h), (fun ad h => by cases h)⟩, (fun ad h => by cases h)⟩
 | some ad =>
  obtain ⟨b, o, sp⟩ := ad
  have hsp := h.top _ ha
  simp only at hsp; subst hsp
  have hcell : ∀ j, j < n * 9 → ∃ u, w.cell? ⟨b, o + j, none⟩ = some u ∧ u.oneCell' = true := fun j hj => by
   have hli : j / 9 < l.length := by omega
   have h1 := (h.cell b o ha (j / 9) _ (List.getElem?_eq_getElem hli)).cells (j % 9) (Nat.mod_lt _ (by omega))
   rw [show o + j / 9 * 9 + j % 9 = o + j by omega] at h1
   exact h1
  obtain ⟨news, hnl, hn1, hn2, hn3⟩ := cells_read hcell
  refine (AnyE.slices_Clone layT i0 z 9 64 hi hz0 hz1 hz2 hzs (by decide) (fun w => by kernel_rfl) b o n c news w hnl (by unfold maxLen; omega) (by omega) hn1 hn2).mono fun e w' ⟨v, he, ho, hnn, hb⟩ => ?_
  obtain ⟨hl2, h2⟩ := ho
  rcases h2 with ⟨rfl, h3⟩ | ⟨g, cap, cur, rfl, hgb, hh, hnc, hm, hc, ht⟩
  ·exact absurd rfl hnn
  ·refine ⟨some ⟨g, 0, none⟩, cap, he, hb, ⟨hl, ⟨hnc, hm, (fun h => by cases h), (fun ad h => by cases h; exact (Array.getElem?_eq_some_iff.1 hh).1), (fun ad h _ => by cases h; rfl)⟩, ?_, h.ok, (fun ad h => by cases h; rfl)⟩, fun ad h => by cases h; exact ⟨hgb, fun j => frozen_of_row w' g j _ _ hh⟩⟩
   intro b' o' e' i x hx
   cases e'
   have hil := (List.getElem?_eq_some_iff.1 hx).1
   refine (h.cell b o ha i x hx).move (hb.mono hB) (Nat.le_trans hB hb.size) fun k hk => ?_
   ·rw [Nat.zero_add, cell_of_row w' g (i * 9 + k) _ _ (0, 0) hh]
    rw [show o + i * 9 + k = o + (i * 9 + k) by omega, ← hn3 (i * 9 + k) (by omega), ← ht]
    rw [← Array.getElem?_toList, List.getElem?_take, if_pos (by omega)]
theorem cloneC_any (B : Nat) (a : Option Addr) (n c : Nat) (l : List PClass) (w : World) (h : Classes B w a n c l) (hB : B ≤ w.heap.size) (hn : n ≤ 1024) :
  Calls Tryz.prog 88 #[.slice a n c] w fun e w' => ∃ a' c', e = .returned (.slice a' n c') ∧ Below w.heap.size w w' ∧ Classes w'.heap.size w' a' n c' l ∧ (∀ ad, a' = some ad → w.heap.size ≤ ad.block ∧ ∀ j, w'.frozen? ⟨ad.block, j, none⟩ = false) := by
 obtain ⟨i0, z, hi, hz0, hz1, hz2, hzs⟩ := infoC
 have hl := h.len
 cases ha : a with
 | none =>
  have h0 := (h.lies.len0 ha).1
  have hl0 : l = [] := List.eq_nil_of_length_eq_zero (by omega)
  subst hl0; subst h0
  refine (AnyE.slices_Clone_nil layC 0 c w).mono fun e w' ⟨he, hw⟩ => ⟨none, 0, he, by rw [hw]; exact Zl _ _, ⟨rfl, ⟨Zr _, Nat.zero_le _, fun _ => rfl, (fun ad h => by cases h), (fun ad h => by cases h)⟩, (fun b o h => by cases h), (fun s h => by cases h), (fun ad h => by cases h)⟩, (fun ad h => by cases h)⟩
 | some ad =>
  obtain ⟨b, o, sp⟩ := ad
  have hsp := h.top _ ha
  simp only at hsp; subst hsp
  have hcell : ∀ j, j < n * 6 → ∃ u, w.cell? ⟨b, o + j, none⟩ = some u ∧ u.oneCell' = true := fun j hj => by
   have hli : j / 6 < l.length := by omega
   have h1 := (h.cell b o ha (j / 6) _ (List.getElem?_eq_getElem hli)).cells (j % 6) (Nat.mod_lt _ (by omega))
   rw [show o + j / 6 * 6 + j % 6 = o + j by omega] at h1
   exact h1
  obtain ⟨news, hnl, hn1, hn2, hn3⟩ := cells_read hcell
  refine (AnyE.slices_Clone layC i0 z 6 120 hi hz0 hz1 hz2 hzs (by decide) (fun w => by kernel_rfl) b o n c news w hnl (by unfold maxLen; omega) (by omega) hn1 hn2).mono fun e w' ⟨v, he, ho, hnn, hb⟩ => ?_
  obtain ⟨hl2, h2⟩ := ho
  rcases h2 with ⟨rfl, h3⟩ | ⟨g, cap, cur, rfl, hgb, hh, hnc, hm, hc, ht⟩
  ·exact absurd rfl hnn
  ·refine ⟨some ⟨g, 0, none⟩, cap, he, hb, ⟨hl, ⟨hnc, hm, (fun h => by cases h), (fun ad h => by cases h; exact (Array.getElem?_eq_some_iff.1 hh).1), (fun ad h _ => by cases h; rfl)⟩, ?_, h.ok, (fun ad h => by cases h; rfl)⟩, fun ad h => by cases h; exact ⟨hgb, fun j => frozen_of_row w' g j _ _ hh⟩⟩
   intro b' o' e' i x hx
   cases e'
   have hil := (List.getElem?_eq_some_iff.1 hx).1
   refine (h.cell b o ha i x hx).move (hb.mono hB) (Nat.le_trans hB hb.size) fun k hk => ?_
   ·rw [Nat.zero_add, cell_of_row w' g (i * 6 + k) _ _ (0, 0) hh]
    rw [show o + i * 6 + k = o + (i * 6 + k) by omega, ← hn3 (i * 6 + k) (by omega), ← ht]
    rw [← Array.getElem?_toList, List.getElem?_take, if_pos (by omega)]
def IsSl (w : World) (p : Addr) : Prop := ∃ x y z, w.cell? p = some (.slice x y z)
theorem cell_set_ne {w : World} {p q : Addr} {v u : Value} (hc : w.cell? q = some u) (hne : q ≠ p) : (w.setCell p v).cell? q = some u := by
 rw [World.cell?_setCell_other _ _ _ _ (Ne.symm hne)]; exact hc
theorem cell_set_kind {w : World} {p q : Addr} {v u : Value} (hp : IsSl w p) (hc : w.cell? q = some u) (hu : ∀ x y z, u ≠ .slice x y z) : (w.setCell p v).cell? q = some u :=
 cell_set_ne hc fun e => by
  obtain ⟨x, y, z, h⟩ := hp
  rw [e, h] at hc; cases hc; exact hu _ _ _ rfl
theorem Texts.set {B : Nat} {w : World} {a : Option Addr} {n c : Nat} {l : List ByteArray} (h : Texts B w a n c l) {p : Addr} (hp : IsSl w p) (v : Value) : Texts B (w.setCell p v) a n c l :=
 ⟨h.len, h.lies, h.small, fun b o e i s hs => cell_set_kind hp (h.cell b o e i s hs) (fun _ _ _ e => by cases e), h.size⟩
theorem TypeAt.set {B : Nat} {w : World} {b o : Nat} {x : PType} (h : TypeAt B w b o x) {p : Addr} (hp : IsSl w p) (v : Value) (hne : (⟨b, o + 1, none⟩ : Addr) ≠ p) : TypeAt B (w.setCell p v) b o x where
 c0 := cell_set_kind hp h.c0 (fun _ _ _ e => by cases e)
 c1 := by obtain ⟨a, n, c, h1, h2⟩ := h.c1; exact ⟨a, n, c, cell_set_ne h1 hne, h2.set hp v⟩
 c2 := cell_set_kind hp h.c2 (fun _ _ _ e => by cases e)
 c3 := cell_set_kind hp h.c3 (fun _ _ _ e => by cases e)
 c4 := cell_set_kind hp h.c4 (fun _ _ _ e => by cases e)
 c5 := cell_set_kind hp h.c5 (fun _ _ _ e => by cases e)
 c6 := cell_set_kind hp h.c6 (fun _ _ _ e => by cases e)
 c7 := cell_set_kind hp h.c7 (fun _ _ _ e => by cases e)
 c8 := cell_set_kind hp h.c8 (fun _ _ _ e => by cases e)
theorem TypeAt.setN {B : Nat} {w : World} {b o : Nat} {x : PType} (h : TypeAt B w b o x) {a : Option Addr} {n c : Nat} (ht : Texts B w a n c x.names) : TypeAt B (w.setCell ⟨b, o + 1, none⟩ (.slice a n c)) b o x := by
 obtain ⟨a0, n0, c0, h1, _⟩ := h.c1
 have hp : IsSl w ⟨b, o + 1, none⟩ := ⟨a0, n0, c0, h1⟩
 exact ⟨cell_set_kind hp h.c0 (fun _ _ _ e => by cases e), ⟨a, n, c, by rw [World.cell?_setCell_same _ _ _ h1], ht.set hp _⟩, cell_set_kind hp h.c2 (fun _ _ _ e => by cases e), cell_set_kind hp h.c3 (fun _ _ _ e => by cases e),
  cell_set_kind hp h.c4 (fun _ _ _ e => by cases e), cell_set_kind hp h.c5 (fun _ _ _ e => by cases e), cell_set_kind hp h.c6 (fun _ _ _ e => by cases e), cell_set_kind hp h.c7 (fun _ _ _ e => by cases e), cell_set_kind hp h.c8 (fun _ _ _ e => by cases e)⟩
theorem Types.set {B : Nat} {w : World} {a : Option Addr} {n c : Nat} {l : List PType} (h : Types B w a n c l) {p : Addr} (hp : IsSl w p) (v : Value) (hne : ∀ ad, a = some ad → ad.block ≠ p.block) : Types B (w.setCell p v) a n c l :=
 ⟨h.len, h.lies, fun b o e i x hx => (h.cell b o e i x hx).set hp v (fun e2 => hne _ e (by rw [← e2])), h.ok, h.top⟩
theorem Types.setN {B : Nat} {w : World} {g o n c : Nat} {l : List PType} (h : Types B w (some ⟨g, o, none⟩) n c l) {i : Nat} {x : PType} (hi : l[i]? = some x) {a : Option Addr} {n' c' : Nat} (ht : Texts B w a n' c' x.names) : Types B (w.setCell ⟨g, o + i * 9 + 1, none⟩ (.slice a n' c')) (some ⟨g, o, none⟩) n c l := by
 refine ⟨h.len, h.lies, fun b o2 e j y hy => ?_, h.ok, h.top⟩
 cases e
 have hT := h.cell g o rfl i x hi
 by_cases e : j = i
 ·subst e
  rw [hi] at hy; cases hy
  exact hT.setN ht
 ·obtain ⟨a0, n0, c0, h1, _⟩ := hT.c1
  refine (h.cell g o rfl j y hy).set ⟨a0, n0, c0, h1⟩ _ (fun e2 => e ?_)
  injection e2 with _ e3 _
  omega
theorem ClassAt.set {B : Nat} {w : World} {b o : Nat} {x : PClass} (h : ClassAt B w b o x) {p : Addr} (hp : IsSl w p) (v : Value) (h1 : (⟨b, o + 1, none⟩ : Addr) ≠ p) (h2 : (⟨b, o + 2, none⟩ : Addr) ≠ p) (h4 : (⟨b, o + 4, none⟩ : Addr) ≠ p) (h5 : (⟨b, o + 5, none⟩ : Addr) ≠ p) : ClassAt B (w.setCell p v) b o x where
 c0 := cell_set_kind hp h.c0 (fun _ _ _ e => by cases e)
 c1 := by obtain ⟨a, n, c, k1, k2⟩ := h.c1; exact ⟨a, n, c, cell_set_ne k1 h1, k2.set hp v⟩
 c2 := by obtain ⟨a, n, c, k1, k2⟩ := h.c2; exact ⟨a, n, c, cell_set_ne k1 h2, k2.set hp v⟩
 c3 := cell_set_kind hp h.c3 (fun _ _ _ e => by cases e)
 c4 := by obtain ⟨a, n, c, k1, k2⟩ := h.c4; exact ⟨a, n, c, cell_set_ne k1 h4, k2.set hp v⟩
 c5 := by obtain ⟨a, n, c, k1, k2⟩ := h.c5; exact ⟨a, n, c, cell_set_ne k1 h5, k2.set hp v⟩
theorem Classes.set {B : Nat} {w : World} {a : Option Addr} {n c : Nat} {l : List PClass} (h : Classes B w a n c l) {p : Addr} (hp : IsSl w p) (v : Value) (hne : ∀ ad, a = some ad → ad.block ≠ p.block) : Classes B (w.setCell p v) a n c l :=
 ⟨h.len, h.lies, fun b o e i x hx => (h.cell b o e i x hx).set hp v (fun e2 => hne _ e (by rw [← e2])) (fun e2 => hne _ e (by rw [← e2])) (fun e2 => hne _ e (by rw [← e2])) (fun e2 => hne _ e (by rw [← e2])), h.ok, h.top⟩
def slotOf (x : PClass) : Nat → List ByteArray
 | 1 => x.names
 | 2 => x.sups
 | 4 => x.must
 | _ => x.may
def isSlot (k : Nat) : Prop := k = 1 ∨ k = 2 ∨ k = 4 ∨ k = 5
theorem ClassAt.slot {B : Nat} {w : World} {b o : Nat} {x : PClass} (h : ClassAt B w b o x) {k : Nat} (hk : isSlot k) : ∃ a n c, w.cell? ⟨b, o + k, none⟩ = some (.slice a n c) ∧ Texts B w a n c (slotOf x k) := by
 rcases hk with rfl | rfl | rfl | rfl
 ·exact h.c1
 ·exact h.c2
 ·exact h.c4
 ·exact h.c5
theorem ClassAt.of_slots {B : Nat} {w : World} {b o : Nat} {x : PClass} (h0 : w.cell? ⟨b, o, none⟩ = some (.string x.oid)) (h3 : w.cell? ⟨b, o + 3, none⟩ = some (.int .i8 x.kind)) (h : ∀ k, isSlot k → ∃ a n c, w.cell? ⟨b, o + k, none⟩ = some (.slice a n c) ∧ Texts B w a n c (slotOf x k)) : ClassAt B w b o x :=
 ⟨h0, h 1 (.inl rfl), h 2 (.inr (.inl rfl)), h3, h 4 (.inr (.inr (.inl rfl))), h 5 (.inr (.inr (.inr rfl)))⟩
theorem ClassAt.setK {B : Nat} {w : World} {b o : Nat} {x : PClass} (h : ClassAt B w b o x) {k : Nat} (hk : isSlot k) {a : Option Addr} {n c : Nat} (ht : Texts B w a n c (slotOf x k)) : ClassAt B (w.setCell ⟨b, o + k, none⟩ (.slice a n c)) b o x := by
 obtain ⟨a0, n0, c0, h1, _⟩ := h.slot hk
 have hp : IsSl w ⟨b, o + k, none⟩ := ⟨a0, n0, c0, h1⟩
 refine .of_slots (cell_set_kind hp h.c0 (fun _ _ _ e => by cases e)) (cell_set_kind hp h.c3 (fun _ _ _ e => by cases e)) fun j hj => ?_
 by_cases e : j = k
 ·subst e
  exact ⟨a, n, c, by rw [World.cell?_setCell_same _ _ _ h1], ht.set hp _⟩
 ·obtain ⟨a1, n1, c1, k1, k2⟩ := h.slot hj
  exact ⟨a1, n1, c1, cell_set_ne k1 (fun e2 => e (by injection e2 with _ e3 _; omega)), k2.set hp _⟩
theorem Classes.setK {B : Nat} {w : World} {g o n c : Nat} {l : List PClass} (h : Classes B w (some ⟨g, o, none⟩) n c l) {i : Nat} {x : PClass} (hi : l[i]? = some x) {k : Nat} (hk : isSlot k) {a : Option Addr} {n' c' : Nat} (ht : Texts B w a n' c' (slotOf x k)) : Classes B (w.setCell ⟨g, o + i * 6 + k, none⟩ (.slice a n' c')) (some ⟨g, o, none⟩) n c l := by
 refine ⟨h.len, h.lies, fun b o2 e j y hy => ?_, h.ok, h.top⟩
 cases e
 have hT := h.cell g o rfl i x hi
 by_cases e : j = i
 ·subst e
  rw [hi] at hy; cases hy
  exact hT.setK hk ht
 ·obtain ⟨a0, n0, c0, h1, _⟩ := hT.slot hk
  have hk6 : k < 6 := by rcases hk with rfl | rfl | rfl | rfl <;> omega
  have nq : ∀ m, m < 6 → (⟨g, o + j * 6 + m, none⟩ : Addr) ≠ ⟨g, o + i * 6 + k, none⟩ := fun m hm e2 => e (by injection e2 with _ e3 _; omega)
  exact (h.cell g o rfl j y hy).set ⟨a0, n0, c0, h1⟩ _ (nq 1 (by omega)) (nq 2 (by omega)) (nq 4 (by omega)) (nq 5 (by omega))
structure TwinX (S : PSchema) (n n2 : Nat) (w0 w : World) (Z : Nat) (a : Option Addr) (c : Nat) (a2 : Option Addr) (c2 : Nat) : Prop where
 zlt : w0.heap.size ≤ Z
 zw : Z < w.heap.size
 below : Below w0.heap.size w0 w
 t0 : w.cell? ⟨Z, 0, none⟩ = some (.slice a n c)
 t1 : w.cell? ⟨Z, 1, none⟩ = some (.slice a2 n2 c2)
 types : Types w.heap.size w a n c S.types
 classes : Classes w.heap.size w a2 n2 c2 S.classes
 tf : ∀ ad, a = some ad → w0.heap.size ≤ ad.block ∧ ad.block ≠ Z ∧ ∀ j, w.frozen? ⟨ad.block, j, none⟩ = false
 cf : ∀ ad, a2 = some ad → w0.heap.size ≤ ad.block ∧ ad.block ≠ Z ∧ ∀ j, w.frozen? ⟨ad.block, j, none⟩ = false
 ne : ∀ ad ad2, a = some ad → a2 = some ad2 → ad.block ≠ ad2.block
theorem TwinX.next {S : PSchema} {n n2 : Nat} {w0 w w' : World} {Z : Nat} {a a2 : Option Addr} {c c2 : Nat} (h : TwinX S n n2 w0 w Z a c a2 c2) (k : Below w.heap.size w w') : TwinX S n n2 w0 w' Z a c a2 c2 where
 zlt := h.zlt
 zw := Nat.lt_of_lt_of_le h.zw k.size
 below := h.below.trans (k.mono h.below.size)
 t0 := by rw [k.cell (by exact h.zw)]; exact h.t0
 t1 := by rw [k.cell (by exact h.zw)]; exact h.t1
 types := h.types.keep k k.size
 classes := h.classes.keep k k.size
 tf := fun ad e => ⟨(h.tf ad e).1, (h.tf ad e).2.1, fun j => by rw [k.frozen (p := ⟨ad.block, j, none⟩) (show ad.block < _ from h.types.lies.lt _ e)]; exact (h.tf ad e).2.2 j⟩
 cf := fun ad e => ⟨(h.cf ad e).1, (h.cf ad e).2.1, fun j => by rw [k.frozen (p := ⟨ad.block, j, none⟩) (show ad.block < _ from h.classes.lies.lt _ e)]; exact (h.cf ad e).2.2 j⟩
 ne := h.ne
theorem size_set (w : World) (p : Addr) (v : Value) : (w.setCell p v).heap.size = w.heap.size := by simp [World.setCell]
theorem TwinX.setT {S : PSchema} {n n2 : Nat} {w0 w : World} {Z tb tx : Nat} {a2 : Option Addr} {c c2 : Nat} (h : TwinX S n n2 w0 w Z (some ⟨tb, tx, none⟩) c a2 c2) {i : Nat} {x : PType} (hi : S.types[i]? = some x) {a' : Option Addr} {n' c' : Nat} (ht : Texts w.heap.size w a' n' c' x.names) :
  TwinX S n n2 w0 (w.setCell ⟨tb, tx + i * 9 + 1, none⟩ (.slice a' n' c')) Z (some ⟨tb, tx, none⟩) c a2 c2 := by
 obtain ⟨a0, n0, c0, k1, _⟩ := (h.types.cell tb tx rfl i x hi).c1
 have hp : IsSl w ⟨tb, tx + i * 9 + 1, none⟩ := ⟨a0, n0, c0, k1⟩
 obtain ⟨q1, q2, q3⟩ := h.tf _ rfl
 refine ⟨h.zlt, by rw [size_set]; exact h.zw, h.below.setCell (by exact q1) _, cell_set_ne h.t0 (fun e => q2 (by injection e with e1 _ _; exact e1.symm)), cell_set_ne h.t1 (fun e => q2 (by injection e with e1 _ _; exact e1.symm)), by rw [size_set]; exact h.types.setN hi ht, by rw [size_set]; exact h.classes.set hp _ (fun ad e => Ne.symm (h.ne ⟨tb, tx, none⟩ ad rfl e)), fun ad e => ?_, fun ad e => ?_, h.ne⟩
 ·refine ⟨(h.tf ad e).1, (h.tf ad e).2.1, fun j => by rw [World.frozen?_setCell]; exact (h.tf ad e).2.2 j⟩
 ·refine ⟨(h.cf ad e).1, (h.cf ad e).2.1, fun j => by rw [World.frozen?_setCell]; exact (h.cf ad e).2.2 j⟩
theorem TwinX.setC {S : PSchema} {n n2 : Nat} {w0 w : World} {Z tb tx : Nat} {a : Option Addr} {c c2 : Nat} (h : TwinX S n n2 w0 w Z a c (some ⟨tb, tx, none⟩) c2) {i : Nat} {x : PClass} (hi : S.classes[i]? = some x) {k : Nat} (hk : isSlot k) {a' : Option Addr} {n' c' : Nat} (ht : Texts w.heap.size w a' n' c' (slotOf x k)) :
  TwinX S n n2 w0 (w.setCell ⟨tb, tx + i * 6 + k, none⟩ (.slice a' n' c')) Z a c (some ⟨tb, tx, none⟩) c2 := by
 obtain ⟨a0, n0, c0, k1, _⟩ := (h.classes.cell tb tx rfl i x hi).slot hk
 have hp : IsSl w ⟨tb, tx + i * 6 + k, none⟩ := ⟨a0, n0, c0, k1⟩
 obtain ⟨q1, q2, q3⟩ := h.cf _ rfl
 refine ⟨h.zlt, by rw [size_set]; exact h.zw, h.below.setCell (by exact q1) _, cell_set_ne h.t0 (fun e => q2 (by injection e with e1 _ _; exact e1.symm)), cell_set_ne h.t1 (fun e => q2 (by injection e with e1 _ _; exact e1.symm)), by rw [size_set]; exact h.types.set hp _ (fun ad e => h.ne ad ⟨tb, tx, none⟩ e rfl), by rw [size_set]; exact h.classes.setK hi hk ht, fun ad e => ?_, fun ad e => ?_, h.ne⟩
 ·refine ⟨(h.tf ad e).1, (h.tf ad e).2.1, fun j => by rw [World.frozen?_setCell]; exact (h.tf ad e).2.2 j⟩
 ·refine ⟨(h.cf ad e).1, (h.cf ad e).2.1, fun j => by rw [World.frozen?_setCell]; exact (h.cf ad e).2.2 j⟩
theorem TwinX.sl {S : PSchema} {n n2 : Nat} {w0 w : World} {Z tb tx : Nat} {a : Option Addr} {c c2 : Nat} (h : TwinX S n n2 w0 w Z a c (some ⟨tb, tx, none⟩) c2) {i : Nat} {x : PClass} (hi : S.classes[i]? = some x) {k : Nat} (hk : isSlot k) : IsSl w ⟨tb, tx + i * 6 + k, none⟩ := by
 obtain ⟨a0, n0, c0, k1, _⟩ := (h.classes.cell tb tx rfl i x hi).slot hk
 exact ⟨a0, n0, c0, k1⟩
theorem Texts.set' {w : World} {a : Option Addr} {n c : Nat} {l : List ByteArray} (h : Texts w.heap.size w a n c l) {p : Addr} (hp : IsSl w p) (v : Value) : Texts (w.setCell p v).heap.size (w.setCell p v) a n c l := by
 rw [size_set]; exact h.set hp v
theorem TwinX.setC4 {S : PSchema} {n n2 : Nat} {w0 w : World} {Z tb tx : Nat} {a : Option Addr} {c c2 : Nat} (h : TwinX S n n2 w0 w Z a c (some ⟨tb, tx, none⟩) c2) {i : Nat} {x : PClass} (hi : S.classes[i]? = some x)
  {a1 a3 a4 a5 : Option Addr} {m1 m3 m4 m5 d1 d3 d4 d5 : Nat} (t1 : Texts w.heap.size w a1 m1 d1 x.names) (t2 : Texts w.heap.size w a3 m3 d3 x.sups) (t4 : Texts w.heap.size w a4 m4 d4 x.must) (t5 : Texts w.heap.size w a5 m5 d5 x.may) :
  TwinX S n n2 w0 ((((w.setCell ⟨tb, tx + i * 6 + 1, none⟩ (.slice a1 m1 d1)).setCell ⟨tb, tx + i * 6 + 2, none⟩ (.slice a3 m3 d3)).setCell ⟨tb, tx + i * 6 + 4, none⟩ (.slice a4 m4 d4)).setCell ⟨tb, tx + i * 6 + 5, none⟩ (.slice a5 m5 d5)) Z a c (some ⟨tb, tx, none⟩) c2 := by
 have s1 := h.sl hi (k := 1) (.inl rfl)
 have g1 := h.setC hi (k := 1) (.inl rfl) t1
 have s2 := g1.sl hi (k := 2) (.inr (.inl rfl))
 have g2 := g1.setC hi (k := 2) (.inr (.inl rfl)) (Texts.set' t2 s1 _)
 have s4 := g2.sl hi (k := 4) (.inr (.inr (.inl rfl)))
 have g4 := g2.setC hi (k := 4) (.inr (.inr (.inl rfl))) (Texts.set' (Texts.set' t4 s1 _) s2 _)
 exact g4.setC hi (k := 5) (.inr (.inr (.inr rfl))) (Texts.set' (Texts.set' (Texts.set' t5 s1 _) s2 _) s4 _)
end Go.Proofs.YtlmfbjhokkpjhaaGreatDoor
