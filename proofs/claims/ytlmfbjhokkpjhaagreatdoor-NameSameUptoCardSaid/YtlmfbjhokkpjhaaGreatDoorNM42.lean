/- Part 42 of the walks and plain laws, joined: OpenB, OpenSch, OpenNam, OpenNM. -/
import Derived.Test.YtlmfbjhokkpjhaaGreatDoorNM00
import Derived.Test.YtlmfbjhokkpjhaaGreatDoorRows
import Derived.Test.YtlmfbjhokkpjhaaGreatDoorNM09
import Derived.Test.YtlmfbjhokkpjhaaGreatDoorNM27
import Derived.Test.YtlmfbjhokkpjhaaGreatDoorNM41
import Derived.Deep.Slices
import Derived.Deep.Fields
import Derived.WideShapes
import Derived.ChangeArms
import Derived.Lib.Strings
set_option linter.unusedVariables false
set_option linter.unusedSimpArgs false
namespace Go.Proofs.YtlmfbjhokkpjhaaGreatDoor
open Go Go.RowKit Go.ChangeShapes Go.WideShapes Go.Deep
abbrev bulk {H : Type} (d : DataW H) : Nat := Rows.uptoBulk d
theorem bulk_pos {H : Type} (d : DataW H) : 1 ≤ bulk d := by
 unfold bulk
 cases d with
 | lit l => cases l <;> simp [Rows.uptoBulk]
 | _ => simp [Rows.uptoBulk]
theorem bulk_mem {H : Type} {l : List (DataW H)} {d : DataW H} (h : d ∈ l) : bulk d ≤ Rows.uptoBulkAll l := by
 induction l with
 | nil => cases h
 | cons x l ih =>
  simp only [Rows.uptoBulkAll]
  rcases List.mem_cons.1 h with rfl | h
  ·exact Nat.le_add_right _ _
  ·have := ih h; omega
theorem bulk_len {H : Type} (l : List (DataW H)) : l.length ≤ Rows.uptoBulkAll l := by
 induction l with
 | nil => exact Zr _
 | cons x l ih => simp only [Rows.uptoBulkAll, List.length_cons]; have := bulk_pos x; unfold bulk at this; omega
section
variable {H : Type} {enc : TypeId × Value → H} {P : Program} {w : World} {base : Nat} {held : Bool}
theorem open_sl {t e : TypeId} {m N : Nat} {v : Value} {x : DataW H × List MemPlace} (ht : P.underlying t = some (.slice e)) (hpos : 0 < P.cellsOf e) (h : DataW.trod enc P w base (fun _ => true) held m t [v] = some x) (hb : bulk x.1 ≤ N) :
  ∃ a n c, v = .slice a n c ∧ LiesW w.heap.size a n c ∧ n ≤ N ∧ ∀ b o, a = some ⟨b, o, none⟩ → ∀ i, i < n →
   ∃ cs k y, cs.length = P.cellsOf e ∧ (∀ j, j < P.cellsOf e → w.cell? ⟨b, o + i * P.cellsOf e + j, none⟩ = cs[j]?) ∧ DataW.trod enc P w base (fun _ => true) held k e cs = some y ∧ bulk y.1 ≤ N := by
 rcases open_slice ht h with ⟨hcs, _⟩ | ⟨a, len, cap, mm, n, D, Pl, hcs, _, hl, hm, hmm, hx, hi⟩
 ·simp at hcs
  exact ⟨none, 0, 0, hcs, ⟨Zr _, Nat.zero_le _, fun _ => rfl, (fun ad h _ => by cases h), (fun ad h _ => by cases h)⟩, Nat.zero_le _, fun b o h => by cases h⟩
 ·have hmc : mm = cap := by simpa using hmm
  simp at hcs
  have hN : bulk (DataW.slice ((List.range len).map D) ((List.range (mm - len)).map fun j => D (len + j))) ≤ N := by rw [hx] at hb; exact hb
  unfold bulk at hN
  simp only [Rows.uptoBulk] at hN
  have key : ∀ i, i < len → ∃ cs', cs'.length = P.cellsOf e ∧ (∀ j, j < P.cellsOf e → w.cell? ((a.add (i * P.cellsOf e)).add j) = cs'[j]?) ∧ ∃ k y, DataW.trod enc P w base (fun _ => true) held k e cs' = some y ∧ bulk y.1 ≤ N := fun i hil => by
   obtain ⟨cs', h1, h2⟩ := hi i (by omega)
   obtain ⟨_, h3, h4⟩ := World.cells?_some h1
   refine ⟨cs', h3, h4, n, _, h2, ?_⟩
   have h5 := bulk_mem (l := (List.range len).map D) (d := D i) (List.mem_map.2 ⟨i, List.mem_range.2 hil, rfl⟩)
   show bulk (D i) ≤ N
   omega
  have hln : len ≤ N := by have := bulk_len ((List.range len).map D); simp at this; omega
  have hfst : ∀ (h0 : 0 < len), a.spot = none ∧ a.block < w.heap.size := fun h0 => by
   obtain ⟨cs', h1, h2, _⟩ := key 0 h0
   have h3 := h2 0 hpos
   rw [List.getElem?_eq_getElem (by omega)] at h3
   refine ⟨?_, ?_⟩
   ·have := World.cell?_spot h3
    simpa [Addr.add] using this
   ·have := Zb w _ h3
    rwa [block_add, block_add] at this
  refine ⟨some a, len, cap, hcs, ⟨hl, hm, (fun h => by cases h), fun ad h h0 => by cases h; exact (hfst h0).2, fun ad h h0 => by cases h; exact (hfst h0).1⟩, hln, ?_⟩
  intro b o hab i hil
  cases hab
  obtain ⟨cs', h1, h2, k, y, h3, h4⟩ := key i hil
  refine ⟨cs', k, y, h1, fun j hj => ?_, h3, h4⟩
  have h5 := h2 j hj
  rwa [Addr.add_lit, Addr.add_lit] at h5
theorem open_field {e : TypeId} {fs : Array Field} {m : Nat} {cs : List Value} {x : DataW H × List MemPlace} (he : P.underlying e = some (.struct fs)) (hone : oneCellFields P fs = true) (hC : P.cellsOf e = fs.size) (h : DataW.trod enc P w base (fun _ => true) held m e cs = some x) :
  cs.length = fs.size ∧ ∀ (j : Nat) (f : Field), fs[j]? = some f → ∃ v k y, cs[j]? = some v ∧ DataW.trod enc P w base (fun _ => true) held k f.type [v] = some y ∧ bulk y.1 ≤ bulk x.1 := by
 obtain ⟨xs, n, _, hx, hl, hlen, hff⟩ := DataW.trod_struct he h
 rw [hC] at hl
 refine ⟨hl, fun j f hj => ?_⟩
 have hjl : j < fs.size := (Array.getElem?_eq_some_iff.1 hj).1
 obtain ⟨ho, hk⟩ := hone_of hone j f hj
 have h5 := hff j f hj
 rw [ho, hk] at h5
 have h6 : (cs.drop j).take 1 = [cs[j]'(by omega)] := by
  rw [List.drop_eq_getElem_cons (by omega)]
  rfl
 rw [h6, List.getElem?_eq_getElem (by omega)] at h5
 refine ⟨cs[j]'(by omega), n, xs[j]'(by omega), List.getElem?_eq_getElem (by omega), h5, ?_⟩
 rw [hx]
 have := bulk_mem (l := xs.map (·.1)) (d := (xs[j]'(by omega)).1) (List.mem_map.2 ⟨_, List.getElem_mem _, rfl⟩)
 show bulk _ ≤ Rows.uptoBulk (DataW.agg _)
 simp only [Rows.uptoBulk]
 omega
theorem open_str {t : TypeId} {m : Nat} {v : Value} {x : DataW H × List MemPlace} (ht : P.underlying t = some .string) (h : DataW.trod enc P w base (fun _ => true) held m t [v] = some x) : ∃ s : ByteArray, v = .string s ∧ s.size ≤ bulk x.1 := by
 obtain ⟨s, h1, h2, _⟩ := DataW.trod_string ht h
 refine ⟨s, by simpa using h1, ?_⟩
 rw [h2]
 show s.size ≤ Rows.uptoBulk (DataW.lit (.string s.data.toList))
 simp only [Rows.uptoBulk]
 have := Lib.size_eq s
 omega
theorem open_i {k : IntKind} {t : TypeId} {m : Nat} {v : Value} {x : DataW H × List MemPlace} (ht : P.underlying t = some (.int k)) (h : DataW.trod enc P w base (fun _ => true) held m t [v] = some x) : ∃ n : Int, v = .int k n ∧ (Lit.int k n).wf = true := by
 obtain ⟨s, h1, _, h3⟩ := DataW.trod_int ht h
 exact ⟨s, by simpa using h1, h3⟩
theorem open_b {t : TypeId} {m : Nat} {v : Value} {x : DataW H × List MemPlace} (ht : P.underlying t = some .bool) (h : DataW.trod enc P w base (fun _ => true) held m t [v] = some x) : ∃ b : Bool, v = .bool b := by
 obtain ⟨s, h1, _⟩ := DataW.trod_bool ht h
 exact ⟨s, by simpa using h1⟩
theorem list_of {α : Type} {n : Nat} {p : Nat → α → Prop} (h : ∀ i, i < n → ∃ x, p i x) : ∃ l : List α, l.length = n ∧ ∀ i x, l[i]? = some x → p i x := by
 classical
 by_cases h0 : n = 0
 ·subst h0; exact ⟨[], rfl, fun i x hx => by simp at hx⟩
 ·haveI : Inhabited α := ⟨Classical.choose (h 0 (by omega))⟩
  obtain ⟨f, hf⟩ := choose_lt h
  refine ⟨(List.range n).map f, by simp, fun i x hx => ?_⟩
  rw [List.getElem?_map] at hx
  obtain ⟨j, hj, rfl⟩ := Option.map_eq_some_iff.1 hx
  obtain ⟨h1, h2⟩ := List.getElem?_eq_some_iff.1 hj
  simp at h1 h2
  subst h2
  exact hf _ h1
theorem open_texts {t e : TypeId} {m N : Nat} {v : Value} {x : DataW H × List MemPlace} (ht : P.underlying t = some (.slice e)) (he : P.underlying e = some .string) (hc : P.cellsOf e = 1) (h : DataW.trod enc P w base (fun _ => true) held m t [v] = some x) (hb : bulk x.1 ≤ N) (hN : N ≤ 4294967280) :
  ∃ a n c l, v = .slice a n c ∧ Texts w.heap.size w a n c l ∧ n ≤ N ∧ ∀ s ∈ l, s.size ≤ N := by
 obtain ⟨a, n, c, rfl, hl, hn, hi⟩ := open_sl ht (by omega) h hb
 by_cases h0 : n = 0
 ·subst h0
  exact ⟨a, 0, c, [], rfl, ⟨rfl, hl, Nat.zero_le _, (fun b o _ i s hs => by simp at hs), (fun s h => by cases h)⟩, Nat.zero_le _, fun s h => by cases h⟩
 ·obtain ⟨b, o, rfl, hbl⟩ := hl.ptr (by omega)
  obtain ⟨l, hln, hll⟩ := list_of (n := n) (p := fun i (s : ByteArray) => w.cell? ⟨b, o + i, none⟩ = some (.string s) ∧ s.size ≤ N) fun i hil => by
   obtain ⟨cs, k, y, h1, h2, h3, h4⟩ := hi b o rfl i hil
   rw [hc] at h1 h2
   match cs, h1 with
   | [u], _ =>
    obtain ⟨s, rfl, h5⟩ := open_str he h3
    have h6 := h2 0 (by omega)
    rw [Nat.mul_one, Nat.add_zero] at h6
    exact ⟨s, h6, by omega⟩
  have hsz : ∀ s ∈ l, s.size ≤ N := fun s hs => by
   obtain ⟨i, hi2, rfl⟩ := List.getElem_of_mem hs
   exact (hll i _ (List.getElem?_eq_getElem hi2)).2
  exact ⟨_, n, c, l, rfl, ⟨hln.symm, hl, by omega, fun b2 o2 e2 i s hs => by cases e2; exact (hll i s hs).1, fun s hs => by have := hsz s hs; omega⟩, hn, hsz⟩
end
structure SmallT (N : Nat) (x : PType) : Prop where
 oid : x.oid.size ≤ N
 sup : x.sup.size ≤ N
 names : x.names.length ≤ N ∧ ∀ s ∈ x.names, s.size ≤ N
structure SmallC (N : Nat) (x : PClass) : Prop where
 oid : x.oid.size ≤ N
 names : x.names.length ≤ N ∧ ∀ s ∈ x.names, s.size ≤ N
 sups : x.sups.length ≤ N ∧ ∀ s ∈ x.sups, s.size ≤ N
 must : x.must.length ≤ N ∧ ∀ s ∈ x.must, s.size ≤ N
 may : x.may.length ≤ N ∧ ∀ s ∈ x.may, s.size ≤ N
structure SmallS (N : Nat) (S : PSchema) : Prop where
 types : S.types.length ≤ N ∧ ∀ x ∈ S.types, SmallT N x
 classes : S.classes.length ≤ N ∧ ∀ x ∈ S.classes, SmallC N x
theorem i8_rng {a : Int} (h : (Lit.int .i8 a).wf = true) : -128 ≤ a ∧ a ≤ 127 := by
 have h1 : IntKind.i8.min = -128 := by decide
 have h2 : IntKind.i8.max = 127 := by decide
 simp [Lit.wf, h1, h2] at h
 omega
theorem u8_rng {a : Int} (h : (Lit.int .u8 a).wf = true) : 0 ≤ a ∧ a ≤ 255 := by
 have h1 : IntKind.u8.min = 0 := by decide
 have h2 : IntKind.u8.max = 255 := by decide
 simp [Lit.wf, h1, h2] at h
 omega
section
variable {H : Type} {enc : TypeId × Value → H} {w : World} {base : Nat} {held : Bool}
theorem open_type {m N : Nat} {cs : List Value} {x : DataW H × List MemPlace} (h : DataW.trod enc Tryz.prog w base (fun _ => true) held m 46 cs = some x) (hb : bulk x.1 ≤ N) (hN : N ≤ 4294967280) {b o : Nat} (hc : ∀ j, j < 9 → w.cell? ⟨b, o + j, none⟩ = cs[j]?) :
  ∃ t : PType, TypeAt w.heap.size w b o t ∧ TypeOk t ∧ SmallT N t := by
 obtain ⟨hl, hf⟩ := open_field Tryz.underlying46 (by kernel_rfl) (by kernel_rfl) h
 obtain ⟨v0, k0, y0, e0, f0, b0⟩ := hf 0 _ rfl
 obtain ⟨v1, k1, y1, e1, f1, b1⟩ := hf 1 _ rfl
 obtain ⟨v2, k2, y2, e2, f2, b2⟩ := hf 2 _ rfl
 obtain ⟨v3, k3, y3, e3, f3, b3⟩ := hf 3 _ rfl
 obtain ⟨v4, k4, y4, e4, f4, b4⟩ := hf 4 _ rfl
 obtain ⟨v5, k5, y5, e5, f5, b5⟩ := hf 5 _ rfl
 obtain ⟨v6, k6, y6, e6, f6, b6⟩ := hf 6 _ rfl
 obtain ⟨v7, k7, y7, e7, f7, b7⟩ := hf 7 _ rfl
 obtain ⟨v8, k8, y8, e8, f8, b8⟩ := hf 8 _ rfl
 obtain ⟨oid, rfl, s0⟩ := open_str Tryz.underlying9 f0
 obtain ⟨a, n, c, l, rfl, t1, l1, s1⟩ := open_texts Tryz.underlying44 Tryz.underlying9 (by kernel_rfl) f1 (Nat.le_trans b1 hb) hN
 obtain ⟨sup, rfl, s2⟩ := open_str Tryz.underlying9 f2
 obtain ⟨syn, rfl, s3⟩ := open_i Tryz.underlying26 f3
 obtain ⟨eq, rfl, s4⟩ := open_i Tryz.underlying26 f4
 obtain ⟨ord, rfl, s5⟩ := open_i Tryz.underlying26 f5
 obtain ⟨part, rfl, s6⟩ := open_i Tryz.underlying26 f6
 obtain ⟨single, rfl⟩ := open_b Tryz.underlying4 f7
 obtain ⟨index, rfl, s8⟩ := open_i Tryz.underlying5 f8
 have hln := t1.len
 refine ⟨⟨oid, l, sup, syn, eq, ord, part, single, index⟩, ⟨(hc 0 (by omega)).trans e0, ⟨a, n, c, (hc 1 (by omega)).trans e1, t1⟩, (hc 2 (by omega)).trans e2, (hc 3 (by omega)).trans e3, (hc 4 (by omega)).trans e4, (hc 5 (by omega)).trans e5, (hc 6 (by omega)).trans e6, (hc 7 (by omega)).trans e7, (hc 8 (by omega)).trans e8⟩,
  ⟨by simp only; omega, by simp only; omega, i8_rng s3, i8_rng s4, i8_rng s5, i8_rng s6, u8_rng s8⟩, ⟨by simp only; omega, by simp only; omega, by simp only; omega, s1⟩⟩
theorem open_class {m N : Nat} {cs : List Value} {x : DataW H × List MemPlace} (h : DataW.trod enc Tryz.prog w base (fun _ => true) held m 89 cs = some x) (hb : bulk x.1 ≤ N) (hN : N ≤ 4294967280) {b o : Nat} (hc : ∀ j, j < 6 → w.cell? ⟨b, o + j, none⟩ = cs[j]?) :
  ∃ t : PClass, ClassAt w.heap.size w b o t ∧ ClassOk t ∧ SmallC N t := by
 obtain ⟨hl, hf⟩ := open_field Tryz.underlying89 (by kernel_rfl) (by kernel_rfl) h
 obtain ⟨v0, k0, y0, e0, f0, b0⟩ := hf 0 _ rfl
 obtain ⟨v1, k1, y1, e1, f1, b1⟩ := hf 1 _ rfl
 obtain ⟨v2, k2, y2, e2, f2, b2⟩ := hf 2 _ rfl
 obtain ⟨v3, k3, y3, e3, f3, b3⟩ := hf 3 _ rfl
 obtain ⟨v4, k4, y4, e4, f4, b4⟩ := hf 4 _ rfl
 obtain ⟨v5, k5, y5, e5, f5, b5⟩ := hf 5 _ rfl
 obtain ⟨oid, rfl, s0⟩ := open_str Tryz.underlying9 f0
 obtain ⟨a1, n1, c1, l1, rfl, t1, m1, s1⟩ := open_texts Tryz.underlying44 Tryz.underlying9 (by kernel_rfl) f1 (Nat.le_trans b1 hb) hN
 obtain ⟨a2, n2, c2, l2, rfl, t2, m2, s2⟩ := open_texts Tryz.underlying44 Tryz.underlying9 (by kernel_rfl) f2 (Nat.le_trans b2 hb) hN
 obtain ⟨kind, rfl, s3⟩ := open_i Tryz.underlying26 f3
 obtain ⟨a4, n4, c4, l4, rfl, t4, m4, s4⟩ := open_texts Tryz.underlying44 Tryz.underlying9 (by kernel_rfl) f4 (Nat.le_trans b4 hb) hN
 obtain ⟨a5, n5, c5, l5, rfl, t5, m5, s5⟩ := open_texts Tryz.underlying44 Tryz.underlying9 (by kernel_rfl) f5 (Nat.le_trans b5 hb) hN
 have h1 := t1.len
 have h2 := t2.len
 have h4 := t4.len
 have h5 := t5.len
 refine ⟨⟨oid, l1, l2, kind, l4, l5⟩, ⟨(hc 0 (by omega)).trans e0, ⟨a1, n1, c1, (hc 1 (by omega)).trans e1, t1⟩, ⟨a2, n2, c2, (hc 2 (by omega)).trans e2, t2⟩, (hc 3 (by omega)).trans e3, ⟨a4, n4, c4, (hc 4 (by omega)).trans e4, t4⟩, ⟨a5, n5, c5, (hc 5 (by omega)).trans e5, t5⟩⟩,
  ⟨by simp only; omega, i8_rng s3⟩, ⟨by simp only; omega, ⟨by simp only; omega, s1⟩, ⟨by simp only; omega, s2⟩, ⟨by simp only; omega, s4⟩, ⟨by simp only; omega, s5⟩⟩⟩
theorem cT9 : Tryz.prog.cellsOf 46 = 9 := by kernel_rfl
theorem cC6 : Tryz.prog.cellsOf 89 = 6 := by kernel_rfl
theorem slice_at {P : Program} {t e : TypeId} {r : Reach} {b : Nat} {ad : Addr} {n c : Nat} (ht : P.underlying t = some (.slice e)) (h : Cell.okWide P w r b t (.slice (some ad) n c)) : ad.spot = none ∧ ad.block < w.heap.size := by
 unfold Cell.okWide Cell.ok at h
 rw [ht] at h
 obtain ⟨_, _, _, hs, row, cells, hsh, _⟩ := h
 refine ⟨hs, ?_⟩
 unfold World.shape? at hsh
 split at hsh
 ·rename_i h2; exact (Array.getElem?_eq_some_iff.1 h2).1
 ·cases hsh
theorem open_types {m N : Nat} {v : Value} {x : DataW H × List MemPlace} (h : DataW.trod enc Tryz.prog w base (fun _ => true) held m 22 [v] = some x) (hb : bulk x.1 ≤ N) (hN : N ≤ 4294967280) (hat : ∀ ad n c, v = .slice (some ad) n c → ad.spot = none ∧ ad.block < w.heap.size) :
  ∃ a n c l, v = .slice a n c ∧ Types w.heap.size w a n c l ∧ l.length ≤ N ∧ ∀ t ∈ l, SmallT N t := by
 obtain ⟨a, n, c, rfl, hl, hn, hi⟩ := open_sl Tryz.underlying22 (by rw [cT9]; omega) h hb
 rw [cT9] at hi
 have hL : Lies w.heap.size a n c := ⟨hl.le, hl.cap, hl.nil, fun ad e => (hat ad n c (by rw [e])).2, hl.spot⟩
 have htop : ∀ ad, a = some ad → ad.spot = none := fun ad e => (hat ad n c (by rw [e])).1
 by_cases h0 : n = 0
 ·subst h0
  exact ⟨a, 0, c, [], rfl, ⟨rfl, hL, (fun b o _ i s hs => by simp at hs), (fun s h => by cases h), htop⟩, Nat.zero_le _, fun s h => by cases h⟩
 ·obtain ⟨b, o, rfl, hbl⟩ := hl.ptr (by omega)
  obtain ⟨l, hln, hll⟩ := list_of (n := n) (p := fun i (t : PType) => TypeAt w.heap.size w b (o + i * 9) t ∧ TypeOk t ∧ SmallT N t) fun i hil => by
   obtain ⟨cs, k, y, h1, h2, h3, h4⟩ := hi b o rfl i hil
   exact open_type h3 h4 hN h2
  have hsz : ∀ t ∈ l, TypeOk t ∧ SmallT N t := fun s hs => by
   obtain ⟨i, hi2, rfl⟩ := List.getElem_of_mem hs
   exact (hll i _ (List.getElem?_eq_getElem hi2)).2
  exact ⟨_, n, c, l, rfl, ⟨hln.symm, hL, fun b2 o2 e2 i s hs => by cases e2; exact (hll i s hs).1, fun t ht => (hsz t ht).1, htop⟩, by omega, fun t ht => (hsz t ht).2⟩
theorem open_classes {m N : Nat} {v : Value} {x : DataW H × List MemPlace} (h : DataW.trod enc Tryz.prog w base (fun _ => true) held m 23 [v] = some x) (hb : bulk x.1 ≤ N) (hN : N ≤ 4294967280) (hat : ∀ ad n c, v = .slice (some ad) n c → ad.spot = none ∧ ad.block < w.heap.size) :
  ∃ a n c l, v = .slice a n c ∧ Classes w.heap.size w a n c l ∧ l.length ≤ N ∧ ∀ t ∈ l, SmallC N t := by
 obtain ⟨a, n, c, rfl, hl, hn, hi⟩ := open_sl Tryz.underlying23 (by rw [cC6]; omega) h hb
 rw [cC6] at hi
 have hL : Lies w.heap.size a n c := ⟨hl.le, hl.cap, hl.nil, fun ad e => (hat ad n c (by rw [e])).2, hl.spot⟩
 have htop : ∀ ad, a = some ad → ad.spot = none := fun ad e => (hat ad n c (by rw [e])).1
 by_cases h0 : n = 0
 ·subst h0
  exact ⟨a, 0, c, [], rfl, ⟨rfl, hL, (fun b o _ i s hs => by simp at hs), (fun s h => by cases h), htop⟩, Nat.zero_le _, fun s h => by cases h⟩
 ·obtain ⟨b, o, rfl, hbl⟩ := hl.ptr (by omega)
  obtain ⟨l, hln, hll⟩ := list_of (n := n) (p := fun i (t : PClass) => ClassAt w.heap.size w b (o + i * 6) t ∧ ClassOk t ∧ SmallC N t) fun i hil => by
   obtain ⟨cs, k, y, h1, h2, h3, h4⟩ := hi b o rfl i hil
   exact open_class h3 h4 hN h2
  have hsz : ∀ t ∈ l, ClassOk t ∧ SmallC N t := fun s hs => by
   obtain ⟨i, hi2, rfl⟩ := List.getElem_of_mem hs
   exact (hll i _ (List.getElem?_eq_getElem hi2)).2
  exact ⟨_, n, c, l, rfl, ⟨hln.symm, hL, fun b2 o2 e2 i s hs => by cases e2; exact (hll i s hs).1, fun t ht => (hsz t ht).1, htop⟩, by omega, fun t ht => (hsz t ht).2⟩
theorem schema_cells : Tryz.prog.cellTypes Tryz.prog.depth 25 = some [22, 23] := by kernel_rfl
set_option maxRecDepth 100000 in
theorem open_schema {r : Reach} {b0 N : Nat} {v : Value} {d : DataW H} {ps : List MemPlace} (hval : Value.okWide Tryz.prog w r b0 25 v) (hd : DataW.Trod enc Tryz.prog w base (fun _ => true) held 25 v d ps) (hb : bulk d ≤ N) (hN : N ≤ 4294967280) :
  ∃ (S : PSchema) (a : Option Addr) (n c : Nat) (a2 : Option Addr) (n2 c2 : Nat), v = .agg #[.slice a n c, .slice a2 n2 c2] ∧ Types w.heap.size w a n c S.types ∧ Classes w.heap.size w a2 n2 c2 S.classes ∧ SmallS N S := by
 have hval2 := hval
 unfold Value.okWide at hval2
 rw [Tryz.underlying25] at hval2
 obtain ⟨cs, rfl, _, ts, hts, _, hcell⟩ := hval2
 rw [schema_cells] at hts
 obtain rfl := Option.some.inj hts
 obtain ⟨fuel, hf⟩ := hd
 obtain ⟨hl, hff⟩ := open_field Tryz.underlying25 (by kernel_rfl) (by kernel_rfl) hf
 obtain ⟨v0, k0, y0, e0, f0, b0⟩ := hff 0 _ rfl
 obtain ⟨v1, k1, y1, e1, f1, b1⟩ := hff 1 _ rfl
 have g0 : cs[0]? = some v0 := by simpa [Value.cells] using e0
 have g1 : cs[1]? = some v1 := by simpa [Value.cells] using e1
 obtain ⟨u0, hu0, ho0⟩ := hcell 0 v0 g0
 obtain ⟨u1, hu1, ho1⟩ := hcell 1 v1 g1
 obtain rfl : u0 = 22 := by simpa using hu0.symm
 obtain rfl : u1 = 23 := by simpa using hu1.symm
 obtain ⟨a, n, c, l, rfl, t1, m1, s1⟩ := open_types f0 (Nat.le_trans b0 hb) hN fun ad n c e => slice_at Tryz.underlying22 (by rw [← e]; exact ho0)
 obtain ⟨a2, n2, c2, l2, rfl, t2, m2, s2⟩ := open_classes f1 (Nat.le_trans b1 hb) hN fun ad n c e => slice_at Tryz.underlying23 (by rw [← e]; exact ho1)
 refine ⟨⟨l, l2⟩, a, n, c, a2, n2, c2, ?_, t1, t2, ⟨⟨m1, s1⟩, ⟨m2, s2⟩⟩⟩
 congr 1
 have hl2 : cs.size = 2 := by simpa [Value.cells] using hl
 apply Array.ext
 ·rw [hl2]; rfl
 ·intro i h1 h2
  rw [hl2] at h1
  match i, h1 with
  | 0, _ => have := (Array.getElem?_eq_some_iff.1 g0).2; simpa using this
  | 1, _ => have := (Array.getElem?_eq_some_iff.1 g1).2; simpa using this
end
section
variable {H : Type} {enc : TypeId × Value → H} {w : World} {base : Nat} {held : Bool}
theorem cAva2B : Tryz.prog.cellsOf 70 = 2 := by kernel_rfl
theorem cRdn1B : Tryz.prog.cellsOf 65 = 1 := by kernel_rfl
set_option maxRecDepth 100000 in
theorem open_avasB {m N : Nat} {v : Value} {x : DataW H × List MemPlace} (h : DataW.trod enc Tryz.prog w base (fun _ => true) held m 63 [v] = some x) (hb : bulk x.1 ≤ N) (hN : N ≤ 4294967280) :
  ∃ a n c l, v = .slice a n c ∧ Avas w.heap.size w a n c l := by
 obtain ⟨a, n, c, rfl, hl, hn, hi⟩ := open_sl Tryz.underlying63 (by rw [cAva2B]; omega) h hb
 rw [cAva2B] at hi
 by_cases h0 : n = 0
 ·subst h0
  exact ⟨a, 0, c, [], rfl, ⟨rfl, hl, Nat.zero_le _, (fun b o _ i s hs => by simp at hs), (fun s h => by cases h)⟩⟩
 ·obtain ⟨b, o, rfl, hbl⟩ := hl.ptr (by omega)
  obtain ⟨l, hln, hll⟩ := list_of (n := n) (p := fun i (t : PAva) => (w.cell? ⟨b, o + i * 2, none⟩ = some (.string t.1) ∧ w.cell? ⟨b, o + i * 2 + 1, none⟩ = some (.string t.2)) ∧ t.1.size ≤ N ∧ t.2.size ≤ N) fun i hil => by
   obtain ⟨cs, k, y, h1, h2, h3, h4⟩ := hi b o rfl i hil
   obtain ⟨hl1, hf⟩ := open_field Tryz.underlying70 (by kernel_rfl) (by kernel_rfl) h3
   obtain ⟨v0, k0, y0, e0, f0, b0⟩ := hf 0 _ rfl
   obtain ⟨v1, k1, y1, e1, f1, b1⟩ := hf 1 _ rfl
   obtain ⟨s, rfl, hs⟩ := open_str Tryz.underlying9 f0
   obtain ⟨t, rfl, ht⟩ := open_str Tryz.underlying9 f1
   exact ⟨(s, t), ⟨(h2 0 (by omega)).trans e0, (h2 1 (by omega)).trans e1⟩, by simp only; omega, by simp only; omega⟩
  exact ⟨_, n, c, l, rfl, ⟨hln.symm, hl, by omega, fun b2 o2 e2 i s hs => by cases e2; exact (hll i s hs).1, fun s hs => by
   obtain ⟨i, hi2, rfl⟩ := List.getElem_of_mem hs
   have := (hll i _ (List.getElem?_eq_getElem hi2)).2
   omega⟩⟩
set_option maxRecDepth 100000 in
theorem open_rdnsB {m N : Nat} {v : Value} {x : DataW H × List MemPlace} (h : DataW.trod enc Tryz.prog w base (fun _ => true) held m 51 [v] = some x) (hb : bulk x.1 ≤ N) (hN : N ≤ 4294967280) :
  ∃ a n c l, v = .slice a n c ∧ Rdns w.heap.size w a n c l ∧ n ≤ N := by
 obtain ⟨a, n, c, rfl, hl, hn, hi⟩ := open_sl Tryz.underlying51 (by rw [cRdn1B]; omega) h hb
 rw [cRdn1B] at hi
 by_cases h0 : n = 0
 ·subst h0
  exact ⟨a, 0, c, [], rfl, ⟨rfl, hl, Nat.zero_le _, (fun b o _ i s hs => by simp at hs)⟩, Nat.zero_le _⟩
 ·obtain ⟨b, o, rfl, hbl⟩ := hl.ptr (by omega)
  obtain ⟨l, hln, hll⟩ := list_of (n := n) (p := fun i (r : PRdn) => ∃ a' n' c', w.cell? ⟨b, o + i, none⟩ = some (.slice a' n' c') ∧ Avas w.heap.size w a' n' c' r) fun i hil => by
   obtain ⟨cs, k, y, h1, h2, h3, h4⟩ := hi b o rfl i hil
   obtain ⟨hl1, hf⟩ := open_field Tryz.underlying65 (by kernel_rfl) (by kernel_rfl) h3
   obtain ⟨v0, k0, y0, e0, f0, b0⟩ := hf 0 _ rfl
   obtain ⟨a', n', c', l', rfl, ha⟩ := open_avasB f0 (Nat.le_trans b0 h4) hN
   have h6 := h2 0 (by omega)
   rw [Nat.mul_one, Nat.add_zero] at h6
   exact ⟨l', a', n', c', h6.trans e0, ha⟩
  exact ⟨_, n, c, l, rfl, ⟨hln.symm, hl, by omega, fun b2 o2 e2 i s hs => by cases e2; exact hll i s hs⟩, hn⟩
theorem agg_one {cs : Array Value} {v : Value} (hl : (Value.agg cs).cells.toList.length = 1) (h : (Value.agg cs).cells.toList[0]? = some v) : cs = #[v] := by
 have hl2 : cs.size = 1 := by simpa [Value.cells] using hl
 have g0 : cs[0]? = some v := by simpa [Value.cells] using h
 apply Array.ext
 ·rw [hl2]; rfl
 ·intro i h1 h2
  rw [hl2] at h1
  match i, h1 with
  | 0, _ => have := (Array.getElem?_eq_some_iff.1 g0).2; simpa using this
set_option maxRecDepth 100000 in
theorem open_nameB {r : Reach} {b0 N : Nat} {v : Value} {d : DataW H} {ps : List MemPlace} (hval : Value.okWide Tryz.prog w r b0 53 v) (hd : DataW.Trod enc Tryz.prog w base (fun _ => true) held 53 v d ps) (hb : bulk d ≤ N) (hN : N ≤ 4294967280) :
  ∃ a n c nm, v = .agg #[.slice a n c] ∧ Rdns w.heap.size w a n c nm ∧ n ≤ N := by
 obtain ⟨cs, rfl, _⟩ := okWide_struct Tryz.underlying53 hval
 obtain ⟨fuel, hf⟩ := hd
 obtain ⟨hl, hff⟩ := open_field Tryz.underlying53 (by kernel_rfl) (by kernel_rfl) hf
 obtain ⟨v0, k0, y0, e0, f0, c0⟩ := hff 0 _ rfl
 obtain ⟨a, n, c, nm, rfl, hr, hn⟩ := open_rdnsB f0 (Nat.le_trans c0 hb) hN
 exact ⟨a, n, c, nm, by rw [agg_one hl e0], hr, hn⟩
set_option maxRecDepth 100000 in
theorem open_rdnB {r : Reach} {b0 N : Nat} {v : Value} {d : DataW H} {ps : List MemPlace} (hval : Value.okWide Tryz.prog w r b0 65 v) (hd : DataW.Trod enc Tryz.prog w base (fun _ => true) held 65 v d ps) (hb : bulk d ≤ N) (hN : N ≤ 4294967280) :
  ∃ a n c l, v = .agg #[.slice a n c] ∧ Avas w.heap.size w a n c l := by
 obtain ⟨cs, rfl, _⟩ := okWide_struct Tryz.underlying65 hval
 obtain ⟨fuel, hf⟩ := hd
 obtain ⟨hl, hff⟩ := open_field Tryz.underlying65 (by kernel_rfl) (by kernel_rfl) hf
 obtain ⟨v0, k0, y0, e0, f0, c0⟩ := hff 0 _ rfl
 obtain ⟨a, n, c, l, rfl, ha⟩ := open_avasB f0 (Nat.le_trans c0 hb) hN
 exact ⟨a, n, c, l, by rw [agg_one hl e0], ha⟩
end
theorem bulk4n {H : Type} {a b c d : DataW H} (h : Rows.uptoSmall H [a, b, c, d] = true) : bulk a ≤ 1048576 ∧ bulk b ≤ 1048576 ∧ bulk c ≤ 1048576 ∧ bulk d ≤ 1048576 := by
 have h2 : Rows.uptoBulkAll [a, b, c, d] ≤ 1048576 := of_decide_eq_true h
 simp only [Rows.uptoBulkAll] at h2
 exact ⟨by show Rows.uptoBulk a ≤ _; omega, by show Rows.uptoBulk b ≤ _; omega, by show Rows.uptoBulk c ≤ _; omega, by show Rows.uptoBulk d ≤ _; omega⟩
theorem i64_rng {a : Int} (h : (Lit.int .i64 a).wf = true) : -9223372036854775808 ≤ a ∧ a ≤ 9223372036854775807 := by
 have h1 : IntKind.i64.min = -9223372036854775808 := by decide
 have h2 : IntKind.i64.max = 9223372036854775807 := by decide
 simp [Lit.wf, h1, h2] at h
 omega
set_option maxRecDepth 100000 in
theorem walk_nsame {H : Type} {enc : TypeId × Value → H} {b0 : Nat} {W : World} (v0 : Value) (d0 : DataW H) (p0 : List MemPlace) (ok0 : Value.okWide Tryz.prog W .any b0 25 v0) (h0 : DataW.Trod enc Tryz.prog W 0 (fun _ => true) true 25 v0 d0 p0)
  (v1 : Value) (d1 : DataW H) (p1 : List MemPlace) (ok1 : Value.okWide Tryz.prog W .any b0 53 v1) (h1 : DataW.Trod enc Tryz.prog W 0 (fun _ => true) true 53 v1 d1 p1)
  (turn : Int) (ht : (Lit.int .i64 turn).wf = true)
  (v3 : Value) (d3 : DataW H) (p3 : List MemPlace) (ok3 : Value.okWide Tryz.prog W .any b0 65 v3) (h3 : DataW.Trod enc Tryz.prog W 0 (fun _ => true) true 65 v3 d3 p3)
  (W' : World) (hW : W = W') (hE : EnvK W') (hk : Rows.uptoSmall H [d0, d1, .lit (.int .i64 turn), d3] = true) :
  Calls Tryz.prog 7 #[v0, v1, .int .i64 turn, v3] W' fun e w' => e = .returned (.bool true) ∧ Below W'.heap.size W' w' := by
 subst hW
 obtain ⟨hb0, hb1, _, hb3⟩ := bulk4n hk
 obtain ⟨S, ta, tn, tc, ca, cn, cc, rfl, hT, hC, _⟩ := open_schema ok0 h0 (N := 1048576) hb0 (by decide)
 obtain ⟨a, n, c, nm, rfl, hR, hn⟩ := open_nameB ok1 h1 (N := 1048576) hb1 (by decide)
 obtain ⟨ra, rn, rc, r, rfl, hA⟩ := open_rdnB ok3 h3 (N := 1048576) hb3 (by decide)
 exact law_nsame S ta tn tc ca cn cc a n c nm turn ra rn rc r W hE hT hC hR hA hn (i64_rng ht)
end Go.Proofs.YtlmfbjhokkpjhaaGreatDoor
