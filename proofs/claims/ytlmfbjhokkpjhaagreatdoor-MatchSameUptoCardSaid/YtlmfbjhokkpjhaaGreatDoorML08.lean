/- Part 8 of the walks and plain laws, joined: OpenSch, OpenAsk, NameV. -/
import Derived.Test.YtlmfbjhokkpjhaaGreatDoorML00
import Derived.Test.YtlmfbjhokkpjhaaGreatDoorML07
import Derived.Test.YtlmfbjhokkpjhaaGreatDoorML06
import Derived.WideShapes
import Derived.ChangeMaps5
import Derived.Lib.ValidLaws
namespace Go.Proofs.YtlmfbjhokkpjhaaGreatDoor
open Go Go.RowKit Go.ChangeShapes Go.WideShapes Go.Deep
structure SmallT (N : Nat) (x : PType) : Prop where
 oid : x.oid.size ≤ N
 sup : x.sup.size ≤ N
 names : x.names.length ≤ N ∧ ∀ s ∈ x.names, s.size ≤ N
structure SmallC (N : Nat) (x : PClass) : Prop where
 oid : x.oid.size ≤ N
 names : x.names.length ≤ N ∧ ∀ s ∈ x.names, s.size ≤ N
 sups : x.sups.length ≤ N ∧ ∀ s ∈ x.sups, s.size ≤ N
 must : x.must.length ≤ N ∧ ∀ s ∈ x.must, s.size ≤ N
 may : x.may.length ≤ N ∧ ∀ s ∈ x.may, s.size ≤ N
structure SmallS (N : Nat) (S : PSchema) : Prop where
 types : S.types.length ≤ N ∧ ∀ x ∈ S.types, SmallT N x
 classes : S.classes.length ≤ N ∧ ∀ x ∈ S.classes, SmallC N x
theorem i8_rng {a : Int} (h : (Lit.int .i8 a).wf = true) : -128 ≤ a ∧ a ≤ 127 := by
 have h1 : IntKind.i8.min = -128 := by decide
 have h2 : IntKind.i8.max = 127 := by decide
 simp [Lit.wf, h1, h2] at h
 omega
theorem u8_rng {a : Int} (h : (Lit.int .u8 a).wf = true) : 0 ≤ a ∧ a ≤ 255 := by
 have h1 : IntKind.u8.min = 0 := by decide
 have h2 : IntKind.u8.max = 255 := by decide
 simp [Lit.wf, h1, h2] at h
 omega
section
variable {H : Type} {enc : TypeId × Value → H} {w : World} {base : Nat} {held : Bool}
theorem open_type {m N : Nat} {cs : List Value} {x : DataW H × List MemPlace} (h : DataW.trod enc Tryz.prog w base (fun _ => true) held m 46 cs = some x) (hb : bulk x.1 ≤ N) (hN : N ≤ 4294967280) {b o : Nat} (hc : ∀ j, j < 9 → w.cell? ⟨b, o + j, none⟩ = cs[j]?) :
  ∃ t : PType, TypeAt w.heap.size w b o t ∧ TypeOk t ∧ SmallT N t := by
 obtain ⟨hl, hf⟩ := open_field Tryz.underlying46 (by kernel_rfl) (by kernel_rfl) h
 obtain ⟨v0, k0, y0, e0, f0, b0⟩ := hf 0 _ rfl
 obtain ⟨v1, k1, y1, e1, f1, b1⟩ := hf 1 _ rfl
 obtain ⟨v2, k2, y2, e2, f2, b2⟩ := hf 2 _ rfl
 obtain ⟨v3, k3, y3, e3, f3, b3⟩ := hf 3 _ rfl
 obtain ⟨v4, k4, y4, e4, f4, b4⟩ := hf 4 _ rfl
 obtain ⟨v5, k5, y5, e5, f5, b5⟩ := hf 5 _ rfl
 obtain ⟨v6, k6, y6, e6, f6, b6⟩ := hf 6 _ rfl
 obtain ⟨v7, k7, y7, e7, f7, b7⟩ := hf 7 _ rfl
 obtain ⟨v8, k8, y8, e8, f8, b8⟩ := hf 8 _ rfl
 obtain ⟨oid, rfl, s0⟩ := open_str Tryz.underlying9 f0
 obtain ⟨a, n, c, l, rfl, t1, l1, s1⟩ := open_texts Tryz.underlying44 Tryz.underlying9 (by kernel_rfl) f1 (Nat.le_trans b1 hb) hN
 obtain ⟨sup, rfl, s2⟩ := open_str Tryz.underlying9 f2
 obtain ⟨syn, rfl, s3⟩ := open_i Tryz.underlying26 f3
 obtain ⟨eq, rfl, s4⟩ := open_i Tryz.underlying26 f4
 obtain ⟨ord, rfl, s5⟩ := open_i Tryz.underlying26 f5
 obtain ⟨part, rfl, s6⟩ := open_i Tryz.underlying26 f6
 obtain ⟨single, rfl⟩ := open_b Tryz.underlying4 f7
 obtain ⟨index, rfl, s8⟩ := open_i Tryz.underlying5 f8
 have hln := t1.len
 refine ⟨⟨oid, l, sup, syn, eq, ord, part, single, index⟩, ⟨(hc 0 (by omega)).trans e0, ⟨a, n, c, (hc 1 (by omega)).trans e1, t1⟩, (hc 2 (by omega)).trans e2, (hc 3 (by omega)).trans e3, (hc 4 (by omega)).trans e4, (hc 5 (by omega)).trans e5, (hc 6 (by omega)).trans e6, (hc 7 (by omega)).trans e7, (hc 8 (by omega)).trans e8⟩,
  ⟨by simp only; omega, by simp only; omega, i8_rng s3, i8_rng s4, i8_rng s5, i8_rng s6, u8_rng s8⟩, ⟨by simp only; omega, by simp only; omega, by simp only; omega, s1⟩⟩
theorem open_class {m N : Nat} {cs : List Value} {x : DataW H × List MemPlace} (h : DataW.trod enc Tryz.prog w base (fun _ => true) held m 89 cs = some x) (hb : bulk x.1 ≤ N) (hN : N ≤ 4294967280) {b o : Nat} (hc : ∀ j, j < 6 → w.cell? ⟨b, o + j, none⟩ = cs[j]?) :
  ∃ t : PClass, ClassAt w.heap.size w b o t ∧ ClassOk t ∧ SmallC N t := by
 obtain ⟨hl, hf⟩ := open_field Tryz.underlying89 (by kernel_rfl) (by kernel_rfl) h
 obtain ⟨v0, k0, y0, e0, f0, b0⟩ := hf 0 _ rfl
 obtain ⟨v1, k1, y1, e1, f1, b1⟩ := hf 1 _ rfl
 obtain ⟨v2, k2, y2, e2, f2, b2⟩ := hf 2 _ rfl
 obtain ⟨v3, k3, y3, e3, f3, b3⟩ := hf 3 _ rfl
 obtain ⟨v4, k4, y4, e4, f4, b4⟩ := hf 4 _ rfl
 obtain ⟨v5, k5, y5, e5, f5, b5⟩ := hf 5 _ rfl
 obtain ⟨oid, rfl, s0⟩ := open_str Tryz.underlying9 f0
 obtain ⟨a1, n1, c1, l1, rfl, t1, m1, s1⟩ := open_texts Tryz.underlying44 Tryz.underlying9 (by kernel_rfl) f1 (Nat.le_trans b1 hb) hN
 obtain ⟨a2, n2, c2, l2, rfl, t2, m2, s2⟩ := open_texts Tryz.underlying44 Tryz.underlying9 (by kernel_rfl) f2 (Nat.le_trans b2 hb) hN
 obtain ⟨kind, rfl, s3⟩ := open_i Tryz.underlying26 f3
 obtain ⟨a4, n4, c4, l4, rfl, t4, m4, s4⟩ := open_texts Tryz.underlying44 Tryz.underlying9 (by kernel_rfl) f4 (Nat.le_trans b4 hb) hN
 obtain ⟨a5, n5, c5, l5, rfl, t5, m5, s5⟩ := open_texts Tryz.underlying44 Tryz.underlying9 (by kernel_rfl) f5 (Nat.le_trans b5 hb) hN
 have h1 := t1.len
 have h2 := t2.len
 have h4 := t4.len
 have h5 := t5.len
 refine ⟨⟨oid, l1, l2, kind, l4, l5⟩, ⟨(hc 0 (by omega)).trans e0, ⟨a1, n1, c1, (hc 1 (by omega)).trans e1, t1⟩, ⟨a2, n2, c2, (hc 2 (by omega)).trans e2, t2⟩, (hc 3 (by omega)).trans e3, ⟨a4, n4, c4, (hc 4 (by omega)).trans e4, t4⟩, ⟨a5, n5, c5, (hc 5 (by omega)).trans e5, t5⟩⟩,
  ⟨by simp only; omega, i8_rng s3⟩, ⟨by simp only; omega, ⟨by simp only; omega, s1⟩, ⟨by simp only; omega, s2⟩, ⟨by simp only; omega, s4⟩, ⟨by simp only; omega, s5⟩⟩⟩
theorem cT9 : Tryz.prog.cellsOf 46 = 9 := by kernel_rfl
theorem cC6 : Tryz.prog.cellsOf 89 = 6 := by kernel_rfl
theorem slice_at {P : Program} {t e : TypeId} {r : Reach} {b : Nat} {ad : Addr} {n c : Nat} (ht : P.underlying t = some (.slice e)) (h : Cell.okWide P w r b t (.slice (some ad) n c)) : ad.spot = none ∧ ad.block < w.heap.size := by
 unfold Cell.okWide Cell.ok at h
 rw [ht] at h
 obtain ⟨_, _, _, hs, row, cells, hsh, _⟩ := h
 refine ⟨hs, ?_⟩
 unfold World.shape? at hsh
 split at hsh
 ·rename_i h2; exact (Array.getElem?_eq_some_iff.1 h2).1
 ·cases hsh
theorem open_types {m N : Nat} {v : Value} {x : DataW H × List MemPlace} (h : DataW.trod enc Tryz.prog w base (fun _ => true) held m 22 [v] = some x) (hb : bulk x.1 ≤ N) (hN : N ≤ 4294967280) (hat : ∀ ad n c, v = .slice (some ad) n c → ad.spot = none ∧ ad.block < w.heap.size) :
  ∃ a n c l, v = .slice a n c ∧ Types w.heap.size w a n c l ∧ l.length ≤ N ∧ ∀ t ∈ l, SmallT N t := by
 obtain ⟨a, n, c, rfl, hl, hn, hi⟩ := open_sl Tryz.underlying22 (by rw [cT9]; omega) h hb
 rw [cT9] at hi
 have hL : Lies w.heap.size a n c := ⟨hl.le, hl.cap, hl.nil, fun ad e => (hat ad n c (by rw [e])).2, hl.spot⟩
 have htop : ∀ ad, a = some ad → ad.spot = none := fun ad e => (hat ad n c (by rw [e])).1
 by_cases h0 : n = 0
 ·subst h0
  exact ⟨a, 0, c, [], rfl, ⟨rfl, hL, (fun b o _ i s hs => by simp at hs), (fun s h => by cases h), htop⟩, Nat.zero_le _, fun s h => by cases h⟩
 ·obtain ⟨b, o, rfl, hbl⟩ := hl.ptr (by omega)
  obtain ⟨l, hln, hll⟩ := list_of (n := n) (p := fun i (t : PType) => TypeAt w.heap.size w b (o + i * 9) t ∧ TypeOk t ∧ SmallT N t) fun i hil => by
   obtain ⟨cs, k, y, h1, h2, h3, h4⟩ := hi b o rfl i hil
   exact open_type h3 h4 hN h2
  have hsz : ∀ t ∈ l, TypeOk t ∧ SmallT N t := fun s hs => by
   obtain ⟨i, hi2, rfl⟩ := List.getElem_of_mem hs
   exact (hll i _ (List.getElem?_eq_getElem hi2)).2
  exact ⟨_, n, c, l, rfl, ⟨hln.symm, hL, fun b2 o2 e2 i s hs => by cases e2; exact (hll i s hs).1, fun t ht => (hsz t ht).1, htop⟩, by omega, fun t ht => (hsz t ht).2⟩
theorem open_classes {m N : Nat} {v : Value} {x : DataW H × List MemPlace} (h : DataW.trod enc Tryz.prog w base (fun _ => true) held m 23 [v] = some x) (hb : bulk x.1 ≤ N) (hN : N ≤ 4294967280) (hat : ∀ ad n c, v = .slice (some ad) n c → ad.spot = none ∧ ad.block < w.heap.size) :
  ∃ a n c l, v = .slice a n c ∧ Classes w.heap.size w a n c l ∧ l.length ≤ N ∧ ∀ t ∈ l, SmallC N t := by
 obtain ⟨a, n, c, rfl, hl, hn, hi⟩ := open_sl Tryz.underlying23 (by rw [cC6]; omega) h hb
 rw [cC6] at hi
 have hL : Lies w.heap.size a n c := ⟨hl.le, hl.cap, hl.nil, fun ad e => (hat ad n c (by rw [e])).2, hl.spot⟩
 have htop : ∀ ad, a = some ad → ad.spot = none := fun ad e => (hat ad n c (by rw [e])).1
 by_cases h0 : n = 0
 ·subst h0
  exact ⟨a, 0, c, [], rfl, ⟨rfl, hL, (fun b o _ i s hs => by simp at hs), (fun s h => by cases h), htop⟩, Nat.zero_le _, fun s h => by cases h⟩
 ·obtain ⟨b, o, rfl, hbl⟩ := hl.ptr (by omega)
  obtain ⟨l, hln, hll⟩ := list_of (n := n) (p := fun i (t : PClass) => ClassAt w.heap.size w b (o + i * 6) t ∧ ClassOk t ∧ SmallC N t) fun i hil => by
   obtain ⟨cs, k, y, h1, h2, h3, h4⟩ := hi b o rfl i hil
   exact open_class h3 h4 hN h2
  have hsz : ∀ t ∈ l, ClassOk t ∧ SmallC N t := fun s hs => by
   obtain ⟨i, hi2, rfl⟩ := List.getElem_of_mem hs
   exact (hll i _ (List.getElem?_eq_getElem hi2)).2
  exact ⟨_, n, c, l, rfl, ⟨hln.symm, hL, fun b2 o2 e2 i s hs => by cases e2; exact (hll i s hs).1, fun t ht => (hsz t ht).1, htop⟩, by omega, fun t ht => (hsz t ht).2⟩
theorem schema_cells : Tryz.prog.cellTypes Tryz.prog.depth 25 = some [22, 23] := by kernel_rfl
set_option maxRecDepth 100000 in
theorem open_schema {r : Reach} {b0 N : Nat} {v : Value} {d : DataW H} {ps : List MemPlace} (hval : Value.okWide Tryz.prog w r b0 25 v) (hd : DataW.Trod enc Tryz.prog w base (fun _ => true) held 25 v d ps) (hb : bulk d ≤ N) (hN : N ≤ 4294967280) :
  ∃ (S : PSchema) (a : Option Addr) (n c : Nat) (a2 : Option Addr) (n2 c2 : Nat), v = .agg #[.slice a n c, .slice a2 n2 c2] ∧ Types w.heap.size w a n c S.types ∧ Classes w.heap.size w a2 n2 c2 S.classes ∧ SmallS N S := by
 have hval2 := hval
 unfold Value.okWide at hval2
 rw [Tryz.underlying25] at hval2
 obtain ⟨cs, rfl, _, ts, hts, _, hcell⟩ := hval2
 rw [schema_cells] at hts
 obtain rfl := Option.some.inj hts
 obtain ⟨fuel, hf⟩ := hd
 obtain ⟨hl, hff⟩ := open_field Tryz.underlying25 (by kernel_rfl) (by kernel_rfl) hf
 obtain ⟨v0, k0, y0, e0, f0, b0⟩ := hff 0 _ rfl
 obtain ⟨v1, k1, y1, e1, f1, b1⟩ := hff 1 _ rfl
 have g0 : cs[0]? = some v0 := by simpa [Value.cells] using e0
 have g1 : cs[1]? = some v1 := by simpa [Value.cells] using e1
 obtain ⟨u0, hu0, ho0⟩ := hcell 0 v0 g0
 obtain ⟨u1, hu1, ho1⟩ := hcell 1 v1 g1
 obtain rfl : u0 = 22 := by simpa using hu0.symm
 obtain rfl : u1 = 23 := by simpa using hu1.symm
 obtain ⟨a, n, c, l, rfl, t1, m1, s1⟩ := open_types f0 (Nat.le_trans b0 hb) hN fun ad n c e => slice_at Tryz.underlying22 (by rw [← e]; exact ho0)
 obtain ⟨a2, n2, c2, l2, rfl, t2, m2, s2⟩ := open_classes f1 (Nat.le_trans b1 hb) hN fun ad n c e => slice_at Tryz.underlying23 (by rw [← e]; exact ho1)
 refine ⟨⟨l, l2⟩, a, n, c, a2, n2, c2, ?_, t1, t2, ⟨⟨m1, s1⟩, ⟨m2, s2⟩⟩⟩
 congr 1
 have hl2 : cs.size = 2 := by simpa [Value.cells] using hl
 apply Array.ext
 ·rw [hl2]; rfl
 ·intro i h1 h2
  rw [hl2] at h1
  match i, h1 with
  | 0, _ => have := (Array.getElem?_eq_some_iff.1 g0).2; simpa using this
  | 1, _ => have := (Array.getElem?_eq_some_iff.1 g1).2; simpa using this
end
end Go.Proofs.YtlmfbjhokkpjhaaGreatDoor
namespace Go.Proofs.YtlmfbjhokkpjhaaGreatDoor
open Go Go.RowKit Go.ChangeShapes Go.WideShapes
theorem ask_fields : ∃ f0 f1 f2 f3 : Field, Tryz.prog.underlying 28 = some (.struct #[f0, f1, f2, f3]) ∧ (f0.type = 26 ∧ f0.offset = 0) ∧ (f1.type = 3 ∧ f1.offset = 1) ∧ (f2.type = 9 ∧ f2.offset = 2) ∧ (f3.type = 9 ∧ f3.offset = 3) :=
 ⟨_, _, _, _, Tryz.underlying28, ⟨rfl, rfl⟩, ⟨rfl, rfl⟩, ⟨rfl, rfl⟩, ⟨rfl, rfl⟩⟩
theorem i8_range {a : Int} (h : (Lit.int .i8 a).wf = true) : -128 ≤ a ∧ a ≤ 127 := by
 have h1 : IntKind.i8.min = -128 := by decide
 have h2 : IntKind.i8.max = 127 := by decide
 simp [Lit.wf, h1, h2] at h
 omega
theorem c1n : Tryz.prog.cellsOf 3 = 1 := by kernel_rfl
theorem cAsk : Tryz.prog.cellsOf 28 = 4 := by kernel_rfl
theorem four_split (cs : List Value) (h : cs.length = 4) (a b c d : Value) (h0 : (cs.drop 0).take 1 = [a]) (h1 : (cs.drop 1).take 1 = [b]) (h2 : (cs.drop 2).take 1 = [c]) (h3 : (cs.drop 3).take 1 = [d]) : cs = [a, b, c, d] := by
 match cs, h with
 | [x0, x1, x2, x3], _ =>
  simp at h0 h1 h2 h3
  rw [h0, h1, h2, h3]
set_option maxRecDepth 100000 in
theorem open_ask {H : Type} {enc : TypeId × Value → H} {W w : World} {r : Reach} {b0 base : Nat} {sp : Nat → Bool} {held : Bool} {v : Value} {d : DataW H} {ps : List MemPlace} (hval : Value.okWide Tryz.prog W r b0 28 v) (hd : DataW.Trod enc Tryz.prog w base sp held 28 v d ps) :
  ∃ (a t : Int) (s1 s2 : ByteArray), v = .agg #[.int .i8 a, .int .i64 t, .string s1, .string s2] ∧ ps = [] ∧ (Lit.int .i8 a).wf = true ∧ (Lit.int .i64 t).wf = true ∧ s1.size ≤ maxLen ∧ s2.size ≤ maxLen := by
 obtain ⟨f0, f1, f2, f3, hu, ⟨a0, b0'⟩, ⟨a1, b1⟩, ⟨a2, b2⟩, ⟨a3, b3⟩⟩ := ask_fields
 obtain ⟨cs, rfl, hsz⟩ := okWide_struct hu hval
 rw [cAsk] at hsz
 obtain ⟨fuel, hf⟩ := hd
 obtain ⟨xs, n, _, hx, hl, hlen, hff⟩ := DataW.trod_struct hu hf
 rw [cAsk] at hl
 match xs, hlen with
 | [y0, y1, y2, y3], _ =>
  have g0 := hff 0 f0 rfl
  have g1 := hff 1 f1 rfl
  have g2 := hff 2 f2 rfl
  have g3 := hff 3 f3 rfl
  rw [a0, b0', c1i] at g0
  rw [a1, b1, c1n] at g1
  rw [a2, b2, c1s] at g2
  rw [a3, b3, c1s] at g3
  obtain ⟨z0, e0, hy0, w0⟩ := DataW.trod_int Tryz.underlying26 g0
  obtain ⟨z1, e1, hy1, w1⟩ := DataW.trod_int Tryz.underlying3 g1
  obtain ⟨z2, e2, hy2, w2⟩ := DataW.trod_string Tryz.underlying9 g2
  obtain ⟨z3, e3, hy3, w3⟩ := DataW.trod_string Tryz.underlying9 g3
  have hcs := four_split _ hl _ _ _ _ e0 e1 e2 e3
  refine ⟨z0, z1, z2, z3, ?_, ?_, w0, w1, w2, w3⟩
  ·have : cs.toList = [.int .i8 z0, .int .i64 z1, .string z2, .string z3] := by simpa [Value.cells] using hcs
   congr 1
   exact Array.toList_inj.1 (by simpa using this)
  ·have h1 := congrArg Prod.snd hx
   simp only [hy0, hy1, hy2, hy3] at h1
   simpa using h1
end Go.Proofs.YtlmfbjhokkpjhaaGreatDoor
namespace Go.Proofs.YtlmfbjhokkpjhaaGreatDoor
open Go
abbrev PAva := ByteArray × ByteArray
abbrev PRdn := List PAva
abbrev PName := List PRdn
abbrev PFault := Int × Nat × Str
def oidN : Nat → Str → Nat → Bool → Nat × Bool
 | 0, _, off, _ => (off, false)
 | f + 1, l, off, one =>
  let d := if l.head? = some 48 then 1 else (l.takeWhile dig).length
  if d = 0 then (off, false)
  else if l[d]? = some 46 then oidN f (l.drop (d + 1)) (off + d + 1) false
  else if one then (off + d, false)
  else (off + d, l[d]? == some 61)
def kindN (l : Str) : Nat × Bool := match l with
 | [] => (0, false)
 | c :: _ => if isLet c then ((l.takeWhile tailC).length, l[(l.takeWhile tailC).length]? == some 61) else oidN (l.length + 1) l 0 true
def hexd (c : UInt8) : Bool := dig c || decide (97 ≤ c.toNat ∧ c.toNat ≤ 102) || decide (65 ≤ c.toNat ∧ c.toNat ≤ 70)
def hexv (c : UInt8) : Nat := if c.toNat ≤ 57 then c.toNat - 48 else if c.toNat ≤ 70 then c.toNat - 55 else c.toNat - 87
def escs : Str := [34, 43, 44, 59, 60, 62, 61, 35, 32, 92]
def bads : Str := [0, 34, 59, 60, 62]
def valR (st : Nat) : Str → Nat → Str → Option Nat → Str × Nat × Option (Int × Nat)
 | [], off, b, bare => (b, off, bare.map fun p => (50, p))
 | c :: l, off, b, bare =>
  if c = 44 ∨ c = 43 then (b, off, bare.map fun p => (50, p))
  else if c = 92 then match l with
   | [] => ([], off, some (11, off))
   | x :: l2 => if escs.contains x then valR st l2 (off + 2) (b ++ [x]) none else match l2 with
    | [] => ([], off, some (11, off))
    | y :: l3 => if hexd x && hexd y then valR st l3 (off + 3) (b ++ [UInt8.ofNat (hexv x * 16 + hexv y)]) none else ([], off, some (11, off))
  else if bads.contains c ∨ (off = st ∧ (c = 32 ∨ c = 35)) then ([], off, some (50, off))
  else valR st l (off + 1) (b ++ [c]) (if c = 32 then some off else none)
def faultAt (s : Str) (code : Int) (p : Nat) : PFault := (code, p, (s.drop p).take 1)
def stuckAt (s : Str) (p : Nat) : PFault := faultAt s (if p < s.length then 50 else 5) p
def baOf (l : Str) : ByteArray := ⟨l.toArray⟩
def parseR (s : Str) : Nat → Nat → PName → PRdn → Except PFault PName
 | 0, _, _, _ => .error (0, 0, [])
 | f + 1, p, done, part =>
  let k := kindN (s.drop p)
  if k.2 = false then .error (stuckAt s (p + k.1))
  else
   let v := valR (p + k.1 + 1) (s.drop (p + k.1 + 1)) (p + k.1 + 1) [] none
   match v.2.2 with
   | some (c, q) => .error (faultAt s c q)
   | none =>
    let part2 := part ++ [(baOf ((s.drop p).take k.1), baOf v.1)]
    if s.length ≤ v.2.1 then .ok (done ++ [part2])
    else if s[v.2.1]? = some 44 then
     if 64 ≤ done.length + 1 then .error (faultAt s 3 v.2.1) else parseR s f (v.2.1 + 1) (done ++ [part2]) []
    else if 64 ≤ done.length ∨ 8 ≤ part2.length then .error (faultAt s 3 v.2.1) else parseR s f (v.2.1 + 1) done part2
def parseV (s : Str) : Except PFault PName :=
 if 65536 < s.length then .error (3, 0, []) else if s = [] then .ok [] else parseR s (s.length + 1) 0 [] []
def wordOk (s : Str) : Bool := (keyL 8 s).2
def typedV (s : Str) : Bool := if s.length ≤ 65536 then wordOk s else kindN (s ++ [61]) == (s.length, true)
def hexC (n : Nat) : UInt8 := if n < 10 then UInt8.ofNat (48 + n) else UInt8.ofNat (87 + n)
def hexB (c : UInt8) : Str := [92, hexC (c.toNat / 16), hexC (c.toNat % 16)]
def chN (l : Str) : Nat := (([1, 2, 3, 4].find? fun n => decide (n ≤ l.length) && Lib.validD (l.take n))).getD 0
def showK : Bool → Str → Nat → Str
 | _, [], _ => []
 | _, c :: l, k + 1 => c :: showK false l k
 | fst, c :: l, 0 =>
  if chN (c :: l) = 0 then hexB c ++ showK false l 0
  else if c.toNat < 32 ∨ c = 127 then hexB c ++ showK false l (chN (c :: l) - 1)
  else if [34, 43, 44, 59, 60, 62, 92].contains c ∨ (c = 32 ∧ (fst = true ∨ l = [])) ∨ (c = 35 ∧ fst = true) then [92, c] ++ showK false l (chN (c :: l) - 1)
  else c :: showK false l (chN (c :: l) - 1)
def showV (v : Str) : Str := showK true v 0
def avaP (a : PAva) : Str := toL a.1 ++ 61 :: showV (toL a.2)
def joinP (c : UInt8) : List Str → Str
 | [] => []
 | [x] => x
 | x :: y :: l => x ++ c :: joinP c (y :: l)
def rdnP (r : PRdn) : Str := joinP 43 (r.map avaP)
def nameP (n : PName) : Str := joinP 44 (n.map rdnP)
def printV (n : PName) : Str × Int :=
 if 64 < n.length ∨ n.any (fun r => decide (8 < r.length)) then ([], 3)
 else if n.any (fun r => r.isEmpty || r.any fun a => !typedV (toL a.1)) then ([], 60)
 else if n.any (fun r => r.any fun a => decide (65536 < a.1.size) || decide (65536 < a.2.size)) ∨ 65536 < (nameP n).length then ([], 3)
 else (nameP n, 0)
end Go.Proofs.YtlmfbjhokkpjhaaGreatDoor
