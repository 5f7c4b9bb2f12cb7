/- Part 25 of the walks and plain laws, joined: OpenSch, OpenAsk, Chars. -/
import Derived.Test.YtifgmnafjihlkaaGreatDoorMP24
import Derived.Test.YtifgmnafjihlkaaGreatDoorMP06
import Derived.Test.YtifgmnafjihlkaaGreatDoorMP00
import Derived.WideShapes
import Derived.ChangeMaps5
import Derived.Lib.MapLaws
import Derived.Lib.TrimByte
import Derived.Lib.ValidLaws
/- A row's argument of type api.Schema, opened: types and classes of bounded bulk. No walk. -/
namespace Go.Proofs.YtifgmnafjihlkaaGreatDoor
open Go Go.RowKit Go.ChangeShapes Go.WideShapes Go.Deep

structure SmallT (N : Nat) (x : PType) : Prop where
  oid : x.oid.size ≤ N
  sup : x.sup.size ≤ N
  names : x.names.length ≤ N ∧ ∀ s ∈ x.names, s.size ≤ N
structure SmallC (N : Nat) (x : PClass) : Prop where
  oid : x.oid.size ≤ N
  names : x.names.length ≤ N ∧ ∀ s ∈ x.names, s.size ≤ N
  sups : x.sups.length ≤ N ∧ ∀ s ∈ x.sups, s.size ≤ N
  must : x.must.length ≤ N ∧ ∀ s ∈ x.must, s.size ≤ N
  may : x.may.length ≤ N ∧ ∀ s ∈ x.may, s.size ≤ N
structure SmallS (N : Nat) (S : PSchema) : Prop where
  types : S.types.length ≤ N ∧ ∀ x ∈ S.types, SmallT N x
  classes : S.classes.length ≤ N ∧ ∀ x ∈ S.classes, SmallC N x

theorem i8_rng {a : Int} (h : (Lit.int .i8 a).wf = true) : -128 ≤ a ∧ a ≤ 127 := by
  have h1 : IntKind.i8.min = -128 := by decide
  have h2 : IntKind.i8.max = 127 := by decide
  simp [Lit.wf, h1, h2] at h
  omega
theorem u8_rng {a : Int} (h : (Lit.int .u8 a).wf = true) : 0 ≤ a ∧ a ≤ 255 := by
  have h1 : IntKind.u8.min = 0 := by decide
  have h2 : IntKind.u8.max = 255 := by decide
  simp [Lit.wf, h1, h2] at h
  omega

section
variable {H : Type} {enc : TypeId × Value → H} {w : World} {base : Nat} {held : Bool}

theorem open_type {m N : Nat} {cs : List Value} {x : DataW H × List MemPlace} (h : DataW.trod enc Tryz.prog w base (fun _ => true) held m 48 cs = some x) (hb : bulk x.1 ≤ N) (hN : N ≤ 4294967280) {b o : Nat} (hc : ∀ j, j < 9 → w.cell? ⟨b, o + j, none⟩ = cs[j]?) :
    ∃ t : PType, TypeAt w.heap.size w b o t ∧ TypeOk t ∧ SmallT N t := by
  obtain ⟨hl, hf⟩ := open_field Tryz.underlying48 (by kernel_rfl) (by kernel_rfl) h
  obtain ⟨v0, k0, y0, e0, f0, b0⟩ := hf 0 _ rfl
  obtain ⟨v1, k1, y1, e1, f1, b1⟩ := hf 1 _ rfl
  obtain ⟨v2, k2, y2, e2, f2, b2⟩ := hf 2 _ rfl
  obtain ⟨v3, k3, y3, e3, f3, b3⟩ := hf 3 _ rfl
  obtain ⟨v4, k4, y4, e4, f4, b4⟩ := hf 4 _ rfl
  obtain ⟨v5, k5, y5, e5, f5, b5⟩ := hf 5 _ rfl
  obtain ⟨v6, k6, y6, e6, f6, b6⟩ := hf 6 _ rfl
  obtain ⟨v7, k7, y7, e7, f7, b7⟩ := hf 7 _ rfl
  obtain ⟨v8, k8, y8, e8, f8, b8⟩ := hf 8 _ rfl
  obtain ⟨oid, rfl, s0⟩ := open_str Tryz.underlying9 f0
  obtain ⟨a, n, c, l, rfl, t1, l1, s1⟩ := open_texts Tryz.underlying46 Tryz.underlying9 (by kernel_rfl) f1 (Nat.le_trans b1 hb) hN
  obtain ⟨sup, rfl, s2⟩ := open_str Tryz.underlying9 f2
  obtain ⟨syn, rfl, s3⟩ := open_i Tryz.underlying22 f3
  obtain ⟨eq, rfl, s4⟩ := open_i Tryz.underlying22 f4
  obtain ⟨ord, rfl, s5⟩ := open_i Tryz.underlying22 f5
  obtain ⟨part, rfl, s6⟩ := open_i Tryz.underlying22 f6
  obtain ⟨single, rfl⟩ := open_b Tryz.underlying4 f7
  obtain ⟨index, rfl, s8⟩ := open_i Tryz.underlying5 f8
  have hln := t1.len
  refine ⟨⟨oid, l, sup, syn, eq, ord, part, single, index⟩, ⟨(hc 0 (by omega)).trans e0, ⟨a, n, c, (hc 1 (by omega)).trans e1, t1⟩, (hc 2 (by omega)).trans e2, (hc 3 (by omega)).trans e3, (hc 4 (by omega)).trans e4, (hc 5 (by omega)).trans e5, (hc 6 (by omega)).trans e6, (hc 7 (by omega)).trans e7, (hc 8 (by omega)).trans e8⟩,
    ⟨by simp only; omega, by simp only; omega, i8_rng s3, i8_rng s4, i8_rng s5, i8_rng s6, u8_rng s8⟩, ⟨by simp only; omega, by simp only; omega, by simp only; omega, s1⟩⟩

theorem open_class {m N : Nat} {cs : List Value} {x : DataW H × List MemPlace} (h : DataW.trod enc Tryz.prog w base (fun _ => true) held m 108 cs = some x) (hb : bulk x.1 ≤ N) (hN : N ≤ 4294967280) {b o : Nat} (hc : ∀ j, j < 6 → w.cell? ⟨b, o + j, none⟩ = cs[j]?) :
    ∃ t : PClass, ClassAt w.heap.size w b o t ∧ ClassOk t ∧ SmallC N t := by
  obtain ⟨hl, hf⟩ := open_field Tryz.underlying108 (by kernel_rfl) (by kernel_rfl) h
  obtain ⟨v0, k0, y0, e0, f0, b0⟩ := hf 0 _ rfl
  obtain ⟨v1, k1, y1, e1, f1, b1⟩ := hf 1 _ rfl
  obtain ⟨v2, k2, y2, e2, f2, b2⟩ := hf 2 _ rfl
  obtain ⟨v3, k3, y3, e3, f3, b3⟩ := hf 3 _ rfl
  obtain ⟨v4, k4, y4, e4, f4, b4⟩ := hf 4 _ rfl
  obtain ⟨v5, k5, y5, e5, f5, b5⟩ := hf 5 _ rfl
  obtain ⟨oid, rfl, s0⟩ := open_str Tryz.underlying9 f0
  obtain ⟨a1, n1, c1, l1, rfl, t1, m1, s1⟩ := open_texts Tryz.underlying46 Tryz.underlying9 (by kernel_rfl) f1 (Nat.le_trans b1 hb) hN
  obtain ⟨a2, n2, c2, l2, rfl, t2, m2, s2⟩ := open_texts Tryz.underlying46 Tryz.underlying9 (by kernel_rfl) f2 (Nat.le_trans b2 hb) hN
  obtain ⟨kind, rfl, s3⟩ := open_i Tryz.underlying22 f3
  obtain ⟨a4, n4, c4, l4, rfl, t4, m4, s4⟩ := open_texts Tryz.underlying46 Tryz.underlying9 (by kernel_rfl) f4 (Nat.le_trans b4 hb) hN
  obtain ⟨a5, n5, c5, l5, rfl, t5, m5, s5⟩ := open_texts Tryz.underlying46 Tryz.underlying9 (by kernel_rfl) f5 (Nat.le_trans b5 hb) hN
  have h1 := t1.len
  have h2 := t2.len
  have h4 := t4.len
  have h5 := t5.len
  refine ⟨⟨oid, l1, l2, kind, l4, l5⟩, ⟨(hc 0 (by omega)).trans e0, ⟨a1, n1, c1, (hc 1 (by omega)).trans e1, t1⟩, ⟨a2, n2, c2, (hc 2 (by omega)).trans e2, t2⟩, (hc 3 (by omega)).trans e3, ⟨a4, n4, c4, (hc 4 (by omega)).trans e4, t4⟩, ⟨a5, n5, c5, (hc 5 (by omega)).trans e5, t5⟩⟩,
    ⟨by simp only; omega, i8_rng s3⟩, ⟨by simp only; omega, ⟨by simp only; omega, s1⟩, ⟨by simp only; omega, s2⟩, ⟨by simp only; omega, s4⟩, ⟨by simp only; omega, s5⟩⟩⟩

theorem cT9 : Tryz.prog.cellsOf 48 = 9 := by kernel_rfl
theorem cC6 : Tryz.prog.cellsOf 108 = 6 := by kernel_rfl
theorem slice_at {P : Program} {t e : TypeId} {r : Reach} {b : Nat} {ad : Addr} {n c : Nat} (ht : P.underlying t = some (.slice e)) (h : Cell.okWide P w r b t (.slice (some ad) n c)) : ad.spot = none ∧ ad.block < w.heap.size := by
  unfold Cell.okWide Cell.ok at h
  rw [ht] at h
  obtain ⟨_, _, _, hs, row, cells, hsh, _⟩ := h
  refine ⟨hs, ?_⟩
  unfold World.shape? at hsh
  split at hsh
  · rename_i h2; exact (Array.getElem?_eq_some_iff.1 h2).1
  · cases hsh
theorem open_types {m N : Nat} {v : Value} {x : DataW H × List MemPlace} (h : DataW.trod enc Tryz.prog w base (fun _ => true) held m 35 [v] = some x) (hb : bulk x.1 ≤ N) (hN : N ≤ 4294967280) (hat : ∀ ad n c, v = .slice (some ad) n c → ad.spot = none ∧ ad.block < w.heap.size) :
    ∃ a n c l, v = .slice a n c ∧ Types w.heap.size w a n c l ∧ l.length ≤ N ∧ ∀ t ∈ l, SmallT N t := by
  obtain ⟨a, n, c, rfl, hl, hn, hi⟩ := open_sl Tryz.underlying35 (by rw [cT9]; omega) h hb
  rw [cT9] at hi
  have hL : Lies w.heap.size a n c := ⟨hl.le, hl.cap, hl.nil, fun ad e => (hat ad n c (by rw [e])).2, hl.spot⟩
  have htop : ∀ ad, a = some ad → ad.spot = none := fun ad e => (hat ad n c (by rw [e])).1
  by_cases h0 : n = 0
  · subst h0
    exact ⟨a, 0, c, [], rfl, ⟨rfl, hL, (fun b o _ i s hs => by simp at hs), (fun s h => by cases h), htop⟩, Nat.zero_le _, fun s h => by cases h⟩
  · obtain ⟨b, o, rfl, hbl⟩ := hl.ptr (by omega)
    obtain ⟨l, hln, hll⟩ := list_of (n := n) (p := fun i (t : PType) => TypeAt w.heap.size w b (o + i * 9) t ∧ TypeOk t ∧ SmallT N t) fun i hil => by
      obtain ⟨cs, k, y, h1, h2, h3, h4⟩ := hi b o rfl i hil
      exact open_type h3 h4 hN h2
    have hsz : ∀ t ∈ l, TypeOk t ∧ SmallT N t := fun s hs => by
      obtain ⟨i, hi2, rfl⟩ := List.getElem_of_mem hs
      exact (hll i _ (List.getElem?_eq_getElem hi2)).2
    exact ⟨_, n, c, l, rfl, ⟨hln.symm, hL, fun b2 o2 e2 i s hs => by cases e2; exact (hll i s hs).1, fun t ht => (hsz t ht).1, htop⟩, by omega, fun t ht => (hsz t ht).2⟩
theorem open_classes {m N : Nat} {v : Value} {x : DataW H × List MemPlace} (h : DataW.trod enc Tryz.prog w base (fun _ => true) held m 36 [v] = some x) (hb : bulk x.1 ≤ N) (hN : N ≤ 4294967280) (hat : ∀ ad n c, v = .slice (some ad) n c → ad.spot = none ∧ ad.block < w.heap.size) :
    ∃ a n c l, v = .slice a n c ∧ Classes w.heap.size w a n c l ∧ l.length ≤ N ∧ ∀ t ∈ l, SmallC N t := by
  obtain ⟨a, n, c, rfl, hl, hn, hi⟩ := open_sl Tryz.underlying36 (by rw [cC6]; omega) h hb
  rw [cC6] at hi
  have hL : Lies w.heap.size a n c := ⟨hl.le, hl.cap, hl.nil, fun ad e => (hat ad n c (by rw [e])).2, hl.spot⟩
  have htop : ∀ ad, a = some ad → ad.spot = none := fun ad e => (hat ad n c (by rw [e])).1
  by_cases h0 : n = 0
  · subst h0
    exact ⟨a, 0, c, [], rfl, ⟨rfl, hL, (fun b o _ i s hs => by simp at hs), (fun s h => by cases h), htop⟩, Nat.zero_le _, fun s h => by cases h⟩
  · obtain ⟨b, o, rfl, hbl⟩ := hl.ptr (by omega)
    obtain ⟨l, hln, hll⟩ := list_of (n := n) (p := fun i (t : PClass) => ClassAt w.heap.size w b (o + i * 6) t ∧ ClassOk t ∧ SmallC N t) fun i hil => by
      obtain ⟨cs, k, y, h1, h2, h3, h4⟩ := hi b o rfl i hil
      exact open_class h3 h4 hN h2
    have hsz : ∀ t ∈ l, ClassOk t ∧ SmallC N t := fun s hs => by
      obtain ⟨i, hi2, rfl⟩ := List.getElem_of_mem hs
      exact (hll i _ (List.getElem?_eq_getElem hi2)).2
    exact ⟨_, n, c, l, rfl, ⟨hln.symm, hL, fun b2 o2 e2 i s hs => by cases e2; exact (hll i s hs).1, fun t ht => (hsz t ht).1, htop⟩, by omega, fun t ht => (hsz t ht).2⟩

theorem schema_cells : Tryz.prog.cellTypes Tryz.prog.depth 38 = some [35, 36] := by kernel_rfl
set_option maxRecDepth 100000 in
theorem open_schema {r : Reach} {b0 N : Nat} {v : Value} {d : DataW H} {ps : List MemPlace} (hval : Value.okWide Tryz.prog w r b0 38 v) (hd : DataW.Trod enc Tryz.prog w base (fun _ => true) held 38 v d ps) (hb : bulk d ≤ N) (hN : N ≤ 4294967280) :
    ∃ (S : PSchema) (a : Option Addr) (n c : Nat) (a2 : Option Addr) (n2 c2 : Nat), v = .agg #[.slice a n c, .slice a2 n2 c2] ∧ Types w.heap.size w a n c S.types ∧ Classes w.heap.size w a2 n2 c2 S.classes ∧ SmallS N S := by
  have hval2 := hval
  unfold Value.okWide at hval2
  rw [Tryz.underlying38] at hval2
  obtain ⟨cs, rfl, _, ts, hts, _, hcell⟩ := hval2
  rw [schema_cells] at hts
  obtain rfl := Option.some.inj hts
  obtain ⟨fuel, hf⟩ := hd
  obtain ⟨hl, hff⟩ := open_field Tryz.underlying38 (by kernel_rfl) (by kernel_rfl) hf
  obtain ⟨v0, k0, y0, e0, f0, b0⟩ := hff 0 _ rfl
  obtain ⟨v1, k1, y1, e1, f1, b1⟩ := hff 1 _ rfl
  have g0 : cs[0]? = some v0 := by simpa [Value.cells] using e0
  have g1 : cs[1]? = some v1 := by simpa [Value.cells] using e1
  obtain ⟨u0, hu0, ho0⟩ := hcell 0 v0 g0
  obtain ⟨u1, hu1, ho1⟩ := hcell 1 v1 g1
  obtain rfl : u0 = 35 := by simpa using hu0.symm
  obtain rfl : u1 = 36 := by simpa using hu1.symm
  obtain ⟨a, n, c, l, rfl, t1, m1, s1⟩ := open_types f0 (Nat.le_trans b0 hb) hN fun ad n c e => slice_at Tryz.underlying35 (by rw [← e]; exact ho0)
  obtain ⟨a2, n2, c2, l2, rfl, t2, m2, s2⟩ := open_classes f1 (Nat.le_trans b1 hb) hN fun ad n c e => slice_at Tryz.underlying36 (by rw [← e]; exact ho1)
  refine ⟨⟨l, l2⟩, a, n, c, a2, n2, c2, ?_, t1, t2, ⟨⟨m1, s1⟩, ⟨m2, s2⟩⟩⟩
  congr 1
  have hl2 : cs.size = 2 := by simpa [Value.cells] using hl
  apply Array.ext
  · rw [hl2]; rfl
  · intro i h1 h2
    rw [hl2] at h1
    match i, h1 with
    | 0, _ => have := (Array.getElem?_eq_some_iff.1 g0).2; simpa using this
    | 1, _ => have := (Array.getElem?_eq_some_iff.1 g1).2; simpa using this
end
end Go.Proofs.YtifgmnafjihlkaaGreatDoor
/- A row's argument of type Ask, opened. -/
namespace Go.Proofs.YtifgmnafjihlkaaGreatDoor
open Go Go.RowKit Go.ChangeShapes Go.WideShapes

theorem ask_fields : ∃ f0 f1 f2 f3 : Field, Tryz.prog.underlying 24 = some (.struct #[f0, f1, f2, f3]) ∧ (f0.type = 22 ∧ f0.offset = 0) ∧ (f1.type = 3 ∧ f1.offset = 1) ∧ (f2.type = 9 ∧ f2.offset = 2) ∧ (f3.type = 9 ∧ f3.offset = 3) :=
  ⟨_, _, _, _, Tryz.underlying24, ⟨rfl, rfl⟩, ⟨rfl, rfl⟩, ⟨rfl, rfl⟩, ⟨rfl, rfl⟩⟩
theorem i8_range {a : Int} (h : (Lit.int .i8 a).wf = true) : -128 ≤ a ∧ a ≤ 127 := by
  have h1 : IntKind.i8.min = -128 := by decide
  have h2 : IntKind.i8.max = 127 := by decide
  simp [Lit.wf, h1, h2] at h
  omega
theorem c1n : Tryz.prog.cellsOf 3 = 1 := by kernel_rfl
theorem cAsk : Tryz.prog.cellsOf 24 = 4 := by kernel_rfl
theorem four_split (cs : List Value) (h : cs.length = 4) (a b c d : Value) (h0 : (cs.drop 0).take 1 = [a]) (h1 : (cs.drop 1).take 1 = [b]) (h2 : (cs.drop 2).take 1 = [c]) (h3 : (cs.drop 3).take 1 = [d]) : cs = [a, b, c, d] := by
  match cs, h with
  | [x0, x1, x2, x3], _ =>
    simp at h0 h1 h2 h3
    rw [h0, h1, h2, h3]
set_option maxRecDepth 100000 in
theorem open_ask {H : Type} {enc : TypeId × Value → H} {W w : World} {r : Reach} {b0 base : Nat} {sp : Nat → Bool} {held : Bool} {v : Value} {d : DataW H} {ps : List MemPlace} (hval : Value.okWide Tryz.prog W r b0 24 v) (hd : DataW.Trod enc Tryz.prog w base sp held 24 v d ps) :
    ∃ (a t : Int) (s1 s2 : ByteArray), v = .agg #[.int .i8 a, .int .i64 t, .string s1, .string s2] ∧ ps = [] ∧ (Lit.int .i8 a).wf = true ∧ (Lit.int .i64 t).wf = true ∧ s1.size ≤ maxLen ∧ s2.size ≤ maxLen := by
  obtain ⟨f0, f1, f2, f3, hu, ⟨a0, b0'⟩, ⟨a1, b1⟩, ⟨a2, b2⟩, ⟨a3, b3⟩⟩ := ask_fields
  obtain ⟨cs, rfl, hsz⟩ := okWide_struct hu hval
  rw [cAsk] at hsz
  obtain ⟨fuel, hf⟩ := hd
  obtain ⟨xs, n, _, hx, hl, hlen, hff⟩ := DataW.trod_struct hu hf
  rw [cAsk] at hl
  match xs, hlen with
  | [y0, y1, y2, y3], _ =>
    have g0 := hff 0 f0 rfl
    have g1 := hff 1 f1 rfl
    have g2 := hff 2 f2 rfl
    have g3 := hff 3 f3 rfl
    rw [a0, b0', c1i] at g0
    rw [a1, b1, c1n] at g1
    rw [a2, b2, c1s] at g2
    rw [a3, b3, c1s] at g3
    obtain ⟨z0, e0, hy0, w0⟩ := DataW.trod_int Tryz.underlying22 g0
    obtain ⟨z1, e1, hy1, w1⟩ := DataW.trod_int Tryz.underlying3 g1
    obtain ⟨z2, e2, hy2, w2⟩ := DataW.trod_string Tryz.underlying9 g2
    obtain ⟨z3, e3, hy3, w3⟩ := DataW.trod_string Tryz.underlying9 g3
    have hcs := four_split _ hl _ _ _ _ e0 e1 e2 e3
    refine ⟨z0, z1, z2, z3, ?_, ?_, w0, w1, w2, w3⟩
    · have : cs.toList = [.int .i8 z0, .int .i64 z1, .string z2, .string z3] := by simpa [Value.cells] using hcs
      congr 1
      exact Array.toList_inj.1 (by simpa using this)
    · have h1 := congrArg Prod.snd hx
      simp only [hy0, hy1, hy2, hy3] at h1
      simpa using h1
end Go.Proofs.YtifgmnafjihlkaaGreatDoor
/- Valid texts, character by character (plain: no program in it). -/
namespace Go.Proofs.YtifgmnafjihlkaaGreatDoor
open Go Go.RowKit

/-- a character of more than one byte -/
structure Hi (c : List UInt8) : Prop where
  high : ∀ b ∈ c, 128 ≤ b.toNat
  ne : c ≠ []
  valid : ∀ t, Lib.validD (c ++ t) = Lib.validD t

theorem get_app (c t : List UInt8) (i : Nat) (h : i < c.length) : (c ++ t).getD i 0 = c.getD i 0 := by
  rw [List.getD_eq_getElem?_getD, List.getD_eq_getElem?_getD, List.getElem?_append_left h]
theorem get_take (l : List UInt8) (k i : Nat) (h : i < k) : (l.take k).getD i 0 = l.getD i 0 := by
  rw [List.getD_eq_getElem?_getD, List.getD_eq_getElem?_getD, List.getElem?_take, if_pos h]

theorem decodeN_2 (n b0 b1 b2 b3 : Nat) (h : b0 / 32 = 6 ∧ 1 < n ∧ b1 / 64 = 2 ∧ 128 ≤ b0 % 32 * 64 + b1 % 64) : Lib.decodeN n b0 b1 b2 b3 = (b0 % 32 * 64 + b1 % 64, 2) := by
  unfold Lib.decodeN
  rw [if_neg (by omega), if_pos (by omega), if_pos (by omega)]
theorem decodeN_3 (n b0 b1 b2 b3 : Nat) (h : b0 / 16 = 14 ∧ 2 < n ∧ b1 / 64 = 2 ∧ b2 / 64 = 2 ∧ 2048 ≤ b0 % 16 * 4096 + b1 % 64 * 64 + b2 % 64 ∧ (b0 % 16 * 4096 + b1 % 64 * 64 + b2 % 64 < 55296 ∨ 57344 ≤ b0 % 16 * 4096 + b1 % 64 * 64 + b2 % 64)) :
    Lib.decodeN n b0 b1 b2 b3 = (b0 % 16 * 4096 + b1 % 64 * 64 + b2 % 64, 3) := by
  unfold Lib.decodeN
  rw [if_neg (by omega), if_neg (by omega), if_pos (by omega), if_pos (by omega)]
theorem decodeN_4 (n b0 b1 b2 b3 : Nat) (h : b0 / 8 = 30 ∧ 3 < n ∧ b1 / 64 = 2 ∧ b2 / 64 = 2 ∧ b3 / 64 = 2 ∧ 65536 ≤ b0 % 8 * 262144 + b1 % 64 * 4096 + b2 % 64 * 64 + b3 % 64 ∧ b0 % 8 * 262144 + b1 % 64 * 4096 + b2 % 64 * 64 + b3 % 64 ≤ 1114111) :
    Lib.decodeN n b0 b1 b2 b3 = (b0 % 8 * 262144 + b1 % 64 * 4096 + b2 % 64 * 64 + b3 % 64, 4) := by
  unfold Lib.decodeN
  rw [if_neg (by omega), if_neg (by omega), if_neg (by omega), if_pos (by omega), if_pos (by omega)]

/-- what a text begins with: a byte below 128, a character, or nothing valid -/
theorem first_cases (l : List UInt8) (hne : l ≠ []) :
    (∃ b t, l = b :: t ∧ b.toNat < 128 ∧ Lib.decodeL l = (b.toNat, 1)) ∨ (∃ c t, l = c ++ t ∧ Hi c ∧ (Lib.decodeL l).2 = c.length ∧ 2 ≤ c.length) ∨ (Lib.decodeL l = (65533, 1) ∧ Lib.validD l = false) := by
  have hl : 0 < l.length := List.length_pos_iff.2 hne
  have k0 := (l.getD 0 0).toNat_lt
  have k1 := (l.getD 1 0).toNat_lt
  have k2 := (l.getD 2 0).toNat_lt
  have k3 := (l.getD 3 0).toNat_lt
  have hN := Lib.decodeL_N l
  rcases Lib.decodeN_shape l.length (l.getD 0 0).toNat (l.getD 1 0).toNat (l.getD 2 0).toNat (l.getD 3 0).toNat with ⟨c, e⟩ | ⟨c1, c2, c3, cv, e⟩ | ⟨c1, c2, c3, c4, cv, cs, e⟩ | ⟨c1, c2, c3, c4, c5, cv, cw, e⟩ | e
  · left
    cases l with
    | nil => exact absurd rfl hne
    | cons b t => exact ⟨b, t, rfl, c, hN.trans e⟩
  · right; left
    refine ⟨l.take 2, l.drop 2, (List.take_append_drop 2 l).symm, ⟨?_, ?_, fun t => ?_⟩, ?_, ?_⟩
    · rw [Lib.takeB l c2]; intro b hb
      simp only [List.mem_cons, List.not_mem_nil, or_false] at hb
      rcases hb with rfl | rfl <;> omega
    · rw [Lib.takeB l c2]; simp
    · have hlen : (l.take 2).length = 2 := by rw [List.length_take]; omega
      rw [Lib.validD_step _ (by rw [Lib.takeB l c2]; simp), Lib.decodeL_N, get_app _ _ 0 (by omega), get_app _ _ 1 (by omega), get_take l 2 0 (by omega), get_take l 2 1 (by omega)]
      rw [decodeN_2 _ _ _ _ _ ⟨c1, by rw [List.length_append]; omega, c3, cv⟩, if_neg (by simp)]
      rw [show (l.take 2 ++ t).drop 2 = t by rw [List.drop_append_of_le_length (by omega), List.drop_of_length_le (by omega)]; rfl]
    · rw [hN, e, List.length_take]; show 2 = _; omega
    · rw [List.length_take]; omega
  · right; left
    refine ⟨l.take 3, l.drop 3, (List.take_append_drop 3 l).symm, ⟨?_, ?_, fun t => ?_⟩, ?_, ?_⟩
    · rw [Lib.takeC l c2]; intro b hb
      simp only [List.mem_cons, List.not_mem_nil, or_false] at hb
      rcases hb with rfl | rfl | rfl <;> omega
    · rw [Lib.takeC l c2]; simp
    · have hlen : (l.take 3).length = 3 := by rw [List.length_take]; omega
      rw [Lib.validD_step _ (by rw [Lib.takeC l c2]; simp), Lib.decodeL_N, get_app _ _ 0 (by omega), get_app _ _ 1 (by omega), get_app _ _ 2 (by omega), get_take l 3 0 (by omega), get_take l 3 1 (by omega), get_take l 3 2 (by omega)]
      rw [decodeN_3 _ _ _ _ _ ⟨c1, by rw [List.length_append]; omega, c3, c4, cv, cs⟩, if_neg (by simp)]
      rw [show (l.take 3 ++ t).drop 3 = t by rw [List.drop_append_of_le_length (by omega), List.drop_of_length_le (by omega)]; rfl]
    · rw [hN, e, List.length_take]; show 3 = _; omega
    · rw [List.length_take]; omega
  · right; left
    refine ⟨l.take 4, l.drop 4, (List.take_append_drop 4 l).symm, ⟨?_, ?_, fun t => ?_⟩, ?_, ?_⟩
    · rw [Lib.takeD l c2]; intro b hb
      simp only [List.mem_cons, List.not_mem_nil, or_false] at hb
      rcases hb with rfl | rfl | rfl | rfl <;> omega
    · rw [Lib.takeD l c2]; simp
    · have hlen : (l.take 4).length = 4 := by rw [List.length_take]; omega
      rw [Lib.validD_step _ (by rw [Lib.takeD l c2]; simp), Lib.decodeL_N, get_app _ _ 0 (by omega), get_app _ _ 1 (by omega), get_app _ _ 2 (by omega), get_app _ _ 3 (by omega), get_take l 4 0 (by omega), get_take l 4 1 (by omega), get_take l 4 2 (by omega), get_take l 4 3 (by omega)]
      rw [decodeN_4 _ _ _ _ _ ⟨c1, by rw [List.length_append]; omega, c3, c4, c5, cv, cw⟩, if_neg (by simp)]
      rw [show (l.take 4 ++ t).drop 4 = t by rw [List.drop_append_of_le_length (by omega), List.drop_of_length_le (by omega)]; rfl]
    · rw [hN, e, List.length_take]; show 4 = _; omega
    · rw [List.length_take]; omega
  · right; right
    refine ⟨hN.trans e, ?_⟩
    rw [Lib.validD_step l hne, hN, e, if_pos ⟨rfl, rfl⟩]

/-- valid texts: the empty one, a byte below 128 ahead of one, a character ahead of one -/
theorem valid_ind {P : List UInt8 → Prop} (h0 : P []) (h1 : ∀ b t, b.toNat < 128 → Lib.validD t = true → P t → P (b :: t)) (h2 : ∀ c t, Hi c → Lib.validD t = true → P t → P (c ++ t)) :
    ∀ l, Lib.validD l = true → P l := by
  have h : ∀ (n : Nat) (l : List UInt8), l.length ≤ n → Lib.validD l = true → P l := by
    intro n
    induction n with
    | zero => intro l hl _; obtain rfl := List.eq_nil_of_length_eq_zero (by omega : l.length = 0); exact h0
    | succ n ih =>
      intro l hl hv
      by_cases hne : l = []
      · rw [hne]; exact h0
      rcases first_cases l hne with ⟨b, t, rfl, hb, _⟩ | ⟨c, t, rfl, hc, _, _⟩ | ⟨_, hf⟩
      · rw [Lib.validD_cons b t hb] at hv
        exact h1 b t hb hv (ih t (by simp at hl; omega) hv)
      · rw [hc.valid] at hv
        have := List.length_pos_iff.2 hc.ne
        exact h2 c t hc hv (ih t (by simp at hl; omega) hv)
      · rw [hf] at hv; cases hv
  exact fun l => h l.length l (Nat.le_refl _)

theorem valid_append : ∀ a : List UInt8, Lib.validD a = true → ∀ b, Lib.validD (a ++ b) = Lib.validD b := by
  refine valid_ind (fun b => rfl) (fun c t hc _ ih b => ?_) (fun c t hc _ ih b => ?_)
  · rw [List.cons_append, Lib.validD_cons c _ hc, ih]
  · rw [List.append_assoc, hc.valid, ih]
/-- what stands ahead of a byte below 128 -/
theorem valid_ahead : ∀ l : List UInt8, Lib.validD l = true → ∀ (r : List UInt8) (b : UInt8) (t : List UInt8), b.toNat < 128 → l = r ++ b :: t → Lib.validD r = true := by
  refine valid_ind (fun r b t _ e => ?_) (fun c u hc _ ih r b t hb e => ?_) (fun c u hc _ ih r b t hb e => ?_)
  · simp at e
  · cases r with
    | nil => rfl
    | cons x r =>
      rw [List.cons_append] at e; injection e with e1 e2; subst e1
      rw [Lib.validD_cons _ r hc]; exact ih r b t hb e2
  · rcases List.append_eq_append_iff.1 e with ⟨m, hm, hm2⟩ | ⟨m, hm, hm2⟩
    · rw [hm, hc.valid]
      exact ih m b t hb hm2
    · cases m with
      | nil =>
        rw [List.append_nil] at hm; subst hm
        have := hc.valid []
        rw [List.append_nil] at this; rw [this]; rfl
      | cons y m =>
        rw [List.cons_append] at hm2; injection hm2 with e1 _
        have := hc.high y (by rw [hm]; simp)
        subst e1; omega

theorem lowB_high {b : UInt8} (h : 128 ≤ b.toNat) : lowB b = b := if_neg (by omega)
theorem lowB_lt {b : UInt8} (h : b.toNat < 128) : (lowB b).toNat < 128 := by
  unfold lowB; split
  · rw [UInt8.toNat_add]; show (b.toNat + 32) % 256 < 128; omega
  · exact h
theorem low_hi {c : List UInt8} (h : Hi c) : low c = c := by
  unfold low
  have e : c.map lowB = c.map id := List.map_congr_left fun b hb => lowB_high (h.high b hb)
  rw [e, List.map_id]
theorem low_append (a b : List UInt8) : low (a ++ b) = low a ++ low b := by unfold low; simp
theorem valid_low : ∀ l : List UInt8, Lib.validD l = true → Lib.validD (low l) = true := by
  refine valid_ind rfl (fun b t hb _ ih => ?_) (fun c t hc _ ih => ?_)
  · show Lib.validD (lowB b :: low t) = true
    rw [Lib.validD_cons _ _ (lowB_lt hb)]; exact ih
  · rw [low_append, low_hi hc, hc.valid]; exact ih

theorem sqz_nil (p : Bool) : sqz p [] = [] := by cases p <;> rfl
theorem sqz_step (p : Bool) (b : UInt8) (l : List UInt8) : sqz p (b :: l) = if b = 32 ∧ p = true then sqz true l else b :: sqz (b == 32) l := rfl
theorem sqz_no32 : ∀ (c : List UInt8), c ≠ [] → (∀ b ∈ c, b ≠ 32) → ∀ p t, sqz p (c ++ t) = c ++ sqz false t
  | [], h, _, _, _ => absurd rfl h
  | b :: c, _, hb, p, t => by
    have h1 := hb b (by simp)
    rw [List.cons_append, sqz_step, if_neg (fun e => h1 e.1), show (b == 32) = false from by simpa using h1]
    by_cases hc : c = []
    · subst hc; rfl
    · rw [sqz_no32 c hc (fun x hx => hb x (List.mem_cons_of_mem _ hx))]; rfl
theorem hi_no32 {c : List UInt8} (h : Hi c) : ∀ b ∈ c, b ≠ 32 := fun b hb e => by have := h.high b hb; rw [e] at this; simp at this
theorem valid_sqz : ∀ l : List UInt8, Lib.validD l = true → ∀ p, Lib.validD (sqz p l) = true := by
  refine valid_ind (fun p => by rw [sqz_nil]; rfl) (fun b t hb _ ih p => ?_) (fun c t hc _ ih p => ?_)
  · rw [sqz_step]; split
    · exact ih true
    · rw [Lib.validD_cons _ _ hb]; exact ih _
  · rw [sqz_no32 c hc.ne (hi_no32 hc), hc.valid]; exact ih false

theorem trimB_split (c : UInt8) (l : List UInt8) : ∃ k, l = List.replicate k c ++ Lib.trimLeftB l c ∧ (Lib.trimLeftB l c).head? ≠ some c := by
  induction l with
  | nil => exact ⟨0, rfl, by simp [Lib.trimLeftB]⟩
  | cons b l ih =>
    unfold Lib.trimLeftB at ih ⊢
    rw [List.dropWhile_cons]
    by_cases h : b = c
    · subst h
      rw [if_pos (by simp)]
      obtain ⟨k, h1, h2⟩ := ih
      exact ⟨k + 1, by rw [List.replicate_succ, List.cons_append]; congr 1, h2⟩
    · rw [if_neg (by simpa using h)]
      exact ⟨0, rfl, by simp; exact h⟩
theorem trimR_split (c : UInt8) (l : List UInt8) : ∃ k, l = Lib.trimRightB l c ++ List.replicate k c ∧ (Lib.trimRightB l c).getLast? ≠ some c := by
  obtain ⟨k, h1, h2⟩ := trimB_split c l.reverse
  refine ⟨k, ?_, ?_⟩
  · have := congrArg List.reverse h1
    rw [List.reverse_reverse, List.reverse_append, List.reverse_replicate] at this
    exact this
  · show (Lib.trimLeftB l.reverse c).reverse.getLast? ≠ _
    rw [List.getLast?_reverse]; exact h2
theorem valid_repl (k : Nat) (t : List UInt8) : Lib.validD (List.replicate k 32 ++ t) = Lib.validD t := by
  induction k with
  | zero => rfl
  | succ k ih => rw [List.replicate_succ, List.cons_append, Lib.validD_cons _ _ (by decide), ih]
theorem valid_trimR (l : List UInt8) (h : Lib.validD l = true) : Lib.validD (Lib.trimRightB l 32) = true := by
  obtain ⟨k, h1, _⟩ := trimR_split 32 l
  cases k with
  | zero => rw [List.replicate_zero, List.append_nil] at h1; rw [← h1]; exact h
  | succ k => exact valid_ahead l h _ 32 (List.replicate k 32) (by decide) h1
theorem valid_trimL (l : List UInt8) (h : Lib.validD l = true) : Lib.validD (Lib.trimLeftB l 32) = true := by
  obtain ⟨k, h1, _⟩ := trimB_split 32 l
  rw [h1, valid_repl] at h; exact h
theorem valid_trim (l : List UInt8) (h : Lib.validD l = true) : Lib.validD (Lib.trimB l 32) = true := valid_trimL _ (valid_trimR _ h)
end Go.Proofs.YtifgmnafjihlkaaGreatDoor
