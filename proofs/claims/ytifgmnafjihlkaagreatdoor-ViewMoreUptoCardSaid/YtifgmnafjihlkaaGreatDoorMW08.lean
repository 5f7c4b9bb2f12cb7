/- Part 8 of the walks and plain laws, joined: OpenSch, NameV, NamM, Vec, Word, SchMap. -/
import Derived.Test.YtifgmnafjihlkaaGreatDoorMW07
import Derived.Test.YtifgmnafjihlkaaGreatDoorMW06
import Derived.Test.YtifgmnafjihlkaaGreatDoorMW00
import Derived.Test.YtifgmnafjihlkaaGreatDoorMW01
import Derived.Test.YtifgmnafjihlkaaGreatDoorProg
import Derived.Lib.ValidLaws
import Derived.Below
import Derived.Maps.OwnSet
import Derived.Maps.OwnOps
import Derived.Maps.Views
import Derived.WalkArith
import Derived.WalkKit
/- A row's argument of type api.Schema, opened: types and classes of bounded bulk. No walk. -/
namespace Go.Proofs.YtifgmnafjihlkaaGreatDoor
open Go Go.RowKit Go.ChangeShapes Go.WideShapes Go.Deep

structure SmallT (N : Nat) (x : PType) : Prop where
  oid : x.oid.size ≤ N
  sup : x.sup.size ≤ N
  names : x.names.length ≤ N ∧ ∀ s ∈ x.names, s.size ≤ N
structure SmallC (N : Nat) (x : PClass) : Prop where
  oid : x.oid.size ≤ N
  names : x.names.length ≤ N ∧ ∀ s ∈ x.names, s.size ≤ N
  sups : x.sups.length ≤ N ∧ ∀ s ∈ x.sups, s.size ≤ N
  must : x.must.length ≤ N ∧ ∀ s ∈ x.must, s.size ≤ N
  may : x.may.length ≤ N ∧ ∀ s ∈ x.may, s.size ≤ N
structure SmallS (N : Nat) (S : PSchema) : Prop where
  types : S.types.length ≤ N ∧ ∀ x ∈ S.types, SmallT N x
  classes : S.classes.length ≤ N ∧ ∀ x ∈ S.classes, SmallC N x

theorem i8_rng {a : Int} (h : (Lit.int .i8 a).wf = true) : -128 ≤ a ∧ a ≤ 127 := by
  have h1 : IntKind.i8.min = -128 := by decide
  have h2 : IntKind.i8.max = 127 := by decide
  simp [Lit.wf, h1, h2] at h
  omega
theorem u8_rng {a : Int} (h : (Lit.int .u8 a).wf = true) : 0 ≤ a ∧ a ≤ 255 := by
  have h1 : IntKind.u8.min = 0 := by decide
  have h2 : IntKind.u8.max = 255 := by decide
  simp [Lit.wf, h1, h2] at h
  omega

section
variable {H : Type} {enc : TypeId × Value → H} {w : World} {base : Nat} {held : Bool}

theorem open_type {m N : Nat} {cs : List Value} {x : DataW H × List MemPlace} (h : DataW.trod enc Tryz.prog w base (fun _ => true) held m 48 cs = some x) (hb : bulk x.1 ≤ N) (hN : N ≤ 4294967280) {b o : Nat} (hc : ∀ j, j < 9 → w.cell? ⟨b, o + j, none⟩ = cs[j]?) :
    ∃ t : PType, TypeAt w.heap.size w b o t ∧ TypeOk t ∧ SmallT N t := by
  obtain ⟨hl, hf⟩ := open_field Tryz.underlying48 (by kernel_rfl) (by kernel_rfl) h
  obtain ⟨v0, k0, y0, e0, f0, b0⟩ := hf 0 _ rfl
  obtain ⟨v1, k1, y1, e1, f1, b1⟩ := hf 1 _ rfl
  obtain ⟨v2, k2, y2, e2, f2, b2⟩ := hf 2 _ rfl
  obtain ⟨v3, k3, y3, e3, f3, b3⟩ := hf 3 _ rfl
  obtain ⟨v4, k4, y4, e4, f4, b4⟩ := hf 4 _ rfl
  obtain ⟨v5, k5, y5, e5, f5, b5⟩ := hf 5 _ rfl
  obtain ⟨v6, k6, y6, e6, f6, b6⟩ := hf 6 _ rfl
  obtain ⟨v7, k7, y7, e7, f7, b7⟩ := hf 7 _ rfl
  obtain ⟨v8, k8, y8, e8, f8, b8⟩ := hf 8 _ rfl
  obtain ⟨oid, rfl, s0⟩ := open_str Tryz.underlying9 f0
  obtain ⟨a, n, c, l, rfl, t1, l1, s1⟩ := open_texts Tryz.underlying46 Tryz.underlying9 (by kernel_rfl) f1 (Nat.le_trans b1 hb) hN
  obtain ⟨sup, rfl, s2⟩ := open_str Tryz.underlying9 f2
  obtain ⟨syn, rfl, s3⟩ := open_i Tryz.underlying22 f3
  obtain ⟨eq, rfl, s4⟩ := open_i Tryz.underlying22 f4
  obtain ⟨ord, rfl, s5⟩ := open_i Tryz.underlying22 f5
  obtain ⟨part, rfl, s6⟩ := open_i Tryz.underlying22 f6
  obtain ⟨single, rfl⟩ := open_b Tryz.underlying4 f7
  obtain ⟨index, rfl, s8⟩ := open_i Tryz.underlying5 f8
  have hln := t1.len
  refine ⟨⟨oid, l, sup, syn, eq, ord, part, single, index⟩, ⟨(hc 0 (by omega)).trans e0, ⟨a, n, c, (hc 1 (by omega)).trans e1, t1⟩, (hc 2 (by omega)).trans e2, (hc 3 (by omega)).trans e3, (hc 4 (by omega)).trans e4, (hc 5 (by omega)).trans e5, (hc 6 (by omega)).trans e6, (hc 7 (by omega)).trans e7, (hc 8 (by omega)).trans e8⟩,
    ⟨by simp only; omega, by simp only; omega, i8_rng s3, i8_rng s4, i8_rng s5, i8_rng s6, u8_rng s8⟩, ⟨by simp only; omega, by simp only; omega, by simp only; omega, s1⟩⟩

theorem open_class {m N : Nat} {cs : List Value} {x : DataW H × List MemPlace} (h : DataW.trod enc Tryz.prog w base (fun _ => true) held m 108 cs = some x) (hb : bulk x.1 ≤ N) (hN : N ≤ 4294967280) {b o : Nat} (hc : ∀ j, j < 6 → w.cell? ⟨b, o + j, none⟩ = cs[j]?) :
    ∃ t : PClass, ClassAt w.heap.size w b o t ∧ ClassOk t ∧ SmallC N t := by
  obtain ⟨hl, hf⟩ := open_field Tryz.underlying108 (by kernel_rfl) (by kernel_rfl) h
  obtain ⟨v0, k0, y0, e0, f0, b0⟩ := hf 0 _ rfl
  obtain ⟨v1, k1, y1, e1, f1, b1⟩ := hf 1 _ rfl
  obtain ⟨v2, k2, y2, e2, f2, b2⟩ := hf 2 _ rfl
  obtain ⟨v3, k3, y3, e3, f3, b3⟩ := hf 3 _ rfl
  obtain ⟨v4, k4, y4, e4, f4, b4⟩ := hf 4 _ rfl
  obtain ⟨v5, k5, y5, e5, f5, b5⟩ := hf 5 _ rfl
  obtain ⟨oid, rfl, s0⟩ := open_str Tryz.underlying9 f0
  obtain ⟨a1, n1, c1, l1, rfl, t1, m1, s1⟩ := open_texts Tryz.underlying46 Tryz.underlying9 (by kernel_rfl) f1 (Nat.le_trans b1 hb) hN
  obtain ⟨a2, n2, c2, l2, rfl, t2, m2, s2⟩ := open_texts Tryz.underlying46 Tryz.underlying9 (by kernel_rfl) f2 (Nat.le_trans b2 hb) hN
  obtain ⟨kind, rfl, s3⟩ := open_i Tryz.underlying22 f3
  obtain ⟨a4, n4, c4, l4, rfl, t4, m4, s4⟩ := open_texts Tryz.underlying46 Tryz.underlying9 (by kernel_rfl) f4 (Nat.le_trans b4 hb) hN
  obtain ⟨a5, n5, c5, l5, rfl, t5, m5, s5⟩ := open_texts Tryz.underlying46 Tryz.underlying9 (by kernel_rfl) f5 (Nat.le_trans b5 hb) hN
  have h1 := t1.len
  have h2 := t2.len
  have h4 := t4.len
  have h5 := t5.len
  refine ⟨⟨oid, l1, l2, kind, l4, l5⟩, ⟨(hc 0 (by omega)).trans e0, ⟨a1, n1, c1, (hc 1 (by omega)).trans e1, t1⟩, ⟨a2, n2, c2, (hc 2 (by omega)).trans e2, t2⟩, (hc 3 (by omega)).trans e3, ⟨a4, n4, c4, (hc 4 (by omega)).trans e4, t4⟩, ⟨a5, n5, c5, (hc 5 (by omega)).trans e5, t5⟩⟩,
    ⟨by simp only; omega, i8_rng s3⟩, ⟨by simp only; omega, ⟨by simp only; omega, s1⟩, ⟨by simp only; omega, s2⟩, ⟨by simp only; omega, s4⟩, ⟨by simp only; omega, s5⟩⟩⟩

theorem cT9 : Tryz.prog.cellsOf 48 = 9 := by kernel_rfl
theorem cC6 : Tryz.prog.cellsOf 108 = 6 := by kernel_rfl
theorem slice_at {P : Program} {t e : TypeId} {r : Reach} {b : Nat} {ad : Addr} {n c : Nat} (ht : P.underlying t = some (.slice e)) (h : Cell.okWide P w r b t (.slice (some ad) n c)) : ad.spot = none ∧ ad.block < w.heap.size := by
  unfold Cell.okWide Cell.ok at h
  rw [ht] at h
  obtain ⟨_, _, _, hs, row, cells, hsh, _⟩ := h
  refine ⟨hs, ?_⟩
  unfold World.shape? at hsh
  split at hsh
  · rename_i h2; exact (Array.getElem?_eq_some_iff.1 h2).1
  · cases hsh
theorem open_types {m N : Nat} {v : Value} {x : DataW H × List MemPlace} (h : DataW.trod enc Tryz.prog w base (fun _ => true) held m 35 [v] = some x) (hb : bulk x.1 ≤ N) (hN : N ≤ 4294967280) (hat : ∀ ad n c, v = .slice (some ad) n c → ad.spot = none ∧ ad.block < w.heap.size) :
    ∃ a n c l, v = .slice a n c ∧ Types w.heap.size w a n c l ∧ l.length ≤ N ∧ ∀ t ∈ l, SmallT N t := by
  obtain ⟨a, n, c, rfl, hl, hn, hi⟩ := open_sl Tryz.underlying35 (by rw [cT9]; omega) h hb
  rw [cT9] at hi
  have hL : Lies w.heap.size a n c := ⟨hl.le, hl.cap, hl.nil, fun ad e => (hat ad n c (by rw [e])).2, hl.spot⟩
  have htop : ∀ ad, a = some ad → ad.spot = none := fun ad e => (hat ad n c (by rw [e])).1
  by_cases h0 : n = 0
  · subst h0
    exact ⟨a, 0, c, [], rfl, ⟨rfl, hL, (fun b o _ i s hs => by simp at hs), (fun s h => by cases h), htop⟩, Nat.zero_le _, fun s h => by cases h⟩
  · obtain ⟨b, o, rfl, hbl⟩ := hl.ptr (by omega)
    obtain ⟨l, hln, hll⟩ := list_of (n := n) (p := fun i (t : PType) => TypeAt w.heap.size w b (o + i * 9) t ∧ TypeOk t ∧ SmallT N t) fun i hil => by
      obtain ⟨cs, k, y, h1, h2, h3, h4⟩ := hi b o rfl i hil
      exact open_type h3 h4 hN h2
    have hsz : ∀ t ∈ l, TypeOk t ∧ SmallT N t := fun s hs => by
      obtain ⟨i, hi2, rfl⟩ := List.getElem_of_mem hs
      exact (hll i _ (List.getElem?_eq_getElem hi2)).2
    exact ⟨_, n, c, l, rfl, ⟨hln.symm, hL, fun b2 o2 e2 i s hs => by cases e2; exact (hll i s hs).1, fun t ht => (hsz t ht).1, htop⟩, by omega, fun t ht => (hsz t ht).2⟩
theorem open_classes {m N : Nat} {v : Value} {x : DataW H × List MemPlace} (h : DataW.trod enc Tryz.prog w base (fun _ => true) held m 36 [v] = some x) (hb : bulk x.1 ≤ N) (hN : N ≤ 4294967280) (hat : ∀ ad n c, v = .slice (some ad) n c → ad.spot = none ∧ ad.block < w.heap.size) :
    ∃ a n c l, v = .slice a n c ∧ Classes w.heap.size w a n c l ∧ l.length ≤ N ∧ ∀ t ∈ l, SmallC N t := by
  obtain ⟨a, n, c, rfl, hl, hn, hi⟩ := open_sl Tryz.underlying36 (by rw [cC6]; omega) h hb
  rw [cC6] at hi
  have hL : Lies w.heap.size a n c := ⟨hl.le, hl.cap, hl.nil, fun ad e => (hat ad n c (by rw [e])).2, hl.spot⟩
  have htop : ∀ ad, a = some ad → ad.spot = none := fun ad e => (hat ad n c (by rw [e])).1
  by_cases h0 : n = 0
  · subst h0
    exact ⟨a, 0, c, [], rfl, ⟨rfl, hL, (fun b o _ i s hs => by simp at hs), (fun s h => by cases h), htop⟩, Nat.zero_le _, fun s h => by cases h⟩
  · obtain ⟨b, o, rfl, hbl⟩ := hl.ptr (by omega)
    obtain ⟨l, hln, hll⟩ := list_of (n := n) (p := fun i (t : PClass) => ClassAt w.heap.size w b (o + i * 6) t ∧ ClassOk t ∧ SmallC N t) fun i hil => by
      obtain ⟨cs, k, y, h1, h2, h3, h4⟩ := hi b o rfl i hil
      exact open_class h3 h4 hN h2
    have hsz : ∀ t ∈ l, ClassOk t ∧ SmallC N t := fun s hs => by
      obtain ⟨i, hi2, rfl⟩ := List.getElem_of_mem hs
      exact (hll i _ (List.getElem?_eq_getElem hi2)).2
    exact ⟨_, n, c, l, rfl, ⟨hln.symm, hL, fun b2 o2 e2 i s hs => by cases e2; exact (hll i s hs).1, fun t ht => (hsz t ht).1, htop⟩, by omega, fun t ht => (hsz t ht).2⟩

theorem schema_cells : Tryz.prog.cellTypes Tryz.prog.depth 38 = some [35, 36] := by kernel_rfl
set_option maxRecDepth 100000 in
theorem open_schema {r : Reach} {b0 N : Nat} {v : Value} {d : DataW H} {ps : List MemPlace} (hval : Value.okWide Tryz.prog w r b0 38 v) (hd : DataW.Trod enc Tryz.prog w base (fun _ => true) held 38 v d ps) (hb : bulk d ≤ N) (hN : N ≤ 4294967280) :
    ∃ (S : PSchema) (a : Option Addr) (n c : Nat) (a2 : Option Addr) (n2 c2 : Nat), v = .agg #[.slice a n c, .slice a2 n2 c2] ∧ Types w.heap.size w a n c S.types ∧ Classes w.heap.size w a2 n2 c2 S.classes ∧ SmallS N S := by
  have hval2 := hval
  unfold Value.okWide at hval2
  rw [Tryz.underlying38] at hval2
  obtain ⟨cs, rfl, _, ts, hts, _, hcell⟩ := hval2
  rw [schema_cells] at hts
  obtain rfl := Option.some.inj hts
  obtain ⟨fuel, hf⟩ := hd
  obtain ⟨hl, hff⟩ := open_field Tryz.underlying38 (by kernel_rfl) (by kernel_rfl) hf
  obtain ⟨v0, k0, y0, e0, f0, b0⟩ := hff 0 _ rfl
  obtain ⟨v1, k1, y1, e1, f1, b1⟩ := hff 1 _ rfl
  have g0 : cs[0]? = some v0 := by simpa [Value.cells] using e0
  have g1 : cs[1]? = some v1 := by simpa [Value.cells] using e1
  obtain ⟨u0, hu0, ho0⟩ := hcell 0 v0 g0
  obtain ⟨u1, hu1, ho1⟩ := hcell 1 v1 g1
  obtain rfl : u0 = 35 := by simpa using hu0.symm
  obtain rfl : u1 = 36 := by simpa using hu1.symm
  obtain ⟨a, n, c, l, rfl, t1, m1, s1⟩ := open_types f0 (Nat.le_trans b0 hb) hN fun ad n c e => slice_at Tryz.underlying35 (by rw [← e]; exact ho0)
  obtain ⟨a2, n2, c2, l2, rfl, t2, m2, s2⟩ := open_classes f1 (Nat.le_trans b1 hb) hN fun ad n c e => slice_at Tryz.underlying36 (by rw [← e]; exact ho1)
  refine ⟨⟨l, l2⟩, a, n, c, a2, n2, c2, ?_, t1, t2, ⟨⟨m1, s1⟩, ⟨m2, s2⟩⟩⟩
  congr 1
  have hl2 : cs.size = 2 := by simpa [Value.cells] using hl
  apply Array.ext
  · rw [hl2]; rfl
  · intro i h1 h2
    rw [hl2] at h1
    match i, h1 with
    | 0, _ => have := (Array.getElem?_eq_some_iff.1 g0).2; simpa using this
    | 1, _ => have := (Array.getElem?_eq_some_iff.1 g1).2; simpa using this
end
end Go.Proofs.YtifgmnafjihlkaaGreatDoor
/- Names plainly: reading a text, writing a name. No program. -/
namespace Go.Proofs.YtifgmnafjihlkaaGreatDoor
open Go

abbrev PAva := ByteArray × ByteArray
abbrev PRdn := List PAva
abbrev PName := List PRdn
/-- a fault: its code, its place, the word there -/
abbrev PFault := Int × Nat × Str

/-! ### reading -/
/-- what a run of numbers between dots takes; off: how much of it lies behind; one: is it the first? -/
def oidN : Nat → Str → Nat → Bool → Nat × Bool
  | 0, _, off, _ => (off, false)
  | f + 1, l, off, one =>
    let d := if l.head? = some 48 then 1 else (l.takeWhile dig).length
    if d = 0 then (off, false)
    else if l[d]? = some 46 then oidN f (l.drop (d + 1)) (off + d + 1) false
    else if one then (off + d, false)
    else (off + d, l[d]? == some 61)
/-- a type's word: how long it is, or where it gets stuck -/
def kindN (l : Str) : Nat × Bool := match l with
  | [] => (0, false)
  | c :: _ => if isLet c then ((l.takeWhile tailC).length, l[(l.takeWhile tailC).length]? == some 61) else oidN (l.length + 1) l 0 true
def hexd (c : UInt8) : Bool := dig c || decide (97 ≤ c.toNat ∧ c.toNat ≤ 102) || decide (65 ≤ c.toNat ∧ c.toNat ≤ 70)
def hexv (c : UInt8) : Nat := if c.toNat ≤ 57 then c.toNat - 48 else if c.toNat ≤ 70 then c.toNat - 55 else c.toNat - 87
def escs : Str := [34, 43, 44, 59, 60, 62, 61, 35, 32, 92]
def bads : Str := [0, 34, 59, 60, 62]
/-- a value: what it means, where it ends, what is wrong with it; st: where it began; bare: where a bare blank stood last -/
def valR (st : Nat) : Str → Nat → Str → Option Nat → Str × Nat × Option (Int × Nat)
  | [], off, b, bare => (b, off, bare.map fun p => (50, p))
  | c :: l, off, b, bare =>
    if c = 44 ∨ c = 43 then (b, off, bare.map fun p => (50, p))
    else if c = 92 then match l with
      | [] => ([], off, some (11, off))
      | x :: l2 => if escs.contains x then valR st l2 (off + 2) (b ++ [x]) none else match l2 with
        | [] => ([], off, some (11, off))
        | y :: l3 => if hexd x && hexd y then valR st l3 (off + 3) (b ++ [UInt8.ofNat (hexv x * 16 + hexv y)]) none else ([], off, some (11, off))
    else if bads.contains c ∨ (off = st ∧ (c = 32 ∨ c = 35)) then ([], off, some (50, off))
    else valR st l (off + 1) (b ++ [c]) (if c = 32 then some off else none)
def faultAt (s : Str) (code : Int) (p : Nat) : PFault := (code, p, (s.drop p).take 1)
def stuckAt (s : Str) (p : Nat) : PFault := faultAt s (if p < s.length then 50 else 5) p
def baOf (l : Str) : ByteArray := ⟨l.toArray⟩
def parseR (s : Str) : Nat → Nat → PName → PRdn → Except PFault PName
  | 0, _, _, _ => .error (0, 0, [])
  | f + 1, p, done, part =>
    let k := kindN (s.drop p)
    if k.2 = false then .error (stuckAt s (p + k.1))
    else
      let v := valR (p + k.1 + 1) (s.drop (p + k.1 + 1)) (p + k.1 + 1) [] none
      match v.2.2 with
      | some (c, q) => .error (faultAt s c q)
      | none =>
        let part2 := part ++ [(baOf ((s.drop p).take k.1), baOf v.1)]
        if s.length ≤ v.2.1 then .ok (done ++ [part2])
        else if s[v.2.1]? = some 44 then
          if 64 ≤ done.length + 1 then .error (faultAt s 3 v.2.1) else parseR s f (v.2.1 + 1) (done ++ [part2]) []
        else if 64 ≤ done.length ∨ 8 ≤ part2.length then .error (faultAt s 3 v.2.1) else parseR s f (v.2.1 + 1) done part2
def parseV (s : Str) : Except PFault PName :=
  if 65536 < s.length then .error (3, 0, []) else if s = [] then .ok [] else parseR s (s.length + 1) 0 [] []

/-! ### writing -/
def wordOk (s : Str) : Bool := (keyL 8 s).2
def typedV (s : Str) : Bool := if s.length ≤ 65536 then wordOk s else kindN (s ++ [61]) == (s.length, true)
def hexC (n : Nat) : UInt8 := if n < 10 then UInt8.ofNat (48 + n) else UInt8.ofNat (87 + n)
def hexB (c : UInt8) : Str := [92, hexC (c.toNat / 16), hexC (c.toNat % 16)]
/-- how many bytes the letter at the head takes; 0: there is none -/
def chN (l : Str) : Nat := (([1, 2, 3, 4].find? fun n => decide (n ≤ l.length) && Lib.validD (l.take n))).getD 0
/-- what is written of a value: fst: nothing stands ahead; k: so many bytes more of a letter -/
def showK : Bool → Str → Nat → Str
  | _, [], _ => []
  | _, c :: l, k + 1 => c :: showK false l k
  | fst, c :: l, 0 =>
    if chN (c :: l) = 0 then hexB c ++ showK false l 0
    else if c.toNat < 32 ∨ c = 127 then hexB c ++ showK false l (chN (c :: l) - 1)
    else if [34, 43, 44, 59, 60, 62, 92].contains c ∨ (c = 32 ∧ (fst = true ∨ l = [])) ∨ (c = 35 ∧ fst = true) then [92, c] ++ showK false l (chN (c :: l) - 1)
    else c :: showK false l (chN (c :: l) - 1)
def showV (v : Str) : Str := showK true v 0
def avaP (a : PAva) : Str := toL a.1 ++ 61 :: showV (toL a.2)
def joinP (c : UInt8) : List Str → Str
  | [] => []
  | [x] => x
  | x :: y :: l => x ++ c :: joinP c (y :: l)
def rdnP (r : PRdn) : Str := joinP 43 (r.map avaP)
def nameP (n : PName) : Str := joinP 44 (n.map rdnP)
def printV (n : PName) : Str × Int :=
  if 64 < n.length ∨ n.any (fun r => decide (8 < r.length)) then ([], 3)
  else if n.any (fun r => r.isEmpty || r.any fun a => !typedV (toL a.1)) then ([], 60)
  else if n.any (fun r => r.any fun a => decide (65536 < a.1.size) || decide (65536 < a.2.size)) ∨ 65536 < (nameP n).length then ([], 3)
  else (nameP n, 0)
end Go.Proofs.YtifgmnafjihlkaaGreatDoor
/- How names lie in memory: pairs, parts. No walk. -/
namespace Go.Proofs.YtifgmnafjihlkaaGreatDoor
open Go Go.RowKit

/-- a slice reads as pairs -/
structure Avas (B : Nat) (w : World) (a : Option Addr) (n c : Nat) (l : PRdn) : Prop where
  len : n = l.length
  lies : LiesW B a n c
  small : n ≤ 4294967280
  cell : ∀ b o, a = some ⟨b, o, none⟩ → ∀ i x, l[i]? = some x → w.cell? ⟨b, o + i * 2, none⟩ = some (.string x.1) ∧ w.cell? ⟨b, o + i * 2 + 1, none⟩ = some (.string x.2)
  size : ∀ x ∈ l, x.1.size ≤ 4294967280 ∧ x.2.size ≤ 4294967280
theorem Avas.keep {B B' : Nat} {w w' : World} {a : Option Addr} {n c : Nat} {l : PRdn} (h : Avas B w a n c l) (k : Below B w w') (hb : B ≤ B') : Avas B' w' a n c l :=
  ⟨h.len, h.lies.mono hb, h.small, fun b o e i x hx => by
    have hlt : b < B := h.lies.lt ⟨b, o, none⟩ e (by have h1 := h.len; have h2 := (List.getElem?_eq_some_iff.1 hx).1; omega)
    rw [k.cell (p := ⟨b, o + i * 2, none⟩) hlt, k.cell (p := ⟨b, o + i * 2 + 1, none⟩) hlt]
    exact h.cell b o e i x hx, h.size⟩
theorem Avas.nil (B : Nat) (w : World) : Avas B w none 0 0 [] := ⟨rfl, ⟨Nat.le_refl _, Nat.zero_le _, fun _ => rfl, (fun ad h _ => by cases h), (fun ad h _ => by cases h)⟩, Nat.zero_le _, (fun b o h => by cases h), (fun s h => by cases h)⟩
/-- a slice reads as parts -/
structure Rdns (B : Nat) (w : World) (a : Option Addr) (n c : Nat) (l : PName) : Prop where
  len : n = l.length
  lies : LiesW B a n c
  small : n ≤ 4294967280
  cell : ∀ b o, a = some ⟨b, o, none⟩ → ∀ i r, l[i]? = some r → ∃ a' n' c', w.cell? ⟨b, o + i, none⟩ = some (.slice a' n' c') ∧ Avas B w a' n' c' r
theorem Rdns.keep {B B' : Nat} {w w' : World} {a : Option Addr} {n c : Nat} {l : PName} (h : Rdns B w a n c l) (k : Below B w w') (hb : B ≤ B') : Rdns B' w' a n c l :=
  ⟨h.len, h.lies.mono hb, h.small, fun b o e i r hr => by
    have hlt : b < B := h.lies.lt ⟨b, o, none⟩ e (by have h1 := h.len; have h2 := (List.getElem?_eq_some_iff.1 hr).1; omega)
    obtain ⟨a', n', c', h1, h2⟩ := h.cell b o e i r hr
    exact ⟨a', n', c', by rw [k.cell (p := ⟨b, o + i, none⟩) hlt]; exact h1, h2.keep k hb⟩⟩
theorem Rdns.nil (B : Nat) (w : World) : Rdns B w none 0 0 [] := ⟨rfl, ⟨Nat.le_refl _, Nat.zero_le _, fun _ => rfl, (fun ad h _ => by cases h), (fun ad h _ => by cases h)⟩, Nat.zero_le _, (fun b o h => by cases h)⟩
end Go.Proofs.YtifgmnafjihlkaaGreatDoor
/- A list that the call itself makes, grown by append: whatever the elements. Helpers alone. -/
namespace Go.Proofs.YtifgmnafjihlkaaGreatDoor
open Go Go.RowKit

/-- what is asked of a slice type T of elements e -/
structure EI (P : Program) (T e : TypeId) (z : Value) (sz bytes : Nat) : Prop where
  und : P.underlying T = some (.slice e)
  info : ∃ i, P.info? e = some i ∧ i.zero = some z ∧ i.size = sz ∧ i.bytes = bytes
  zs : z.cells.size = sz
  sz0 : 0 < sz
  b0 : 0 < bytes
theorem EI.of {P : Program} {T e : TypeId} {z : Value} {sz bytes : Nat} (hu : P.underlying T = some (.slice e)) (h : (P.info? e).map (fun i => (i.zero, i.size, i.bytes)) = some (some z, sz, bytes)) (hz : z.cells.size = sz) (h0 : 0 < sz) (h1 : 0 < bytes) : EI P T e z sz bytes := by
  refine ⟨hu, ?_, hz, h0, h1⟩
  cases hi : P.info? e with
  | none => rw [hi] at h; cases h
  | some i =>
    rw [hi] at h
    simp only [Option.map_some, Option.some.injEq, Prod.mk.injEq] at h
    exact ⟨i, rfl, h.1, h.2.1, h.2.2⟩

/-- the cells vs in a row of its own, made since w0 -/
structure Vec (e sz : Nat) (w0 w : World) (go : Option Nat) (n cap : Nat) (vs : List Value) : Prop where
  own : Own w e sz go n cap vs
  fresh : ∀ g, go = some g → w0.heap.size ≤ g
  below : Below w0.heap.size w0 w

variable {P : Program} {T e : TypeId} {z : Value} {sz bytes : Nat} {w0 w : World} {go : Option Nat} {n cap : Nat} {vs : List Value}

theorem Vec.nil (e sz : Nat) (w0 : World) {w : World} (h : Below w0.heap.size w0 w) : Vec e sz w0 w none 0 0 [] := ⟨Own.nil w e sz, (fun g h => by cases h), h⟩
theorem Vec.lt {g : Nat} (h : Vec e sz w0 w (some g) n cap vs) : g < w.heap.size := h.own.row.lt
theorem Vec.size (h : Vec e sz w0 w go n cap vs) : w0.heap.size ≤ w.heap.size := h.below.size
theorem Vec.next {w' : World} (h : Vec e sz w0 w go n cap vs) (k : Below w.heap.size w w') : Vec e sz w0 w' go n cap vs :=
  ⟨h.own.keep fun g hg => by subst hg; exact k.block g h.own.row.lt, h.fresh, h.below.trans (k.mono h.size)⟩
theorem Vec.alloc (h : Vec e sz w0 w go n cap vs) (o : Obj) : Vec e sz w0 (w.alloc o) go n cap vs := h.next ((Below.refl _ w).alloc (Nat.le_refl _) o)
theorem Vec.chg {S : Nat → Prop} {w' : World} (h : Vec e sz w0 w go n cap vs) (k : Chg S w w') (hS : ∀ g, S g → w0.heap.size ≤ g) (hn : ∀ g, go = some g → ¬ S g) : Vec e sz w0 w' go n cap vs :=
  ⟨h.own.keep fun g hg => by subst hg; exact k.block g h.own.row.lt (hn g rfl), h.fresh, h.below.trans (k.below h.size fun b hb hs => by have := hS b hs; omega)⟩
theorem Vec.cell {g : Nat} (h : Vec e sz w0 w (some g) n cap vs) {j : Nat} {v : Value} (hj : vs[j]? = some v) : w.cell? ⟨g, j, none⟩ = some v := h.own.row.cell hj
theorem Vec.ptr (h : Vec e sz w0 w go n cap vs) (hn : 0 < n) : ∃ g, go = some g := by
  cases go with
  | none => have := h.own.2.1; omega
  | some g => exact ⟨g, rfl⟩

theorem Vec.from {wa : World} (h : Vec e sz w0 w go n cap vs) (k : Below wa.heap.size wa w0) : Vec e sz wa w go n cap vs := ⟨h.own, fun g hg => Nat.le_trans k.size (h.fresh g hg), k.trans (h.below.mono k.size)⟩

/-- '[]T{x, y, ..}' -/
theorem Vec.made (w0 : World) {w : World} (h : Below w0.heap.size w0 w) (e sz m : Nat) (xs : Array Value) (hx : xs.size = m * sz) (hm : m ≤ maxLen) : Vec e sz w0 (w.alloc (.cells xs e)) (some w.heap.size) m m xs.toList :=
  ⟨Own.mk (Row.made hx hm) (by simpa using hx) (Nat.le_refl _), fun g hg => by cases hg; exact h.size, h.alloc h.size _⟩

/-- append, whatever the source; L: the new length -/
theorem Vec.app (h : Vec e sz w0 w go n cap vs) (I : EI P T e z sz bytes) {ops : Array Oper} {rest : List Oper} {o : Oper} {a : Act} {Q : Exit → Act → World → Prop} (hgd : o.guard = none) (s x : Operand)
    (ho : o.op = .call { callee := .builtin .append, args := #[s, x], argTypes := #[T, T] })
    (hs : a.eval s = sv go n cap) (sa : Option Addr) (m c : Nat) (news : List Value) (hx : a.eval x = .slice sa m c) (hsn : sa = none → m = 0 ∧ c = 0) (hl : news.length = m * sz)
    (hnews : ∀ ad, sa = some ad → ∀ j u, news[j]? = some u → w.cell? (ad.add j) = some u) (h1 : ∀ u ∈ news, u.oneCell' = true)
    (L : Nat) (hL : n + m = L) (hb : L * bytes ≤ 140737488355328)
    (hk : ∀ go' cap' w', Vec e sz w0 w' go' L cap' (vs ++ news) → w.grownBy w' go → wpList P ops Q rest (a.put o.dst (sv go' L cap')) w') : wpList P ops Q (o :: rest) a w := by
  subst hL
  obtain ⟨i, h2, h3, h4, h5⟩ := I.info
  refine wpList_app0 hgd s x T ho e i z sz bytes I.und h2 h3 h4 h5 I.zs I.sz0 I.b0 go n cap vs hs h.own sa m c news hx hsn hl hnews h1 hb fun go' cap' w' hO hG hat => hk go' cap' w' ⟨hO, fun k hkk => ?_, h.below.grown hG h.size fun k hk => h.fresh k hk⟩ hG
  rcases hat with e2 | e2
  · rw [e2] at hkk; exact h.fresh _ hkk
  · rw [e2] at hkk; cases hkk; exact h.size

/-- .. what comes back is not empty -/
theorem Vec.app1 (h : Vec e sz w0 w go n cap vs) (I : EI P T e z sz bytes) {ops : Array Oper} {rest : List Oper} {o : Oper} {a : Act} {Q : Exit → Act → World → Prop} (hgd : o.guard = none) (s x : Operand)
    (ho : o.op = .call { callee := .builtin .append, args := #[s, x], argTypes := #[T, T] })
    (hs : a.eval s = sv go n cap) (sa : Option Addr) (m c : Nat) (news : List Value) (hx : a.eval x = .slice sa m c) (hsn : sa = none → m = 0 ∧ c = 0) (hl : news.length = m * sz)
    (hnews : ∀ ad, sa = some ad → ∀ j u, news[j]? = some u → w.cell? (ad.add j) = some u) (h1 : ∀ u ∈ news, u.oneCell' = true)
    (L : Nat) (hL : n + m = L) (hb : L * bytes ≤ 140737488355328) (hpos : 0 < L)
    (hk : ∀ g cap' w', Vec e sz w0 w' (some g) L cap' (vs ++ news) → w.grownBy w' go → wpList P ops Q rest (a.put o.dst (.slice (some ⟨g, 0, none⟩) L cap')) w') : wpList P ops Q (o :: rest) a w :=
  h.app I hgd s x ho hs sa m c news hx hsn hl hnews h1 L hL hb fun go' cap' w' hV hG => by
    obtain ⟨g, rfl⟩ := hV.ptr hpos
    exact hk g cap' w' hV hG

/-- append of some elements that were just laid in a block; what comes back is not empty -/
theorem Vec.push (h : Vec e sz w0 w go n cap vs) (I : EI P T e z sz bytes) {ops : Array Oper} {rest : List Oper} {o : Oper} {a : Act} {Q : Exit → Act → World → Prop} (hgd : o.guard = none) (s x : Operand)
    (ho : o.op = .call { callee := .builtin .append, args := #[s, x], argTypes := #[T, T] })
    (hs : a.eval s = sv go n cap) (m : Nat) (news : List Value) (cs : Array Value) (hcs : cs.toList = news) (hx : a.eval x = .slice (some ⟨w.heap.size, 0, none⟩) m m) (hl : news.length = m * sz) (h1 : ∀ u ∈ news, u.oneCell' = true) (hm : 0 < m)
    (L : Nat) (hL : n + m = L) (hb : L * bytes ≤ 140737488355328)
    (hk : ∀ g cap' w', Vec e sz w0 w' (some g) L cap' (vs ++ news) → (w.alloc (.cells cs e)).grownBy w' go → wpList P ops Q rest (a.put o.dst (.slice (some ⟨g, 0, none⟩) L cap')) w') : wpList P ops Q (o :: rest) a (w.alloc (.cells cs e)) := by
  refine (h.alloc (.cells cs e)).app I hgd s x ho hs (some ⟨w.heap.size, 0, none⟩) m m news hx (fun h => by cases h) hl (news_new w news cs e hcs) h1 L hL hb fun go' cap' w' hV hG => ?_
  obtain ⟨g, rfl⟩ := hV.ptr (by omega)
  exact hk g cap' w' hV hG
end Go.Proofs.YtifgmnafjihlkaaGreatDoor
/- schema.small, letter, digit, tail, isWord. -/
namespace Go.Proofs.YtifgmnafjihlkaaGreatDoor
open Go Go.RowKit

theorem small_any (s : ByteArray) (w : World) (hs : s.size ≤ 140737488355328) :
    Calls Tryz.prog 133 #[.string s] w fun e w' => e = .returned (.string ⟨(low (toL s)).toArray⟩) ∧ Below w.heap.size w w' := by
  go_enter Tryz.func133, Tryz.ntmps133
  have hc := Lib.run_convert_string_bytes (P := Tryz.prog) w 9 144 5 s Tryz.underlying9 Tryz.underlying144 Tryz.underlying5
  have B0 := below_bytes w 5 s
  have T0 := Bts.conv w s
  generalize Lib.bytesWorld w 5 s = w1 at hc B0 T0
  generalize grownCap w s.size 0 5 = cap at hc
  go_wp2_with fail
  clear hc
  have HB0 := Lib.hid B0; clear B0
  have HT0 := Lib.hid T0; clear T0
  go_loopw [10] (fun iv wr => ∃ i : Nat, iv = .int .i64 i ∧ i ≤ s.size ∧ Below w.heap.size w wr ∧ Bts wr w.heap.size (low (s.data.toList.take i) ++ s.data.toList.drop i)) (fun iv _ => s.size - (intOf iv).toNat)
  case atStart => exact ⟨0, rfl, Nat.zero_le _, HB0.out, by simpa [low] using HT0.out⟩
  case round =>
    clear HB0 HT0
    obtain ⟨i, rfl, hi, hb, ht⟩ := hrel
    have HB := Lib.hid hb; clear hb
    have HT := Lib.hid ht; clear ht
    have hl0 : s.data.toList.length = s.size := by simp
    have hlen : (low (s.data.toList.take i) ++ s.data.toList.drop i).length = s.size := by simp [low]; omega
    by_cases hlt : i < s.size
    · have hget : (low (s.data.toList.take i) ++ s.data.toList.drop i)[i]? = some s[i] := by
        rw [List.getElem?_append_right (by rw [low, List.length_map, List.length_take]; omega), show i - (low (s.data.toList.take i)).length = 0 by rw [low, List.length_map, List.length_take]; omega, drop_at s hlt]; rfl
      have hcell := HT.out.cell i _ hget
      have hfr := HT.out.fr i (by omega)
      have hst := low_step s.data.toList (by omega : i < s.data.toList.length)
      have hsi : s.data.toList[i]'(by omega) = s[i] := rfl
      rw [hsi] at hst
      have HS := Lib.hid hst; clear hst
      have HN := Lib.hid (low_keep s.data.toList (by omega : i < s.data.toList.length))
      rw [hsi] at HN
      have hset := HT.out.set (i := i) (by omega) (lowB s[i])
      rw [HS.out] at hset
      have HQ := Lib.hid hset; clear hset HS
      clear hget hsi hlen
      generalize s[i] = b at *
      go_wp2_with fail
      · have e1 := lowB_nat (b := b) (by omega)
        have hq := HQ.out
        rw [show ((lowB b).toNat : Int) = (b.toNat : Int) + 32 by omega] at hq
        exact ⟨⟨i + 1, by simp, by omega, HB.out.setCell (Nat.le_refl _) _, hq⟩, by simp [intOf]; omega⟩
      all_goals exact ⟨⟨i + 1, by simp, by omega, HB.out, by rw [HN.out (lowB_same (by omega))]; exact HT.out⟩, by simp [intOf]; omega⟩
    · have hie : i = s.size := by omega
      subst hie
      have hfin := HT.out
      rw [List.take_of_length_le (by omega), List.drop_eq_nil_of_le (by omega), List.append_nil] at hfin
      have hbk := hfin.back (P := Tryz.prog) (src := 144) (dst := 9) (e := 5) (n := s.size) (by simp [low]) cap Tryz.underlying144 Tryz.underlying5 Tryz.underlying9
      clear hfin hlen
      go_wp2_with fail
      go_ret
      exact ⟨rfl, HB.out⟩

theorem let_fin : ∀ n : Fin 256, (decide (97 ≤ bits BinOp.or IntKind.u8 (n.val : Int) 32) && decide (bits BinOp.or IntKind.u8 (n.val : Int) 32 ≤ 122)) = (decide (97 ≤ n.val ∧ n.val ≤ 122) || decide (65 ≤ n.val ∧ n.val ≤ 90)) := by decide +kernel
theorem let_eq (b : UInt8) : (decide (97 ≤ bits BinOp.or IntKind.u8 (b.toNat : Int) 32) && decide (bits BinOp.or IntKind.u8 (b.toNat : Int) 32 ≤ 122)) = isLet b := let_fin ⟨b.toNat, b.toNat_lt⟩
theorem letter_any (b : UInt8) (w : World) : Calls Tryz.prog 193 #[.int .u8 (b.toNat : Int)] w fun e w' => e = .returned (.bool (isLet b)) ∧ w = w' := by
  have he := let_eq b
  generalize isLet b = x at he
  have HE := Lib.hid he; clear he
  go_enter Tryz.func193, Tryz.ntmps193
  go_wp2_with fail
  all_goals
    rename_i h
    go_ret
    refine ⟨?_, rfl⟩
    rw [← HE.out]
    simp [h]
  omega
theorem dig_eq (b : UInt8) : (decide (48 ≤ (b.toNat : Int)) && decide ((b.toNat : Int) ≤ 57)) = dig b := by
  unfold dig; rw [Bool.eq_iff_iff]; simp; omega
theorem digit_any (b : UInt8) (w : World) : Calls Tryz.prog 195 #[.int .u8 (b.toNat : Int)] w fun e w' => e = .returned (.bool (dig b)) ∧ w = w' := by
  have he := dig_eq b
  generalize dig b = x at he
  have HE := Lib.hid he; clear he
  go_enter Tryz.func195, Tryz.ntmps195
  go_wp2_with fail
  all_goals
    rename_i h
    go_ret
    refine ⟨?_, rfl⟩
    rw [← HE.out]
    simp [h]
  omega

theorem tailC_45 (b : UInt8) : (b == 45) = decide ((b.toNat : Int) = 45) := by
  rw [Bool.eq_iff_iff]; simp only [beq_iff_eq, decide_eq_true_eq]
  exact ⟨fun h => by subst h; rfl, fun h => UInt8.toNat_inj.1 (by show b.toNat = 45; omega)⟩
theorem tail_any (s : ByteArray) (w : World) (hs : s.size ≤ 140737488355328) : Calls Tryz.prog 147 #[.string s] w fun e w' => e = .returned (.bool (tailB (toL s))) ∧ w = w' := by
  go_enter Tryz.func147, Tryz.ntmps147
  go_wp2_with fail
  go_loop [6] (fun iv => ∃ i : Nat, iv = .int .i64 i ∧ i ≤ s.size ∧ tailB (toL s) = tailB ((toL s).drop i)) (fun iv => s.size - (intOf iv).toNat)
  case atStart => exact ⟨0, rfl, Nat.zero_le _, rfl⟩
  case round =>
    obtain ⟨i, rfl, hi, ht⟩ := hrel
    have HT := Lib.hid ht; clear ht
    by_cases hlt : i < s.size
    · have hd : tailB ((toL s).drop i) = (tailC s[i] && tailB ((toL s).drop (i + 1))) := by
        unfold toL; rw [drop_at s hlt]; rfl
      have HD := Lib.hid (HT.out.trans hd); clear hd HT
      have h45 := tailC_45 s[i]
      unfold tailC at HD
      have cl := letter_any s[i]
      have cd := digit_any s[i]
      cases hL : isLet s[i] with
      | true =>
        rw [hL] at cl HD
        have CL := Lib.hid cl; clear cl cd h45 hL
        go_wp2_with (first | (go_at_call 193; with_reducible refine (CL.out _).mono ?_; rintro e w1 ⟨rfl, rfl⟩) | fail)
        exact ⟨⟨i + 1, by simp, by omega, by rw [HD.out]; simp⟩, by simp [intOf]; omega⟩
      | false =>
        rw [hL] at cl HD
        have CL := Lib.hid cl; clear cl hL
        cases hD : dig s[i] with
        | true =>
          rw [hD] at cd HD
          have CD := Lib.hid cd; clear cd h45 hD
          go_wp2_with (first | (go_at_call 193; with_reducible refine (CL.out _).mono ?_; rintro e w1 ⟨rfl, rfl⟩) | (go_at_call 195; with_reducible refine (CD.out _).mono ?_; rintro e w1 ⟨rfl, rfl⟩) | fail)
          exact ⟨⟨i + 1, by simp, by omega, by rw [HD.out]; simp⟩, by simp [intOf]; omega⟩
        | false =>
          rw [hD] at cd HD
          rw [h45] at HD
          have CD := Lib.hid cd; clear cd h45 hD
          by_cases h5 : (s[i].toNat : Int) = 45
          · rw [decide_eq_true h5] at HD
            have hB : ((s[i].toNat : Int) == 45) = true := by rw [h5]; rfl
            have hN : ((s[i].toNat : Int) != 45) = false := by rw [h5]; rfl
            clear h5
            go_wp2_with (first | (go_at_call 193; with_reducible refine (CL.out _).mono ?_; rintro e w1 ⟨rfl, rfl⟩) | (go_at_call 195; with_reducible refine (CD.out _).mono ?_; rintro e w1 ⟨rfl, rfl⟩) | fail)
            exact ⟨⟨i + 1, by simp, by omega, by rw [HD.out]; simp⟩, by simp [intOf]; omega⟩
          · rw [decide_eq_false h5] at HD
            go_wp2_with (first | (go_at_call 193; with_reducible refine (CL.out _).mono ?_; rintro e w1 ⟨rfl, rfl⟩) | (go_at_call 195; with_reducible refine (CD.out _).mono ?_; rintro e w1 ⟨rfl, rfl⟩) | fail)
            go_ret
            exact ⟨by rw [HD.out]; rfl, rfl⟩
    · have hfin : tailB ((toL s).drop i) = true := by unfold toL; rw [drop_end s hlt]; rfl
      have HF := Lib.hid (HT.out.trans hfin); clear hfin HT
      go_wp2_with fail
      go_ret
      exact ⟨by rw [HF.out]; rfl, rfl⟩
end Go.Proofs.YtifgmnafjihlkaaGreatDoor
/- A map from texts to places: what it holds, look-ups, stores. -/
namespace Go.Proofs.YtifgmnafjihlkaaGreatDoor
open Go Go.RowKit Go.Maps

theorem kStr : Keyed Tryz.prog 9 := string_keyed Tryz.underlying9
theorem zeroInt (w : World) : (zeroValue 3).run Tryz.prog w = .ok (.int .i64 0) w := by kernel_rfl
theorem keyStr {s : ByteArray} (hs : s.size ≤ maxLen) : keyOf Tryz.prog 9 (.string s) = some (.string (toL s)) := Go.WideMaps.keyOf_string_mk Tryz.underlying9 hs

/-- block b is a map of at most n entries that gives the places of f -/
structure MapIs (w : World) (b n : Nat) (f : Str → Option Nat) : Prop where
  own : ∃ D : DataW Unit, w.ownsMap Tryz.prog 9 (plainElem Tryz.prog 3) b n D ∧
    ∀ k : Str, Maps.has D (.string k) = (f k).isSome ∧ D.atKey (.string k) (.lit (.int .i64 0)) = .lit (.int .i64 ((f k).getD 0 : Nat))

theorem MapIs.lt {w : World} {b n : Nat} {f : Str → Option Nat} (h : MapIs w b n f) : b < w.heap.size := by obtain ⟨D, h1, _⟩ := h.own; exact h1.lt
theorem MapIs.of_block {w w' : World} {b n : Nat} {f : Str → Option Nat} (h : MapIs w b n f) (k : w'.heap[b]? = w.heap[b]?) : MapIs w' b n f := by
  obtain ⟨D, ⟨es, clock, hb, r⟩, h2⟩ := h.own
  exact ⟨D, ⟨es, clock, by rw [k]; exact hb, r⟩, h2⟩
theorem MapIs.keep {w w' : World} {b n B : Nat} {f : Str → Option Nat} (h : MapIs w b n f) (k : Below B w w') (hb : b < B) : MapIs w' b n f := h.of_block (k.block b hb)
theorem MapIs.mono {w : World} {b n n' : Nat} {f : Str → Option Nat} (h : MapIs w b n f) (hn : n ≤ n') : MapIs w b n' f := by
  obtain ⟨D, h1, h2⟩ := h.own; exact ⟨D, h1.mono hn, h2⟩
theorem MapIs.made (w : World) : MapIs (w.alloc (.map #[] 0)) w.heap.size 0 (fun _ => none) :=
  ⟨.map [], World.ownsMap_made _ _ _ _, fun _ => ⟨rfl, rfl⟩⟩

theorem MapIs.look {w : World} {b n : Nat} {f : Str → Option Nat} (h : MapIs w b n f) {s : ByteArray} (hs : s.size ≤ maxLen) :
    (Instr.lookup 125 (.map (some b)) (.string s) false).run Tryz.prog w = .ok (.int .i64 ((f (toL s)).getD 0 : Nat)) w := by
  obtain ⟨D, h1, h2⟩ := h.own
  obtain ⟨c, hr, hc, _⟩ := h1.lookup_int kStr Tryz.underlying125 Tryz.underlying3 (zeroInt w) (keyStr hs)
  rw [(h2 (toL s)).2] at hc
  cases hc; exact hr
theorem MapIs.look_ok {w : World} {b n : Nat} {f : Str → Option Nat} (h : MapIs w b n f) {s : ByteArray} (hs : s.size ≤ maxLen) :
    (Instr.lookup 125 (.map (some b)) (.string s) true).run Tryz.prog w = .ok (.tuple #[.int .i64 ((f (toL s)).getD 0 : Nat), .bool (f (toL s)).isSome]) w := by
  obtain ⟨D, h1, h2⟩ := h.own
  obtain ⟨v, ps, hr, hv⟩ := h1.look_ok kStr Tryz.underlying125 (zeroInt w) (plainElem_int Tryz.underlying3 (by decide)) (keyStr hs)
  obtain ⟨c, rfl, hc, _⟩ := plainElem_int_inv Tryz.underlying3 hv
  rw [(h2 (toL s)).2] at hc
  rw [(h2 (toL s)).1] at hr
  cases hc; exact hr

theorem MapIs.put {w : World} {b n : Nat} {f : Str → Option Nat} (h : MapIs w b n f) (hn : n < maxLen) {s : ByteArray} (hs : s.size ≤ maxLen) {v : Nat} (hv : v ≤ maxLen) :
    ∃ w', (Instr.mapUpdate 125 (.map (some b)) (.string s) (.int .i64 (v : Int))).run Tryz.prog w = .ok () w' ∧ MapIs w' b (n + 1) (fun x => if x = toL s then some v else f x) ∧ w.grownBy w' (some b) := by
  obtain ⟨D, h1, h2⟩ := h.own
  obtain ⟨w', hr, ho, hg⟩ := h1.update kStr Tryz.underlying125 hn (keyStr hs) (plainElem_int (H := Unit) Tryz.underlying3 (a := (v : Int)) (WalkArith.wf_i64 (by unfold maxLen at hv; omega)))
  refine ⟨w', hr, ⟨_, ho, fun k => ?_⟩, hg⟩
  by_cases e : k = toL s
  · subst e
    rw [has_put_same h1.isMap (k := .string (toL s)) trivial, atKey_put_same h1.isMap (k := .string (toL s)) trivial]
    simp
  · have hne : (Lit.string k) ≠ Lit.string (toL s) := fun e2 => e (by cases e2; rfl)
    rw [has_put_other hne, atKey_put_other hne, (h2 k).1, (h2 k).2]
    simp [e]

/-- 'm[k] = v' at the operation -/
theorem MapIs.wp_put {w : World} {b n : Nat} {f : Str → Option Nat} (h : MapIs w b n f) {ops : Array Oper} {rest : List Oper} {o : Oper} {a : Act} {Q : Exit → Act → World → Prop} (hg : o.guard = none) (m x v : Operand) (hop : o.op = Op.mapUpdate 125 m x v)
    (hm : a.eval m = .map (some b)) (s : ByteArray) (hx : a.eval x = .string s) (p : Nat) (hv : a.eval v = .int .i64 (p : Int)) (hn : n < maxLen) (hs : s.size ≤ maxLen) (hp : p ≤ maxLen)
    (hK : ∀ w', MapIs w' b (n + 1) (fun x => if x = toL s then some p else f x) → w.grownBy w' (some b) → wpList Tryz.prog ops Q rest (a.put o.dst undef) w') :
    wpList Tryz.prog ops Q (o :: rest) a w := by
  refine wpList_plain hg fun K' hK' => ?_
  obtain ⟨w', hrun, r1, r2⟩ := h.put hn hs hp
  unfold Oper.wp
  simp [execOp, hop, hm, hx, hv, hrun, Result.andThen]
  exact hK' _ _ (hK w' r1 r2)
end Go.Proofs.YtifgmnafjihlkaaGreatDoor
