/- Part 20 of the walks and plain laws, joined: Plain6, NameV, NameK, SortK. -/
import Derived.Test.YtlmfbjhokkpjhaaGreatDoorNB00
import Derived.Test.YtlmfbjhokkpjhaaGreatDoorNB07
import Derived.Test.YtlmfbjhokkpjhaaGreatDoorNB19
import Derived.Test.YtlmfbjhokkpjhaaGreatDoorNB06
import Derived.BigRegion
import Derived.Lib.ValidLaws
import Derived.Lib.ItoaLen
import Derived.Sort.Statements
set_option linter.unusedVariables false
set_option linter.unusedSimpArgs false
namespace Go.Proofs.YtlmfbjhokkpjhaaGreatDoor
open Go Go.RowKit Go.Maps
def plainT : List PType := [⟨(⟨#[50, 46, 53, 46, 52, 46, 48]⟩ : ByteArray), [(⟨#[111, 98, 106, 101, 99, 116, 67, 108, 97, 115, 115]⟩ : ByteArray)], (⟨#[]⟩ : ByteArray), 8, 20, 0, 0, false, 0⟩, ⟨(⟨#[50, 46, 53, 46, 52, 46, 51]⟩ : ByteArray), [(⟨#[99, 110]⟩ : ByteArray), (⟨#[99, 111, 109, 109, 111, 110, 78, 97, 109, 101]⟩ : ByteArray)], (⟨#[]⟩ : ByteArray), 0, 1, 0, 0, false, 0⟩, ⟨(⟨#[50, 46, 53, 46, 52, 46, 49, 49]⟩ : ByteArray), [(⟨#[111, 117]⟩ : ByteArray)], (⟨#[]⟩ : ByteArray), 0, 1, 0, 0, false, 0⟩, ⟨(⟨#[50, 46, 53, 46, 52, 46, 51, 52]⟩ : ByteArray), [(⟨#[115, 101, 101, 65, 108, 115, 111]⟩ : ByteArray)], (⟨#[]⟩ : ByteArray), 7, 19, 0, 0, false, 0⟩, ⟨(⟨#[49, 46, 49]⟩ : ByteArray), [(⟨#[112, 104, 111, 116, 111]⟩ : ByteArray)], (⟨#[]⟩ : ByteArray), 6, 0, 0, 0, false, 0⟩, ⟨(⟨#[49, 46, 50]⟩ : ByteArray), [(⟨#[97, 103, 101]⟩ : ByteArray)], (⟨#[]⟩ : ByteArray), 3, 0, 0, 0, false, 0⟩]
def plainC : List PClass := [⟨(⟨#[50, 46, 53, 46, 54, 46, 54]⟩ : ByteArray), [(⟨#[112, 101, 114, 115, 111, 110]⟩ : ByteArray)], [], 1, [], []⟩]
def plainS : PSchema := ⟨plainT, plainC⟩
theorem plain_new : newE plainS = (0, 0) := by decide +kernel
def Plain6 (w : World) (e : Ending) (w' : World) : Prop :=
 ∃ ta ca, e = .returned (.agg #[.slice ta 6 6, .slice ca 1 1]) ∧ Types w'.heap.size w' ta 6 6 plainS.types ∧ Classes w'.heap.size w' ca 1 1 plainS.classes ∧ Below w.heap.size w w'
def obsP (w : World) : List Obj := [.cells #[.slice (some ⟨w.heap.size + 1 + 1 + 1 + 1 + 1 + 1 + 1, 0, none⟩) 6 6, .slice (some ⟨w.heap.size + 1 + 1 + 1 + 1 + 1 + 1 + 1 + 1 + 1, 0, none⟩) 1 1] 25, .cells #[.string ⟨#[111, 98, 106, 101, 99, 116, 67, 108, 97, 115, 115]⟩] 9, .cells #[.string ⟨#[99, 110]⟩, .string ⟨#[99, 111, 109, 109, 111, 110, 78, 97, 109, 101]⟩] 9, .cells #[.string ⟨#[111, 117]⟩] 9, .cells #[.string ⟨#[115, 101, 101, 65, 108, 115, 111]⟩] 9, .cells #[.string ⟨#[112, 104, 111, 116, 111]⟩] 9, .cells #[.string ⟨#[97, 103, 101]⟩] 9, .cells #[.string ⟨#[50, 46, 53, 46, 52, 46, 48]⟩, .slice (some ⟨w.heap.size + 1, 0, none⟩) 1 1, .string ⟨#[]⟩, .int .i8 8, .int .i8 20, .int .i8 0, .int .i8 0, .bool false, .int .u8 0, .string ⟨#[50, 46, 53, 46, 52, 46, 51]⟩, .slice (some ⟨w.heap.size + 1 + 1, 0, none⟩) 2 2, .string ⟨#[]⟩, .int .i8 0, .int .i8 1, .int .i8 0, .int .i8 0, .bool false, .int .u8 0, .string ⟨#[50, 46, 53, 46, 52, 46, 49, 49]⟩, .slice (some ⟨w.heap.size + 1 + 1 + 1, 0, none⟩) 1 1, .string ⟨#[]⟩, .int .i8 0, .int .i8 1, .int .i8 0, .int .i8 0, .bool false, .int .u8 0, .string ⟨#[50, 46, 53, 46, 52, 46, 51, 52]⟩, .slice (some ⟨w.heap.size + 1 + 1 + 1 + 1, 0, none⟩) 1 1, .string ⟨#[]⟩, .int .i8 7, .int .i8 19, .int .i8 0, .int .i8 0, .bool false, .int .u8 0, .string ⟨#[49, 46, 49]⟩, .slice (some ⟨w.heap.size + 1 + 1 + 1 + 1 + 1, 0, none⟩) 1 1, .string ⟨#[]⟩, .int .i8 6, .int .i8 0, .int .i8 0, .int .i8 0, .bool false, .int .u8 0, .string ⟨#[49, 46, 50]⟩, .slice (some ⟨w.heap.size + 1 + 1 + 1 + 1 + 1 + 1, 0, none⟩) 1 1, .string ⟨#[]⟩, .int .i8 3, .int .i8 0, .int .i8 0, .int .i8 0, .bool false, .int .u8 0] 46, .cells #[.string ⟨#[112, 101, 114, 115, 111, 110]⟩] 9, .cells #[.string ⟨#[50, 46, 53, 46, 54, 46, 54]⟩, .slice (some ⟨w.heap.size + 1 + 1 + 1 + 1 + 1 + 1 + 1 + 1, 0, none⟩) 1 1, .slice none 0 0, .int .i8 1, .slice none 0 0, .slice none 0 0] 89]
theorem nil_texts (B : Nat) (w : World) : Texts B w none 0 0 [] := ⟨rfl, ⟨Zr _, Nat.zero_le _, fun _ => rfl, (fun ad h _ => by cases h), (fun ad h _ => by cases h)⟩, Nat.zero_le _, (fun b o h => by cases h), (fun s h => by cases h)⟩
theorem plain_read (w w' : World) (hb : Below w.heap.size w w') (hh : ∀ k o, (obsP w)[k]? = some o → w'.heap[w.heap.size + k]? = some o) :
  Plain6 w (.returned (.agg #[.slice (some ⟨w.heap.size + 1 + 1 + 1 + 1 + 1 + 1 + 1, 0, none⟩) 6 6, .slice (some ⟨w.heap.size + 1 + 1 + 1 + 1 + 1 + 1 + 1 + 1 + 1, 0, none⟩) 1 1])) w' := by
 refine ⟨_, _, rfl, ?_, ?_, hb⟩
 ·refine ⟨rfl, ⟨Zr _, by unfold maxLen; omega, (fun h => by cases h), (fun ad h => by cases h; exact lt_at hh 7 rfl), (fun ad h _ => by cases h; rfl)⟩, ?_, ?_, (fun ad h => by cases h; rfl)⟩
  ·intro b o h i x hx
   cases h
   match i, hx with
   | 0, hx =>
    cases hx
    exact ⟨cell_at hh 7 0 rfl rfl, ⟨_, _, _, cell_at hh 7 1 rfl rfl, texts_at hh 1 1 [(⟨#[111, 98, 106, 101, 99, 116, 67, 108, 97, 115, 115]⟩ : ByteArray)] rfl rfl (by decide) (by decide)⟩, cell_at hh 7 2 rfl rfl, cell_at hh 7 3 rfl rfl, cell_at hh 7 4 rfl rfl, cell_at hh 7 5 rfl rfl, cell_at hh 7 6 rfl rfl, cell_at hh 7 7 rfl rfl, cell_at hh 7 8 rfl rfl⟩
   | 1, hx =>
    cases hx
    exact ⟨cell_at hh 7 9 rfl rfl, ⟨_, _, _, cell_at hh 7 10 rfl rfl, texts_at hh 2 2 [(⟨#[99, 110]⟩ : ByteArray), (⟨#[99, 111, 109, 109, 111, 110, 78, 97, 109, 101]⟩ : ByteArray)] rfl rfl (by decide) (by decide)⟩, cell_at hh 7 11 rfl rfl, cell_at hh 7 12 rfl rfl, cell_at hh 7 13 rfl rfl, cell_at hh 7 14 rfl rfl, cell_at hh 7 15 rfl rfl, cell_at hh 7 16 rfl rfl, cell_at hh 7 17 rfl rfl⟩
   | 2, hx =>
    cases hx
    exact ⟨cell_at hh 7 18 rfl rfl, ⟨_, _, _, cell_at hh 7 19 rfl rfl, texts_at hh 3 1 [(⟨#[111, 117]⟩ : ByteArray)] rfl rfl (by decide) (by decide)⟩, cell_at hh 7 20 rfl rfl, cell_at hh 7 21 rfl rfl, cell_at hh 7 22 rfl rfl, cell_at hh 7 23 rfl rfl, cell_at hh 7 24 rfl rfl, cell_at hh 7 25 rfl rfl, cell_at hh 7 26 rfl rfl⟩
   | 3, hx =>
    cases hx
    exact ⟨cell_at hh 7 27 rfl rfl, ⟨_, _, _, cell_at hh 7 28 rfl rfl, texts_at hh 4 1 [(⟨#[115, 101, 101, 65, 108, 115, 111]⟩ : ByteArray)] rfl rfl (by decide) (by decide)⟩, cell_at hh 7 29 rfl rfl, cell_at hh 7 30 rfl rfl, cell_at hh 7 31 rfl rfl, cell_at hh 7 32 rfl rfl, cell_at hh 7 33 rfl rfl, cell_at hh 7 34 rfl rfl, cell_at hh 7 35 rfl rfl⟩
   | 4, hx =>
    cases hx
    exact ⟨cell_at hh 7 36 rfl rfl, ⟨_, _, _, cell_at hh 7 37 rfl rfl, texts_at hh 5 1 [(⟨#[112, 104, 111, 116, 111]⟩ : ByteArray)] rfl rfl (by decide) (by decide)⟩, cell_at hh 7 38 rfl rfl, cell_at hh 7 39 rfl rfl, cell_at hh 7 40 rfl rfl, cell_at hh 7 41 rfl rfl, cell_at hh 7 42 rfl rfl, cell_at hh 7 43 rfl rfl, cell_at hh 7 44 rfl rfl⟩
   | 5, hx =>
    cases hx
    exact ⟨cell_at hh 7 45 rfl rfl, ⟨_, _, _, cell_at hh 7 46 rfl rfl, texts_at hh 6 1 [(⟨#[97, 103, 101]⟩ : ByteArray)] rfl rfl (by decide) (by decide)⟩, cell_at hh 7 47 rfl rfl, cell_at hh 7 48 rfl rfl, cell_at hh 7 49 rfl rfl, cell_at hh 7 50 rfl rfl, cell_at hh 7 51 rfl rfl, cell_at hh 7 52 rfl rfl, cell_at hh 7 53 rfl rfl⟩
   | n + 6, hx => simp [plainS, plainT] at hx
  ·intro x hx
   simp only [plainS, plainT, List.mem_cons, List.not_mem_nil, or_false] at hx
   rcases hx with rfl | rfl | rfl | rfl | rfl | rfl <;> exact ⟨by decide, by decide, by decide, by decide, by decide, by decide, by decide⟩
 ·refine ⟨rfl, ⟨Zr _, by unfold maxLen; omega, (fun h => by cases h), (fun ad h => by cases h; exact lt_at hh 9 rfl), (fun ad h _ => by cases h; rfl)⟩, ?_, ?_, (fun ad h => by cases h; rfl)⟩
  ·intro b o h i x hx
   cases h
   match i, hx with
   | 0, hx =>
    cases hx
    exact ⟨cell_at hh 9 0 rfl rfl, ⟨_, _, _, cell_at hh 9 1 rfl rfl, texts_at hh 8 1 [(⟨#[112, 101, 114, 115, 111, 110]⟩ : ByteArray)] rfl rfl (by decide) (by decide)⟩, ⟨_, _, _, cell_at hh 9 2 rfl rfl, nil_texts _ _⟩, cell_at hh 9 3 rfl rfl, ⟨_, _, _, cell_at hh 9 4 rfl rfl, nil_texts _ _⟩, ⟨_, _, _, cell_at hh 9 5 rfl rfl, nil_texts _ _⟩⟩
   | n + 1, hx => simp [plainS, plainC] at hx
  ·intro x hx
   simp only [plainS, plainC, List.mem_cons, List.not_mem_nil, or_false] at hx
   subst hx
   exact ⟨by decide, by decide⟩
set_option maxRecDepth 20000 in
set_option maxHeartbeats 4000000 in
theorem plain_any6 (w : World) : Calls Tryz.prog 85 #[] w (Plain6 w) := by
 go_enter Tryz.func85, Tryz.ntmps85
 go_wp2_with fail
 refine bodyPost_ret (v := .agg #[.slice (some ⟨w.heap.size + 1 + 1 + 1 + 1 + 1 + 1 + 1, 0, none⟩) 6 6, .slice (some ⟨w.heap.size + 1 + 1 + 1 + 1 + 1 + 1 + 1 + 1 + 1, 0, none⟩) 1 1]) ?hres rfl ?_
 case hres => simp [results, Tryz.results85, go_sem]
 exact plain_read w _ (tower (obsP w) w).1 (tower (obsP w) w).2
end Go.Proofs.YtlmfbjhokkpjhaaGreatDoor
namespace Go.Proofs.YtlmfbjhokkpjhaaGreatDoor
open Go
abbrev PAva := ByteArray × ByteArray
abbrev PRdn := List PAva
abbrev PName := List PRdn
abbrev PFault := Int × Nat × Str
def oidN : Nat → Str → Nat → Bool → Nat × Bool
 | 0, _, off, _ => (off, false)
 | f + 1, l, off, one =>
  let d := if l.head? = some 48 then 1 else (l.takeWhile dig).length
  if d = 0 then (off, false)
  else if l[d]? = some 46 then oidN f (l.drop (d + 1)) (off + d + 1) false
  else if one then (off + d, false)
  else (off + d, l[d]? == some 61)
def kindN (l : Str) : Nat × Bool := match l with
 | [] => (0, false)
 | c :: _ => if isLet c then ((l.takeWhile tailC).length, l[(l.takeWhile tailC).length]? == some 61) else oidN (l.length + 1) l 0 true
def hexd (c : UInt8) : Bool := dig c || decide (97 ≤ c.toNat ∧ c.toNat ≤ 102) || decide (65 ≤ c.toNat ∧ c.toNat ≤ 70)
def hexv (c : UInt8) : Nat := if c.toNat ≤ 57 then c.toNat - 48 else if c.toNat ≤ 70 then c.toNat - 55 else c.toNat - 87
def escs : Str := [34, 43, 44, 59, 60, 62, 61, 35, 32, 92]
def bads : Str := [0, 34, 59, 60, 62]
def valR (st : Nat) : Str → Nat → Str → Option Nat → Str × Nat × Option (Int × Nat)
 | [], off, b, bare => (b, off, bare.map fun p => (50, p))
 | c :: l, off, b, bare =>
  if c = 44 ∨ c = 43 then (b, off, bare.map fun p => (50, p))
  else if c = 92 then match l with
   | [] => ([], off, some (11, off))
   | x :: l2 => if escs.contains x then valR st l2 (off + 2) (b ++ [x]) none else match l2 with
    | [] => ([], off, some (11, off))
    | y :: l3 => if hexd x && hexd y then valR st l3 (off + 3) (b ++ [UInt8.ofNat (hexv x * 16 + hexv y)]) none else ([], off, some (11, off))
  else if bads.contains c ∨ (off = st ∧ (c = 32 ∨ c = 35)) then ([], off, some (50, off))
  else valR st l (off + 1) (b ++ [c]) (if c = 32 then some off else none)
def faultAt (s : Str) (code : Int) (p : Nat) : PFault := (code, p, (s.drop p).take 1)
def stuckAt (s : Str) (p : Nat) : PFault := faultAt s (if p < s.length then 50 else 5) p
def baOf (l : Str) : ByteArray := ⟨l.toArray⟩
def parseR (s : Str) : Nat → Nat → PName → PRdn → Except PFault PName
 | 0, _, _, _ => .error (0, 0, [])
 | f + 1, p, done, part =>
  let k := kindN (s.drop p)
  if k.2 = false then .error (stuckAt s (p + k.1))
  else
   let v := valR (p + k.1 + 1) (s.drop (p + k.1 + 1)) (p + k.1 + 1) [] none
   match v.2.2 with
   | some (c, q) => .error (faultAt s c q)
   | none =>
    let part2 := part ++ [(baOf ((s.drop p).take k.1), baOf v.1)]
    if s.length ≤ v.2.1 then .ok (done ++ [part2])
    else if s[v.2.1]? = some 44 then
     if 64 ≤ done.length + 1 then .error (faultAt s 3 v.2.1) else parseR s f (v.2.1 + 1) (done ++ [part2]) []
    else if 64 ≤ done.length ∨ 8 ≤ part2.length then .error (faultAt s 3 v.2.1) else parseR s f (v.2.1 + 1) done part2
def parseV (s : Str) : Except PFault PName :=
 if 65536 < s.length then .error (3, 0, []) else if s = [] then .ok [] else parseR s (s.length + 1) 0 [] []
def wordOk (s : Str) : Bool := (keyL 8 s).2
def typedV (s : Str) : Bool := if s.length ≤ 65536 then wordOk s else kindN (s ++ [61]) == (s.length, true)
def hexC (n : Nat) : UInt8 := if n < 10 then UInt8.ofNat (48 + n) else UInt8.ofNat (87 + n)
def hexB (c : UInt8) : Str := [92, hexC (c.toNat / 16), hexC (c.toNat % 16)]
def chN (l : Str) : Nat := (([1, 2, 3, 4].find? fun n => decide (n ≤ l.length) && Lib.validD (l.take n))).getD 0
def showK : Bool → Str → Nat → Str
 | _, [], _ => []
 | _, c :: l, k + 1 => c :: showK false l k
 | fst, c :: l, 0 =>
  if chN (c :: l) = 0 then hexB c ++ showK false l 0
  else if c.toNat < 32 ∨ c = 127 then hexB c ++ showK false l (chN (c :: l) - 1)
  else if [34, 43, 44, 59, 60, 62, 92].contains c ∨ (c = 32 ∧ (fst = true ∨ l = [])) ∨ (c = 35 ∧ fst = true) then [92, c] ++ showK false l (chN (c :: l) - 1)
  else c :: showK false l (chN (c :: l) - 1)
def showV (v : Str) : Str := showK true v 0
def avaP (a : PAva) : Str := toL a.1 ++ 61 :: showV (toL a.2)
def joinP (c : UInt8) : List Str → Str
 | [] => []
 | [x] => x
 | x :: y :: l => x ++ c :: joinP c (y :: l)
def rdnP (r : PRdn) : Str := joinP 43 (r.map avaP)
def nameP (n : PName) : Str := joinP 44 (n.map rdnP)
def printV (n : PName) : Str × Int :=
 if 64 < n.length ∨ n.any (fun r => decide (8 < r.length)) then ([], 3)
 else if n.any (fun r => r.isEmpty || r.any fun a => !typedV (toL a.1)) then ([], 60)
 else if n.any (fun r => r.any fun a => decide (65536 < a.1.size) || decide (65536 < a.2.size)) ∨ 65536 < (nameP n).length then ([], 3)
 else (nameP n, 0)
end Go.Proofs.YtlmfbjhokkpjhaaGreatDoor
namespace Go.Proofs.YtlmfbjhokkpjhaaGreatDoor
open Go
def oidK (S : PSchema) (v : Str) : Str × Bool :=
 if (keyL 8 v).2 = false then ([], false)
 else match typeAt S v with
  | some t => (toL (fullT S t).oid, true)
  | none => match classAt S v with
   | some c => (toL (clAt S c).oid, true)
   | none => ((keyL 8 v).1, true)
def valK (rd : Str → Str × Bool) (S : PSchema) (x : PType) (v : Str) : Str × Bool :=
 if x.eq = 19 then rd v
 else if x.eq = 20 then oidK S v
 else if x.eq ≠ 0 then keyL (lineOf x.eq).form v
 else if x.syn = 7 then (if (rd v).2 then (v, true) else ([], false))
 else if (keyL (formV x.syn) v).2 then (v, true) else ([], false)
abbrev KPair := Nat × Str
def pairsK (rd : Str → Str × Bool) (S : PSchema) : List KPair → PRdn → Int × List KPair
 | acc, [] => (0, acc)
 | acc, a :: l => match typeAt S (toL a.1) with
  | none => (80, acc)
  | some t => if acc.any (fun p => p.1 == t) then (52, acc)
   else if (valK rd S (fullT S t) (toL a.2)).2 then pairsK rd S (acc ++ [(t, (valK rd S (fullT S t) (toL a.2)).1)]) l else (81, acc)
def insP (x : KPair) : List KPair → List KPair
 | [] => [x]
 | y :: l => if x.1 < y.1 then x :: y :: l else y :: insP x l
def sortP (l : List KPair) : List KPair := l.foldl (fun s x => insP x s) []
def decS (n : Nat) : Str := Lib.decDigits n
def pairS (p : KPair) : Str := decS p.1 ++ 61 :: (decS p.2.length ++ 58 :: p.2)
def stepK (l : List KPair) : Str := joinP 43 ((sortP l).map pairS) ++ [59]
def stepsK (rd : Str → Str × Bool) (S : PSchema) : PName → Int × List Str
 | [] => (0, [])
 | r :: n => if (pairsK rd S [] r).1 ≠ 0 then ((pairsK rd S [] r).1, [])
  else ((stepsK rd S n).1, stepK (pairsK rd S [] r).2 :: (stepsK rd S n).2)
def keyN (rd : Str → Str × Bool) (S : PSchema) (n : PName) : Str × Int :=
 if (printV n).2 ≠ 0 then ([], (printV n).2)
 else if (stepsK rd S n).1 ≠ 0 then ([], (stepsK rd S n).1) else ((stepsK rd S n).2.reverse.flatten, 0)
def readK (S : PSchema) : Nat → Str → Str × Bool
 | 0, _ => ([], false)
 | f + 1, v => match parseV v with
  | .error _ => ([], false)
  | .ok n => if (keyN (readK S f) S n).2 = 0 then ((keyN (readK S f) S n).1, true) else ([], false)
def countV (l : Str) : Option (Nat × Nat) :=
 let d := (l.takeWhile dig)
 if d.length = 0 ∨ 9 < d.length ∨ (l.head? = some 48 ∧ 1 < d.length) then none else some (d.foldl (fun x c => x * 10 + (c.toNat - 48)) 0, d.length)
def stepV : Nat → Int → Str → Option Nat
 | 0, _, _ => none
 | f + 1, last, l => match countV l with
  | none => none
  | some (t, d) => if (t : Int) ≤ last then none else match l.drop d with
   | [] => none
   | c :: l2 => if c ≠ 61 then none else match countV l2 with
    | none => none
    | some (n, d2) => match l2.drop d2 with
     | [] => none
     | c2 :: l3 => if c2 ≠ 58 ∨ l3.length < n + 1 then none
      else match l3.drop n with
       | [] => none
       | c3 :: l4 => if c3 = 59 then some (d + 1 + d2 + 1 + n + 1) else if c3 = 43 then (stepV f t l4).map (· + (d + 1 + d2 + 1 + n + 1)) else none
def stepsV : Nat → Str → Option (List Str)
 | 0, l => if l = [] then some [] else none
 | f + 1, l => if l = [] then some [] else match stepV (l.length + 1) (-1) l with
  | none => none
  | some k => (stepsV f (l.drop k)).map (l.take k :: ·)
def stepsOf (l : Str) : List Str := (stepsV (l.length + 1) l).getD []
def liesV (key above : Str) : Bool := decide (above.length < key.length) && above.isPrefixOf key && decide (0 < (stepsOf key).length) && (decide (above = []) || decide (0 < (stepsOf above).length))
end Go.Proofs.YtlmfbjhokkpjhaaGreatDoor
namespace Go.Proofs.YtlmfbjhokkpjhaaGreatDoor
open Go
theorem insP_perm (x : KPair) : ∀ l, (insP x l).Perm (x :: l)
 | [] => .refl _
 | y :: l => by
  unfold insP
  split
  ·exact .refl _
  ·exact ((insP_perm x l).cons y).trans (.swap x y l)
theorem insP_sorted (x : KPair) : ∀ l, l.Pairwise (fun a b => a.1 ≤ b.1) → (insP x l).Pairwise (fun a b => a.1 ≤ b.1)
 | [], _ => by simp [insP]
 | y :: l, h => by
  unfold insP
  have ⟨h1, h2⟩ := List.pairwise_cons.1 h
  split
  ·rename_i hlt
   refine List.pairwise_cons.2 ⟨fun z hz => ?_, h⟩
   rcases List.mem_cons.1 hz with rfl | hz
   ·omega
   ·have := h1 z hz; omega
  ·rename_i hlt
   refine List.pairwise_cons.2 ⟨fun z hz => ?_, insP_sorted x l h2⟩
   rcases List.mem_cons.1 ((insP_perm x l).mem_iff.1 hz) with rfl | hz
   ·omega
   ·exact h1 z hz
theorem fold_perm : ∀ (l s : List KPair), (l.foldl (fun s x => insP x s) s).Perm (s ++ l)
 | [], s => by simp
 | x :: l, s => by
  simp only [List.foldl_cons]
  refine (fold_perm l (insP x s)).trans ?_
  refine ((insP_perm x s).append_right l).trans ?_
  exact List.perm_middle.symm
theorem sortP_perm (l : List KPair) : (sortP l).Perm l := by have := fold_perm l []; simpa [sortP] using this
theorem fold_sorted : ∀ (l s : List KPair), s.Pairwise (fun a b => a.1 ≤ b.1) → (l.foldl (fun s x => insP x s) s).Pairwise (fun a b => a.1 ≤ b.1)
 | [], _, h => h
 | x :: l, s, h => fold_sorted l (insP x s) (insP_sorted x s h)
theorem sortP_sorted (l : List KPair) : (sortP l).Pairwise (fun a b => a.1 ≤ b.1) := fold_sorted l [] .nil
theorem sorted_one : ∀ (a b : List KPair), a.Perm b → a.Pairwise (fun x y => x.1 ≤ y.1) → b.Pairwise (fun x y => x.1 ≤ y.1) → (a.map (·.1)).Nodup → a = b
 | [], b, hp, _, _, _ => by simpa using hp.symm.eq_nil
 | x :: a, b, hp, h1, h2, hn => by
  cases b with
  | nil => exact absurd hp.eq_nil (by simp)
  | cons y b =>
   have e : x = y := by
    have hx : x ∈ y :: b := hp.mem_iff.1 (by simp)
    have hy : y ∈ x :: a := hp.mem_iff.2 (by simp)
    rcases List.mem_cons.1 hx with h | h
    ·exact h
    ·rcases List.mem_cons.1 hy with h' | h'
     ·exact h'.symm
     ·have := (List.pairwise_cons.1 h1).1 y h'
      have := (List.pairwise_cons.1 h2).1 x h
      have e1 : x.1 = y.1 := by omega
      exact absurd (List.mem_map.2 ⟨y, h', e1.symm⟩) (by simpa using (List.nodup_cons.1 hn).1)
   subst e
   rw [sorted_one a b ((List.perm_cons x).1 hp) (List.pairwise_cons.1 h1).2 (List.pairwise_cons.1 h2).2 (List.nodup_cons.1 hn).2]
theorem sortP_eq {l a : List KPair} (hp : a.Perm l) (hs : a.Pairwise (fun x y => x.1 ≤ y.1)) (hn : (l.map (·.1)).Nodup) : a = sortP l :=
 sorted_one a (sortP l) (hp.trans (sortP_perm l).symm) hs (sortP_sorted l) ((hp.map _).nodup_iff.2 hn)
def ltP (x y : KPair) : Bool := decide (x.1 < y.1)
theorem ltP_swo : Go.Sort.SWO ltP := ⟨fun x => by simp [ltP], fun x y z h1 h2 => by simp [ltP] at *; omega, fun x y z h1 h2 => by simp [ltP] at *; omega⟩
theorem sorted_arr {d d' : Array KPair} (hp : Go.Sort.PermIn 0 d.size d d') (hs : Go.Sort.SortedIn ltP 0 d.size d') (hn : (d.toList.map (·.1)).Nodup) : d'.toList = sortP d.toList := by
 obtain ⟨h1, _, h3⟩ := hp
 have e1 : d'.extract 0 d.size = d' := by rw [← h1]; simp
 have e2 : d.extract 0 d.size = d := by simp
 rw [e1, e2] at h3
 refine sortP_eq h3 ?_ hn
 rw [List.pairwise_iff_getElem]
 intro i j hi hj hij
 have h4 := hs i j (Nat.zero_le _) hij (by simpa [← h1] using hj)
 have hi' : i < d'.size := by simpa using hi
 have hj' : j < d'.size := by simpa using hj
 simp only [ltP, decide_eq_false_iff_not, getElem!_pos d' i hi', getElem!_pos d' j hj'] at h4
 simp only [Array.getElem_toList]
 omega
end Go.Proofs.YtlmfbjhokkpjhaaGreatDoor
