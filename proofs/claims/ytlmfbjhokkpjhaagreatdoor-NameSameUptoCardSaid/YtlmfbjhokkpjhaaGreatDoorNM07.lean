/- Part 7 of the walks and plain laws, joined: LaidX, JoinMk, FactX, NameV. -/
import Derived.Test.YtlmfbjhokkpjhaaGreatDoorRows
import Derived.Test.YtlmfbjhokkpjhaaGreatDoorNM06
import Derived.Test.YtlmfbjhokkpjhaaGreatDoorNM00
import Derived.Test.YtlmfbjhokkpjhaaGreatDoorCards
import Derived.Deep.DeepWitnessRowRef
import Derived.JoinedCond
import Derived.WalkKit
import Derived.SevenTiedAt
import Derived.Lib.ValidLaws
set_option linter.unusedVariables false
set_option linter.unusedSimpArgs false
namespace Go.Proofs.YtlmfbjhokkpjhaaGreatDoor
open Go Go.RowKit
def litV : DataW Unit → List Value
 | .lit (.int k n) => [.int k n]
 | .lit (.string l) => [.string ⟨l.toArray⟩]
 | _ => []
def litW : DataW Unit → List Value
 | .lit (.int k n) => [.int k n]
 | .lit (.string l) => [.string ⟨l.toArray⟩]
 | .agg l => l.flatMap litV
 | _ => []
def cellsD : DataW Unit → Array Value
 | .agg l => (l.flatMap litW).toArray
 | _ => #[]
def setC (h : Array Obj) (g : Nat) (cs : Array Value) : Array Obj := h.modify g fun
 | .cells _ t fz => .cells cs t fz
 | o => o
def setD (h : Array Obj) (g : Nat) (d : DataW Unit) : Array Obj := setC h g (cellsD d)
def setE (h : Array Obj) (g : Nat) (text : List UInt8) : Array Obj := (setC h g #[.iface 298 (.pointer (some ⟨h.size, 0, none⟩))]).push (.cells #[.string ⟨text.toArray⟩] 300)
noncomputable def laidHeap (h : Array Obj) : Array Obj :=
 setE (setE (setD (setD (setD (setD (setD (setD (setD (setD h 8 Rows.laid_unicode_utf8_first) 9 Rows.laid_unicode_utf8_acceptRanges)
  7 Rows.laid_internal_strconv_uint64pow10) 10 Rows.laid_math_bits_deBruijn32tab) 11 Rows.laid_math_bits_deBruijn64tab)
  2 Rows.laid_roster_schema_table) 1 Rows.laid_roster_match_sorts) 0 Rows.laid_roster_match_forms)
  6 [118, 97, 108, 117, 101, 32, 111, 117, 116, 32, 111, 102, 32, 114, 97, 110, 103, 101]) 5 [105, 110, 118, 97, 108, 105, 100, 32, 115, 121, 110, 116, 97, 120]
noncomputable def laidWorld (os : Os) : World :=
 { World.holding Tryz.prog os ⟨#[], #[], []⟩ with heap := laidHeap (World.holding Tryz.prog os ⟨#[], #[], []⟩).heap }
theorem gPow : Tryz.prog.globalNamed "internal/strconv.uint64pow10" = some 7 := by kernel_rfl
theorem gPowType : (Tryz.prog.globals[7]?).map (·.type) = some 291 := by kernel_rfl
theorem cellsPow : Tryz.prog.cellsOf 291 = 20 := by kernel_rfl
theorem cellsU64 : Tryz.prog.cellsOf 178 = 1 := by kernel_rfl
theorem laidMetH_filter {l : List (String × DataW Unit)} {W : World} (h : laidMetH Tryz.prog l W) (n : String) {d : DataW Unit} (hf : (l.filter fun x => x.2.handleName?.isNone).filter (fun x => x.1 == n) = [(n, d)]) : laidMet Tryz.prog [(n, d)] W := by
 have := (laidMetH_iff.1 h).1.filter fun x => x.1 == n
 rw [hf] at this
 exact this
theorem env_e {l : List (String × DataW Unit)} {W : World} (hL : laidMetH Tryz.prog l W) (hsh : W.ShapedOpen Tryz.prog) (h1 : (l.filter fun x => x.2.handleName?.isNone).filter (fun x => x.1 == "internal/strconv.uint64pow10") = [("internal/strconv.uint64pow10", Lib.tabData .u64 Lib.pow10Tab)]) : Env W where
 max := Tryz.laysM143.s1_3 W hsh
 pow := Lib.tabIs_of_head gPow gPowType Tryz.underlying291 Tryz.underlying178 cellsU64 cellsPow (laidMetH_filter hL _ h1)
theorem env_s {l : List (String × DataW Unit)} {W : World} (hL : laidMetH Tryz.prog l W) (hsh : W.ShapedOpen Tryz.prog) (h1 : (l.filter fun x => x.2.handleName?.isNone).filter (fun x => x.1 == "roster/schema.table") = [("roster/schema.table", .agg (tableV.map lineD))]) : EnvS W where
 max := Tryz.laysM143.s1_3 W hsh
 tab := table_of_head (laidMetH_filter hL _ h1)
end Go.Proofs.YtlmfbjhokkpjhaaGreatDoor
namespace Go.Proofs.YtlmfbjhokkpjhaaGreatDoor
open Go
theorem band {a b : Bool} (ha : a = true) (hb : b = true) : (a && b) = true := by rw [ha, hb]; rfl
theorem joined_mk {P : Program} {f : FuncId} {fn : Func} {s : ChangeSpec} {c : OpenClaim}
  (h0 : (c.wf (OpenSpec.ofChange s)) = true)
  (h1 : (laidOutB P) = true)
  (h2 : (mapsRowed P) = true)
  (h3 : (fn.params.all (P.readableRec ·)) = true)
  (h4 : (namedTie P c.named s.vars) = true)
  (h5 : ((c.stops == [])) = true)
  (h6 : ((P.stops == [])) = true)
  (h7 : ((c.knobs == [])) = true)
  (h8 : ((P.stopKnobs == [])) = true)
  (h9 : ((c.inPlace == P.inPlace f)) = true)
  (h10 : ((c.unfollowed == P.unfollowed f)) = true)
  (h11 : ((c.recurses == P.recurses f)) = true)
  (h12 : ((c.named == P.varsNamed f)) = true)
  (h13 : ((c.maps == (fn.params.toList ++ s.plain.varTypes P).any (P.mapsRec ·))) = true)
  (h14 : ((c.ifaces == (fn.params.toList ++ s.plain.varTypes P).any (P.ifacesRec ·))) = true)
  (h15 : ((c.mapsOut == P.mapsAmong fn.resultTypes.toList)) = true)
  (h16 : ((c.loops == (fn.params.toList ++ s.plain.varTypes P).any (P.loopsFrom ·))) = true)
  (h17 : ((c.wideKeys == (fn.params.toList ++ s.plain.varTypes P ++ fn.resultTypes.toList).any (P.wideKeysFrom ·))) = true)
  (h18 : (s.vars.all (P.varReadable ·)) = true)
  (h19 : (fn.resultTypes.all (fun t => P.readableRec t && decide (t < P.types.size))) = true)
  (h20 : ((c.ifacesOut == fn.resultTypes.toList.any (P.ifacesRec ·))) = true)
  (h21 : ((c.loopsOut == fn.resultTypes.toList.any (P.loopsFrom ·))) = true)
  (h22 : ((c.plainKeys == P.plainKeys)) = true)
  (h23 : (c.shortTexts.isNone) = true)
  (h24 : (P.stopsHeard) = true)
  (h25 : (P.mayEnter) = true)
  (h26 : ((c.lifted == P.liftsFinal)) = true)
  (h27 : ((P.make == some c.make)) = true)
  (h28 : ((c.kinds == (if c.domain.isEmpty then [] else fn.params.toList.map fun t => match P.underlying t with | some (.int k) => some k | _ => none))) = true)
  (h29 : ((c.pinned == c.pinnedBy)) = true)
  (h30 : ((c.veiled == (fn.params.toList ++ s.plain.varTypes P ++ fn.resultTypes.toList).any (P.veiledRec ·))) = true)
  (h31 : (c.veiledFits P fn.params.toList (fn.params.toList ++ s.plain.varTypes P ++ fn.resultTypes.toList)) = true) : joinedFacts P f fn s c = true := by
 unfold joinedFacts
 exact band (band (band (band (band (band (band (band (band (band (band (band (band (band (band (band (band (band (band (band (band (band (band (band (band (band (band (band (band (band (band h0 h1) h2) h3) h4) h5) h6) h7) h8) h9) h10) h11) h12) h13) h14) h15) h16) h17) h18) h19) h20) h21) h22) h23) h24) h25) h26) h27) h28) h29) h30) h31
theorem fp1 : laidOutB Tryz.prog = true := by kernel_rfl
theorem fp2 : mapsRowed Tryz.prog = true := by kernel_rfl
theorem fp6 : (Tryz.prog.stops == []) = true := by kernel_rfl
theorem fp8 : (Tryz.prog.stopKnobs == []) = true := by kernel_rfl
theorem fp24 : Tryz.prog.stopsHeard = true := by kernel_rfl
theorem fp25 : Tryz.prog.mayEnter = true := by kernel_rfl
theorem mainT : Tryz.pinned.checked.prog.mainIs = some (true, "e9692e38e8dcf812acdb3deb344909ae8b550673e3e2d3497575032a8025b788".toList) := by kernel_rfl
theorem looksT : true = Tryz.pinned.checked.prog.looks [] := by kernel_rfl
abbrev PAva := ByteArray × ByteArray
abbrev PRdn := List PAva
abbrev PName := List PRdn
abbrev PFault := Int × Nat × Str
def oidN : Nat → Str → Nat → Bool → Nat × Bool
 | 0, _, off, _ => (off, false)
 | f + 1, l, off, one =>
  let d := if l.head? = some 48 then 1 else (l.takeWhile dig).length
  if d = 0 then (off, false)
  else if l[d]? = some 46 then oidN f (l.drop (d + 1)) (off + d + 1) false
  else if one then (off + d, false)
  else (off + d, l[d]? == some 61)
def kindN (l : Str) : Nat × Bool := match l with
 | [] => (0, false)
 | c :: _ => if isLet c then ((l.takeWhile tailC).length, l[(l.takeWhile tailC).length]? == some 61) else oidN (l.length + 1) l 0 true
def hexd (c : UInt8) : Bool := dig c || decide (97 ≤ c.toNat ∧ c.toNat ≤ 102) || decide (65 ≤ c.toNat ∧ c.toNat ≤ 70)
def hexv (c : UInt8) : Nat := if c.toNat ≤ 57 then c.toNat - 48 else if c.toNat ≤ 70 then c.toNat - 55 else c.toNat - 87
def escs : Str := [34, 43, 44, 59, 60, 62, 61, 35, 32, 92]
def bads : Str := [0, 34, 59, 60, 62]
def valR (st : Nat) : Str → Nat → Str → Option Nat → Str × Nat × Option (Int × Nat)
 | [], off, b, bare => (b, off, bare.map fun p => (50, p))
 | c :: l, off, b, bare =>
  if c = 44 ∨ c = 43 then (b, off, bare.map fun p => (50, p))
  else if c = 92 then match l with
   | [] => ([], off, some (11, off))
   | x :: l2 => if escs.contains x then valR st l2 (off + 2) (b ++ [x]) none else match l2 with
    | [] => ([], off, some (11, off))
    | y :: l3 => if hexd x && hexd y then valR st l3 (off + 3) (b ++ [UInt8.ofNat (hexv x * 16 + hexv y)]) none else ([], off, some (11, off))
  else if bads.contains c ∨ (off = st ∧ (c = 32 ∨ c = 35)) then ([], off, some (50, off))
  else valR st l (off + 1) (b ++ [c]) (if c = 32 then some off else none)
def faultAt (s : Str) (code : Int) (p : Nat) : PFault := (code, p, (s.drop p).take 1)
def stuckAt (s : Str) (p : Nat) : PFault := faultAt s (if p < s.length then 50 else 5) p
def baOf (l : Str) : ByteArray := ⟨l.toArray⟩
def parseR (s : Str) : Nat → Nat → PName → PRdn → Except PFault PName
 | 0, _, _, _ => .error (0, 0, [])
 | f + 1, p, done, part =>
  let k := kindN (s.drop p)
  if k.2 = false then .error (stuckAt s (p + k.1))
  else
   let v := valR (p + k.1 + 1) (s.drop (p + k.1 + 1)) (p + k.1 + 1) [] none
   match v.2.2 with
   | some (c, q) => .error (faultAt s c q)
   | none =>
    let part2 := part ++ [(baOf ((s.drop p).take k.1), baOf v.1)]
    if s.length ≤ v.2.1 then .ok (done ++ [part2])
    else if s[v.2.1]? = some 44 then
     if 64 ≤ done.length + 1 then .error (faultAt s 3 v.2.1) else parseR s f (v.2.1 + 1) (done ++ [part2]) []
    else if 64 ≤ done.length ∨ 8 ≤ part2.length then .error (faultAt s 3 v.2.1) else parseR s f (v.2.1 + 1) done part2
def parseV (s : Str) : Except PFault PName :=
 if 65536 < s.length then .error (3, 0, []) else if s = [] then .ok [] else parseR s (s.length + 1) 0 [] []
def wordOk (s : Str) : Bool := (keyL 8 s).2
def typedV (s : Str) : Bool := if s.length ≤ 65536 then wordOk s else kindN (s ++ [61]) == (s.length, true)
def hexC (n : Nat) : UInt8 := if n < 10 then UInt8.ofNat (48 + n) else UInt8.ofNat (87 + n)
def hexB (c : UInt8) : Str := [92, hexC (c.toNat / 16), hexC (c.toNat % 16)]
def chN (l : Str) : Nat := (([1, 2, 3, 4].find? fun n => decide (n ≤ l.length) && Lib.validD (l.take n))).getD 0
def showK : Bool → Str → Nat → Str
 | _, [], _ => []
 | _, c :: l, k + 1 => c :: showK false l k
 | fst, c :: l, 0 =>
  if chN (c :: l) = 0 then hexB c ++ showK false l 0
  else if c.toNat < 32 ∨ c = 127 then hexB c ++ showK false l (chN (c :: l) - 1)
  else if [34, 43, 44, 59, 60, 62, 92].contains c ∨ (c = 32 ∧ (fst = true ∨ l = [])) ∨ (c = 35 ∧ fst = true) then [92, c] ++ showK false l (chN (c :: l) - 1)
  else c :: showK false l (chN (c :: l) - 1)
def showV (v : Str) : Str := showK true v 0
def avaP (a : PAva) : Str := toL a.1 ++ 61 :: showV (toL a.2)
def joinP (c : UInt8) : List Str → Str
 | [] => []
 | [x] => x
 | x :: y :: l => x ++ c :: joinP c (y :: l)
def rdnP (r : PRdn) : Str := joinP 43 (r.map avaP)
def nameP (n : PName) : Str := joinP 44 (n.map rdnP)
def printV (n : PName) : Str × Int :=
 if 64 < n.length ∨ n.any (fun r => decide (8 < r.length)) then ([], 3)
 else if n.any (fun r => r.isEmpty || r.any fun a => !typedV (toL a.1)) then ([], 60)
 else if n.any (fun r => r.any fun a => decide (65536 < a.1.size) || decide (65536 < a.2.size)) ∨ 65536 < (nameP n).length then ([], 3)
 else (nameP n, 0)
end Go.Proofs.YtlmfbjhokkpjhaaGreatDoor
