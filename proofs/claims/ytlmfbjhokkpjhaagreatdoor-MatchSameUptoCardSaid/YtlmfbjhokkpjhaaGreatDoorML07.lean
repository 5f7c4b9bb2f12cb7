/- Part 7 of the walks and plain laws, joined: LaidX, JoinMk, FactX, SchP, SchM, OpenB. -/
import Derived.Test.YtlmfbjhokkpjhaaGreatDoorRows
import Derived.Test.YtlmfbjhokkpjhaaGreatDoorML06
import Derived.Test.YtlmfbjhokkpjhaaGreatDoorML00
import Derived.Test.YtlmfbjhokkpjhaaGreatDoorCards
import Derived.Deep.DeepWitnessRowRef
import Derived.JoinedCond
import Derived.WalkKit
import Derived.SevenTiedAt
import Derived.Below
import Derived.Deep.Slices
import Derived.Deep.Fields
import Derived.WideShapes
import Derived.ChangeArms
import Derived.Lib.Strings
namespace Go.Proofs.YtlmfbjhokkpjhaaGreatDoor
open Go Go.RowKit
def litV : DataW Unit → List Value
 | .lit (.int k n) => [.int k n]
 | .lit (.string l) => [.string ⟨l.toArray⟩]
 | _ => []
def litW : DataW Unit → List Value
 | .lit (.int k n) => [.int k n]
 | .lit (.string l) => [.string ⟨l.toArray⟩]
 | .agg l => l.flatMap litV
 | _ => []
def cellsD : DataW Unit → Array Value
 | .agg l => (l.flatMap litW).toArray
 | _ => #[]
def setC (h : Array Obj) (g : Nat) (cs : Array Value) : Array Obj := h.modify g fun
 | .cells _ t fz => .cells cs t fz
 | o => o
def setD (h : Array Obj) (g : Nat) (d : DataW Unit) : Array Obj := setC h g (cellsD d)
def setE (h : Array Obj) (g : Nat) (text : List UInt8) : Array Obj := (setC h g #[.iface 298 (.pointer (some ⟨h.size, 0, none⟩))]).push (.cells #[.string ⟨text.toArray⟩] 300)
noncomputable def laidHeap (h : Array Obj) : Array Obj :=
 setE (setE (setD (setD (setD (setD (setD (setD (setD (setD h 8 Rows.laid_unicode_utf8_first) 9 Rows.laid_unicode_utf8_acceptRanges)
  7 Rows.laid_internal_strconv_uint64pow10) 10 Rows.laid_math_bits_deBruijn32tab) 11 Rows.laid_math_bits_deBruijn64tab)
  2 Rows.laid_roster_schema_table) 1 Rows.laid_roster_match_sorts) 0 Rows.laid_roster_match_forms)
  6 [118, 97, 108, 117, 101, 32, 111, 117, 116, 32, 111, 102, 32, 114, 97, 110, 103, 101]) 5 [105, 110, 118, 97, 108, 105, 100, 32, 115, 121, 110, 116, 97, 120]
noncomputable def laidWorld (os : Os) : World :=
 { World.holding Tryz.prog os ⟨#[], #[], []⟩ with heap := laidHeap (World.holding Tryz.prog os ⟨#[], #[], []⟩).heap }
theorem gPow : Tryz.prog.globalNamed "internal/strconv.uint64pow10" = some 7 := by kernel_rfl
theorem gPowType : (Tryz.prog.globals[7]?).map (·.type) = some 291 := by kernel_rfl
theorem cellsPow : Tryz.prog.cellsOf 291 = 20 := by kernel_rfl
theorem cellsU64 : Tryz.prog.cellsOf 178 = 1 := by kernel_rfl
theorem gSorts : Tryz.prog.globalNamed "roster/match.sorts" = some 1 := by kernel_rfl
theorem gSortsType : (Tryz.prog.globals[1]?).map (·.type) = some 166 := by kernel_rfl
theorem cellsSorts : Tryz.prog.cellsOf 166 = 21 := by kernel_rfl
theorem gForms : Tryz.prog.globalNamed "roster/match.forms" = some 0 := by kernel_rfl
theorem gFormsType : (Tryz.prog.globals[0]?).map (·.type) = some 108 := by kernel_rfl
theorem cellsForms : Tryz.prog.cellsOf 108 = 9 := by kernel_rfl
theorem laidMetH_filter {l : List (String × DataW Unit)} {W : World} (h : laidMetH Tryz.prog l W) (n : String) {d : DataW Unit} (hf : (l.filter fun x => x.2.handleName?.isNone).filter (fun x => x.1 == n) = [(n, d)]) : laidMet Tryz.prog [(n, d)] W := by
 have := (laidMetH_iff.1 h).1.filter fun x => x.1 == n
 rw [hf] at this
 exact this
theorem env_e {l : List (String × DataW Unit)} {W : World} (hL : laidMetH Tryz.prog l W) (hsh : W.ShapedOpen Tryz.prog) (h1 : (l.filter fun x => x.2.handleName?.isNone).filter (fun x => x.1 == "internal/strconv.uint64pow10") = [("internal/strconv.uint64pow10", Lib.tabData .u64 Lib.pow10Tab)]) : Env W where
 max := Tryz.laysM143.s1_3 W hsh
 pow := Lib.tabIs_of_head gPow gPowType Tryz.underlying291 Tryz.underlying178 cellsU64 cellsPow (laidMetH_filter hL _ h1)
theorem env_s {l : List (String × DataW Unit)} {W : World} (hL : laidMetH Tryz.prog l W) (hsh : W.ShapedOpen Tryz.prog) (h1 : (l.filter fun x => x.2.handleName?.isNone).filter (fun x => x.1 == "roster/schema.table") = [("roster/schema.table", .agg (tableV.map lineD))]) : EnvS W where
 max := Tryz.laysM143.s1_3 W hsh
 tab := table_of_head (laidMetH_filter hL _ h1)
theorem env_m {l : List (String × DataW Unit)} {W : World} (hL : laidMetH Tryz.prog l W) (h1 : (l.filter fun x => x.2.handleName?.isNone).filter (fun x => x.1 == "roster/match.sorts") = [("roster/match.sorts", Lib.tabData .i8 sortsV)])
  (h2 : (l.filter fun x => x.2.handleName?.isNone).filter (fun x => x.1 == "roster/match.forms") = [("roster/match.forms", Lib.tabData .i8 formsV)]) : EnvM W where
 sorts := fun j v hj => by
  have h := Lib.tabIs_of_head gSorts gSortsType Tryz.underlying166 Tryz.underlying26 c1i cellsSorts (laidMetH_filter hL _ h1)
  have hlt := (List.getElem?_eq_some_iff.1 hj).1
  have := h.cell gSorts j hlt
  rw [this, List.getD_eq_getElem?_getD, hj]; rfl
 forms := fun j v hj => by
  have h := Lib.tabIs_of_head gForms gFormsType Tryz.underlying108 Tryz.underlying26 c1i cellsForms (laidMetH_filter hL _ h2)
  have hlt := (List.getElem?_eq_some_iff.1 hj).1
  have := h.cell gForms j hlt
  rw [this, List.getD_eq_getElem?_getD, hj]; rfl
end Go.Proofs.YtlmfbjhokkpjhaaGreatDoor
namespace Go.Proofs.YtlmfbjhokkpjhaaGreatDoor
open Go
theorem band {a b : Bool} (ha : a = true) (hb : b = true) : (a && b) = true := by rw [ha, hb]; rfl
theorem joined_mk {P : Program} {f : FuncId} {fn : Func} {s : ChangeSpec} {c : OpenClaim}
  (h0 : (c.wf (OpenSpec.ofChange s)) = true)
  (h1 : (laidOutB P) = true)
  (h2 : (mapsRowed P) = true)
  (h3 : (fn.params.all (P.readableRec ·)) = true)
  (h4 : (namedTie P c.named s.vars) = true)
  (h5 : ((c.stops == [])) = true)
  (h6 : ((P.stops == [])) = true)
  (h7 : ((c.knobs == [])) = true)
  (h8 : ((P.stopKnobs == [])) = true)
  (h9 : ((c.inPlace == P.inPlace f)) = true)
  (h10 : ((c.unfollowed == P.unfollowed f)) = true)
  (h11 : ((c.recurses == P.recurses f)) = true)
  (h12 : ((c.named == P.varsNamed f)) = true)
  (h13 : ((c.maps == (fn.params.toList ++ s.plain.varTypes P).any (P.mapsRec ·))) = true)
  (h14 : ((c.ifaces == (fn.params.toList ++ s.plain.varTypes P).any (P.ifacesRec ·))) = true)
  (h15 : ((c.mapsOut == P.mapsAmong fn.resultTypes.toList)) = true)
  (h16 : ((c.loops == (fn.params.toList ++ s.plain.varTypes P).any (P.loopsFrom ·))) = true)
  (h17 : ((c.wideKeys == (fn.params.toList ++ s.plain.varTypes P ++ fn.resultTypes.toList).any (P.wideKeysFrom ·))) = true)
  (h18 : (s.vars.all (P.varReadable ·)) = true)
  (h19 : (fn.resultTypes.all (fun t => P.readableRec t && decide (t < P.types.size))) = true)
  (h20 : ((c.ifacesOut == fn.resultTypes.toList.any (P.ifacesRec ·))) = true)
  (h21 : ((c.loopsOut == fn.resultTypes.toList.any (P.loopsFrom ·))) = true)
  (h22 : ((c.plainKeys == P.plainKeys)) = true)
  (h23 : (c.shortTexts.isNone) = true)
  (h24 : (P.stopsHeard) = true)
  (h25 : (P.mayEnter) = true)
  (h26 : ((c.lifted == P.liftsFinal)) = true)
  (h27 : ((P.make == some c.make)) = true)
  (h28 : ((c.kinds == (if c.domain.isEmpty then [] else fn.params.toList.map fun t => match P.underlying t with | some (.int k) => some k | _ => none))) = true)
  (h29 : ((c.pinned == c.pinnedBy)) = true)
  (h30 : ((c.veiled == (fn.params.toList ++ s.plain.varTypes P ++ fn.resultTypes.toList).any (P.veiledRec ·))) = true)
  (h31 : (c.veiledFits P fn.params.toList (fn.params.toList ++ s.plain.varTypes P ++ fn.resultTypes.toList)) = true) : joinedFacts P f fn s c = true := by
 unfold joinedFacts
 exact band (band (band (band (band (band (band (band (band (band (band (band (band (band (band (band (band (band (band (band (band (band (band (band (band (band (band (band (band (band (band h0 h1) h2) h3) h4) h5) h6) h7) h8) h9) h10) h11) h12) h13) h14) h15) h16) h17) h18) h19) h20) h21) h22) h23) h24) h25) h26) h27) h28) h29) h30) h31
end Go.Proofs.YtlmfbjhokkpjhaaGreatDoor
namespace Go.Proofs.YtlmfbjhokkpjhaaGreatDoor
open Go
theorem fp1 : laidOutB Tryz.prog = true := by kernel_rfl
theorem fp2 : mapsRowed Tryz.prog = true := by kernel_rfl
theorem fp6 : (Tryz.prog.stops == []) = true := by kernel_rfl
theorem fp8 : (Tryz.prog.stopKnobs == []) = true := by kernel_rfl
theorem fp24 : Tryz.prog.stopsHeard = true := by kernel_rfl
theorem fp25 : Tryz.prog.mayEnter = true := by kernel_rfl
theorem mainT : Tryz.pinned.checked.prog.mainIs = some (true, "e9692e38e8dcf812acdb3deb344909ae8b550673e3e2d3497575032a8025b788".toList) := by kernel_rfl
theorem looksT : true = Tryz.pinned.checked.prog.looks [] := by kernel_rfl
end Go.Proofs.YtlmfbjhokkpjhaaGreatDoor
namespace Go.Proofs.YtlmfbjhokkpjhaaGreatDoor
open Go
def addKeys (f : Str → Option Nat) (place : Nat) (ks : List Str) (k : Str) : Option Nat :=
 if (f k).isSome then f k else if ks.contains k then some place else none
theorem placeOf_lt {L : List (List Str)} {k : Str} {i : Nat} (h : placeOf L k = some i) : i < L.length := by
 unfold placeOf at h
 have := List.findIdx?_eq_some_iff_getElem.1 h
 exact this.1
theorem placeOf_snoc (L : List (List Str)) (ks : List Str) (k : Str) : placeOf (L ++ [ks]) k = addKeys (placeOf L) L.length ks k := by
 unfold addKeys placeOf
 rw [List.findIdx?_append]
 cases h : L.findIdx? (·.contains k) with
 | some i => simp
 | none =>
  simp only [Option.none_or, List.findIdx?_cons, List.findIdx?_nil, Option.isSome_none, Bool.false_eq_true, if_false]
  cases ks.contains k <;> simp
theorem addKeys_nil (f : Str → Option Nat) (place : Nat) : addKeys f place [] = f := by
 funext k; unfold addKeys; cases h : f k <;> simp
theorem addKeys_snoc (f : Str → Option Nat) (place : Nat) (ks : List Str) (k : Str) : addKeys f place (ks ++ [k]) = addKeys (addKeys f place ks) place [k] := by
 funext x
 unfold addKeys
 cases h : f x with
 | some i => simp
 | none =>
  simp only [Option.isSome_none, Bool.false_eq_true, if_false]
  by_cases hc : ks.contains x
  ·have : x ∈ ks := by simpa using hc
   simp [this]
  ·have : x ∉ ks := by simpa using hc
   simp [this]
theorem addKeys_one_some {f : Str → Option Nat} {place : Nat} {k : Str} (h : (f k).isSome = true) : addKeys f place [k] = f := by
 funext x; unfold addKeys
 by_cases hx : (f x).isSome
 ·simp [hx]
 ·have : x ≠ k := fun e => by subst e; exact hx h
  have h2 : f x = none := by simpa using hx
  simp [h2, this]
theorem addKeys_one_none {f : Str → Option Nat} {place : Nat} {k : Str} (h : (f k).isSome = false) : addKeys f place [k] = fun x => if x = k then some place else f x := by
 funext x; unfold addKeys
 by_cases e : x = k
 ·subst e; have h2 : f x = none := by simpa using h
  simp [h2]
 ·cases hx : f x <;> simp [e]
theorem nodup_le : ∀ (n : Nat) (l : List Nat), l.Nodup → (∀ a ∈ l, a < n) → l.length ≤ n
 | 0, l, _, h => by cases l with
  | nil => simp
  | cons a l => have := h a (List.mem_cons_self ..); omega
 | n + 1, l, hn, h => by
  have h1 := nodup_le n (l.filter (· != n)) (hn.filter _) (fun a ha => by
   have := List.mem_filter.1 ha
   have h2 := h a this.1
   have h3 : a ≠ n := by simpa using this.2
   omega)
  have h2 : l.length ≤ (l.filter (· != n)).length + 1 := by
   clear h1 h
   induction l with
   | nil => simp
   | cons a l ih =>
    have hn' := List.nodup_cons.1 hn
    by_cases e : a = n
    ·subst e
     have : l.filter (· != a) = l := List.filter_eq_self.2 fun b hb => by
      have : b ≠ a := fun e => hn'.1 (e ▸ hb)
      simpa using this
     simp [this]
    ·have := ih hn'.2
     simp [e]; omega
  omega
theorem upT_lt {S : PSchema} {t u : Nat} (h : upT S t = some u) : u < S.types.length := by
 unfold upT typeAt at h
 split at h
 ·cases h
 ·have := placeOf_lt h; simpa [tK] using this
structure OnChain (S : PSchema) (t0 : Nat) (acc : List Nat) (t : Nat) : Prop where
 eq : ∃ f, chainOf S t0 = chainL S f acc t ∧ f + acc.length = S.types.length + 1
 nodup : acc.Nodup
 lt : ∀ a ∈ acc, a < S.types.length
 tlt : t < S.types.length
 head : acc = [] → t = t0
theorem OnChain.start {S : PSchema} {t : Nat} (h : t < S.types.length) : OnChain S t [] t :=
 ⟨⟨_, rfl, by simp⟩, List.nodup_nil, by simp, h, fun _ => rfl⟩
theorem OnChain.len {S : PSchema} {t0 t : Nat} {acc : List Nat} (h : OnChain S t0 acc t) : acc.length ≤ S.types.length := nodup_le _ _ h.nodup h.lt
theorem OnChain.twice {S : PSchema} {t0 t : Nat} {acc : List Nat} (h : OnChain S t0 acc t) (hc : acc.contains t = true) : chainOf S t0 = (acc, false) := by
 obtain ⟨f, he, hf⟩ := h.eq
 have := h.len
 obtain ⟨g, rfl⟩ : ∃ g, f = g + 1 := ⟨f - 1, by omega⟩
 rw [he]; unfold chainL; rw [if_pos hc]
theorem OnChain.last {S : PSchema} {t0 t : Nat} {acc : List Nat} (h : OnChain S t0 acc t) (hc : acc.contains t = false) (hu : upT S t = none) : chainOf S t0 = (acc ++ [t], true) := by
 obtain ⟨f, he, hf⟩ := h.eq
 have := h.len
 obtain ⟨g, rfl⟩ : ∃ g, f = g + 1 := ⟨f - 1, by omega⟩
 rw [he]; unfold chainL; rw [if_neg (by rw [hc]; simp), hu]
theorem OnChain.next {S : PSchema} {t0 t u : Nat} {acc : List Nat} (h : OnChain S t0 acc t) (hc : acc.contains t = false) (hu : upT S t = some u) : OnChain S t0 (acc ++ [t]) u := by
 obtain ⟨f, he, hf⟩ := h.eq
 have := h.len
 obtain ⟨g, rfl⟩ : ∃ g, f = g + 1 := ⟨f - 1, by omega⟩
 refine ⟨⟨g, ?_, by simp; omega⟩, ?_, ?_, upT_lt hu, fun e => by simp at e⟩
 ·rw [he]; show (if acc.contains t = true then (acc, false) else match upT S t with | none => (acc ++ [t], true) | some u => chainL S g (acc ++ [t]) u) = _
  rw [if_neg (by rw [hc]; simp), hu]
 ·have : t ∉ acc := by simpa using hc
  rw [List.nodup_append]
  exact ⟨h.nodup, List.nodup_cons.2 ⟨by simp, List.nodup_nil⟩, fun a ha b hb e => by simp at hb; subst hb; subst e; exact this ha⟩
 ·intro a ha
  rcases List.mem_append.1 ha with ha | ha
  ·exact h.lt a ha
  ·simp at ha; subst ha; exact h.tlt
theorem chainL_facts (S : PSchema) (n : Nat) (hn : n = S.types.length) : ∀ (f : Nat) (acc : List Nat) (t : Nat), acc.Nodup → (∀ a ∈ acc, a < n) → t < n →
  (chainL S f acc t).1.Nodup ∧ (∀ a ∈ (chainL S f acc t).1, a < n) ∧ (∃ l, (chainL S f acc t).1 = acc ++ l)
 | 0, acc, t, h1, h2, _ => ⟨h1, h2, [], by simp [chainL]⟩
 | f + 1, acc, t, h1, h2, h3 => by
  unfold chainL
  by_cases hc : acc.contains t
  ·rw [if_pos hc]; exact ⟨h1, h2, [], by simp⟩
  ·rw [if_neg hc]
   have hm : t ∉ acc := by simpa using hc
   have h1' : (acc ++ [t]).Nodup := by
    rw [List.nodup_append]
    exact ⟨h1, List.nodup_cons.2 ⟨by simp, List.nodup_nil⟩, fun a ha b hb e => by simp at hb; subst hb; subst e; exact hm ha⟩
   have h2' : ∀ a ∈ acc ++ [t], a < n := fun a ha => by
    rcases List.mem_append.1 ha with ha | ha
    ·exact h2 a ha
    ·simp at ha; subst ha; exact h3
   cases hu : upT S t with
   | none => exact ⟨h1', h2', [t], rfl⟩
   | some u =>
    obtain ⟨a, b, l, hl⟩ := chainL_facts S n hn f (acc ++ [t]) u h1' h2' (by rw [hn]; exact upT_lt hu)
    exact ⟨a, b, t :: l, by rw [hl]; simp⟩
theorem chainOf_facts (S : PSchema) {t : Nat} (h : t < S.types.length) : (chainOf S t).1.Nodup ∧ (∀ a ∈ (chainOf S t).1, a < S.types.length) ∧ ∃ l, (chainOf S t).1 = t :: l := by
 obtain ⟨a, b, _⟩ := chainL_facts S _ rfl (S.types.length + 1) [] t List.nodup_nil (by simp) h
 refine ⟨a, b, ?_⟩
 unfold chainOf chainL
 simp only [List.contains_nil, Bool.false_eq_true, if_false]
 cases hu : upT S t with
 | none => exact ⟨[], by simp⟩
 | some u =>
  obtain ⟨_, _, l, hl⟩ := chainL_facts S _ rfl S.types.length ([] ++ [t]) u (by simp) (by simpa using h) (upT_lt hu)
  exact ⟨l, by rw [hl]; simp⟩
def offs (s : List Bool) : Nat := s.count false
theorem offs_set {s : List Bool} {p : Nat} (hp : p < s.length) (h : s.getD p false = false) : offs (s.set p true) + 1 = offs s := by
 unfold offs
 induction s generalizing p with
 | nil => simp at hp
 | cons b s ih =>
  cases p with
  | zero => simp at h; subst h; simp
  | succ p =>
   have := ih (p := p) (by simpa using hp) (by simpa using h)
   simp [List.count_cons] at this ⊢; omega
def OnMore (s s' : List Bool) : Prop := s'.length = s.length ∧ ∀ i, s.getD i false = true → s'.getD i false = true
theorem OnMore.refl (s : List Bool) : OnMore s s := ⟨rfl, fun _ h => h⟩
theorem OnMore.trans {a b c : List Bool} (h : OnMore a b) (k : OnMore b c) : OnMore a c := ⟨k.1.trans h.1, fun i hi => k.2 i (h.2 i hi)⟩
theorem OnMore.set (s : List Bool) (p : Nat) : OnMore s (s.set p true) := ⟨by simp, fun i hi => by
 by_cases e : p = i
 ·subst e
  have : p < s.length := by
   rcases Nat.lt_or_ge p s.length with h | h
   ·exact h
   ·simp [List.getD, List.getElem?_eq_none h] at hi
  simp [List.getD, this]
 ·simp [List.getD, List.getElem?_set_ne e] at hi ⊢; exact hi⟩
theorem OnMore.offs {s s' : List Bool} (h : OnMore s s') : offs s' ≤ offs s := by
 obtain ⟨hl, hm⟩ := h
 unfold Proofs.YtlmfbjhokkpjhaaGreatDoor.offs
 induction s generalizing s' with
 | nil => cases s' with
  | nil => simp
  | cons => simp at hl
 | cons b s ih =>
  cases s' with
  | nil => simp at hl
  | cons b' s' =>
   have h1 := ih (s' := s') (by simpa using hl) (fun i hi => by have := hm (i + 1) (by simpa using hi); simpa using this)
   have h2 := hm 0
   cases b <;> cases b' <;> simp at h2 ⊢ <;> omega
theorem dfs_more (S : PSchema) : ∀ (f : Nat) (s : List Bool) (c : Nat), OnMore s (dfs S f s c)
 | 0, s, c => OnMore.refl s
 | f + 1, s, c => by
  unfold dfs
  generalize supsOf S c = l
  induction l generalizing s with
  | nil => exact OnMore.refl s
  | cons p l ih =>
   rw [List.foldl_cons]
   refine OnMore.trans ?_ (ih _)
   cases p with
   | none => exact OnMore.refl s
   | some p =>
    dsimp only
    split
    ·exact OnMore.refl s
    ·exact (OnMore.set s p).trans (dfs_more S f _ p)
end Go.Proofs.YtlmfbjhokkpjhaaGreatDoor
namespace Go.Proofs.YtlmfbjhokkpjhaaGreatDoor
open Go Go.RowKit
theorem block_add (a : Addr) (i : Nat) : (a.add i).block = a.block := by unfold Addr.add; split <;> rfl
structure Lies (B : Nat) (a : Option Addr) (n c : Nat) : Prop where
 le : n ≤ c
 cap : c ≤ maxLen
 nil : a = none → c = 0
 lt : ∀ ad, a = some ad → ad.block < B
 spot : ∀ ad, a = some ad → 0 < n → ad.spot = none
theorem Lies.ptr {B : Nat} {a : Option Addr} {n c : Nat} (h : Lies B a n c) (hn : 0 < n) : ∃ b o, a = some ⟨b, o, none⟩ ∧ b < B := by
 cases a with
 | none => have h1 := h.nil rfl; have h2 := h.le; omega
 | some ad =>
  obtain ⟨b, o, sp⟩ := ad
  have := h.spot _ rfl hn
  simp only at this; subst this
  exact ⟨b, o, rfl, h.lt _ rfl⟩
theorem Lies.mono {B B' : Nat} {a : Option Addr} {n c : Nat} (h : Lies B a n c) (hb : B ≤ B') : Lies B' a n c := ⟨h.le, h.cap, h.nil, fun ad e => Nat.lt_of_lt_of_le (h.lt ad e) hb, h.spot⟩
theorem Lies.len0 {B : Nat} {a : Option Addr} {n c : Nat} (h : Lies B a n c) : a = none → n = 0 ∧ c = 0 := fun e => ⟨by have := h.nil e; have := h.le; omega, h.nil e⟩
structure LiesW (B : Nat) (a : Option Addr) (n c : Nat) : Prop where
 le : n ≤ c
 cap : c ≤ maxLen
 nil : a = none → c = 0
 lt : ∀ ad, a = some ad → 0 < n → ad.block < B
 spot : ∀ ad, a = some ad → 0 < n → ad.spot = none
theorem LiesW.ptr {B : Nat} {a : Option Addr} {n c : Nat} (h : LiesW B a n c) (hn : 0 < n) : ∃ b o, a = some ⟨b, o, none⟩ ∧ b < B := by
 cases a with
 | none => have h1 := h.nil rfl; have h2 := h.le; omega
 | some ad =>
  obtain ⟨b, o, sp⟩ := ad
  have := h.spot _ rfl hn
  simp only at this; subst this
  exact ⟨b, o, rfl, h.lt _ rfl hn⟩
theorem LiesW.mono {B B' : Nat} {a : Option Addr} {n c : Nat} (h : LiesW B a n c) (hb : B ≤ B') : LiesW B' a n c := ⟨h.le, h.cap, h.nil, fun ad e hn => Nat.lt_of_lt_of_le (h.lt ad e hn) hb, h.spot⟩
theorem LiesW.len0 {B : Nat} {a : Option Addr} {n c : Nat} (h : LiesW B a n c) : a = none → n = 0 ∧ c = 0 := fun e => ⟨by have := h.nil e; have := h.le; omega, h.nil e⟩
structure Texts (B : Nat) (w : World) (a : Option Addr) (n c : Nat) (l : List ByteArray) : Prop where
 len : n = l.length
 lies : LiesW B a n c
 small : n ≤ 4294967280
 cell : ∀ b o, a = some ⟨b, o, none⟩ → ∀ i s, l[i]? = some s → w.cell? ⟨b, o + i, none⟩ = some (.string s)
 size : ∀ s ∈ l, s.size ≤ 4294967280
theorem Texts.keep {B B' : Nat} {w w' : World} {a : Option Addr} {n c : Nat} {l : List ByteArray} (h : Texts B w a n c l) (k : Below B w w') (hb : B ≤ B') : Texts B' w' a n c l :=
 ⟨h.len, h.lies.mono hb, h.small, fun b o e i s hs => by rw [k.cell (p := ⟨b, o + i, none⟩) (h.lies.lt ⟨b, o, none⟩ e (by have h1 := h.len; have h2 := (List.getElem?_eq_some_iff.1 hs).1; omega))]; exact h.cell b o e i s hs, h.size⟩
structure TypeAt (B : Nat) (w : World) (b o : Nat) (x : PType) : Prop where
 c0 : w.cell? ⟨b, o, none⟩ = some (.string x.oid)
 c1 : ∃ a n c, w.cell? ⟨b, o + 1, none⟩ = some (.slice a n c) ∧ Texts B w a n c x.names
 c2 : w.cell? ⟨b, o + 2, none⟩ = some (.string x.sup)
 c3 : w.cell? ⟨b, o + 3, none⟩ = some (.int .i8 x.syn)
 c4 : w.cell? ⟨b, o + 4, none⟩ = some (.int .i8 x.eq)
 c5 : w.cell? ⟨b, o + 5, none⟩ = some (.int .i8 x.ord)
 c6 : w.cell? ⟨b, o + 6, none⟩ = some (.int .i8 x.part)
 c7 : w.cell? ⟨b, o + 7, none⟩ = some (.bool x.single)
 c8 : w.cell? ⟨b, o + 8, none⟩ = some (.int .u8 x.index)
structure TypeOk (x : PType) : Prop where
 oid : x.oid.size ≤ 4294967280
 sup : x.sup.size ≤ 4294967280
 syn : -128 ≤ x.syn ∧ x.syn ≤ 127
 eq : -128 ≤ x.eq ∧ x.eq ≤ 127
 ord : -128 ≤ x.ord ∧ x.ord ≤ 127
 part : -128 ≤ x.part ∧ x.part ≤ 127
 index : 0 ≤ x.index ∧ x.index ≤ 255
theorem TypeAt.keep {B B' : Nat} {w w' : World} {b o : Nat} {x : PType} (h : TypeAt B w b o x) (hl : b < B) (k : Below B w w') (hb : B ≤ B') : TypeAt B' w' b o x where
 c0 := by rw [k.cell (by exact hl)]; exact h.c0
 c1 := by obtain ⟨a, n, c, h1, h2⟩ := h.c1; exact ⟨a, n, c, by rw [k.cell (by exact hl)]; exact h1, h2.keep k hb⟩
 c2 := by rw [k.cell (by exact hl)]; exact h.c2
 c3 := by rw [k.cell (by exact hl)]; exact h.c3
 c4 := by rw [k.cell (by exact hl)]; exact h.c4
 c5 := by rw [k.cell (by exact hl)]; exact h.c5
 c6 := by rw [k.cell (by exact hl)]; exact h.c6
 c7 := by rw [k.cell (by exact hl)]; exact h.c7
 c8 := by rw [k.cell (by exact hl)]; exact h.c8
structure Types (B : Nat) (w : World) (a : Option Addr) (n c : Nat) (l : List PType) : Prop where
 len : n = l.length
 lies : Lies B a n c
 cell : ∀ b o, a = some ⟨b, o, none⟩ → ∀ i x, l[i]? = some x → TypeAt B w b (o + i * 9) x
 ok : ∀ x ∈ l, TypeOk x
 top : ∀ ad, a = some ad → ad.spot = none
theorem Types.keep {B B' : Nat} {w w' : World} {a : Option Addr} {n c : Nat} {l : List PType} (h : Types B w a n c l) (k : Below B w w') (hb : B ≤ B') : Types B' w' a n c l :=
 ⟨h.len, h.lies.mono hb, fun b o e i x hx => (h.cell b o e i x hx).keep (h.lies.lt ⟨b, o, none⟩ e) k hb, h.ok, h.top⟩
structure ClassAt (B : Nat) (w : World) (b o : Nat) (x : PClass) : Prop where
 c0 : w.cell? ⟨b, o, none⟩ = some (.string x.oid)
 c1 : ∃ a n c, w.cell? ⟨b, o + 1, none⟩ = some (.slice a n c) ∧ Texts B w a n c x.names
 c2 : ∃ a n c, w.cell? ⟨b, o + 2, none⟩ = some (.slice a n c) ∧ Texts B w a n c x.sups
 c3 : w.cell? ⟨b, o + 3, none⟩ = some (.int .i8 x.kind)
 c4 : ∃ a n c, w.cell? ⟨b, o + 4, none⟩ = some (.slice a n c) ∧ Texts B w a n c x.must
 c5 : ∃ a n c, w.cell? ⟨b, o + 5, none⟩ = some (.slice a n c) ∧ Texts B w a n c x.may
structure ClassOk (x : PClass) : Prop where
 oid : x.oid.size ≤ 4294967280
 kind : -128 ≤ x.kind ∧ x.kind ≤ 127
theorem ClassAt.keep {B B' : Nat} {w w' : World} {b o : Nat} {x : PClass} (h : ClassAt B w b o x) (hl : b < B) (k : Below B w w') (hb : B ≤ B') : ClassAt B' w' b o x where
 c0 := by rw [k.cell (by exact hl)]; exact h.c0
 c1 := by obtain ⟨a, n, c, h1, h2⟩ := h.c1; exact ⟨a, n, c, by rw [k.cell (by exact hl)]; exact h1, h2.keep k hb⟩
 c2 := by obtain ⟨a, n, c, h1, h2⟩ := h.c2; exact ⟨a, n, c, by rw [k.cell (by exact hl)]; exact h1, h2.keep k hb⟩
 c3 := by rw [k.cell (by exact hl)]; exact h.c3
 c4 := by obtain ⟨a, n, c, h1, h2⟩ := h.c4; exact ⟨a, n, c, by rw [k.cell (by exact hl)]; exact h1, h2.keep k hb⟩
 c5 := by obtain ⟨a, n, c, h1, h2⟩ := h.c5; exact ⟨a, n, c, by rw [k.cell (by exact hl)]; exact h1, h2.keep k hb⟩
structure Classes (B : Nat) (w : World) (a : Option Addr) (n c : Nat) (l : List PClass) : Prop where
 len : n = l.length
 lies : Lies B a n c
 cell : ∀ b o, a = some ⟨b, o, none⟩ → ∀ i x, l[i]? = some x → ClassAt B w b (o + i * 6) x
 ok : ∀ x ∈ l, ClassOk x
 top : ∀ ad, a = some ad → ad.spot = none
theorem Classes.keep {B B' : Nat} {w w' : World} {a : Option Addr} {n c : Nat} {l : List PClass} (h : Classes B w a n c l) (k : Below B w w') (hb : B ≤ B') : Classes B' w' a n c l :=
 ⟨h.len, h.lies.mono hb, fun b o e i x hx => (h.cell b o e i x hx).keep (h.lies.lt ⟨b, o, none⟩ e) k hb, h.ok, h.top⟩
end Go.Proofs.YtlmfbjhokkpjhaaGreatDoor
namespace Go.Proofs.YtlmfbjhokkpjhaaGreatDoor
open Go Go.RowKit Go.ChangeShapes Go.WideShapes Go.Deep
abbrev bulk {H : Type} (d : DataW H) : Nat := Rows.uptoBulk d
theorem bulk_pos {H : Type} (d : DataW H) : 1 ≤ bulk d := by
 unfold bulk
 cases d with
 | lit l => cases l <;> simp [Rows.uptoBulk]
 | _ => simp [Rows.uptoBulk]
theorem bulk_mem {H : Type} {l : List (DataW H)} {d : DataW H} (h : d ∈ l) : bulk d ≤ Rows.uptoBulkAll l := by
 induction l with
 | nil => cases h
 | cons x l ih =>
  simp only [Rows.uptoBulkAll]
  rcases List.mem_cons.1 h with rfl | h
  ·exact Nat.le_add_right _ _
  ·have := ih h; omega
theorem bulk_len {H : Type} (l : List (DataW H)) : l.length ≤ Rows.uptoBulkAll l := by
 induction l with
 | nil => exact Zr _
 | cons x l ih => simp only [Rows.uptoBulkAll, List.length_cons]; have := bulk_pos x; unfold bulk at this; omega
section
variable {H : Type} {enc : TypeId × Value → H} {P : Program} {w : World} {base : Nat} {held : Bool}
theorem open_sl {t e : TypeId} {m N : Nat} {v : Value} {x : DataW H × List MemPlace} (ht : P.underlying t = some (.slice e)) (hpos : 0 < P.cellsOf e) (h : DataW.trod enc P w base (fun _ => true) held m t [v] = some x) (hb : bulk x.1 ≤ N) :
  ∃ a n c, v = .slice a n c ∧ LiesW w.heap.size a n c ∧ n ≤ N ∧ ∀ b o, a = some ⟨b, o, none⟩ → ∀ i, i < n →
   ∃ cs k y, cs.length = P.cellsOf e ∧ (∀ j, j < P.cellsOf e → w.cell? ⟨b, o + i * P.cellsOf e + j, none⟩ = cs[j]?) ∧ DataW.trod enc P w base (fun _ => true) held k e cs = some y ∧ bulk y.1 ≤ N := by
 rcases open_slice ht h with ⟨hcs, _⟩ | ⟨a, len, cap, mm, n, D, Pl, hcs, _, hl, hm, hmm, hx, hi⟩
 ·simp at hcs
  exact ⟨none, 0, 0, hcs, ⟨Zr _, Nat.zero_le _, fun _ => rfl, (fun ad h _ => by cases h), (fun ad h _ => by cases h)⟩, Nat.zero_le _, fun b o h => by cases h⟩
 ·have hmc : mm = cap := by simpa using hmm
  simp at hcs
  have hN : bulk (DataW.slice ((List.range len).map D) ((List.range (mm - len)).map fun j => D (len + j))) ≤ N := by rw [hx] at hb; exact hb
  unfold bulk at hN
  simp only [Rows.uptoBulk] at hN
  have key : ∀ i, i < len → ∃ cs', cs'.length = P.cellsOf e ∧ (∀ j, j < P.cellsOf e → w.cell? ((a.add (i * P.cellsOf e)).add j) = cs'[j]?) ∧ ∃ k y, DataW.trod enc P w base (fun _ => true) held k e cs' = some y ∧ bulk y.1 ≤ N := fun i hil => by
   obtain ⟨cs', h1, h2⟩ := hi i (by omega)
   obtain ⟨_, h3, h4⟩ := World.cells?_some h1
   refine ⟨cs', h3, h4, n, _, h2, ?_⟩
   have h5 := bulk_mem (l := (List.range len).map D) (d := D i) (List.mem_map.2 ⟨i, List.mem_range.2 hil, rfl⟩)
   show bulk (D i) ≤ N
   omega
  have hln : len ≤ N := by have := bulk_len ((List.range len).map D); simp at this; omega
  have hfst : ∀ (h0 : 0 < len), a.spot = none ∧ a.block < w.heap.size := fun h0 => by
   obtain ⟨cs', h1, h2, _⟩ := key 0 h0
   have h3 := h2 0 hpos
   rw [List.getElem?_eq_getElem (by omega)] at h3
   refine ⟨?_, ?_⟩
   ·have := World.cell?_spot h3
    simpa [Addr.add] using this
   ·have := Zb w _ h3
    rwa [block_add, block_add] at this
  refine ⟨some a, len, cap, hcs, ⟨hl, hm, (fun h => by cases h), fun ad h h0 => by cases h; exact (hfst h0).2, fun ad h h0 => by cases h; exact (hfst h0).1⟩, hln, ?_⟩
  intro b o hab i hil
  cases hab
  obtain ⟨cs', h1, h2, k, y, h3, h4⟩ := key i hil
  refine ⟨cs', k, y, h1, fun j hj => ?_, h3, h4⟩
  have h5 := h2 j hj
  rwa [Addr.add_lit, Addr.add_lit] at h5
theorem open_field {e : TypeId} {fs : Array Field} {m : Nat} {cs : List Value} {x : DataW H × List MemPlace} (he : P.underlying e = some (.struct fs)) (hone : oneCellFields P fs = true) (hC : P.cellsOf e = fs.size) (h : DataW.trod enc P w base (fun _ => true) held m e cs = some x) :
  cs.length = fs.size ∧ ∀ (j : Nat) (f : Field), fs[j]? = some f → ∃ v k y, cs[j]? = some v ∧ DataW.trod enc P w base (fun _ => true) held k f.type [v] = some y ∧ bulk y.1 ≤ bulk x.1 := by
 obtain ⟨xs, n, _, hx, hl, hlen, hff⟩ := DataW.trod_struct he h
 rw [hC] at hl
 refine ⟨hl, fun j f hj => ?_⟩
 have hjl : j < fs.size := (Array.getElem?_eq_some_iff.1 hj).1
 obtain ⟨ho, hk⟩ := hone_of hone j f hj
 have h5 := hff j f hj
 rw [ho, hk] at h5
 have h6 : (cs.drop j).take 1 = [cs[j]'(by omega)] := by
  rw [List.drop_eq_getElem_cons (by omega)]
  rfl
 rw [h6, List.getElem?_eq_getElem (by omega)] at h5
 refine ⟨cs[j]'(by omega), n, xs[j]'(by omega), List.getElem?_eq_getElem (by omega), h5, ?_⟩
 rw [hx]
 have := bulk_mem (l := xs.map (·.1)) (d := (xs[j]'(by omega)).1) (List.mem_map.2 ⟨_, List.getElem_mem _, rfl⟩)
 show bulk _ ≤ Rows.uptoBulk (DataW.agg _)
 simp only [Rows.uptoBulk]
 omega
theorem open_str {t : TypeId} {m : Nat} {v : Value} {x : DataW H × List MemPlace} (ht : P.underlying t = some .string) (h : DataW.trod enc P w base (fun _ => true) held m t [v] = some x) : ∃ s : ByteArray, v = .string s ∧ s.size ≤ bulk x.1 := by
 obtain ⟨s, h1, h2, _⟩ := DataW.trod_string ht h
 refine ⟨s, by simpa using h1, ?_⟩
 rw [h2]
 show s.size ≤ Rows.uptoBulk (DataW.lit (.string s.data.toList))
 simp only [Rows.uptoBulk]
 have := Lib.size_eq s
 omega
theorem open_i {k : IntKind} {t : TypeId} {m : Nat} {v : Value} {x : DataW H × List MemPlace} (ht : P.underlying t = some (.int k)) (h : DataW.trod enc P w base (fun _ => true) held m t [v] = some x) : ∃ n : Int, v = .int k n ∧ (Lit.int k n).wf = true := by
 obtain ⟨s, h1, _, h3⟩ := DataW.trod_int ht h
 exact ⟨s, by simpa using h1, h3⟩
theorem open_b {t : TypeId} {m : Nat} {v : Value} {x : DataW H × List MemPlace} (ht : P.underlying t = some .bool) (h : DataW.trod enc P w base (fun _ => true) held m t [v] = some x) : ∃ b : Bool, v = .bool b := by
 obtain ⟨s, h1, _⟩ := DataW.trod_bool ht h
 exact ⟨s, by simpa using h1⟩
theorem list_of {α : Type} {n : Nat} {p : Nat → α → Prop} (h : ∀ i, i < n → ∃ x, p i x) : ∃ l : List α, l.length = n ∧ ∀ i x, l[i]? = some x → p i x := by
 classical
 by_cases h0 : n = 0
 ·subst h0; exact ⟨[], rfl, fun i x hx => by simp at hx⟩
 ·haveI : Inhabited α := ⟨Classical.choose (h 0 (by omega))⟩
  obtain ⟨f, hf⟩ := choose_lt h
  refine ⟨(List.range n).map f, by simp, fun i x hx => ?_⟩
  rw [List.getElem?_map] at hx
  obtain ⟨j, hj, rfl⟩ := Option.map_eq_some_iff.1 hx
  obtain ⟨h1, h2⟩ := List.getElem?_eq_some_iff.1 hj
  simp at h1 h2
  subst h2
  exact hf _ h1
theorem open_texts {t e : TypeId} {m N : Nat} {v : Value} {x : DataW H × List MemPlace} (ht : P.underlying t = some (.slice e)) (he : P.underlying e = some .string) (hc : P.cellsOf e = 1) (h : DataW.trod enc P w base (fun _ => true) held m t [v] = some x) (hb : bulk x.1 ≤ N) (hN : N ≤ 4294967280) :
  ∃ a n c l, v = .slice a n c ∧ Texts w.heap.size w a n c l ∧ n ≤ N ∧ ∀ s ∈ l, s.size ≤ N := by
 obtain ⟨a, n, c, rfl, hl, hn, hi⟩ := open_sl ht (by omega) h hb
 by_cases h0 : n = 0
 ·subst h0
  exact ⟨a, 0, c, [], rfl, ⟨rfl, hl, Nat.zero_le _, (fun b o _ i s hs => by simp at hs), (fun s h => by cases h)⟩, Nat.zero_le _, fun s h => by cases h⟩
 ·obtain ⟨b, o, rfl, hbl⟩ := hl.ptr (by omega)
  obtain ⟨l, hln, hll⟩ := list_of (n := n) (p := fun i (s : ByteArray) => w.cell? ⟨b, o + i, none⟩ = some (.string s) ∧ s.size ≤ N) fun i hil => by
   obtain ⟨cs, k, y, h1, h2, h3, h4⟩ := hi b o rfl i hil
   rw [hc] at h1 h2
   match cs, h1 with
   | [u], _ =>
    obtain ⟨s, rfl, h5⟩ := open_str he h3
    have h6 := h2 0 (by omega)
    rw [Nat.mul_one, Nat.add_zero] at h6
    exact ⟨s, h6, by omega⟩
  have hsz : ∀ s ∈ l, s.size ≤ N := fun s hs => by
   obtain ⟨i, hi2, rfl⟩ := List.getElem_of_mem hs
   exact (hll i _ (List.getElem?_eq_getElem hi2)).2
  exact ⟨_, n, c, l, rfl, ⟨hln.symm, hl, by omega, fun b2 o2 e2 i s hs => by cases e2; exact (hll i s hs).1, fun s hs => by have := hsz s hs; omega⟩, hn, hsz⟩
end
end Go.Proofs.YtlmfbjhokkpjhaaGreatDoor
