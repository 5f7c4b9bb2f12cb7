/- Part 22 of the walks and plain laws, joined: Plain6, NameK, SortK, PrintV, NameVQ. -/
import Derived.Test.YtlmfbjhokkpjhaaGreatDoorNM00
import Derived.Test.YtlmfbjhokkpjhaaGreatDoorNM09
import Derived.Test.YtlmfbjhokkpjhaaGreatDoorNM21
import Derived.Test.YtlmfbjhokkpjhaaGreatDoorNM07
import Derived.Test.YtlmfbjhokkpjhaaGreatDoorNM06
import Derived.Test.YtlmfbjhokkpjhaaGreatDoorNM08
import Derived.BigRegion
import Derived.Lib.ItoaLen
import Derived.Sort.Statements
set_option linter.unusedVariables false
set_option linter.unusedSimpArgs false
namespace Go.Proofs.YtlmfbjhokkpjhaaGreatDoor
open Go Go.RowKit Go.Maps
def plainT : List PType := [⟨(⟨#[50, 46, 53, 46, 52, 46, 48]⟩ : ByteArray), [(⟨#[111, 98, 106, 101, 99, 116, 67, 108, 97, 115, 115]⟩ : ByteArray)], (⟨#[]⟩ : ByteArray), 8, 20, 0, 0, false, 0⟩, ⟨(⟨#[50, 46, 53, 46, 52, 46, 51]⟩ : ByteArray), [(⟨#[99, 110]⟩ : ByteArray), (⟨#[99, 111, 109, 109, 111, 110, 78, 97, 109, 101]⟩ : ByteArray)], (⟨#[]⟩ : ByteArray), 0, 1, 0, 0, false, 0⟩, ⟨(⟨#[50, 46, 53, 46, 52, 46, 49, 49]⟩ : ByteArray), [(⟨#[111, 117]⟩ : ByteArray)], (⟨#[]⟩ : ByteArray), 0, 1, 0, 0, false, 0⟩, ⟨(⟨#[50, 46, 53, 46, 52, 46, 51, 52]⟩ : ByteArray), [(⟨#[115, 101, 101, 65, 108, 115, 111]⟩ : ByteArray)], (⟨#[]⟩ : ByteArray), 7, 19, 0, 0, false, 0⟩, ⟨(⟨#[49, 46, 49]⟩ : ByteArray), [(⟨#[112, 104, 111, 116, 111]⟩ : ByteArray)], (⟨#[]⟩ : ByteArray), 6, 0, 0, 0, false, 0⟩, ⟨(⟨#[49, 46, 50]⟩ : ByteArray), [(⟨#[97, 103, 101]⟩ : ByteArray)], (⟨#[]⟩ : ByteArray), 3, 0, 0, 0, false, 0⟩]
def plainC : List PClass := [⟨(⟨#[50, 46, 53, 46, 54, 46, 54]⟩ : ByteArray), [(⟨#[112, 101, 114, 115, 111, 110]⟩ : ByteArray)], [], 1, [], []⟩]
def plainS : PSchema := ⟨plainT, plainC⟩
theorem plain_new : newE plainS = (0, 0) := by decide +kernel
def Plain6 (w : World) (e : Ending) (w' : World) : Prop :=
 ∃ ta ca, e = .returned (.agg #[.slice ta 6 6, .slice ca 1 1]) ∧ Types w'.heap.size w' ta 6 6 plainS.types ∧ Classes w'.heap.size w' ca 1 1 plainS.classes ∧ Below w.heap.size w w'
def obsP (w : World) : List Obj := [.cells #[.slice (some ⟨w.heap.size + 1 + 1 + 1 + 1 + 1 + 1 + 1, 0, none⟩) 6 6, .slice (some ⟨w.heap.size + 1 + 1 + 1 + 1 + 1 + 1 + 1 + 1 + 1, 0, none⟩) 1 1] 25, .cells #[.string ⟨#[111, 98, 106, 101, 99, 116, 67, 108, 97, 115, 115]⟩] 9, .cells #[.string ⟨#[99, 110]⟩, .string ⟨#[99, 111, 109, 109, 111, 110, 78, 97, 109, 101]⟩] 9, .cells #[.string ⟨#[111, 117]⟩] 9, .cells #[.string ⟨#[115, 101, 101, 65, 108, 115, 111]⟩] 9, .cells #[.string ⟨#[112, 104, 111, 116, 111]⟩] 9, .cells #[.string ⟨#[97, 103, 101]⟩] 9, .cells #[.string ⟨#[50, 46, 53, 46, 52, 46, 48]⟩, .slice (some ⟨w.heap.size + 1, 0, none⟩) 1 1, .string ⟨#[]⟩, .int .i8 8, .int .i8 20, .int .i8 0, .int .i8 0, .bool false, .int .u8 0, .string ⟨#[50, 46, 53, 46, 52, 46, 51]⟩, .slice (some ⟨w.heap.size + 1 + 1, 0, none⟩) 2 2, .string ⟨#[]⟩, .int .i8 0, .int .i8 1, .int .i8 0, .int .i8 0, .bool false, .int .u8 0, .string ⟨#[50, 46, 53, 46, 52, 46, 49, 49]⟩, .slice (some ⟨w.heap.size + 1 + 1 + 1, 0, none⟩) 1 1, .string ⟨#[]⟩, .int .i8 0, .int .i8 1, .int .i8 0, .int .i8 0, .bool false, .int .u8 0, .string ⟨#[50, 46, 53, 46, 52, 46, 51, 52]⟩, .slice (some ⟨w.heap.size + 1 + 1 + 1 + 1, 0, none⟩) 1 1, .string ⟨#[]⟩, .int .i8 7, .int .i8 19, .int .i8 0, .int .i8 0, .bool false, .int .u8 0, .string ⟨#[49, 46, 49]⟩, .slice (some ⟨w.heap.size + 1 + 1 + 1 + 1 + 1, 0, none⟩) 1 1, .string ⟨#[]⟩, .int .i8 6, .int .i8 0, .int .i8 0, .int .i8 0, .bool false, .int .u8 0, .string ⟨#[49, 46, 50]⟩, .slice (some ⟨w.heap.size + 1 + 1 + 1 + 1 + 1 + 1, 0, none⟩) 1 1, .string ⟨#[]⟩, .int .i8 3, .int .i8 0, .int .i8 0, .int .i8 0, .bool false, .int .u8 0] 46, .cells #[.string ⟨#[112, 101, 114, 115, 111, 110]⟩] 9, .cells #[.string ⟨#[50, 46, 53, 46, 54, 46, 54]⟩, .slice (some ⟨w.heap.size + 1 + 1 + 1 + 1 + 1 + 1 + 1 + 1, 0, none⟩) 1 1, .slice none 0 0, .int .i8 1, .slice none 0 0, .slice none 0 0] 89]
theorem nil_texts (B : Nat) (w : World) : Texts B w none 0 0 [] := ⟨rfl, ⟨Zr _, Nat.zero_le _, fun _ => rfl, (fun ad h _ => by cases h), (fun ad h _ => by cases h)⟩, Nat.zero_le _, (fun b o h => by cases h), (fun s h => by cases h)⟩
theorem plain_read (w w' : World) (hb : Below w.heap.size w w') (hh : ∀ k o, (obsP w)[k]? = some o → w'.heap[w.heap.size + k]? = some o) :
  Plain6 w (.returned (.agg #[.slice (some ⟨w.heap.size + 1 + 1 + 1 + 1 + 1 + 1 + 1, 0, none⟩) 6 6, .slice (some ⟨w.heap.size + 1 + 1 + 1 + 1 + 1 + 1 + 1 + 1 + 1, 0, none⟩) 1 1])) w' := by
 refine ⟨_, _, rfl, ?_, ?_, hb⟩
 ·refine ⟨rfl, ⟨Zr _, by unfold maxLen; omega, (fun h => by cases h), (fun ad h => by cases h; exact lt_at hh 7 rfl), (fun ad h _ => by cases h; rfl)⟩, ?_, ?_, (fun ad h => by cases h; rfl)⟩
  ·intro b o h i x hx
   cases h
   match i, hx with
   | 0, hx =>
    cases hx
    exact ⟨cell_at hh 7 0 rfl rfl, ⟨_, _, _, cell_at hh 7 1 rfl rfl, texts_at hh 1 1 [(⟨#[111, 98, 106, 101, 99, 116, 67, 108, 97, 115, 115]⟩ : ByteArray)] rfl rfl (by decide) (by decide)⟩, cell_at hh 7 2 rfl rfl, cell_at hh 7 3 rfl rfl, cell_at hh 7 4 rfl rfl, cell_at hh 7 5 rfl rfl, cell_at hh 7 6 rfl rfl, cell_at hh 7 7 rfl rfl, cell_at hh 7 8 rfl rfl⟩
   | 1, hx =>
    cases hx
    exact ⟨cell_at hh 7 9 rfl rfl, ⟨_, _, _, cell_at hh 7 10 rfl rfl, texts_at hh 2 2 [(⟨#[99, 110]⟩ : ByteArray), (⟨#[99, 111, 109, 109, 111, 110, 78, 97, 109, 101]⟩ : ByteArray)] rfl rfl (by decide) (by decide)⟩, cell_at hh 7 11 rfl rfl, cell_at hh 7 12 rfl rfl, cell_at hh 7 13 rfl rfl, cell_at hh 7 14 rfl rfl, cell_at hh 7 15 rfl rfl, cell_at hh 7 16 rfl rfl, cell_at hh 7 17 rfl rfl⟩
   | 2, hx =>
    cases hx
    exact ⟨cell_at hh 7 18 rfl rfl, ⟨_, _, _, cell_at hh 7 19 rfl rfl, texts_at hh 3 1 [(⟨#[111, 117]⟩ : ByteArray)] rfl rfl (by decide) (by decide)⟩, cell_at hh 7 20 rfl rfl, cell_at hh 7 21 rfl rfl, cell_at hh 7 22 rfl rfl, cell_at hh 7 23 rfl rfl, cell_at hh 7 24 rfl rfl, cell_at hh 7 25 rfl rfl, cell_at hh 7 26 rfl rfl⟩
   | 3, hx =>
    cases hx
    exact ⟨cell_at hh 7 27 rfl rfl, ⟨_, _, _, cell_at hh 7 28 rfl rfl, texts_at hh 4 1 [(⟨#[115, 101, 101, 65, 108, 115, 111]⟩ : ByteArray)] rfl rfl (by decide) (by decide)⟩, cell_at hh 7 29 rfl rfl, cell_at hh 7 30 rfl rfl, cell_at hh 7 31 rfl rfl, cell_at hh 7 32 rfl rfl, cell_at hh 7 33 rfl rfl, cell_at hh 7 34 rfl rfl, cell_at hh 7 35 rfl rfl⟩
   | 4, hx =>
    cases hx
    exact ⟨cell_at hh 7 36 rfl rfl, ⟨_, _, _, cell_at hh 7 37 rfl rfl, texts_at hh 5 1 [(⟨#[112, 104, 111, 116, 111]⟩ : ByteArray)] rfl rfl (by decide) (by decide)⟩, cell_at hh 7 38 rfl rfl, cell_at hh 7 39 rfl rfl, cell_at hh 7 40 rfl rfl, cell_at hh 7 41 rfl rfl, cell_at hh 7 42 rfl rfl, cell_at hh 7 43 rfl rfl, cell_at hh 7 44 rfl rfl⟩
   | 5, hx =>
    cases hx
    exact ⟨cell_at hh 7 45 rfl rfl, ⟨_, _, _, cell_at hh 7 46 rfl rfl, texts_at hh 6 1 [(⟨#[97, 103, 101]⟩ : ByteArray)] rfl rfl (by decide) (by decide)⟩, cell_at hh 7 47 rfl rfl, cell_at hh 7 48 rfl rfl, cell_at hh 7 49 rfl rfl, cell_at hh 7 50 rfl rfl, cell_at hh 7 51 rfl rfl, cell_at hh 7 52 rfl rfl, cell_at hh 7 53 rfl rfl⟩
   | n + 6, hx => simp [plainS, plainT] at hx
  ·intro x hx
   simp only [plainS, plainT, List.mem_cons, List.not_mem_nil, or_false] at hx
   rcases hx with rfl | rfl | rfl | rfl | rfl | rfl <;> exact ⟨by decide, by decide, by decide, by decide, by decide, by decide, by decide⟩
 ·refine ⟨rfl, ⟨Zr _, by unfold maxLen; omega, (fun h => by cases h), (fun ad h => by cases h; exact lt_at hh 9 rfl), (fun ad h _ => by cases h; rfl)⟩, ?_, ?_, (fun ad h => by cases h; rfl)⟩
  ·intro b o h i x hx
   cases h
   match i, hx with
   | 0, hx =>
    cases hx
    exact ⟨cell_at hh 9 0 rfl rfl, ⟨_, _, _, cell_at hh 9 1 rfl rfl, texts_at hh 8 1 [(⟨#[112, 101, 114, 115, 111, 110]⟩ : ByteArray)] rfl rfl (by decide) (by decide)⟩, ⟨_, _, _, cell_at hh 9 2 rfl rfl, nil_texts _ _⟩, cell_at hh 9 3 rfl rfl, ⟨_, _, _, cell_at hh 9 4 rfl rfl, nil_texts _ _⟩, ⟨_, _, _, cell_at hh 9 5 rfl rfl, nil_texts _ _⟩⟩
   | n + 1, hx => simp [plainS, plainC] at hx
  ·intro x hx
   simp only [plainS, plainC, List.mem_cons, List.not_mem_nil, or_false] at hx
   subst hx
   exact ⟨by decide, by decide⟩
set_option maxRecDepth 20000 in
set_option maxHeartbeats 4000000 in
theorem plain_any6 (w : World) : Calls Tryz.prog 85 #[] w (Plain6 w) := by
 go_enter Tryz.func85, Tryz.ntmps85
 go_wp2_with fail
 refine bodyPost_ret (v := .agg #[.slice (some ⟨w.heap.size + 1 + 1 + 1 + 1 + 1 + 1 + 1, 0, none⟩) 6 6, .slice (some ⟨w.heap.size + 1 + 1 + 1 + 1 + 1 + 1 + 1 + 1 + 1, 0, none⟩) 1 1]) ?hres rfl ?_
 case hres => simp [results, Tryz.results85, go_sem]
 exact plain_read w _ (tower (obsP w) w).1 (tower (obsP w) w).2
end Go.Proofs.YtlmfbjhokkpjhaaGreatDoor
namespace Go.Proofs.YtlmfbjhokkpjhaaGreatDoor
open Go
def oidK (S : PSchema) (v : Str) : Str × Bool :=
 if (keyL 8 v).2 = false then ([], false)
 else match typeAt S v with
  | some t => (toL (fullT S t).oid, true)
  | none => match classAt S v with
   | some c => (toL (clAt S c).oid, true)
   | none => ((keyL 8 v).1, true)
def valK (rd : Str → Str × Bool) (S : PSchema) (x : PType) (v : Str) : Str × Bool :=
 if x.eq = 19 then rd v
 else if x.eq = 20 then oidK S v
 else if x.eq ≠ 0 then keyL (lineOf x.eq).form v
 else if x.syn = 7 then (if (rd v).2 then (v, true) else ([], false))
 else if (keyL (formV x.syn) v).2 then (v, true) else ([], false)
abbrev KPair := Nat × Str
def pairsK (rd : Str → Str × Bool) (S : PSchema) : List KPair → PRdn → Int × List KPair
 | acc, [] => (0, acc)
 | acc, a :: l => match typeAt S (toL a.1) with
  | none => (80, acc)
  | some t => if acc.any (fun p => p.1 == t) then (52, acc)
   else if (valK rd S (fullT S t) (toL a.2)).2 then pairsK rd S (acc ++ [(t, (valK rd S (fullT S t) (toL a.2)).1)]) l else (81, acc)
def insP (x : KPair) : List KPair → List KPair
 | [] => [x]
 | y :: l => if x.1 < y.1 then x :: y :: l else y :: insP x l
def sortP (l : List KPair) : List KPair := l.foldl (fun s x => insP x s) []
def decS (n : Nat) : Str := Lib.decDigits n
def pairS (p : KPair) : Str := decS p.1 ++ 61 :: (decS p.2.length ++ 58 :: p.2)
def stepK (l : List KPair) : Str := joinP 43 ((sortP l).map pairS) ++ [59]
def stepsK (rd : Str → Str × Bool) (S : PSchema) : PName → Int × List Str
 | [] => (0, [])
 | r :: n => if (pairsK rd S [] r).1 ≠ 0 then ((pairsK rd S [] r).1, [])
  else ((stepsK rd S n).1, stepK (pairsK rd S [] r).2 :: (stepsK rd S n).2)
def keyN (rd : Str → Str × Bool) (S : PSchema) (n : PName) : Str × Int :=
 if (printV n).2 ≠ 0 then ([], (printV n).2)
 else if (stepsK rd S n).1 ≠ 0 then ([], (stepsK rd S n).1) else ((stepsK rd S n).2.reverse.flatten, 0)
def readK (S : PSchema) : Nat → Str → Str × Bool
 | 0, _ => ([], false)
 | f + 1, v => match parseV v with
  | .error _ => ([], false)
  | .ok n => if (keyN (readK S f) S n).2 = 0 then ((keyN (readK S f) S n).1, true) else ([], false)
def countV (l : Str) : Option (Nat × Nat) :=
 let d := (l.takeWhile dig)
 if d.length = 0 ∨ 9 < d.length ∨ (l.head? = some 48 ∧ 1 < d.length) then none else some (d.foldl (fun x c => x * 10 + (c.toNat - 48)) 0, d.length)
def stepV : Nat → Int → Str → Option Nat
 | 0, _, _ => none
 | f + 1, last, l => match countV l with
  | none => none
  | some (t, d) => if (t : Int) ≤ last then none else match l.drop d with
   | [] => none
   | c :: l2 => if c ≠ 61 then none else match countV l2 with
    | none => none
    | some (n, d2) => match l2.drop d2 with
     | [] => none
     | c2 :: l3 => if c2 ≠ 58 ∨ l3.length < n + 1 then none
      else match l3.drop n with
       | [] => none
       | c3 :: l4 => if c3 = 59 then some (d + 1 + d2 + 1 + n + 1) else if c3 = 43 then (stepV f t l4).map (· + (d + 1 + d2 + 1 + n + 1)) else none
def stepsV : Nat → Str → Option (List Str)
 | 0, l => if l = [] then some [] else none
 | f + 1, l => if l = [] then some [] else match stepV (l.length + 1) (-1) l with
  | none => none
  | some k => (stepsV f (l.drop k)).map (l.take k :: ·)
def stepsOf (l : Str) : List Str := (stepsV (l.length + 1) l).getD []
def liesV (key above : Str) : Bool := decide (above.length < key.length) && above.isPrefixOf key && decide (0 < (stepsOf key).length) && (decide (above = []) || decide (0 < (stepsOf above).length))
theorem insP_perm (x : KPair) : ∀ l, (insP x l).Perm (x :: l)
 | [] => .refl _
 | y :: l => by
  unfold insP
  split
  ·exact .refl _
  ·exact ((insP_perm x l).cons y).trans (.swap x y l)
theorem insP_sorted (x : KPair) : ∀ l, l.Pairwise (fun a b => a.1 ≤ b.1) → (insP x l).Pairwise (fun a b => a.1 ≤ b.1)
 | [], _ => by simp [insP]
 | y :: l, h => by
  unfold insP
  have ⟨h1, h2⟩ := List.pairwise_cons.1 h
  split
  ·rename_i hlt
   refine List.pairwise_cons.2 ⟨fun z hz => ?_, h⟩
   rcases List.mem_cons.1 hz with rfl | hz
   ·omega
   ·have := h1 z hz; omega
  ·rename_i hlt
   refine List.pairwise_cons.2 ⟨fun z hz => ?_, insP_sorted x l h2⟩
   rcases List.mem_cons.1 ((insP_perm x l).mem_iff.1 hz) with rfl | hz
   ·omega
   ·exact h1 z hz
theorem fold_perm : ∀ (l s : List KPair), (l.foldl (fun s x => insP x s) s).Perm (s ++ l)
 | [], s => by simp
 | x :: l, s => by
  simp only [List.foldl_cons]
  refine (fold_perm l (insP x s)).trans ?_
  refine ((insP_perm x s).append_right l).trans ?_
  exact List.perm_middle.symm
theorem sortP_perm (l : List KPair) : (sortP l).Perm l := by have := fold_perm l []; simpa [sortP] using this
theorem fold_sorted : ∀ (l s : List KPair), s.Pairwise (fun a b => a.1 ≤ b.1) → (l.foldl (fun s x => insP x s) s).Pairwise (fun a b => a.1 ≤ b.1)
 | [], _, h => h
 | x :: l, s, h => fold_sorted l (insP x s) (insP_sorted x s h)
theorem sortP_sorted (l : List KPair) : (sortP l).Pairwise (fun a b => a.1 ≤ b.1) := fold_sorted l [] .nil
theorem sorted_one : ∀ (a b : List KPair), a.Perm b → a.Pairwise (fun x y => x.1 ≤ y.1) → b.Pairwise (fun x y => x.1 ≤ y.1) → (a.map (·.1)).Nodup → a = b
 | [], b, hp, _, _, _ => by simpa using hp.symm.eq_nil
 | x :: a, b, hp, h1, h2, hn => by
  cases b with
  | nil => exact absurd hp.eq_nil (by simp)
  | cons y b =>
   have e : x = y := by
    have hx : x ∈ y :: b := hp.mem_iff.1 (by simp)
    have hy : y ∈ x :: a := hp.mem_iff.2 (by simp)
    rcases List.mem_cons.1 hx with h | h
    ·exact h
    ·rcases List.mem_cons.1 hy with h' | h'
     ·exact h'.symm
     ·have := (List.pairwise_cons.1 h1).1 y h'
      have := (List.pairwise_cons.1 h2).1 x h
      have e1 : x.1 = y.1 := by omega
      exact absurd (List.mem_map.2 ⟨y, h', e1.symm⟩) (by simpa using (List.nodup_cons.1 hn).1)
   subst e
   rw [sorted_one a b ((List.perm_cons x).1 hp) (List.pairwise_cons.1 h1).2 (List.pairwise_cons.1 h2).2 (List.nodup_cons.1 hn).2]
theorem sortP_eq {l a : List KPair} (hp : a.Perm l) (hs : a.Pairwise (fun x y => x.1 ≤ y.1)) (hn : (l.map (·.1)).Nodup) : a = sortP l :=
 sorted_one a (sortP l) (hp.trans (sortP_perm l).symm) hs (sortP_sorted l) ((hp.map _).nodup_iff.2 hn)
theorem sortP_same {l m : List KPair} (hp : l.Perm m) (hn : (m.map (·.1)).Nodup) : sortP l = sortP m :=
 sortP_eq ((sortP_perm l).trans hp) (sortP_sorted l) hn
def ltP (x y : KPair) : Bool := decide (x.1 < y.1)
theorem ltP_swo : Go.Sort.SWO ltP := ⟨fun x => by simp [ltP], fun x y z h1 h2 => by simp [ltP] at *; omega, fun x y z h1 h2 => by simp [ltP] at *; omega⟩
theorem sorted_arr {d d' : Array KPair} (hp : Go.Sort.PermIn 0 d.size d d') (hs : Go.Sort.SortedIn ltP 0 d.size d') (hn : (d.toList.map (·.1)).Nodup) : d'.toList = sortP d.toList := by
 obtain ⟨h1, _, h3⟩ := hp
 have e1 : d'.extract 0 d.size = d' := by rw [← h1]; simp
 have e2 : d.extract 0 d.size = d := by simp
 rw [e1, e2] at h3
 refine sortP_eq h3 ?_ hn
 rw [List.pairwise_iff_getElem]
 intro i j hi hj hij
 have h4 := hs i j (Nat.zero_le _) hij (by simpa [← h1] using hj)
 have hi' : i < d'.size := by simpa using hi
 have hj' : j < d'.size := by simpa using hj
 simp only [ltP, decide_eq_false_iff_not, getElem!_pos d' i hi', getElem!_pos d' j hj'] at h4
 simp only [Array.getElem_toList]
 omega
theorem showK_len : ∀ (v : Str) (fst : Bool) (k : Nat), (showK fst v k).length ≤ 3 * v.length
 | [], _, k => by cases k <;> simp [showK]
 | c :: v, fst, k + 1 => by rw [showK]; have := showK_len v false k; simp; omega
 | c :: v, fst, 0 => by
  rw [showK]
  have h0 := showK_len v false 0
  have h1 := showK_len v false (chN (c :: v) - 1)
  split
  ·simp [hexB]; omega
  ·split
   ·simp [hexB]; omega
   ·split <;> (simp; omega)
theorem avaP_len (a : PAva) : (avaP a).length = (toL a.1).length + 1 + (showV (toL a.2)).length := by unfold avaP; simp; omega
theorem joinP_snoc (c : UInt8) (x : Str) : ∀ l : List Str, joinP c (l ++ [x]) = (if l = [] then [] else joinP c l ++ [c]) ++ x
 | [] => by simp [joinP]
 | [y] => by simp [joinP]
 | y :: z :: l => by
  have ih := joinP_snoc c x (z :: l)
  rw [if_neg (by simp)] at ih ⊢
  show joinP c (y :: z :: (l ++ [x])) = _
  rw [joinP]
  have : joinP c (z :: (l ++ [x])) = joinP c (z :: l ++ [x]) := rfl
  rw [this, ih, joinP]
  simp
def preP (c : UInt8) (l : List Str) (i : Nat) : Str := if i = 0 then [] else joinP c (l.take i) ++ [c]
theorem joinP_step {c : UInt8} {l : List Str} {i : Nat} {x : Str} (h : l[i]? = some x) : joinP c (l.take (i + 1)) = preP c l i ++ x := by
 have hi := (List.getElem?_eq_some_iff.1 h).1
 rw [List.take_add_one, h]
 show joinP c (l.take i ++ [x]) = _
 rw [joinP_snoc]
 unfold preP
 by_cases h0 : i = 0
 ·subst h0; simp
 ·rw [if_neg h0, if_neg]
  intro e
  have := congrArg List.length e
  simp at this
  rcases this with h | h
  ·omega
  ·subst h; simp at hi
theorem joinP_mono (c : UInt8) (l : List Str) : ∀ k i, (joinP c (l.take i)).length ≤ (joinP c (l.take (i + k))).length
 | 0, i => Zr _
 | k + 1, i => by
  refine Nat.le_trans (joinP_mono c l k i) ?_
  rw [← Nat.add_assoc]
  by_cases h : i + k < l.length
  ·rw [joinP_step (List.getElem?_eq_getElem h)]
   unfold preP
   by_cases h0 : i + k = 0
   ·rw [show List.take (i + k) l = [] by rw [h0]; rfl]; exact Nat.zero_le _
   ·rw [if_neg h0]; simp
    try omega
  ·rw [List.take_of_length_le (by omega), List.take_of_length_le (by omega)]; exact Zr _
theorem joinP_take_len (c : UInt8) (l : List Str) (i : Nat) : (joinP c (l.take i)).length ≤ (joinP c l).length := by
 have := joinP_mono c l l.length i
 rwa [List.take_of_length_le (i := i + l.length) (by omega)] at this
def midP (n : PName) (i : Nat) (r : PRdn) (k : Nat) : Str := preP 44 (n.map rdnP) i ++ joinP 43 ((r.map avaP).take k)
theorem midP_end {n : PName} {i : Nat} {r : PRdn} {k : Nat} (h : n[i]? = some r) (hk : r.length ≤ k) : midP n i r k = joinP 44 ((n.map rdnP).take (i + 1)) := by
 unfold midP
 rw [List.take_of_length_le (by simpa using hk)]
 exact (joinP_step (by rw [List.getElem?_map, h]; rfl)).symm
theorem midP_le {n : PName} {i : Nat} {r : PRdn} {k : Nat} (h : n[i]? = some r) : (midP n i r k).length ≤ (nameP n).length := by
 have h1 : (midP n i r k).length ≤ (midP n i r r.length).length := by
  unfold midP
  have := joinP_take_len 43 (r.map avaP) k
  rw [List.take_of_length_le (i := r.length) (by simp)]
  simp only [List.length_append]
  omega
 rw [midP_end h (Zr _)] at h1
 exact Nat.le_trans h1 (joinP_take_len _ _ _)
theorem midP_next {n : PName} {i : Nat} {r : PRdn} {k : Nat} {a : PAva} (h : r[k]? = some a) : midP n i r (k + 1) = preP 44 (n.map rdnP) i ++ preP 43 (r.map avaP) k ++ avaP a := by
 unfold midP
 rw [joinP_step (x := avaP a) (by rw [List.getElem?_map, h]; rfl), List.append_assoc]
def Small1 (n : PName) : Prop := n.length ≤ 64 ∧ ∀ r ∈ n, r.length ≤ 8
def Typed2 (n : PName) : Prop := ∀ r ∈ n, r ≠ [] ∧ ∀ a ∈ r, typedV (toL a.1) = true
theorem pv_long {n : PName} (h : 64 < n.length ∨ ∃ r ∈ n, 8 < r.length) : printV n = ([], 3) := by
 unfold printV
 rw [if_pos]
 rcases h with h | ⟨r, hr, h⟩
 ·exact .inl h
 ·exact .inr (List.any_eq_true.2 ⟨r, hr, by simpa using h⟩)
theorem small1_not {n : PName} (h : Small1 n) : ¬ (64 < n.length ∨ n.any (fun r => decide (8 < r.length)) = true) := by
 rintro (h1 | h1)
 ·have := h.1; omega
 ·obtain ⟨r, hr, h2⟩ := List.any_eq_true.1 h1
  have := h.2 r hr
  simp at h2; omega
theorem pv_bad {n : PName} (h1 : Small1 n) (h : ∃ r ∈ n, r = [] ∨ ∃ a ∈ r, typedV (toL a.1) = false) : printV n = ([], 60) := by
 unfold printV
 rw [if_neg (small1_not h1), if_pos]
 obtain ⟨r, hr, h⟩ := h
 refine List.any_eq_true.2 ⟨r, hr, ?_⟩
 rcases h with h | ⟨a, ha, h⟩
 ·subst h; rfl
 ·rw [Bool.or_eq_true]; right
  exact List.any_eq_true.2 ⟨a, ha, by simp [h]⟩
theorem typed2_not {n : PName} (h : Typed2 n) : ¬ (n.any (fun r => r.isEmpty || r.any fun a => !typedV (toL a.1)) = true) := by
 intro h1
 obtain ⟨r, hr, h2⟩ := List.any_eq_true.1 h1
 obtain ⟨h3, h4⟩ := h r hr
 rw [Bool.or_eq_true] at h2
 rcases h2 with h2 | h2
 ·exact h3 (by simpa using h2)
 ·obtain ⟨a, ha, h5⟩ := List.any_eq_true.1 h2
  rw [h4 a ha] at h5; cases h5
theorem pv_big {n : PName} (h1 : Small1 n) (h2 : Typed2 n) (h : (∃ r ∈ n, ∃ a ∈ r, 65536 < a.1.size ∨ 65536 < a.2.size) ∨ 65536 < (nameP n).length) : printV n = ([], 3) := by
 unfold printV
 rw [if_neg (small1_not h1), if_neg (typed2_not h2), if_pos]
 rcases h with ⟨r, hr, a, ha, h⟩ | h
 ·left
  refine List.any_eq_true.2 ⟨r, hr, List.any_eq_true.2 ⟨a, ha, ?_⟩⟩
  rcases h with h | h <;> simp [h]
 ·exact .inr h
theorem pv_ok {n : PName} (h1 : Small1 n) (h2 : Typed2 n) (h : ∀ r ∈ n, ∀ a ∈ r, a.1.size ≤ 65536 ∧ a.2.size ≤ 65536) (hl : (nameP n).length ≤ 65536) : printV n = (nameP n, 0) := by
 unfold printV
 rw [if_neg (small1_not h1), if_neg (typed2_not h2), if_neg]
 rintro (h3 | h3)
 ·obtain ⟨r, hr, h4⟩ := List.any_eq_true.1 h3
  obtain ⟨a, ha, h5⟩ := List.any_eq_true.1 h4
  have := h r hr a ha
  rw [Bool.or_eq_true, decide_eq_true_eq, decide_eq_true_eq] at h5
  omega
 ·omega
end Go.Proofs.YtlmfbjhokkpjhaaGreatDoor
namespace Go.Proofs.YtlmfbjhokkpjhaaGreatDoor
open Go Go.RowKit
theorem valR_len (st : Nat) : ∀ (n : Nat) (l : Str) (off : Nat) (b : Str) (bare : Option Nat) (v : Str) (off2 : Nat), l.length ≤ n → valR st l off b bare = (v, off2, none) →
  off ≤ off2 ∧ off2 ≤ off + l.length ∧ v.length + off ≤ b.length + off2 := by
 intro n
 induction n with
 | zero =>
  intro l off b bare v off2 hl h
  obtain rfl : l = [] := List.eq_nil_of_length_eq_zero (by omega)
  rw [valR_nil] at h
  injection h with h1 h2; injection h2 with h2 _
  subst h1; subst h2
  simp
 | succ n ih =>
  intro l off b bare v off2 hl h
  cases l with
  | nil =>
   rw [valR_nil] at h
   injection h with h1 h2; injection h2 with h2 _
   subst h1; subst h2
   simp
  | cons c l =>
   simp only [List.length_cons] at hl
   by_cases c1 : c = 44 ∨ c = 43
   ·rw [valR_end c1] at h
    injection h with h1 h2; injection h2 with h2 _
    subst h1; subst h2
    simp
   ·by_cases c2 : c = 92
    ·subst c2
     cases l with
     | nil => rw [valR.eq_def] at h; simp at h
     | cons x l =>
      simp only [List.length_cons] at hl
      cases hx : escs.contains x with
      | true =>
       rw [valR_esc hx] at h
       have := ih l _ _ _ _ _ (by omega) h
       simp at this ⊢; omega
      | false =>
       cases l with
       | nil => rw [valR.eq_def] at h; simp only [hx] at h; simp at h
       | cons y l =>
        simp only [List.length_cons] at hl
        cases hy : (hexd x && hexd y) with
        | true =>
         rw [valR_hex hx hy] at h
         have := ih l _ _ _ _ _ (by omega) h
         simp at this ⊢; omega
        | false =>
         rw [valR.eq_def] at h; simp only [hx, hy] at h; simp at h
    ·by_cases c3 : bads.contains c = true ∨ (off = st ∧ (c = 32 ∨ c = 35))
     ·rw [valR.eq_def] at h; simp only at h
      rw [if_neg c1, if_neg c2, if_pos c3] at h
      injection h with _ h2; injection h2 with _ h2; cases h2
     ·rw [valR_put (fun e => c1 (.inl e)) (fun e => c1 (.inr e)) c2 (by cases e : bads.contains c with | false => rfl | true => exact absurd (.inl e) c3) (fun e => c3 (.inr e))] at h
      have := ih l _ _ _ _ _ (by omega) h
      simp at this ⊢; omega
theorem takeWhile_all (p : UInt8 → Bool) (l : Str) : (l.takeWhile p).all p = true := by
 induction l with
 | nil => rfl
 | cons a l ih =>
  rw [List.takeWhile_cons]
  split
  ·rename_i h; simp [h]
  ·rfl
theorem take_takeWhile (p : UInt8 → Bool) (l : Str) : l.take (l.takeWhile p).length = l.takeWhile p := by
 induction l with
 | nil => rfl
 | cons a l ih =>
  rw [List.takeWhile_cons]
  split
  ·simp [ih]
  ·rfl
theorem cut_free {x : Str} (h : (46 : UInt8) ∉ x) : cutAt 46 x = [x] := by
 induction x with
 | nil => rfl
 | cons b x ih =>
  simp at h
  unfold cutAt
  rw [if_neg (fun e => h.1 e.symm), ih h.2]
theorem cut_dot {x : Str} (t : Str) (h : (46 : UInt8) ∉ x) : cutAt 46 (x ++ 46 :: t) = x :: cutAt 46 t := by
 induction x with
 | nil =>
  show cutAt 46 (46 :: t) = _
  rw [cutAt, if_pos rfl]
 | cons b x ih =>
  simp at h
  rw [List.cons_append, cutAt, if_neg (fun e => h.1 e.symm), ih h.2]
theorem cut_joinP : ∀ (rows : List Str), rows ≠ [] → (∀ r ∈ rows, (46 : UInt8) ∉ r) → cutAt 46 (joinP 46 rows) = rows
 | [], h, _ => absurd rfl h
 | [x], _, h => cut_free (h x (by simp))
 | x :: y :: rows, _, h => by
  have ih := cut_joinP (y :: rows) (by simp) (fun r hr => h r (by simp at hr ⊢; exact .inr hr))
  show cutAt 46 (x ++ 46 :: joinP 46 (y :: rows)) = _
  rw [cut_dot _ (h x (by simp)), ih]
theorem row_of {l : Str} {d : Nat} (hd : (if l.head? = some 48 then 1 else (l.takeWhile dig).length) = d) (h0 : d ≠ 0) : rowOk (l.take d) = true ∧ d ≤ l.length ∧ (46 : UInt8) ∉ l.take d := by
 cases l with
 | nil => simp at hd; omega
 | cons b l =>
  by_cases hb : b = 48
  ·subst hb
   simp at hd
   subst hd
   exact ⟨(by show rowOk [48] = true; decide), by simp, by simp⟩
  ·rw [if_neg (by simpa using hb)] at hd
   have ht : (b :: l).take d = (b :: l).takeWhile dig := by rw [← hd]; exact take_takeWhile _ _
   have ha := takeWhile_all dig (b :: l)
   have hle : d ≤ (b :: l).length := by rw [← hd]; exact (List.takeWhile_prefix _).length_le
   refine ⟨?_, hle, ?_⟩
   ·obtain ⟨m, rfl⟩ : ∃ m, d = m + 1 := ⟨d - 1, by omega⟩
    rw [← ht] at ha
    rw [List.take_succ_cons] at ha ⊢
    show ((b :: List.take m l).all dig && !(b == 48 && !(List.take m l).isEmpty)) = true
    rw [ha]
    have : (b == 48) = false := by simpa using hb
    rw [this]; rfl
   ·rw [ht]
    intro hm
    have := List.all_eq_true.1 ha _ hm
    revert this; decide
theorem oidN_rows : ∀ (f : Nat) (l : Str) (off : Nat) (one : Bool) (e : Nat), oidN f l off one = (e, true) → ∃ rows : List Str, rows ≠ [] ∧ rows.all rowOk = true ∧ (∀ r ∈ rows, (46 : UInt8) ∉ r) ∧ (one = true → 2 ≤ rows.length) ∧
  off ≤ e ∧ e - off < l.length ∧ l.take (e - off) = joinP 46 rows ∧ l[e - off]? = some 61
 | 0, _, _, _, _, h => by simp [oidN] at h
 | f + 1, l, off, one, e, h => by
  unfold oidN at h
  obtain ⟨d, hd⟩ : ∃ d, (if l.head? = some 48 then 1 else (l.takeWhile dig).length) = d := ⟨_, rfl⟩
  simp only [hd] at h
  by_cases h0 : d = 0
  ·rw [if_pos h0] at h; injection h with _ h; cases h
  ·rw [if_neg h0] at h
   obtain ⟨g1, g2, g3⟩ := row_of hd h0
   by_cases h1 : l[d]? = some 46
   ·rw [if_pos h1] at h
    obtain ⟨rows, r1, r2, r3, _, r5, r6, r7, r8⟩ := oidN_rows f _ _ _ _ h
    have hdl : d < l.length := (List.getElem?_eq_some_iff.1 h1).1
    simp only [List.length_drop] at r6
    refine ⟨l.take d :: rows, by simp, by simp [g1]; simpa using r2, ?_, ?_, by omega, by omega, ?_, ?_⟩
    ·intro r hr
     rcases List.mem_cons.1 hr with rfl | hr
     ·exact g3
     ·exact r3 r hr
    ·intro _
     have : 0 < rows.length := List.length_pos_iff.2 r1
     simp; omega
    ·rw [joinP_cons46 r1, ← r7]
     have e1 : e - off = d + (1 + (e - (off + d + 1))) := by omega
     rw [e1, List.take_add, List.take_add]
     congr 1
     have hc : l.drop d = 46 :: l.drop (d + 1) := by
      rw [List.drop_eq_getElem_cons hdl]
      congr 1
      exact (List.getElem?_eq_some_iff.1 h1).2
     rw [hc]; simp
    ·rw [List.getElem?_drop] at r8
     rw [← r8]
     congr 1; omega
   ·rw [if_neg h1] at h
    cases one with
    | true => rw [if_pos rfl] at h; injection h with _ h; cases h
    | false =>
     rw [if_neg (by simp)] at h
     injection h with h2 h3
     have h4 : l[d]? = some 61 := by simpa using h3
     have hdl : d < l.length := (List.getElem?_eq_some_iff.1 h4).1
     have e1 : e - off = d := by omega
     rw [e1]
     exact ⟨[l.take d], by simp, by simp [g1], by simpa using g3, (fun h => by cases h), by omega, hdl, by simp [joinP], h4⟩
where
 joinP_cons46 {x : Str} {rows : List Str} (h : rows ≠ []) : joinP 46 (x :: rows) = x ++ 46 :: joinP 46 rows := by
  cases rows with
  | nil => exact absurd rfl h
  | cons y rows => rfl
theorem kind_back {l : Str} {k : Nat} (h : kindN l = (k, true)) (hl : k ≤ 65536) : wordOk (l.take k) = true ∧ k < l.length := by
 have key : (oidL (l.take k)).2 = true ∧ k < l.length := by
  unfold kindN at h
  cases l with
  | nil => simp at h
  | cons c l =>
   simp only at h
   by_cases hc : isLet c = true
   ·rw [if_pos hc] at h
    injection h with h1 h2
    have h3 : (c :: l)[k]? = some 61 := by rw [← h1]; simpa using h2
    have hk : k < (c :: l).length := (List.getElem?_eq_some_iff.1 h3).1
    refine ⟨?_, hk⟩
    rw [← h1, take_takeWhile]
    have ht : (c :: l).takeWhile tailC = c :: l.takeWhile tailC := by
     rw [List.takeWhile_cons, if_pos (by unfold tailC; rw [hc]; rfl)]
    have ha := takeWhile_all tailC (c :: l)
    rw [ht] at ha ⊢
    unfold oidL
    simp only
    rw [letters_let, if_pos hc]
    simp only
    rw [tail_only]; exact ha
   ·rw [if_neg hc] at h
    obtain ⟨rows, r1, r2, r3, r4, _, r6, r7, r8⟩ := oidN_rows _ _ _ _ _ h
    rw [Nat.sub_zero] at r6 r7 r8
    refine ⟨?_, r6⟩
    obtain ⟨m, rfl⟩ : ∃ m, k = m + 1 := by
     cases k with
     | zero =>
      exfalso
      rw [List.take_zero] at r7
      have h2 := r4 rfl
      match rows, h2 with
      | x :: y :: rows, _ => simp [joinP] at r7
     | succ m => exact ⟨m, rfl⟩
    rw [List.take_succ_cons] at r7 ⊢
    unfold oidL
    simp only
    rw [letters_let, if_neg hc, r7, cut_joinP rows r1 r3, if_pos r2]
    exact decide_eq_true (r4 rfl)
 refine ⟨?_, key.2⟩
 unfold wordOk keyL
 rw [if_neg (by simp; omega)]
 have e : ruleL 8 (l.take k) = oidL (l.take k) := by unfold ruleL; simp
 rw [e, if_pos key.1]
theorem parse_shape (s : Str) (hs : s.length ≤ 65536) : ∀ (f p : Nat) (done : PName) (part : PRdn) (m : PName), parseR s f p done part = .ok m → p ≤ s.length → done.length < 64 → part.length < 8 →
  ∃ (ps : PRdn) (rs : PName), m = done ++ (part ++ ps) :: rs ∧ ps ≠ [] ∧ PairsOk ps ∧ (∀ r ∈ rs, r ≠ [] ∧ r.length ≤ 8 ∧ PairsOk r) ∧ part.length + ps.length ≤ 8 ∧ done.length + 1 + rs.length ≤ 64 ∧ (restP ps rs).length + 3 * p ≤ 3 * s.length
 | 0, _, _, _, _, h, _, _, _ => by unfold parseR at h; cases h
 | f + 1, p, done, part, m, h, hp, hd, h8 => by
  unfold parseR at h
  obtain ⟨⟨k, ok⟩, hk⟩ : ∃ r, kindN (s.drop p) = r := ⟨_, rfl⟩
  simp only [hk] at h
  cases ok with
  | false => rw [if_pos rfl] at h; cases h
  | true =>
   rw [if_neg (by simp)] at h
   obtain ⟨⟨v, q, fl⟩, hv⟩ : ∃ r, valR (p + k + 1) (s.drop (p + k + 1)) (p + k + 1) [] none = r := ⟨_, rfl⟩
   simp only [hv] at h
   cases fl with
   | some x => obtain ⟨c, z⟩ := x; simp only at h; cases h
   | none =>
    simp only at h
    have hkl : k ≤ 65536 := by
     have h2 : k ≤ (s.drop p).length := by
      have : k < (s.drop p).length ∨ ¬ k < (s.drop p).length := Nat.lt_or_ge k _ |>.imp id (fun h => by omega)
      by_cases e : k ≤ (s.drop p).length
      ·exact e
      ·exfalso
       unfold kindN at hk
       cases hl : s.drop p with
       | nil => rw [hl] at hk; simp at hk
       | cons c l =>
        rw [hl] at hk e
        simp only at hk
        split at hk
        ·injection hk with h1 _
         have := (List.takeWhile_prefix (p := tailC) (l := c :: l)).length_le
         omega
        ·obtain ⟨_, _, _, _, _, _, r6, _⟩ := oidN_rows _ _ _ _ _ hk
         omega
     simp at h2; omega
    obtain ⟨w1, w2⟩ := kind_back hk hkl
    simp only [List.length_drop] at w2
    obtain ⟨v1, v2, v3⟩ := valR_len _ _ _ _ _ _ _ _ (Zr _) hv
    simp only [List.length_drop, List.length_nil] at v2 v3
    have hsh := showK_len v true 0
    obtain ⟨a, ha⟩ : ∃ a : PAva, (baOf ((s.drop p).take k), baOf v) = a := ⟨_, rfl⟩
    have a1 : toL a.1 = (s.drop p).take k := by rw [← ha]; simp [baOf, toL]
    have a2 : toL a.2 = v := by rw [← ha]; simp [baOf, toL]
    have hal : (avaP a).length + 3 * p ≤ 3 * q ∧ (avaP a).length + 1 + 3 * p ≤ 3 * (q + 1) := by
     rw [avaP_len, a1, a2]; unfold showV; simp; omega
    have hok : PairsOk [a] := fun x hx => by simp at hx; subst hx; rw [a1]; exact w1
    rw [ha] at h
    by_cases h1 : s.length ≤ q
    ·rw [if_pos h1] at h
     injection h with h
     refine ⟨[a], [], by rw [← h], by simp, hok, (fun r hr => by cases hr), by simp; omega, by simp; omega, ?_⟩
     rw [restP_one]; simp; omega
    ·rw [if_neg h1] at h
     by_cases h2 : s[q]? = some 44
     ·rw [if_pos h2] at h
      by_cases h3 : 64 ≤ done.length + 1
      ·rw [if_pos h3] at h; cases h
      ·rw [if_neg h3] at h
       obtain ⟨ps, rs, r1, r2, r3, r4, r5, r6, r7⟩ := parse_shape s hs f (q + 1) (done ++ [part ++ [a]]) [] m h (by omega) (by simp; omega) (by simp)
       refine ⟨[a], ps :: rs, by rw [r1]; simp, by simp, hok, ?_, by simp; omega, by simp at r6 ⊢; omega, ?_⟩
       ·intro r hr
        rcases List.mem_cons.1 hr with rfl | hr
        ·exact ⟨r2, by simpa using r5, r3⟩
        ·exact r4 r hr
       ·rw [restP_one, restP_next]; simp; omega
     ·rw [if_neg h2] at h
      by_cases h3 : 64 ≤ done.length ∨ 8 ≤ (part ++ [a]).length
      ·rw [if_pos h3] at h; cases h
      ·rw [if_neg h3] at h
       have h4 : (part ++ [a]).length < 8 := by
        by_cases e : 8 ≤ (part ++ [a]).length
        ·exact absurd (.inr e) h3
        ·omega
       obtain ⟨ps, rs, r1, r2, r3, r4, r5, r6, r7⟩ := parse_shape s hs f (q + 1) done (part ++ [a]) m h (by omega) hd h4
       cases ps with
       | nil => exact absurd rfl r2
       | cons b ps =>
        refine ⟨a :: b :: ps, rs, by rw [r1]; simp, by simp, ?_, r4, by simp at r5 ⊢; omega, r6, ?_⟩
        ·intro x hx
         rcases List.mem_cons.1 hx with rfl | hx
         ·exact hok x (by simp)
         ·exact r3 x hx
        ·rw [restP_more]; simp at r7 ⊢; omega
theorem parse_typed {t : Str} {m : PName} (h : parseV t = .ok m) : m.length ≤ 64 ∧ (∀ r ∈ m, r ≠ [] ∧ r.length ≤ 8 ∧ PairsOk r) ∧ (nameP m).length ≤ 3 * t.length := by
 unfold parseV at h
 split at h
 ·cases h
 ·rename_i hl
  split at h
  ·injection h with h; subst h; exact ⟨by simp, (fun r hr => by cases hr), by simp [nameP, joinP]⟩
  ·obtain ⟨ps, rs, r1, r2, r3, r4, r5, r6, r7⟩ := parse_shape t (by omega) _ 0 [] [] m h (Nat.zero_le _) (by simp) (by simp)
   simp at r1 r5 r6 r7
   subst r1
   refine ⟨by simp; omega, ?_, by rw [nameP_cons]; exact r7⟩
   intro r hr
   rcases List.mem_cons.1 hr with rfl | hr
   ·exact ⟨r2, r5, r3⟩
   ·exact r4 r hr
end Go.Proofs.YtlmfbjhokkpjhaaGreatDoor
