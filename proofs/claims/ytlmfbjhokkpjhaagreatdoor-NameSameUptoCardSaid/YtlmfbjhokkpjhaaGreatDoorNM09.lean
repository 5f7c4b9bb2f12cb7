/- Part 9 of the walks and plain laws, joined: PuD, LaidSy, SchP, SchM, Tower, SchMap, Vec, SchMk. -/
import Derived.Test.YtlmfbjhokkpjhaaGreatDoorNM08
import Derived.Test.YtlmfbjhokkpjhaaGreatDoorNM07
import Derived.Test.YtlmfbjhokkpjhaaGreatDoorNM06
import Derived.Test.YtlmfbjhokkpjhaaGreatDoorProg
import Derived.Test.YtlmfbjhokkpjhaaGreatDoorNM00
import Derived.Test.YtlmfbjhokkpjhaaGreatDoorShelfS
import Derived.Below
import Derived.Maps.OwnSet
import Derived.Maps.OwnOps
import Derived.Maps.Views
import Derived.WalkArith
import Derived.WalkKit
import Derived.Deep.Cut
import Derived.Outline
set_option linter.unusedVariables false
set_option linter.unusedSimpArgs false
namespace Go.Proofs.YtlmfbjhokkpjhaaGreatDoor
open Go Go.RowKit
def SynV (w : World) : Prop := ∃ ev, w.cell? ⟨5, 0, none⟩ = some ev ∧ (ev = .nilIface ∨ ∃ te pe, ev = .iface te pe)
theorem SynV.next {w w' : World} (h : SynV w) (k : Below w.heap.size w w') : SynV w' := by
 obtain ⟨ev, h1, h2⟩ := h
 exact ⟨ev, (k.cell (Zb _ _ h1)).trans h1, h2⟩
def PuPost (r : Option Nat) (w : World) (e : Ending) (w' : World) : Prop :=
 ∃ (x : Nat) (ev : Value), e = .returned (.tuple #[.int .u64 (x : Nat), ev]) ∧ (∀ y, r = some y → x = y ∧ ev = .nilIface) ∧ (r = none → ∃ te pe, ev = .iface te pe) ∧ Below w.heap.size w w'
set_option maxRecDepth 100000 in
set_option maxHeartbeats 4000000 in
theorem pu16_any (t : ByteArray) (ht : t.size = 2) (w : World) (hS : SynV w) :
  Calls Tryz.prog 121 #[.string t, .int .i64 16, .int .i64 8] w (PuPost (puV 0 (toL t)) w) := by
 have hi := ipu_any t ht w
 have hb : Below w.heap.size w (Lib.bytesWorld w 5 t) := Lib.bytesWorld_below w _ _
 generalize Lib.bytesWorld w 5 t = w1 at hi hb
 obtain ⟨ev, hev, hev2⟩ := hS.next hb
 have hte := Tryz.strconv_toError_syntax ⟨#[80, 97, 114, 115, 101, 85, 105, 110, 116]⟩ t 16 8 ev w1 (by omega) hev hev2
 have HI := Zh hi; have HB := Zh hb; have HTE := Zh hte
 clear hi hb hte hev hev2 hS
 cases hr : puV 0 (toL t) with
 | some x =>
  have hi2 : Calls Tryz.prog 159 #[.string t, .int .i64 16, .int .i64 8] w fun e w' => e = .returned (.tuple #[.int .u64 (x : Nat), .nilIface]) ∧ w' = w1 := HI.out.mono fun e w' h => by rw [hr] at h; exact h
  have HI2 := Zh hi2
  clear hi2 HI hr
  go_enter Tryz.func121, Tryz.ntmps121
  go_wp2_with (go_at_call 159; with_reducible refine HI2.out.mono ?_; rintro e w2 ⟨rfl, rfl⟩)
  go_ret2
  exact ⟨x, .nilIface, rfl, (fun y hy => by cases hy; exact ⟨rfl, rfl⟩), (fun h => by cases h), HB.out⟩
 | none =>
  have hi2 : Calls Tryz.prog 159 #[.string t, .int .i64 16, .int .i64 8] w fun e w' => e = .returned (.tuple #[.int .u64 0, .iface 243 (.int .i64 2)]) ∧ w' = w1 := HI.out.mono fun e w' h => by rw [hr] at h; exact h
  have HI2 := Zh hi2
  clear hi2 HI hr
  go_enter Tryz.func121, Tryz.ntmps121
  go_wp2_with (first
   | (go_at_call 159; with_reducible refine HI2.out.mono ?_; rintro e w2 ⟨rfl, rfl⟩)
   | (go_at_call 160; with_reducible refine HTE.out.mono ?_; rintro e w3 ⟨N, rfl, h1, h2, h3⟩; have H3 := Zh h3; clear h1 h2 h3))
  go_ret2
  exact ⟨0, _, rfl, (fun y hy => by cases hy), (fun _ => ⟨_, _, rfl⟩), HB.out.trans (H3.out.mono HB.out.size)⟩
theorem trod_iface_inv {H : Type} {enc : TypeId × Value → H} {P : Program} {w : World} {base : Nat} {sp : Nat → Bool} {held : Bool} {fuel : Nat} {t : TypeId} {cs : List Value} {x : DataW H × List MemPlace}
  (hu : ∃ m, P.underlying t = some (.interface m)) (h : DataW.trod enc P w base sp held fuel t cs = some x) : cs = [.nilIface] ∨ ∃ u v, cs = [.iface u v] := by
 obtain ⟨m, hu⟩ := hu
 cases fuel with
 | zero => simp [DataW.trod] at h
 | succ f =>
  unfold DataW.trod at h
  rw [hu] at h
  split at h <;> simp_all
theorem gSyn : Tryz.prog.globalNamed "strconv.ErrSyntax" = some 5 := by kernel_rfl
theorem gSynType : (Tryz.prog.globals[5]?).map (·.type) = some 58 := by kernel_rfl
theorem uErr : ∃ m, Tryz.prog.underlying 58 = some (.interface m) := ⟨_, Tryz.underlying58⟩
theorem env_syn {l : List (String × DataW Unit)} {W : World} (hL : laidMetH Tryz.prog l W) (h1 : (l.filter fun x => x.2.handleName?.isNone).filter (fun x => x.1 == "strconv.ErrSyntax") = [("strconv.ErrSyntax", Rows.laid_strconv_ErrSyntax)]) : SynV W := by
 obtain ⟨ps, ⟨g', t', cs, fuel, p, q, hg', ht', hvar, hd, _, _⟩, _⟩ := laidMetH_filter hL _ h1
 obtain rfl := Option.some.inj (gSyn.symm.trans hg')
 obtain rfl := Option.some.inj (gSynType.symm.trans ht')
 have hc := World.var?_cell gSyn hvar 0
 rcases trod_iface_inv uErr hd with e | ⟨u, v, e⟩
 ·refine ⟨.nilIface, ?_, .inl rfl⟩
  rw [hc, ← Array.getElem?_toList, e]; rfl
 ·refine ⟨.iface u v, ?_, .inr ⟨u, v, rfl⟩⟩
  rw [hc, ← Array.getElem?_toList, e]; rfl
end Go.Proofs.YtlmfbjhokkpjhaaGreatDoor
namespace Go.Proofs.YtlmfbjhokkpjhaaGreatDoor
open Go
def addKeys (f : Str → Option Nat) (place : Nat) (ks : List Str) (k : Str) : Option Nat :=
 if (f k).isSome then f k else if ks.contains k then some place else none
theorem placeOf_lt {L : List (List Str)} {k : Str} {i : Nat} (h : placeOf L k = some i) : i < L.length := by
 unfold placeOf at h
 have := List.findIdx?_eq_some_iff_getElem.1 h
 exact this.1
theorem placeOf_snoc (L : List (List Str)) (ks : List Str) (k : Str) : placeOf (L ++ [ks]) k = addKeys (placeOf L) L.length ks k := by
 unfold addKeys placeOf
 rw [List.findIdx?_append]
 cases h : L.findIdx? (·.contains k) with
 | some i => simp
 | none =>
  simp only [Option.none_or, List.findIdx?_cons, List.findIdx?_nil, Option.isSome_none, Bool.false_eq_true, if_false]
  cases ks.contains k <;> simp
theorem addKeys_nil (f : Str → Option Nat) (place : Nat) : addKeys f place [] = f := by
 funext k; unfold addKeys; cases h : f k <;> simp
theorem addKeys_snoc (f : Str → Option Nat) (place : Nat) (ks : List Str) (k : Str) : addKeys f place (ks ++ [k]) = addKeys (addKeys f place ks) place [k] := by
 funext x
 unfold addKeys
 cases h : f x with
 | some i => simp
 | none =>
  simp only [Option.isSome_none, Bool.false_eq_true, if_false]
  by_cases hc : ks.contains x
  ·have : x ∈ ks := by simpa using hc
   simp [this]
  ·have : x ∉ ks := by simpa using hc
   simp [this]
theorem addKeys_one_some {f : Str → Option Nat} {place : Nat} {k : Str} (h : (f k).isSome = true) : addKeys f place [k] = f := by
 funext x; unfold addKeys
 by_cases hx : (f x).isSome
 ·simp [hx]
 ·have : x ≠ k := fun e => by subst e; exact hx h
  have h2 : f x = none := by simpa using hx
  simp [h2, this]
theorem addKeys_one_none {f : Str → Option Nat} {place : Nat} {k : Str} (h : (f k).isSome = false) : addKeys f place [k] = fun x => if x = k then some place else f x := by
 funext x; unfold addKeys
 by_cases e : x = k
 ·subst e; have h2 : f x = none := by simpa using h
  simp [h2]
 ·cases hx : f x <;> simp [e]
theorem nodup_le : ∀ (n : Nat) (l : List Nat), l.Nodup → (∀ a ∈ l, a < n) → l.length ≤ n
 | 0, l, _, h => by cases l with
  | nil => simp
  | cons a l => have := h a (List.mem_cons_self ..); omega
 | n + 1, l, hn, h => by
  have h1 := nodup_le n (l.filter (· != n)) (hn.filter _) (fun a ha => by
   have := List.mem_filter.1 ha
   have h2 := h a this.1
   have h3 : a ≠ n := by simpa using this.2
   omega)
  have h2 : l.length ≤ (l.filter (· != n)).length + 1 := by
   clear h1 h
   induction l with
   | nil => simp
   | cons a l ih =>
    have hn' := List.nodup_cons.1 hn
    by_cases e : a = n
    ·subst e
     have : l.filter (· != a) = l := List.filter_eq_self.2 fun b hb => by
      have : b ≠ a := fun e => hn'.1 (e ▸ hb)
      simpa using this
     simp [this]
    ·have := ih hn'.2
     simp [e]; omega
  omega
theorem upT_lt {S : PSchema} {t u : Nat} (h : upT S t = some u) : u < S.types.length := by
 unfold upT typeAt at h
 split at h
 ·cases h
 ·have := placeOf_lt h; simpa [tK] using this
structure OnChain (S : PSchema) (t0 : Nat) (acc : List Nat) (t : Nat) : Prop where
 eq : ∃ f, chainOf S t0 = chainL S f acc t ∧ f + acc.length = S.types.length + 1
 nodup : acc.Nodup
 lt : ∀ a ∈ acc, a < S.types.length
 tlt : t < S.types.length
 head : acc = [] → t = t0
theorem OnChain.start {S : PSchema} {t : Nat} (h : t < S.types.length) : OnChain S t [] t :=
 ⟨⟨_, rfl, by simp⟩, List.nodup_nil, by simp, h, fun _ => rfl⟩
theorem OnChain.len {S : PSchema} {t0 t : Nat} {acc : List Nat} (h : OnChain S t0 acc t) : acc.length ≤ S.types.length := nodup_le _ _ h.nodup h.lt
theorem OnChain.twice {S : PSchema} {t0 t : Nat} {acc : List Nat} (h : OnChain S t0 acc t) (hc : acc.contains t = true) : chainOf S t0 = (acc, false) := by
 obtain ⟨f, he, hf⟩ := h.eq
 have := h.len
 obtain ⟨g, rfl⟩ : ∃ g, f = g + 1 := ⟨f - 1, by omega⟩
 rw [he]; unfold chainL; rw [if_pos hc]
theorem OnChain.last {S : PSchema} {t0 t : Nat} {acc : List Nat} (h : OnChain S t0 acc t) (hc : acc.contains t = false) (hu : upT S t = none) : chainOf S t0 = (acc ++ [t], true) := by
 obtain ⟨f, he, hf⟩ := h.eq
 have := h.len
 obtain ⟨g, rfl⟩ : ∃ g, f = g + 1 := ⟨f - 1, by omega⟩
 rw [he]; unfold chainL; rw [if_neg (by rw [hc]; simp), hu]
theorem OnChain.next {S : PSchema} {t0 t u : Nat} {acc : List Nat} (h : OnChain S t0 acc t) (hc : acc.contains t = false) (hu : upT S t = some u) : OnChain S t0 (acc ++ [t]) u := by
 obtain ⟨f, he, hf⟩ := h.eq
 have := h.len
 obtain ⟨g, rfl⟩ : ∃ g, f = g + 1 := ⟨f - 1, by omega⟩
 refine ⟨⟨g, ?_, by simp; omega⟩, ?_, ?_, upT_lt hu, fun e => by simp at e⟩
 ·rw [he]; show (if acc.contains t = true then (acc, false) else match upT S t with | none => (acc ++ [t], true) | some u => chainL S g (acc ++ [t]) u) = _
  rw [if_neg (by rw [hc]; simp), hu]
 ·have : t ∉ acc := by simpa using hc
  rw [List.nodup_append]
  exact ⟨h.nodup, List.nodup_cons.2 ⟨by simp, List.nodup_nil⟩, fun a ha b hb e => by simp at hb; subst hb; subst e; exact this ha⟩
 ·intro a ha
  rcases List.mem_append.1 ha with ha | ha
  ·exact h.lt a ha
  ·simp at ha; subst ha; exact h.tlt
theorem chainL_facts (S : PSchema) (n : Nat) (hn : n = S.types.length) : ∀ (f : Nat) (acc : List Nat) (t : Nat), acc.Nodup → (∀ a ∈ acc, a < n) → t < n →
  (chainL S f acc t).1.Nodup ∧ (∀ a ∈ (chainL S f acc t).1, a < n) ∧ (∃ l, (chainL S f acc t).1 = acc ++ l)
 | 0, acc, t, h1, h2, _ => ⟨h1, h2, [], by simp [chainL]⟩
 | f + 1, acc, t, h1, h2, h3 => by
  unfold chainL
  by_cases hc : acc.contains t
  ·rw [if_pos hc]; exact ⟨h1, h2, [], by simp⟩
  ·rw [if_neg hc]
   have hm : t ∉ acc := by simpa using hc
   have h1' : (acc ++ [t]).Nodup := by
    rw [List.nodup_append]
    exact ⟨h1, List.nodup_cons.2 ⟨by simp, List.nodup_nil⟩, fun a ha b hb e => by simp at hb; subst hb; subst e; exact hm ha⟩
   have h2' : ∀ a ∈ acc ++ [t], a < n := fun a ha => by
    rcases List.mem_append.1 ha with ha | ha
    ·exact h2 a ha
    ·simp at ha; subst ha; exact h3
   cases hu : upT S t with
   | none => exact ⟨h1', h2', [t], rfl⟩
   | some u =>
    obtain ⟨a, b, l, hl⟩ := chainL_facts S n hn f (acc ++ [t]) u h1' h2' (by rw [hn]; exact upT_lt hu)
    exact ⟨a, b, t :: l, by rw [hl]; simp⟩
theorem chainOf_facts (S : PSchema) {t : Nat} (h : t < S.types.length) : (chainOf S t).1.Nodup ∧ (∀ a ∈ (chainOf S t).1, a < S.types.length) ∧ ∃ l, (chainOf S t).1 = t :: l := by
 obtain ⟨a, b, _⟩ := chainL_facts S _ rfl (S.types.length + 1) [] t List.nodup_nil (by simp) h
 refine ⟨a, b, ?_⟩
 unfold chainOf chainL
 simp only [List.contains_nil, Bool.false_eq_true, if_false]
 cases hu : upT S t with
 | none => exact ⟨[], by simp⟩
 | some u =>
  obtain ⟨_, _, l, hl⟩ := chainL_facts S _ rfl S.types.length ([] ++ [t]) u (by simp) (by simpa using h) (upT_lt hu)
  exact ⟨l, by rw [hl]; simp⟩
def offs (s : List Bool) : Nat := s.count false
theorem offs_set {s : List Bool} {p : Nat} (hp : p < s.length) (h : s.getD p false = false) : offs (s.set p true) + 1 = offs s := by
 unfold offs
 induction s generalizing p with
 | nil => simp at hp
 | cons b s ih =>
  cases p with
  | zero => simp at h; subst h; simp
  | succ p =>
   have := ih (p := p) (by simpa using hp) (by simpa using h)
   simp [List.count_cons] at this ⊢; omega
def OnMore (s s' : List Bool) : Prop := s'.length = s.length ∧ ∀ i, s.getD i false = true → s'.getD i false = true
theorem OnMore.refl (s : List Bool) : OnMore s s := ⟨rfl, fun _ h => h⟩
theorem OnMore.trans {a b c : List Bool} (h : OnMore a b) (k : OnMore b c) : OnMore a c := ⟨k.1.trans h.1, fun i hi => k.2 i (h.2 i hi)⟩
theorem OnMore.set (s : List Bool) (p : Nat) : OnMore s (s.set p true) := ⟨by simp, fun i hi => by
 by_cases e : p = i
 ·subst e
  have : p < s.length := by
   rcases Nat.lt_or_ge p s.length with h | h
   ·exact h
   ·simp [List.getD, List.getElem?_eq_none h] at hi
  simp [List.getD, this]
 ·simp [List.getD, List.getElem?_set_ne e] at hi ⊢; exact hi⟩
theorem OnMore.offs {s s' : List Bool} (h : OnMore s s') : offs s' ≤ offs s := by
 obtain ⟨hl, hm⟩ := h
 unfold Proofs.YtlmfbjhokkpjhaaGreatDoor.offs
 induction s generalizing s' with
 | nil => cases s' with
  | nil => simp
  | cons => simp at hl
 | cons b s ih =>
  cases s' with
  | nil => simp at hl
  | cons b' s' =>
   have h1 := ih (s' := s') (by simpa using hl) (fun i hi => by have := hm (i + 1) (by simpa using hi); simpa using this)
   have h2 := hm 0
   cases b <;> cases b' <;> simp at h2 ⊢ <;> omega
theorem dfs_more (S : PSchema) : ∀ (f : Nat) (s : List Bool) (c : Nat), OnMore s (dfs S f s c)
 | 0, s, c => OnMore.refl s
 | f + 1, s, c => by
  unfold dfs
  generalize supsOf S c = l
  induction l generalizing s with
  | nil => exact OnMore.refl s
  | cons p l ih =>
   rw [List.foldl_cons]
   refine OnMore.trans ?_ (ih _)
   cases p with
   | none => exact OnMore.refl s
   | some p =>
    dsimp only
    split
    ·exact OnMore.refl s
    ·exact (OnMore.set s p).trans (dfs_more S f _ p)
end Go.Proofs.YtlmfbjhokkpjhaaGreatDoor
namespace Go.Proofs.YtlmfbjhokkpjhaaGreatDoor
open Go Go.RowKit
theorem block_add (a : Addr) (i : Nat) : (a.add i).block = a.block := by unfold Addr.add; split <;> rfl
structure Lies (B : Nat) (a : Option Addr) (n c : Nat) : Prop where
 le : n ≤ c
 cap : c ≤ maxLen
 nil : a = none → c = 0
 lt : ∀ ad, a = some ad → ad.block < B
 spot : ∀ ad, a = some ad → 0 < n → ad.spot = none
theorem Lies.ptr {B : Nat} {a : Option Addr} {n c : Nat} (h : Lies B a n c) (hn : 0 < n) : ∃ b o, a = some ⟨b, o, none⟩ ∧ b < B := by
 cases a with
 | none => have h1 := h.nil rfl; have h2 := h.le; omega
 | some ad =>
  obtain ⟨b, o, sp⟩ := ad
  have := h.spot _ rfl hn
  simp only at this; subst this
  exact ⟨b, o, rfl, h.lt _ rfl⟩
theorem Lies.mono {B B' : Nat} {a : Option Addr} {n c : Nat} (h : Lies B a n c) (hb : B ≤ B') : Lies B' a n c := ⟨h.le, h.cap, h.nil, fun ad e => Nat.lt_of_lt_of_le (h.lt ad e) hb, h.spot⟩
theorem Lies.len0 {B : Nat} {a : Option Addr} {n c : Nat} (h : Lies B a n c) : a = none → n = 0 ∧ c = 0 := fun e => ⟨by have := h.nil e; have := h.le; omega, h.nil e⟩
structure LiesW (B : Nat) (a : Option Addr) (n c : Nat) : Prop where
 le : n ≤ c
 cap : c ≤ maxLen
 nil : a = none → c = 0
 lt : ∀ ad, a = some ad → 0 < n → ad.block < B
 spot : ∀ ad, a = some ad → 0 < n → ad.spot = none
theorem LiesW.ptr {B : Nat} {a : Option Addr} {n c : Nat} (h : LiesW B a n c) (hn : 0 < n) : ∃ b o, a = some ⟨b, o, none⟩ ∧ b < B := by
 cases a with
 | none => have h1 := h.nil rfl; have h2 := h.le; omega
 | some ad =>
  obtain ⟨b, o, sp⟩ := ad
  have := h.spot _ rfl hn
  simp only at this; subst this
  exact ⟨b, o, rfl, h.lt _ rfl hn⟩
theorem LiesW.mono {B B' : Nat} {a : Option Addr} {n c : Nat} (h : LiesW B a n c) (hb : B ≤ B') : LiesW B' a n c := ⟨h.le, h.cap, h.nil, fun ad e hn => Nat.lt_of_lt_of_le (h.lt ad e hn) hb, h.spot⟩
theorem LiesW.len0 {B : Nat} {a : Option Addr} {n c : Nat} (h : LiesW B a n c) : a = none → n = 0 ∧ c = 0 := fun e => ⟨by have := h.nil e; have := h.le; omega, h.nil e⟩
structure Texts (B : Nat) (w : World) (a : Option Addr) (n c : Nat) (l : List ByteArray) : Prop where
 len : n = l.length
 lies : LiesW B a n c
 small : n ≤ 4294967280
 cell : ∀ b o, a = some ⟨b, o, none⟩ → ∀ i s, l[i]? = some s → w.cell? ⟨b, o + i, none⟩ = some (.string s)
 size : ∀ s ∈ l, s.size ≤ 4294967280
theorem Texts.keep {B B' : Nat} {w w' : World} {a : Option Addr} {n c : Nat} {l : List ByteArray} (h : Texts B w a n c l) (k : Below B w w') (hb : B ≤ B') : Texts B' w' a n c l :=
 ⟨h.len, h.lies.mono hb, h.small, fun b o e i s hs => by rw [k.cell (p := ⟨b, o + i, none⟩) (h.lies.lt ⟨b, o, none⟩ e (by have h1 := h.len; have h2 := (List.getElem?_eq_some_iff.1 hs).1; omega))]; exact h.cell b o e i s hs, h.size⟩
structure TypeAt (B : Nat) (w : World) (b o : Nat) (x : PType) : Prop where
 c0 : w.cell? ⟨b, o, none⟩ = some (.string x.oid)
 c1 : ∃ a n c, w.cell? ⟨b, o + 1, none⟩ = some (.slice a n c) ∧ Texts B w a n c x.names
 c2 : w.cell? ⟨b, o + 2, none⟩ = some (.string x.sup)
 c3 : w.cell? ⟨b, o + 3, none⟩ = some (.int .i8 x.syn)
 c4 : w.cell? ⟨b, o + 4, none⟩ = some (.int .i8 x.eq)
 c5 : w.cell? ⟨b, o + 5, none⟩ = some (.int .i8 x.ord)
 c6 : w.cell? ⟨b, o + 6, none⟩ = some (.int .i8 x.part)
 c7 : w.cell? ⟨b, o + 7, none⟩ = some (.bool x.single)
 c8 : w.cell? ⟨b, o + 8, none⟩ = some (.int .u8 x.index)
structure TypeOk (x : PType) : Prop where
 oid : x.oid.size ≤ 4294967280
 sup : x.sup.size ≤ 4294967280
 syn : -128 ≤ x.syn ∧ x.syn ≤ 127
 eq : -128 ≤ x.eq ∧ x.eq ≤ 127
 ord : -128 ≤ x.ord ∧ x.ord ≤ 127
 part : -128 ≤ x.part ∧ x.part ≤ 127
 index : 0 ≤ x.index ∧ x.index ≤ 255
theorem TypeAt.keep {B B' : Nat} {w w' : World} {b o : Nat} {x : PType} (h : TypeAt B w b o x) (hl : b < B) (k : Below B w w') (hb : B ≤ B') : TypeAt B' w' b o x where
 c0 := by rw [k.cell (by exact hl)]; exact h.c0
 c1 := by obtain ⟨a, n, c, h1, h2⟩ := h.c1; exact ⟨a, n, c, by rw [k.cell (by exact hl)]; exact h1, h2.keep k hb⟩
 c2 := by rw [k.cell (by exact hl)]; exact h.c2
 c3 := by rw [k.cell (by exact hl)]; exact h.c3
 c4 := by rw [k.cell (by exact hl)]; exact h.c4
 c5 := by rw [k.cell (by exact hl)]; exact h.c5
 c6 := by rw [k.cell (by exact hl)]; exact h.c6
 c7 := by rw [k.cell (by exact hl)]; exact h.c7
 c8 := by rw [k.cell (by exact hl)]; exact h.c8
structure Types (B : Nat) (w : World) (a : Option Addr) (n c : Nat) (l : List PType) : Prop where
 len : n = l.length
 lies : Lies B a n c
 cell : ∀ b o, a = some ⟨b, o, none⟩ → ∀ i x, l[i]? = some x → TypeAt B w b (o + i * 9) x
 ok : ∀ x ∈ l, TypeOk x
 top : ∀ ad, a = some ad → ad.spot = none
theorem Types.keep {B B' : Nat} {w w' : World} {a : Option Addr} {n c : Nat} {l : List PType} (h : Types B w a n c l) (k : Below B w w') (hb : B ≤ B') : Types B' w' a n c l :=
 ⟨h.len, h.lies.mono hb, fun b o e i x hx => (h.cell b o e i x hx).keep (h.lies.lt ⟨b, o, none⟩ e) k hb, h.ok, h.top⟩
structure ClassAt (B : Nat) (w : World) (b o : Nat) (x : PClass) : Prop where
 c0 : w.cell? ⟨b, o, none⟩ = some (.string x.oid)
 c1 : ∃ a n c, w.cell? ⟨b, o + 1, none⟩ = some (.slice a n c) ∧ Texts B w a n c x.names
 c2 : ∃ a n c, w.cell? ⟨b, o + 2, none⟩ = some (.slice a n c) ∧ Texts B w a n c x.sups
 c3 : w.cell? ⟨b, o + 3, none⟩ = some (.int .i8 x.kind)
 c4 : ∃ a n c, w.cell? ⟨b, o + 4, none⟩ = some (.slice a n c) ∧ Texts B w a n c x.must
 c5 : ∃ a n c, w.cell? ⟨b, o + 5, none⟩ = some (.slice a n c) ∧ Texts B w a n c x.may
structure ClassOk (x : PClass) : Prop where
 oid : x.oid.size ≤ 4294967280
 kind : -128 ≤ x.kind ∧ x.kind ≤ 127
theorem ClassAt.keep {B B' : Nat} {w w' : World} {b o : Nat} {x : PClass} (h : ClassAt B w b o x) (hl : b < B) (k : Below B w w') (hb : B ≤ B') : ClassAt B' w' b o x where
 c0 := by rw [k.cell (by exact hl)]; exact h.c0
 c1 := by obtain ⟨a, n, c, h1, h2⟩ := h.c1; exact ⟨a, n, c, by rw [k.cell (by exact hl)]; exact h1, h2.keep k hb⟩
 c2 := by obtain ⟨a, n, c, h1, h2⟩ := h.c2; exact ⟨a, n, c, by rw [k.cell (by exact hl)]; exact h1, h2.keep k hb⟩
 c3 := by rw [k.cell (by exact hl)]; exact h.c3
 c4 := by obtain ⟨a, n, c, h1, h2⟩ := h.c4; exact ⟨a, n, c, by rw [k.cell (by exact hl)]; exact h1, h2.keep k hb⟩
 c5 := by obtain ⟨a, n, c, h1, h2⟩ := h.c5; exact ⟨a, n, c, by rw [k.cell (by exact hl)]; exact h1, h2.keep k hb⟩
structure Classes (B : Nat) (w : World) (a : Option Addr) (n c : Nat) (l : List PClass) : Prop where
 len : n = l.length
 lies : Lies B a n c
 cell : ∀ b o, a = some ⟨b, o, none⟩ → ∀ i x, l[i]? = some x → ClassAt B w b (o + i * 6) x
 ok : ∀ x ∈ l, ClassOk x
 top : ∀ ad, a = some ad → ad.spot = none
theorem Classes.keep {B B' : Nat} {w w' : World} {a : Option Addr} {n c : Nat} {l : List PClass} (h : Classes B w a n c l) (k : Below B w w') (hb : B ≤ B') : Classes B' w' a n c l :=
 ⟨h.len, h.lies.mono hb, fun b o e i x hx => (h.cell b o e i x hx).keep (h.lies.lt ⟨b, o, none⟩ e) k hb, h.ok, h.top⟩
theorem tower : ∀ (os : List Obj) (w : World), Below w.heap.size w (os.foldl World.alloc w) ∧ ∀ k o, os[k]? = some o → (os.foldl World.alloc w).heap[w.heap.size + k]? = some o
 | [], w => ⟨Zl _ _, fun k o h => by simp at h⟩
 | o :: os, w => by
  obtain ⟨h1, h2⟩ := tower os (w.alloc o)
  have hb : Below w.heap.size w (w.alloc o) := (Zl _ _).alloc (Zr _) _
  refine ⟨hb.trans (h1.mono hb.size), fun k x hx => ?_⟩
  cases k with
  | zero =>
   simp at hx; subst hx
   show (os.foldl World.alloc (w.alloc o)).heap[w.heap.size]? = _
   rw [h1.block _ (by simp)]
   exact heap_alloc_new w o
  | succ k =>
   have := h2 k x (by simpa using hx)
   rw [World.size_alloc] at this
   rw [show w.heap.size + (k + 1) = w.heap.size + 1 + k by omega]
   exact this
theorem texts_madeT {w : World} {g n : Nat} {l : List ByteArray} {t : Nat × Nat} (h : w.heap[g]? = some (.cells (l.map Value.string).toArray 9 t)) (hn : n = l.length) (hs : n ≤ 4294967280) (hz : ∀ s ∈ l, s.size ≤ 4294967280) : Texts w.heap.size w (some ⟨g, 0, none⟩) n n l := by
 refine ⟨hn, ⟨Zr _, by unfold maxLen; omega, (fun h => by cases h), fun ad e _ => by cases e; exact (Array.getElem?_eq_some_iff.1 h).1, fun ad e _ => by cases e; rfl⟩, hs, fun b o e i x hx => ?_, hz⟩
 cases e
 rw [Nat.zero_add]
 unfold World.cell?
 simp only [h]
 simp [hx]
section
variable {w : World} {n : Nat} {os : List Obj} (hh : ∀ k o, os[k]? = some o → w.heap[n + k]? = some o)
include hh
theorem cell_at (k j : Nat) {cs : Array Value} {t : TypeId} {v : Value} (h1 : os[k]? = some (.cells cs t)) (h2 : cs[j]? = some v) : w.cell? ⟨n + k, j, none⟩ = some v := by
 rw [Lib.cell_of_heap (hh k _ h1)]; exact h2
theorem texts_at (k m : Nat) (l : List ByteArray) {cs : Array Value} (h1 : os[k]? = some (.cells cs 9)) (h2 : cs = (l.map Value.string).toArray) (h3 : m = l.length ∧ m ≤ 4294967280) (hz : ∀ s ∈ l, s.size ≤ 4294967280) : Texts w.heap.size w (some ⟨n + k, 0, none⟩) m m l :=
 texts_madeT (h2 ▸ hh k _ h1) h3.1 h3.2 hz
theorem lt_at (k : Nat) {o : Obj} (h1 : os[k]? = some o) : n + k < w.heap.size := (Array.getElem?_eq_some_iff.1 (hh k _ h1)).1
end
end Go.Proofs.YtlmfbjhokkpjhaaGreatDoor
namespace Go.Proofs.YtlmfbjhokkpjhaaGreatDoor
open Go Go.RowKit Go.Maps
theorem kStr : Keyed Tryz.prog 9 := string_keyed Tryz.underlying9
theorem zeroInt (w : World) : (zeroValue 3).run Tryz.prog w = .ok (.int .i64 0) w := by kernel_rfl
theorem keyStr {s : ByteArray} (hs : s.size ≤ maxLen) : keyOf Tryz.prog 9 (.string s) = some (.string (toL s)) := Go.WideMaps.keyOf_string_mk Tryz.underlying9 hs
structure MapIs (w : World) (b n : Nat) (f : Str → Option Nat) : Prop where
 own : ∃ D : DataW Unit, w.ownsMap Tryz.prog 9 (plainElem Tryz.prog 3) b n D ∧
  ∀ k : Str, Maps.has D (.string k) = (f k).isSome ∧ D.atKey (.string k) (.lit (.int .i64 0)) = .lit (.int .i64 ((f k).getD 0 : Nat))
theorem MapIs.lt {w : World} {b n : Nat} {f : Str → Option Nat} (h : MapIs w b n f) : b < w.heap.size := by obtain ⟨D, h1, _⟩ := h.own; exact h1.lt
theorem MapIs.of_block {w w' : World} {b n : Nat} {f : Str → Option Nat} (h : MapIs w b n f) (k : w'.heap[b]? = w.heap[b]?) : MapIs w' b n f := by
 obtain ⟨D, ⟨es, clock, hb, r⟩, h2⟩ := h.own
 exact ⟨D, ⟨es, clock, by rw [k]; exact hb, r⟩, h2⟩
theorem MapIs.keep {w w' : World} {b n B : Nat} {f : Str → Option Nat} (h : MapIs w b n f) (k : Below B w w') (hb : b < B) : MapIs w' b n f := h.of_block (k.block b hb)
theorem MapIs.mono {w : World} {b n n' : Nat} {f : Str → Option Nat} (h : MapIs w b n f) (hn : n ≤ n') : MapIs w b n' f := by
 obtain ⟨D, h1, h2⟩ := h.own; exact ⟨D, h1.mono hn, h2⟩
theorem MapIs.made (w : World) : MapIs (w.alloc (.map #[] 0)) w.heap.size 0 (fun _ => none) :=
 ⟨.map [], World.ownsMap_made _ _ _ _, fun _ => ⟨rfl, rfl⟩⟩
theorem MapIs.look {w : World} {b n : Nat} {f : Str → Option Nat} (h : MapIs w b n f) {s : ByteArray} (hs : s.size ≤ maxLen) :
  (Instr.lookup 80 (.map (some b)) (.string s) false).run Tryz.prog w = .ok (.int .i64 ((f (toL s)).getD 0 : Nat)) w := by
 obtain ⟨D, h1, h2⟩ := h.own
 obtain ⟨c, hr, hc, _⟩ := h1.lookup_int kStr Tryz.underlying80 Tryz.underlying3 (zeroInt w) (keyStr hs)
 rw [(h2 (toL s)).2] at hc
 cases hc; exact hr
theorem MapIs.look_ok {w : World} {b n : Nat} {f : Str → Option Nat} (h : MapIs w b n f) {s : ByteArray} (hs : s.size ≤ maxLen) :
  (Instr.lookup 80 (.map (some b)) (.string s) true).run Tryz.prog w = .ok (.tuple #[.int .i64 ((f (toL s)).getD 0 : Nat), .bool (f (toL s)).isSome]) w := by
 obtain ⟨D, h1, h2⟩ := h.own
 obtain ⟨v, ps, hr, hv⟩ := h1.look_ok kStr Tryz.underlying80 (zeroInt w) (plainElem_int Tryz.underlying3 (by decide)) (keyStr hs)
 obtain ⟨c, rfl, hc, _⟩ := plainElem_int_inv Tryz.underlying3 hv
 rw [(h2 (toL s)).2] at hc
 rw [(h2 (toL s)).1] at hr
 cases hc; exact hr
theorem MapIs.put {w : World} {b n : Nat} {f : Str → Option Nat} (h : MapIs w b n f) (hn : n < maxLen) {s : ByteArray} (hs : s.size ≤ maxLen) {v : Nat} (hv : v ≤ maxLen) :
  ∃ w', (Instr.mapUpdate 80 (.map (some b)) (.string s) (.int .i64 (v : Int))).run Tryz.prog w = .ok () w' ∧ MapIs w' b (n + 1) (fun x => if x = toL s then some v else f x) ∧ w.grownBy w' (some b) := by
 obtain ⟨D, h1, h2⟩ := h.own
 obtain ⟨w', hr, ho, hg⟩ := h1.update kStr Tryz.underlying80 hn (keyStr hs) (plainElem_int (H := Unit) Tryz.underlying3 (a := (v : Int)) (WalkArith.wf_i64 (by unfold maxLen at hv; omega)))
 refine ⟨w', hr, ⟨_, ho, fun k => ?_⟩, hg⟩
 by_cases e : k = toL s
 ·subst e
  rw [has_put_same h1.isMap (k := .string (toL s)) trivial, atKey_put_same h1.isMap (k := .string (toL s)) trivial]
  simp
 ·have hne : (Lit.string k) ≠ Lit.string (toL s) := fun e2 => e (by cases e2; rfl)
  rw [has_put_other hne, atKey_put_other hne, (h2 k).1, (h2 k).2]
  simp [e]
theorem MapIs.wp_put {w : World} {b n : Nat} {f : Str → Option Nat} (h : MapIs w b n f) {ops : Array Oper} {rest : List Oper} {o : Oper} {a : Act} {Q : Exit → Act → World → Prop} (hg : o.guard = none) (m x v : Operand) (hop : o.op = Op.mapUpdate 80 m x v)
  (hm : a.eval m = .map (some b)) (s : ByteArray) (hx : a.eval x = .string s) (p : Nat) (hv : a.eval v = .int .i64 (p : Int)) (hn : n < maxLen) (hs : s.size ≤ maxLen) (hp : p ≤ maxLen)
  (hK : ∀ w', MapIs w' b (n + 1) (fun x => if x = toL s then some p else f x) → w.grownBy w' (some b) → wpList Tryz.prog ops Q rest (a.put o.dst undef) w') :
  wpList Tryz.prog ops Q (o :: rest) a w := by
 refine wpList_plain hg fun K' hK' => ?_
 obtain ⟨w', hrun, r1, r2⟩ := h.put hn hs hp
 unfold Oper.wp
 simp [execOp, hop, hm, hx, hv, hrun, Result.andThen]
 exact hK' _ _ (hK w' r1 r2)
end Go.Proofs.YtlmfbjhokkpjhaaGreatDoor
namespace Go.Proofs.YtlmfbjhokkpjhaaGreatDoor
open Go Go.RowKit
structure EI (P : Program) (T e : TypeId) (z : Value) (sz bytes : Nat) : Prop where
 und : P.underlying T = some (.slice e)
 info : ∃ i, P.info? e = some i ∧ i.zero = some z ∧ i.size = sz ∧ i.bytes = bytes
 zs : z.cells.size = sz
 sz0 : 0 < sz
 b0 : 0 < bytes
theorem EI.of {P : Program} {T e : TypeId} {z : Value} {sz bytes : Nat} (hu : P.underlying T = some (.slice e)) (h : (P.info? e).map (fun i => (i.zero, i.size, i.bytes)) = some (some z, sz, bytes)) (hz : z.cells.size = sz) (h0 : 0 < sz) (h1 : 0 < bytes) : EI P T e z sz bytes := by
 refine ⟨hu, ?_, hz, h0, h1⟩
 cases hi : P.info? e with
 | none => rw [hi] at h; cases h
 | some i =>
  rw [hi] at h
  simp only [Option.map_some, Option.some.injEq, Prod.mk.injEq] at h
  exact ⟨i, rfl, h.1, h.2.1, h.2.2⟩
structure Vec (e sz : Nat) (w0 w : World) (go : Option Nat) (n cap : Nat) (vs : List Value) : Prop where
 own : Own w e sz go n cap vs
 fresh : ∀ g, go = some g → w0.heap.size ≤ g
 below : Below w0.heap.size w0 w
variable {P : Program} {T e : TypeId} {z : Value} {sz bytes : Nat} {w0 w : World} {go : Option Nat} {n cap : Nat} {vs : List Value}
theorem Vec.nil (e sz : Nat) (w0 : World) {w : World} (h : Below w0.heap.size w0 w) : Vec e sz w0 w none 0 0 [] := ⟨Own.nil w e sz, (fun g h => by cases h), h⟩
theorem Vec.lt {g : Nat} (h : Vec e sz w0 w (some g) n cap vs) : g < w.heap.size := h.own.row.lt
theorem Vec.size (h : Vec e sz w0 w go n cap vs) : w0.heap.size ≤ w.heap.size := h.below.size
theorem Vec.next {w' : World} (h : Vec e sz w0 w go n cap vs) (k : Below w.heap.size w w') : Vec e sz w0 w' go n cap vs :=
 ⟨h.own.keep fun g hg => by subst hg; exact k.block g h.own.row.lt, h.fresh, h.below.trans (k.mono h.size)⟩
theorem Vec.alloc (h : Vec e sz w0 w go n cap vs) (o : Obj) : Vec e sz w0 (w.alloc o) go n cap vs := h.next ((Zl _ w).alloc (Zr _) o)
theorem Vec.chg {S : Nat → Prop} {w' : World} (h : Vec e sz w0 w go n cap vs) (k : Chg S w w') (hS : ∀ g, S g → w0.heap.size ≤ g) (hn : ∀ g, go = some g → ¬ S g) : Vec e sz w0 w' go n cap vs :=
 ⟨h.own.keep fun g hg => by subst hg; exact k.block g h.own.row.lt (hn g rfl), h.fresh, h.below.trans (k.below h.size fun b hb hs => by have := hS b hs; omega)⟩
theorem Vec.cell {g : Nat} (h : Vec e sz w0 w (some g) n cap vs) {j : Nat} {v : Value} (hj : vs[j]? = some v) : w.cell? ⟨g, j, none⟩ = some v := h.own.row.cell hj
theorem Vec.ptr (h : Vec e sz w0 w go n cap vs) (hn : 0 < n) : ∃ g, go = some g := by
 cases go with
 | none => have := h.own.2.1; omega
 | some g => exact ⟨g, rfl⟩
theorem Vec.from {wa : World} (h : Vec e sz w0 w go n cap vs) (k : Below wa.heap.size wa w0) : Vec e sz wa w go n cap vs := ⟨h.own, fun g hg => Nat.le_trans k.size (h.fresh g hg), k.trans (h.below.mono k.size)⟩
theorem Vec.made (w0 : World) {w : World} (h : Below w0.heap.size w0 w) (e sz m : Nat) (xs : Array Value) (hx : xs.size = m * sz) (hm : m ≤ maxLen) : Vec e sz w0 (w.alloc (.cells xs e)) (some w.heap.size) m m xs.toList :=
 ⟨Own.mk (Row.made hx hm) (by simpa using hx) (Zr _), fun g hg => by cases hg; exact h.size, h.alloc h.size _⟩
theorem Vec.app (h : Vec e sz w0 w go n cap vs) (I : EI P T e z sz bytes) {ops : Array Oper} {rest : List Oper} {o : Oper} {a : Act} {Q : Exit → Act → World → Prop} (hgd : o.guard = none) (s x : Operand)
  (ho : o.op = .call { callee := .builtin .append, args := #[s, x], argTypes := #[T, T] })
  (hs : a.eval s = sv go n cap) (sa : Option Addr) (m c : Nat) (news : List Value) (hx : a.eval x = .slice sa m c) (hsn : sa = none → m = 0 ∧ c = 0) (hl : news.length = m * sz)
  (hnews : ∀ ad, sa = some ad → ∀ j u, news[j]? = some u → w.cell? (ad.add j) = some u) (h1 : ∀ u ∈ news, u.oneCell' = true)
  (L : Nat) (hL : n + m = L) (hb : L * bytes ≤ 140737488355328)
  (hk : ∀ go' cap' w', Vec e sz w0 w' go' L cap' (vs ++ news) → w.grownBy w' go → wpList P ops Q rest (a.put o.dst (sv go' L cap')) w') : wpList P ops Q (o :: rest) a w := by
 subst hL
 obtain ⟨i, h2, h3, h4, h5⟩ := I.info
 refine wpList_app0 hgd s x T ho e i z sz bytes I.und h2 h3 h4 h5 I.zs I.sz0 I.b0 go n cap vs hs h.own sa m c news hx hsn hl hnews h1 hb fun go' cap' w' hO hG hat => hk go' cap' w' ⟨hO, fun k hkk => ?_, h.below.grown hG h.size fun k hk => h.fresh k hk⟩ hG
 rcases hat with e2 | e2
 ·rw [e2] at hkk; exact h.fresh _ hkk
 ·rw [e2] at hkk; cases hkk; exact h.size
theorem Vec.app1 (h : Vec e sz w0 w go n cap vs) (I : EI P T e z sz bytes) {ops : Array Oper} {rest : List Oper} {o : Oper} {a : Act} {Q : Exit → Act → World → Prop} (hgd : o.guard = none) (s x : Operand)
  (ho : o.op = .call { callee := .builtin .append, args := #[s, x], argTypes := #[T, T] })
  (hs : a.eval s = sv go n cap) (sa : Option Addr) (m c : Nat) (news : List Value) (hx : a.eval x = .slice sa m c) (hsn : sa = none → m = 0 ∧ c = 0) (hl : news.length = m * sz)
  (hnews : ∀ ad, sa = some ad → ∀ j u, news[j]? = some u → w.cell? (ad.add j) = some u) (h1 : ∀ u ∈ news, u.oneCell' = true)
  (L : Nat) (hL : n + m = L) (hb : L * bytes ≤ 140737488355328) (hpos : 0 < L)
  (hk : ∀ g cap' w', Vec e sz w0 w' (some g) L cap' (vs ++ news) → w.grownBy w' go → wpList P ops Q rest (a.put o.dst (.slice (some ⟨g, 0, none⟩) L cap')) w') : wpList P ops Q (o :: rest) a w :=
 h.app I hgd s x ho hs sa m c news hx hsn hl hnews h1 L hL hb fun go' cap' w' hV hG => by
  obtain ⟨g, rfl⟩ := hV.ptr hpos
  exact hk g cap' w' hV hG
theorem Vec.push (h : Vec e sz w0 w go n cap vs) (I : EI P T e z sz bytes) {ops : Array Oper} {rest : List Oper} {o : Oper} {a : Act} {Q : Exit → Act → World → Prop} (hgd : o.guard = none) (s x : Operand)
  (ho : o.op = .call { callee := .builtin .append, args := #[s, x], argTypes := #[T, T] })
  (hs : a.eval s = sv go n cap) (m : Nat) (news : List Value) (cs : Array Value) (hcs : cs.toList = news) (hx : a.eval x = .slice (some ⟨w.heap.size, 0, none⟩) m m) (hl : news.length = m * sz) (h1 : ∀ u ∈ news, u.oneCell' = true) (hm : 0 < m)
  (L : Nat) (hL : n + m = L) (hb : L * bytes ≤ 140737488355328)
  (hk : ∀ g cap' w', Vec e sz w0 w' (some g) L cap' (vs ++ news) → (w.alloc (.cells cs e)).grownBy w' go → wpList P ops Q rest (a.put o.dst (.slice (some ⟨g, 0, none⟩) L cap')) w') : wpList P ops Q (o :: rest) a (w.alloc (.cells cs e)) := by
 refine (h.alloc (.cells cs e)).app I hgd s x ho hs (some ⟨w.heap.size, 0, none⟩) m m news hx (fun h => by cases h) hl (news_new w news cs e hcs) h1 L hL hb fun go' cap' w' hV hG => ?_
 obtain ⟨g, rfl⟩ := hV.ptr (by omega)
 exact hk g cap' w' hV hG
end Go.Proofs.YtlmfbjhokkpjhaaGreatDoor
namespace Go.Proofs.YtlmfbjhokkpjhaaGreatDoor
open Go Go.RowKit Go.Maps
def intV (n : Nat) : Value := .int .i64 (n : Int)
theorem intV_get {l : List Nat} {i : Nat} (h : i < l.length) : (l.map intV)[i]? = some (.int .i64 (l[i] : Int)) := by simp [h, intV]
theorem eiInt : EI Tryz.prog 91 3 (.int .i64 0) 1 8 := EI.of Tryz.underlying91 (by kernel_rfl) rfl (by decide) (by decide)
structure Mk (w : World) (g : Nat) (S : PSchema) : Prop where
 lt : g < w.heap.size
 types : ∃ a n c, w.cell? ⟨g, 0, none⟩ = some (.slice a n c) ∧ Types g w a n c S.types
 classes : ∃ a n c, w.cell? ⟨g, 1, none⟩ = some (.slice a n c) ∧ Classes g w a n c S.classes
 tm : ∃ m N, w.cell? ⟨g, 2, none⟩ = some (.map (some m)) ∧ m < g ∧ MapIs w m N (placeOf (tK S))
 cm : ∃ m N, w.cell? ⟨g, 3, none⟩ = some (.map (some m)) ∧ m < g ∧ MapIs w m N (placeOf (cK S))
theorem Mk.keep4 {w w' : World} {g : Nat} {S : PSchema} (h : Mk w g S) (k : Below g w w') (hs : w.heap.size ≤ w'.heap.size) (hc : ∀ j, j < 4 → w'.cell? ⟨g, j, none⟩ = w.cell? ⟨g, j, none⟩) : Mk w' g S where
 lt := Nat.lt_of_lt_of_le h.lt hs
 types := by obtain ⟨a, n, c, h1, h2⟩ := h.types; exact ⟨a, n, c, by rw [hc 0 (by omega)]; exact h1, h2.keep k (Zr _)⟩
 classes := by obtain ⟨a, n, c, h1, h2⟩ := h.classes; exact ⟨a, n, c, by rw [hc 1 (by omega)]; exact h1, h2.keep k (Zr _)⟩
 tm := by obtain ⟨m, N, h1, h2, h3⟩ := h.tm; exact ⟨m, N, by rw [hc 2 (by omega)]; exact h1, h2, h3.keep k h2⟩
 cm := by obtain ⟨m, N, h1, h2, h3⟩ := h.cm; exact ⟨m, N, by rw [hc 3 (by omega)]; exact h1, h2, h3.keep k h2⟩
theorem Mk.keep {w w' : World} {g : Nat} {S : PSchema} (h : Mk w g S) (k : Below w.heap.size w w') : Mk w' g S :=
 h.keep4 (k.mono (Nat.le_of_lt h.lt)) k.size fun j _ => k.cell (by exact h.lt)
theorem contains_vec {w0 wr : World} {go : Option Nat} {n cap : Nat} {acc : List Nat} (h : Vec 3 1 w0 wr go n cap (acc.map intV)) (hn : n = acc.length) (hb : n ≤ 1000000) (t : Nat) :
  Calls Tryz.prog 94 #[sv go n cap, .int .i64 (t : Int)] wr fun e w' => e = .returned (.bool (acc.contains t)) ∧ wr = w' := by
 subst hn
 cases go with
 | none =>
  have := h.own.2.1
  have : acc = [] := List.eq_nil_of_length_eq_zero this
  subst this
  exact (Tryz.slices_Contains_int_empty none cap (t : Int) wr).mono fun e w' ⟨he, hw⟩ => ⟨he, hw.symm⟩
 | some g =>
  refine (Tryz.slices_Contains_int g 0 acc.length cap (acc.map (Int.ofNat)) (t : Int) wr (by simp) (by omega) (fun j hj => ?_)).mono fun e w' ⟨he, hw⟩ => ⟨?_, hw.symm⟩
  ·have hj' : j < acc.length := by simpa using hj
   rw [Nat.zero_add, h.cell (intV_get hj')]
   simp [List.getD, hj']
  ·rw [he, List.take_of_length_le (by simp)]
   congr 2
   rw [Bool.eq_iff_iff]
   simp only [List.contains_iff_mem, List.mem_map]
   exact ⟨fun ⟨a, ha, e⟩ => (Int.ofNat.inj e) ▸ ha, fun h => ⟨t, h, rfl⟩⟩
end Go.Proofs.YtlmfbjhokkpjhaaGreatDoor
