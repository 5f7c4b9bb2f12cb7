/- Part 9 of the walks and plain laws, joined: First, DescV, ShwM, OpenRec, Larg. -/
import Derived.Test.YtifgmnafjihlkaaGreatDoorMW08
import Derived.Test.YtifgmnafjihlkaaGreatDoorMW07
import Derived.Lib.SlicesCompact
import Derived.Lib.SlicesS
import Derived.BigQuiet
import Derived.BigRegion
import Derived.Deep.DeepCutAuto
/- schema.first, schema.taken. -/
namespace Go.Proofs.YtifgmnafjihlkaaGreatDoor
open Go Go.RowKit Go.Maps

theorem eiStr : EI Tryz.prog 46 9 (.string ByteArray.empty) 1 16 := EI.of Tryz.underlying46 (by kernel_rfl) rfl (by decide) (by decide)
def strV (l : List ByteArray) : List Value := l.map .string
theorem strV_one (l : List ByteArray) : ∀ u ∈ strV l, u.oneCell' = true := fun u hu => by
  obtain ⟨s, _, rfl⟩ := List.mem_map.1 hu; rfl
theorem strV_get {l : List ByteArray} {i : Nat} (h : i < l.length) : (strV l)[i]? = some (.string l[i]) := by
  simp [strV, h]
theorem Texts.news {B : Nat} {w : World} {a : Option Addr} {n c : Nat} {l : List ByteArray} (h : Texts B w a n c l) : ∀ ad, a = some ad → ∀ (j : Nat) (u : Value), (strV l)[j]? = some u → ad.block < B ∧ w.cell? (ad.add j) = some u := by
  intro ad e j u hu
  simp only [strV, List.getElem?_map, Option.map_eq_some_iff] at hu
  obtain ⟨s, hs, rfl⟩ := hu
  have hn : 0 < n := by have := (List.getElem?_eq_some_iff.1 hs).1; have := h.len; omega
  obtain ⟨b, o, e2, hb⟩ := h.lies.ptr hn
  rw [e] at e2; cases e2
  rw [Addr.add_lit]
  exact ⟨hb, h.cell b o e j s hs⟩
theorem Texts.len0 {B : Nat} {w : World} {a : Option Addr} {n c : Nat} {l : List ByteArray} (h : Texts B w a n c l) : a = none → n = 0 ∧ c = 0 := h.lies.len0

theorem Chg.of_below {S : Nat → Prop} {w w' : World} (h : Below w.heap.size w w') : Chg S w w' := ⟨h.os, h.tape, h.output, h.size, fun k hk _ => h.block k hk⟩
def keysN (oid : ByteArray) (names : List ByteArray) : List Str := (oid :: names).map fun s => low (toL s)

theorem keys_take {oid : ByteArray} {names : List ByteArray} {i : Nat} (h : i < (oid :: names).length) : (keysN oid names).take (i + 1) = (keysN oid names).take i ++ [low (toL (oid :: names)[i])] := by
  have h2 : i < (keysN oid names).length := by simpa [keysN] using h
  rw [List.take_succ_eq_append_getElem h2]
  have : (keysN oid names)[i] = low (toL (oid :: names)[i]) := by simp only [keysN, List.getElem_map]
  rw [this]

set_option maxHeartbeats 1000000 in
theorem first_any (B N mb place : Nat) (f : Str → Option Nat) (oid : ByteArray) (a : Option Addr) (n c : Nat) (names : List ByteArray) (w : World) (h : Texts B w a n c names) (ho : oid.size ≤ 4294967280)
    (hm : MapIs w mb N f) (hB : B ≤ w.heap.size) (hN : N + n + 1 < maxLen) (hp : place ≤ maxLen) :
    Calls Tryz.prog 78 #[.map (some mb), .int .i64 (place : Int), .string oid, .slice a n c] w fun e w' => e = .returned (.tuple #[]) ∧ MapIs w' mb (N + n + 1) (addKeys f place (keysN oid names)) ∧ Chg (· = mb) w w' := by
  have hnl := h.len
  have hsm := h.small
  have hlt := hm.lt
  obtain ⟨L, hL⟩ : ∃ L, 1 + n = L := ⟨_, rfl⟩
  have hLp : 0 < L := by omega
  have hLs : L ≤ 4294967281 := by omega
  have hV := Vec.made w (Below.refl _ w) 9 1 1 #[.string oid] rfl (by unfold maxLen; omega)
  have hal : Below w.heap.size w (w.alloc (.cells #[.string oid] 9)) := (Below.refl _ w).alloc (Nat.le_refl _) _
  have hnews : ∀ ad, a = some ad → ∀ (j : Nat) (u : Value), (strV names)[j]? = some u → (w.alloc (.cells #[.string oid] 9)).cell? (ad.add j) = some u := fun ad e j u hu => by
    have := h.news ad e j u hu; rw [hal.cell (p := ad.add j) (by rw [block_add]; exact Nat.lt_of_lt_of_le this.1 hB)]; exact this.2
  have hbt : L * 16 ≤ 140737488355328 := by omega
  have hsl : (strV names).length = n * 1 := by simp [strV, hnl]
  have hl0 := h.len0
  have hLn : L = names.length + 1 ∧ L = n + 1 := by omega
  have hsz : ∀ x ∈ oid :: names, x.size ≤ 4294967280 := fun x hx => by
    rcases List.mem_cons.1 hx with e | e
    · rw [e]; exact ho
    · exact h.size _ e
  have HV := Lib.hid hV; have HN := Lib.hid hnews; have HS := Lib.hid (And.intro hbt hsl); have HM := Lib.hid hm; have HL0 := Lib.hid hl0; have HL := Lib.hid hL; have HZ := Lib.hid hsz; have HC := Lib.hid (And.intro hLn (And.intro hN hp)); have HAL := Lib.hid hal
  clear h hV hal hm hl0 hnl hsm hnews hbt hsl hL hsz hLn hN hp ho hB
  go_enter Tryz.func78, Tryz.ntmps78
  go_wp2_with (at_builtin; refine HV.out.app1 eiStr rfl _ _ rfl rfl a n c (strV names) rfl HL0.out HS.out.2 HN.out (strV_one _) L HL.out HS.out.1 hLp ?_; intro g' cap' w1 hV1 hG1; have HV1 := Lib.hid (And.intro hV1 hG1); clear hV1 hG1)
  have hgf : w.heap.size ≤ g' := HV1.out.1.fresh g' rfl
  have HO1 : Hid (Own w1 9 1 (some g') L cap' (strV (oid :: names))) := Lib.hid HV1.out.1.own
  have HB1 := Lib.hid HV1.out.1.below
  clear HV1 HV HN HS HL0 HL HAL
  go_loopw [17] (fun iv wr => ∃ i : Nat, iv = .int .i64 i ∧ i ≤ L ∧ MapIs wr mb (N + i) (addKeys f place ((keysN oid names).take i)) ∧ Own wr 9 1 (some g') L cap' (strV (oid :: names)) ∧ Chg (· = mb) w wr) (fun iv _ => L - (intOf iv).toNat)
  case atStart => exact ⟨0, rfl, Nat.zero_le _, by simpa [addKeys_nil] using HM.out.keep HB1.out hlt, HO1.out, Chg.of_below HB1.out⟩
  case round =>
    clear HO1 HB1
    obtain ⟨i, rfl, hi, hmi, hown, hchg⟩ := hrel
    have hgne : g' ≠ mb := by omega
    by_cases hlt2 : i < L
    · have hli : i < (oid :: names).length := by simp only [List.length_cons]; have := HC.out.1.1; omega
      have hc := hown.row.cell (strV_get hli)
      have hsz := HZ.out _ (List.getElem_mem hli)
      have htk := keys_take hli
      have hNi : N + i + 1 < maxLen := by have := HC.out; omega
      generalize (oid :: names)[i] = s at hc hsz htk
      have HR := Lib.hid (And.intro hmi (And.intro hown (And.intro hchg (And.intro htk hNi)))); clear hmi hown hchg htk hNi
      have HLK := Lib.hid (fun w2 hb => (HR.out.1.keep (B := wr.heap.size) (w' := w2) hb HR.out.1.lt))
      have ho2 : ∀ w2, Below wr.heap.size wr w2 → Own w2 9 1 (some g') L cap' (strV (oid :: names)) := fun w2 hb => HR.out.2.1.keep fun k hk => by cases hk; exact hb.block _ HR.out.2.1.row.lt
      have HO2 := Lib.hid ho2; clear ho2
      have hls : (ByteArray.mk (low (toL s)).toArray).size ≤ maxLen := by rw [low_size]; unfold maxLen; omega
      have hlk : ∀ w2, Below wr.heap.size wr w2 → (Instr.lookup 125 (.map (some mb)) (.string ⟨(low (toL s)).toArray⟩) true).run Tryz.prog w2 = .ok (.tuple #[.int .i64 (((addKeys f place ((keysN oid names).take i)) (low (toL s))).getD 0 : Nat), .bool ((addKeys f place ((keysN oid names).take i)) (low (toL s))).isSome]) w2 :=
        fun w2 hb => (HLK.out w2 hb).look_ok hls
      have HK2 := Lib.hid hlk; clear hlk
      have HLS := Lib.hid hls; clear hls
      cases hq : (addKeys f place ((keysN oid names).take i)) (low (toL s)) with
      | some q =>
        have hk2 : ∀ w2, Below wr.heap.size wr w2 → (Instr.lookup 125 (.map (some mb)) (.string ⟨(low (toL s)).toArray⟩) true).run Tryz.prog w2 = .ok (.tuple #[.int .i64 (q : Int), .bool true]) w2 := fun w2 hb => by
          have := HK2.out w2 hb; rw [hq] at this; exact this
        have HK3 := Lib.hid hk2; have HQ := Lib.hid hq; clear hk2 hq HK2
        go_wp2_with (first
          | (go_at_call 133; refine (small_any s _ (by omega)).mono ?_; rintro e w2 ⟨rfl, hb2⟩
             have hk3 := HK3.out w2 hb2
             have HB2 := Lib.hid hb2; clear hb2)
          | fail)
        refine ⟨⟨i + 1, by simp, by omega, ?_, HO2.out _ HB2.out, HR.out.2.2.1.trans (Chg.of_below HB2.out)⟩, by simp [intOf]; omega⟩
        rw [HR.out.2.2.2.1, addKeys_snoc, addKeys_one_some (by rw [HQ.out]; rfl)]
        exact (HLK.out _ HB2.out).mono (by omega)
      | none =>
        have hk2 : ∀ w2, Below wr.heap.size wr w2 → (Instr.lookup 125 (.map (some mb)) (.string ⟨(low (toL s)).toArray⟩) true).run Tryz.prog w2 = .ok (.tuple #[.int .i64 0, .bool false]) w2 := fun w2 hb => by
          have := HK2.out w2 hb; rw [hq] at this; exact this
        have HK3 := Lib.hid hk2; have HQ := Lib.hid hq; clear hk2 hq HK2
        go_wp2_with (first
          | (go_at_call 133; refine (small_any s _ (by omega)).mono ?_; rintro e w2 ⟨rfl, hb2⟩
             have hk3 := HK3.out w2 hb2
             have HB2 := Lib.hid hb2; clear hb2 HK3)
          | (go_at_call 133; refine (small_any s _ (by omega)).mono ?_; rintro e w3 ⟨rfl, hb3⟩
             have HB3 := Lib.hid (bnext HB2.out hb3); clear hb3)
          | (at_mapUpdate; refine (HLK.out _ HB3.out).wp_put rfl _ _ _ rfl rfl ⟨(low (toL s)).toArray⟩ rfl place rfl (by have := HR.out.2.2.2.2; omega) HLS.out HC.out.2.2 ?_; intro w4 hm4 hg4; have H4 := Lib.hid (And.intro hm4 hg4); clear hm4 hg4)
          | fail)
        refine ⟨⟨i + 1, by simp, by omega, ?_, ?_, ?_⟩, by simp [intOf]; omega⟩
        · rw [HR.out.2.2.2.1, addKeys_snoc, addKeys_one_none (by rw [HQ.out]; rfl)]
          exact H4.out.1
        · exact (HO2.out _ HB3.out).keep fun k hk => by cases hk; exact H4.out.2.block _ (HO2.out _ HB3.out).row.lt (by simpa using hgne)
        · exact (HR.out.2.2.1.trans (Chg.of_below HB3.out)).grown H4.out.2 (fun k hk _ => by cases hk; rfl)
    · have hie : i = L := by omega
      subst hie
      have htk : (keysN oid names).take i = keysN oid names := List.take_of_length_le (by simp [keysN, HC.out.1.1])
      rw [htk] at hmi
      rw [show N + i = N + n + 1 by have := HC.out.1.2; omega] at hmi
      have HR := Lib.hid (And.intro hmi hchg); clear hmi hchg hown htk
      go_wp2_with fail
      go_end0
      exact ⟨rfl, HR.out⟩
end Go.Proofs.YtifgmnafjihlkaaGreatDoor
/- Descriptions plainly. No program. -/
namespace Go.Proofs.YtifgmnafjihlkaaGreatDoor
open Go

def optsOf (l : List Str) : List Str := Lib.compact ((l.map low).mergeSort fun x y => decide (x ≤ y))
def nameOf (S : PSchema) (t : Nat) : ByteArray := (tyAt S t).names.headD ⟨#[]⟩
/-- a description: its type's place, its options, the error -/
def descV (S : PSchema) (d : Str) : Nat × List Str × Int :=
  if 65536 < d.length then (0, [], 3)
  else if (!wordB ((cutAt 59 d).headD []) && !oidB ((cutAt 59 d).headD [])) = true then (0, [], 60)
  else if ((cutAt 59 d).drop 1).all (fun o => !o.isEmpty && tailB o) = false then (0, [], 60)
  else if 8 < (optsOf ((cutAt 59 d).drop 1)).length then (0, [], 3)
  else match typeAt S ((cutAt 59 d).headD []) with
    | none => (0, [], 80)
    | some t => if 65536 < (nameOf S t).size + (optsOf ((cutAt 59 d).drop 1)).length + (optsOf ((cutAt 59 d).drop 1)).flatten.length then (0, [], 3) else (t, optsOf ((cutAt 59 d).drop 1), 0)
def coversV (S : PSchema) (d e : Str) : Bool :=
  if (descV S d).2.2 ≠ 0 ∨ (descV S e).2.2 ≠ 0 then false
  else (belowOf S (descV S d).1).contains (descV S e).1 && (descV S d).2.1.all fun o => (descV S e).2.1.contains o
def wantsV (S : PSchema) (wanted : List Str) (desc : Str) : Bool := wanted.isEmpty || wanted.any fun w => w == [42] || coversV S w desc
end Go.Proofs.YtifgmnafjihlkaaGreatDoor
/- How attributes lie in memory; what is told of a record. No walk. -/
namespace Go.Proofs.YtifgmnafjihlkaaGreatDoor
open Go Go.RowKit

abbrev PAttr := ByteArray × List ByteArray
/-- a slice reads as attributes -/
structure AttrsM (B : Nat) (w : World) (a : Option Addr) (n c : Nat) (l : List PAttr) : Prop where
  len : n = l.length
  lies : LiesW B a n c
  small : n ≤ 4294967280
  cell : ∀ b o, a = some ⟨b, o, none⟩ → ∀ i x, l[i]? = some x → w.cell? ⟨b, o + i * 2, none⟩ = some (.string x.1) ∧ ∃ a' n' c', w.cell? ⟨b, o + i * 2 + 1, none⟩ = some (.slice a' n' c') ∧ Texts B w a' n' c' x.2
  size : ∀ x ∈ l, x.1.size ≤ 4294967280
theorem AttrsM.keep {B B' : Nat} {w w' : World} {a : Option Addr} {n c : Nat} {l : List PAttr} (h : AttrsM B w a n c l) (k : Below B w w') (hb : B ≤ B') : AttrsM B' w' a n c l :=
  ⟨h.len, h.lies.mono hb, h.small, fun b o e i x hx => by
    have hlt : b < B := h.lies.lt ⟨b, o, none⟩ e (by have h1 := h.len; have h2 := (List.getElem?_eq_some_iff.1 hx).1; omega)
    obtain ⟨h1, a', n', c', h2, h3⟩ := h.cell b o e i x hx
    exact ⟨by rw [k.cell (p := ⟨b, o + i * 2, none⟩) hlt]; exact h1, a', n', c', by rw [k.cell (p := ⟨b, o + i * 2 + 1, none⟩) hlt]; exact h2, h3.keep k hb⟩, h.size⟩
theorem AttrsM.nil (B : Nat) (w : World) : AttrsM B w none 0 0 [] := ⟨rfl, ⟨Nat.le_refl _, Nat.zero_le _, fun _ => rfl, (fun ad h _ => by cases h), (fun ad h _ => by cases h)⟩, Nat.zero_le _, (fun b o h => by cases h), (fun s h => by cases h)⟩

/-- texts in a block of strings -/
def TextsS (w : World) (a : Option Addr) (n c : Nat) (l : List ByteArray) : Prop :=
  Texts w.heap.size w a n c l ∧ ∀ b o, a = some ⟨b, o, none⟩ → 0 < n → ∃ cs fz, w.heap[b]? = some (.cells cs 9 fz)
def KeepS (w w' : World) : Prop := w.heap.size ≤ w'.heap.size ∧ ∀ (k : Nat) (cs : Array Value) (fz : Nat × Nat), w.heap[k]? = some (Obj.cells cs 9 fz) → w'.heap[k]? = some (Obj.cells cs 9 fz)
theorem KeepS.trans {a b c : World} (h : KeepS a b) (k : KeepS b c) : KeepS a c := ⟨Nat.le_trans h.1 k.1, fun i cs fz e => k.2 i cs fz (h.2 i cs fz e)⟩
theorem KeepS.of {w w' : World} (h : Below w.heap.size w w') : KeepS w w' := ⟨h.size, fun k cs fz e => by rw [h.block k (Array.getElem?_eq_some_iff.1 e).1]; exact e⟩
theorem TextsS.move {w w' : World} {a : Option Addr} {n c : Nat} {l : List ByteArray} (h : TextsS w a n c l) (k : KeepS w w') : TextsS w' a n c l := by
  obtain ⟨h1, h2⟩ := h
  refine ⟨⟨h1.len, h1.lies.mono k.1, h1.small, fun b o e i x hx => ?_, h1.size⟩, fun b o e hn => ?_⟩
  · have hn : 0 < n := by have h3 := h1.len; have h4 := (List.getElem?_eq_some_iff.1 hx).1; omega
    obtain ⟨cs, fz, hh⟩ := h2 b o e hn
    have hc := h1.cell b o e i x hx
    have h2 := k.2 b cs fz hh
    unfold World.cell? at hc ⊢
    simp only [h2]
    simp only [hh] at hc
    exact hc
  · obtain ⟨cs, fz, hh⟩ := h2 b o e hn
    exact ⟨cs, fz, k.2 b cs fz hh⟩
theorem TextsS.nil (w : World) : TextsS w none 0 0 [] := ⟨⟨rfl, ⟨Nat.le_refl _, Nat.zero_le _, fun _ => rfl, (fun ad h _ => by cases h), (fun ad h _ => by cases h)⟩, Nat.zero_le _, (fun b o h => by cases h), (fun s h => by cases h)⟩, fun b o h => by cases h⟩
/-- the cells of attributes -/
def FC (w : World) (vs : List Value) (found : List PAttr) : Prop :=
  vs.length = found.length * 2 ∧ ∀ j x, found[j]? = some x → vs[j * 2]? = some (.string x.1) ∧ ∃ a n c, vs[j * 2 + 1]? = some (.slice a n c) ∧ TextsS w a n c x.2
theorem FC.nil (w : World) : FC w [] [] := ⟨rfl, fun j x h => by simp at h⟩
theorem FC.move {w w' : World} {vs : List Value} {found : List PAttr} (h : FC w vs found) (k : KeepS w w') : FC w' vs found :=
  ⟨h.1, fun j x hx => by
    obtain ⟨h1, a, n, c, h2, h3⟩ := h.2 j x hx
    exact ⟨h1, a, n, c, h2, h3.move k⟩⟩
theorem FC.snoc {w : World} {vs : List Value} {found : List PAttr} (h : FC w vs found) {d : ByteArray} {a : Option Addr} {n c : Nat} {l : List ByteArray} (ht : TextsS w a n c l) : FC w (vs ++ [.string d, .slice a n c]) (found ++ [(d, l)]) := by
  refine ⟨by simp [h.1]; omega, fun j x hx => ?_⟩
  by_cases hj : j < found.length
  · rw [List.getElem?_append_left hj] at hx
    obtain ⟨h1, a', n', c', h2, h3⟩ := h.2 j x hx
    have hl := h.1
    exact ⟨by rw [List.getElem?_append_left (by omega)]; exact h1, a', n', c', by rw [List.getElem?_append_left (by omega)]; exact h2, h3⟩
  · have hj2 : j = found.length := by
      have := (List.getElem?_eq_some_iff.1 hx).1
      simp at this; omega
    subst hj2
    rw [List.getElem?_append_right (Nat.le_refl _), Nat.sub_self] at hx
    simp at hx
    subst hx
    have hl := h.1
    refine ⟨by rw [List.getElem?_append_right (by omega), ← hl, Nat.sub_self]; rfl, a, n, c, by rw [List.getElem?_append_right (by omega), show found.length * 2 + 1 - vs.length = 1 by omega]; rfl, ht⟩
theorem FC.attrs {w0 w : World} {vs : List Value} {found : List PAttr} {go : Option Nat} {n cap : Nat} (h : FC w vs found) (hv : Vec 80 2 w0 w go n cap vs) (hn : n = found.length) (hs : n ≤ 4294967280) (hz : ∀ x ∈ found, x.1.size ≤ 4294967280) :
    AttrsM w.heap.size w (go.map fun g => ⟨g, 0, none⟩) n cap found := by
  cases go with
  | none =>
    have h0 := hv.own.2
    simp only at h0
    obtain ⟨h1, h2⟩ := h0
    subst h1
    have hf : found = [] := List.eq_nil_of_length_eq_zero hn.symm
    subst hf
    subst h2
    exact AttrsM.nil _ _
  | some g =>
    refine ⟨hn, ?_, hs, fun b o e i x hx => ?_, hz⟩
    · have h0 := hv.own.2
      simp only at h0
      refine ⟨h0.1, ?_, (fun h => by cases h), fun ad e _ => ?_, fun ad e _ => ?_⟩
      · obtain ⟨sp, _, _, h3⟩ := h0.2; exact h3
      · cases e; exact hv.lt
      · cases e; rfl
    · cases e
      obtain ⟨h1, a', n', c', h2, h3⟩ := h.2 i x hx
      rw [Nat.zero_add]
      exact ⟨hv.cell h1, a', n', c', hv.cell h2, h3.1⟩

theorem text1 {w : World} {b : Nat} {s : ByteArray} (hc : w.cell? ⟨b, 0, none⟩ = some (.string s)) (hs : s.size ≤ 4294967280) : Texts w.heap.size w (some ⟨b, 0, none⟩) 1 1 [s] :=
  ⟨rfl, ⟨Nat.le_refl _, by unfold maxLen; omega, (fun h => by cases h), (fun ad h _ => by cases h; exact World.block_lt_of_cell? w _ hc), (fun ad h _ => by cases h; rfl)⟩, by omega, (fun b' o h i x hx => by
    cases h
    cases i with
    | zero => simp at hx; subst hx; exact hc
    | succ i => simp at hx), (fun x hx => by simp at hx; subst hx; exact hs)⟩

/-! ### plain -/
def foundV (S : PSchema) (wanted : List Str) (only : Bool) (l : List PAttr) : List PAttr := (l.filter fun x => wantsV S wanted (toL x.1)).map fun x => (x.1, if only then [] else x.2)
theorem foundV_snoc (S : PSchema) (wanted : List Str) (only : Bool) {l : List PAttr} {i : Nat} {x : PAttr} (h : l[i]? = some x) :
    foundV S wanted only (l.take (i + 1)) = foundV S wanted only (l.take i) ++ (if wantsV S wanted (toL x.1) then [(x.1, if only then [] else x.2)] else []) := by
  unfold foundV
  rw [List.take_add_one, h, List.filter_append, List.map_append]
  congr 1
  cases hw : wantsV S wanted (toL x.1) <;> simp [hw]
theorem foundV_len (S : PSchema) (wanted : List Str) (only : Bool) (l : List PAttr) : (foundV S wanted only l).length ≤ l.length := by
  unfold foundV; rw [List.length_map]; exact List.length_filter_le _ _
theorem foundV_mem {S : PSchema} {wanted : List Str} {only : Bool} {l : List PAttr} {x : PAttr} (h : x ∈ foundV S wanted only l) : ∃ y ∈ l, x.1 = y.1 := by
  unfold foundV at h
  obtain ⟨y, hy, rfl⟩ := List.mem_map.1 h
  exact ⟨y, (List.mem_filter.1 hy).1, rfl⟩
def showR (S : PSchema) (nm : PName) (l : List PAttr) (wanted : List Str) (only : Bool) : Str × List PAttr × Int :=
  if (printV nm).2 = 0 then ((printV nm).1, foundV S wanted only l, 0) else ([], [], (printV nm).2)
end Go.Proofs.YtifgmnafjihlkaaGreatDoor
/- Readings of bounded bulk, opened: names, attributes, a record. No walk. -/
namespace Go.Proofs.YtifgmnafjihlkaaGreatDoor
open Go Go.RowKit Go.ChangeShapes Go.WideShapes Go.Deep

section
variable {H : Type} {enc : TypeId × Value → H} {w : World} {base : Nat} {held : Bool}

theorem cAva2 : Tryz.prog.cellsOf 96 = 2 := by kernel_rfl
theorem cRdn1 : Tryz.prog.cellsOf 74 = 1 := by kernel_rfl
theorem cAttr2 : Tryz.prog.cellsOf 80 = 2 := by kernel_rfl
set_option maxRecDepth 100000 in
theorem open_avas {m N : Nat} {v : Value} {x : DataW H × List MemPlace} (h : DataW.trod enc Tryz.prog w base (fun _ => true) held m 72 [v] = some x) (hb : bulk x.1 ≤ N) (hN : N ≤ 4294967280) :
    ∃ a n c l, v = .slice a n c ∧ Avas w.heap.size w a n c l := by
  obtain ⟨a, n, c, rfl, hl, hn, hi⟩ := open_sl Tryz.underlying72 (by rw [cAva2]; omega) h hb
  rw [cAva2] at hi
  by_cases h0 : n = 0
  · subst h0
    exact ⟨a, 0, c, [], rfl, ⟨rfl, hl, Nat.zero_le _, (fun b o _ i s hs => by simp at hs), (fun s h => by cases h)⟩⟩
  · obtain ⟨b, o, rfl, hbl⟩ := hl.ptr (by omega)
    obtain ⟨l, hln, hll⟩ := list_of (n := n) (p := fun i (t : PAva) => (w.cell? ⟨b, o + i * 2, none⟩ = some (.string t.1) ∧ w.cell? ⟨b, o + i * 2 + 1, none⟩ = some (.string t.2)) ∧ t.1.size ≤ N ∧ t.2.size ≤ N) fun i hil => by
      obtain ⟨cs, k, y, h1, h2, h3, h4⟩ := hi b o rfl i hil
      obtain ⟨hl1, hf⟩ := open_field Tryz.underlying96 (by kernel_rfl) (by kernel_rfl) h3
      obtain ⟨v0, k0, y0, e0, f0, b0⟩ := hf 0 _ rfl
      obtain ⟨v1, k1, y1, e1, f1, b1⟩ := hf 1 _ rfl
      obtain ⟨s, rfl, hs⟩ := open_str Tryz.underlying9 f0
      obtain ⟨t, rfl, ht⟩ := open_str Tryz.underlying9 f1
      exact ⟨(s, t), ⟨(h2 0 (by omega)).trans e0, (h2 1 (by omega)).trans e1⟩, by simp only; omega, by simp only; omega⟩
    exact ⟨_, n, c, l, rfl, ⟨hln.symm, hl, by omega, fun b2 o2 e2 i s hs => by cases e2; exact (hll i s hs).1, fun s hs => by
      obtain ⟨i, hi2, rfl⟩ := List.getElem_of_mem hs
      have := (hll i _ (List.getElem?_eq_getElem hi2)).2
      omega⟩⟩
set_option maxRecDepth 100000 in
theorem open_rdns {m N : Nat} {v : Value} {x : DataW H × List MemPlace} (h : DataW.trod enc Tryz.prog w base (fun _ => true) held m 55 [v] = some x) (hb : bulk x.1 ≤ N) (hN : N ≤ 4294967280) :
    ∃ a n c l, v = .slice a n c ∧ Rdns w.heap.size w a n c l := by
  obtain ⟨a, n, c, rfl, hl, hn, hi⟩ := open_sl Tryz.underlying55 (by rw [cRdn1]; omega) h hb
  rw [cRdn1] at hi
  by_cases h0 : n = 0
  · subst h0
    exact ⟨a, 0, c, [], rfl, ⟨rfl, hl, Nat.zero_le _, (fun b o _ i s hs => by simp at hs)⟩⟩
  · obtain ⟨b, o, rfl, hbl⟩ := hl.ptr (by omega)
    obtain ⟨l, hln, hll⟩ := list_of (n := n) (p := fun i (r : PRdn) => ∃ a' n' c', w.cell? ⟨b, o + i, none⟩ = some (.slice a' n' c') ∧ Avas w.heap.size w a' n' c' r) fun i hil => by
      obtain ⟨cs, k, y, h1, h2, h3, h4⟩ := hi b o rfl i hil
      obtain ⟨hl1, hf⟩ := open_field Tryz.underlying74 (by kernel_rfl) (by kernel_rfl) h3
      obtain ⟨v0, k0, y0, e0, f0, b0⟩ := hf 0 _ rfl
      obtain ⟨a', n', c', l', rfl, ha⟩ := open_avas f0 (Nat.le_trans b0 h4) hN
      have h6 := h2 0 (by omega)
      rw [Nat.mul_one, Nat.add_zero] at h6
      exact ⟨l', a', n', c', h6.trans e0, ha⟩
    exact ⟨_, n, c, l, rfl, ⟨hln.symm, hl, by omega, fun b2 o2 e2 i s hs => by cases e2; exact hll i s hs⟩⟩
set_option maxRecDepth 100000 in
theorem open_attrs {m N : Nat} {v : Value} {x : DataW H × List MemPlace} (h : DataW.trod enc Tryz.prog w base (fun _ => true) held m 58 [v] = some x) (hb : bulk x.1 ≤ N) (hN : N ≤ 4294967280) :
    ∃ a n c l, v = .slice a n c ∧ AttrsM w.heap.size w a n c l := by
  obtain ⟨a, n, c, rfl, hl, hn, hi⟩ := open_sl Tryz.underlying58 (by rw [cAttr2]; omega) h hb
  rw [cAttr2] at hi
  by_cases h0 : n = 0
  · subst h0
    exact ⟨a, 0, c, [], rfl, ⟨rfl, hl, Nat.zero_le _, (fun b o _ i s hs => by simp at hs), (fun s h => by cases h)⟩⟩
  · obtain ⟨b, o, rfl, hbl⟩ := hl.ptr (by omega)
    obtain ⟨l, hln, hll⟩ := list_of (n := n) (p := fun i (t : PAttr) => (w.cell? ⟨b, o + i * 2, none⟩ = some (.string t.1) ∧ ∃ a' n' c', w.cell? ⟨b, o + i * 2 + 1, none⟩ = some (.slice a' n' c') ∧ Texts w.heap.size w a' n' c' t.2) ∧ t.1.size ≤ N) fun i hil => by
      obtain ⟨cs, k, y, h1, h2, h3, h4⟩ := hi b o rfl i hil
      obtain ⟨hl1, hf⟩ := open_field Tryz.underlying80 (by kernel_rfl) (by kernel_rfl) h3
      obtain ⟨v0, k0, y0, e0, f0, b0⟩ := hf 0 _ rfl
      obtain ⟨v1, k1, y1, e1, f1, b1⟩ := hf 1 _ rfl
      obtain ⟨s, rfl, hs⟩ := open_str Tryz.underlying9 f0
      obtain ⟨a', n', c', l', rfl, ht, _, _⟩ := open_texts Tryz.underlying46 Tryz.underlying9 (by kernel_rfl) f1 (Nat.le_trans b1 h4) hN
      exact ⟨(s, l'), ⟨(h2 0 (by omega)).trans e0, a', n', c', (h2 1 (by omega)).trans e1, ht⟩, by simp only; omega⟩
    exact ⟨_, n, c, l, rfl, ⟨hln.symm, hl, by omega, fun b2 o2 e2 i s hs => by cases e2; exact (hll i s hs).1, fun s hs => by
      obtain ⟨i, hi2, rfl⟩ := List.getElem_of_mem hs
      have := (hll i _ (List.getElem?_eq_getElem hi2)).2
      omega⟩⟩
set_option maxRecDepth 100000 in
theorem open_record {r : Reach} {b0 N : Nat} {v : Value} {d : DataW H} {ps : List MemPlace} (hval : Value.okWide Tryz.prog w r b0 62 v) (hd : DataW.Trod enc Tryz.prog w base (fun _ => true) held 62 v d ps) (hb : bulk d ≤ N) (hN : N ≤ 4294967280) :
    ∃ id a n c aa an ac nm al, v = .agg #[.int .u64 id, .slice a n c, .slice aa an ac] ∧ Rdns w.heap.size w a n c nm ∧ AttrsM w.heap.size w aa an ac al := by
  obtain ⟨cs, rfl, _⟩ := okWide_struct Tryz.underlying62 hval
  obtain ⟨fuel, hf⟩ := hd
  obtain ⟨hl, hff⟩ := open_field Tryz.underlying62 (by kernel_rfl) (by kernel_rfl) hf
  obtain ⟨v0, k0, y0, e0, f0, c0⟩ := hff 0 _ rfl
  obtain ⟨v1, k1, y1, e1, f1, c1⟩ := hff 1 _ rfl
  obtain ⟨v2, k2, y2, e2, f2, c2⟩ := hff 2 _ rfl
  obtain ⟨id, rfl, _⟩ := open_i Tryz.underlying54 f0
  obtain ⟨hl1, hg1⟩ := open_field Tryz.underlying57 (by kernel_rfl) (by kernel_rfl) f1
  obtain ⟨x1, m1, z1, a1, b1, d1⟩ := hg1 0 _ rfl
  obtain ⟨a, n, c, nm, rfl, hr⟩ := open_rdns b1 (Nat.le_trans d1 (Nat.le_trans c1 hb)) hN
  obtain ⟨hl2, hg2⟩ := open_field Tryz.underlying60 (by kernel_rfl) (by kernel_rfl) f2
  obtain ⟨x2, m2, z2, a2, b2, d2⟩ := hg2 0 _ rfl
  obtain ⟨aa, an, ac, al, rfl, ha⟩ := open_attrs b2 (Nat.le_trans d2 (Nat.le_trans c2 hb)) hN
  simp at a1 a2
  subst a1 a2
  refine ⟨id, a, n, c, aa, an, ac, nm, al, ?_, hr, ha⟩
  congr 1
  have hl2 : cs.size = 3 := by simpa [Value.cells] using hl
  have g0 : cs[0]? = some (.int .u64 id) := by simpa [Value.cells] using e0
  have g1 : cs[1]? = some (.slice a n c) := by simpa [Value.cells] using e1
  have g2 : cs[2]? = some (.slice aa an ac) := by simpa [Value.cells] using e2
  apply Array.ext
  · rw [hl2]; rfl
  · intro i h1 h2
    rw [hl2] at h1
    match i, h1 with
    | 0, _ => have := (Array.getElem?_eq_some_iff.1 g0).2; simpa using this
    | 1, _ => have := (Array.getElem?_eq_some_iff.1 g1).2; simpa using this
    | 2, _ => have := (Array.getElem?_eq_some_iff.1 g2).2; simpa using this
end
end Go.Proofs.YtifgmnafjihlkaaGreatDoor
/- rosterlaw23.large: some answer. -/
namespace Go.Proofs.YtifgmnafjihlkaaGreatDoor
open Go Go.RowKit

def SomeB (e : Ending) : Prop := ∃ b, e = .returned (.bool b)
set_option maxRecDepth 20000 in
set_option maxHeartbeats 4000000 in
theorem large_some (S : PSchema) (B : Nat) (a : Option Addr) (n c : Nat) (a2 : Option Addr) (n2 c2 : Nat) (w : World) (hT : Types B w a n c S.types) (hC : Classes B w a2 n2 c2 S.classes) (hB : B ≤ w.heap.size) (hn : n ≤ 4294967280 ∧ n2 ≤ 4294967280) :
    Calls Tryz.prog 86 #[.agg #[.slice a n c, .slice a2 n2 c2]] w fun e w' => SomeB e ∧ Below w.heap.size w w' := by
  obtain ⟨hn1, hn2⟩ := hn
  have hlen := hT.len
  have hlen2 := hC.len
  have hb1 : Below w.heap.size w (w.alloc (.cells #[.slice a n c, .slice a2 n2 c2] 38)) := (Below.refl _ _).alloc (Nat.le_refl _) _
  have hc0 : ∀ wr, Below (w.alloc (.cells #[.slice a n c, .slice a2 n2 c2] 38)).heap.size (w.alloc (.cells #[.slice a n c, .slice a2 n2 c2] 38)) wr → wr.cell? ⟨w.heap.size, 0, none⟩ = some (.slice a n c) ∧ wr.cell? ⟨w.heap.size, 1, none⟩ = some (.slice a2 n2 c2) := fun wr hb => by
    refine ⟨?_, ?_⟩ <;> (rw [hb.cell (p := ⟨w.heap.size, _, none⟩) (by simp), World.cell?_alloc_new]; rfl)
  have hT1 := hT.keep (hb1.mono hB) (Nat.le_refl _)
  have hC1 := hC.keep (hb1.mono hB) (Nat.le_refl _)
  have hB1 : B ≤ (w.alloc (.cells #[.slice a n c, .slice a2 n2 c2] 38)).heap.size := Nat.le_trans hB hb1.size
  have HC0 := Lib.hid hc0
  have H1 := Lib.hid (And.intro hT1 (And.intro hC1 (And.intro hb1 hB1)))
  have HL := Lib.hid (And.intro hlen hlen2)
  clear hc0 hT1 hC1 hb1 hT hC hlen hlen2 hB hB1
  go_enter Tryz.func86, Tryz.ntmps86
  go_wp2_with fail
  generalize w.alloc (.cells #[.slice a n c, .slice a2 n2 c2] 38) = w1 at HC0 H1 ⊢
  go_loopw [14, 3] (fun iv nv wr => ∃ (i : Nat) (x : Int), iv = .int .i64 (i : Nat) ∧ nv = .int .i64 x ∧ i ≤ n ∧ Below w1.heap.size w1 wr) (fun iv _ _ => n - (intOf iv).toNat)
  case atStart => exact ⟨0, 0, rfl, rfl, Nat.zero_le _, Below.refl _ _⟩
  case round =>
    obtain ⟨i, x, rfl, rfl, hin, hbl⟩ := hrel
    obtain ⟨k0, k1⟩ := HC0.out _ hbl
    have HBL := Lib.hid hbl; clear hbl
    by_cases hi : i < n
    · have i2 : (i : Int) < (n : Int) := by omega
      have i3 : (0 : Int) ≤ (i : Int) := by omega
      obtain ⟨b, o, rfl, hb⟩ := H1.out.1.lies.ptr (by omega)
      obtain ⟨t, ht⟩ : ∃ t, S.types[i]? = some t := ⟨_, List.getElem?_eq_getElem (by have := HL.out; omega)⟩
      have hat := (H1.out.1.cell b o rfl i t ht).keep hb (HBL.out.mono H1.out.2.2.2) (Nat.le_refl _)
      obtain ⟨na, nn, nc, e1, hN⟩ := hat.c1
      have e0 := hat.c0
      have e2 := hat.c2
      have hnl := hN.len
      have hns := hN.small
      have HN := Lib.hid hN
      clear ht hat hN
      go_wp2_with fail
      go_quiet (fail)
      go_wp2_with fail
      obtain ⟨wo, rfl⟩ : ∃ wo, wo = wr := ⟨_, rfl⟩
      go_loopw [42, 3] (fun iv nv wx => ∃ (k : Nat) (x : Int), iv = .int .i64 (k : Nat) ∧ nv = .int .i64 x ∧ k ≤ nn ∧ Below wo.heap.size wo wx) (fun iv _ _ => nn - (intOf iv).toNat)
      case atStart => exact ⟨0, _, rfl, rfl, Nat.zero_le _, ⟨rfl, rfl, rfl, Nat.le_refl _, fun _ _ => rfl⟩⟩
      case round =>
        obtain ⟨k, x2, rfl, rfl, hk, hb2⟩ := hrel
        by_cases hkn : k < nn
        · have j2 : (k : Int) < (nn : Int) := by omega
          have j3 : (0 : Int) ≤ (k : Int) := by omega
          obtain ⟨b', o', rfl, hb'⟩ := HN.out.lies.ptr (by omega)
          obtain ⟨s, hs⟩ : ∃ s, t.names[k]? = some s := ⟨_, List.getElem?_eq_getElem (by omega)⟩
          have f2 := HN.out.cell b' o' rfl k s hs
          have g0 := (hb2.cell (World.block_lt_of_cell? _ _ k0)).trans k0
          have g1 := (hb2.cell (World.block_lt_of_cell? _ _ e1)).trans e1
          have g2 := (hb2.cell (World.block_lt_of_cell? _ _ f2)).trans f2
          have HB2 := Lib.hid hb2
          clear hb2 f2 k0 k1 e0 e1 e2 hs
          go_upto_region 10 with fail
          generalize wrap64 (x2 + wrap64 (1 + (s.size : Int))) = y
          by_cases hy : 134217728 < y
          · go_wp2_with fail
            go_ret
            exact ⟨⟨_, rfl⟩, H1.out.2.2.1.trans ((HBL.out.trans (HB2.out.mono HBL.out.size)).mono H1.out.2.2.1.size)⟩
          · go_wp2_with fail
            exact ⟨⟨k + 1, y, by simp, rfl, by omega, HB2.out⟩, by simp [intOf]; omega⟩
        · have j2 : ¬ (k : Int) < (nn : Int) := by omega
          have HB2 := Lib.hid hb2
          clear hb2 k0 k1 e0 e1 e2
          go_wp2_with fail
          exact ⟨⟨i + 1, x2, by simp, rfl, by omega, HBL.out.trans (HB2.out.mono HBL.out.size)⟩, by simp [intOf]; omega⟩
    · have i2 : ¬ (i : Int) < (n : Int) := by omega
      go_wp2_with fail
      clear k0 k1
      obtain ⟨wz, rfl⟩ : ∃ wz, wz = wr := ⟨_, rfl⟩
      go_loopw [65, 3] (fun iv nv wx => ∃ (i : Nat) (x : Int), iv = .int .i64 (i : Nat) ∧ nv = .int .i64 x ∧ i ≤ n2 ∧ Below w1.heap.size w1 wx) (fun iv _ _ => n2 - (intOf iv).toNat)
      case atStart => exact ⟨0, _, rfl, rfl, Nat.zero_le _, HBL.out⟩
      case round =>
        obtain ⟨i', x', rfl, rfl, hin', hbl⟩ := hrel
        obtain ⟨k0, k1⟩ := HC0.out _ hbl
        clear HBL i2 hi
        have HBL := Lib.hid hbl; clear hbl
        by_cases hi : i' < n2
        · have i2 : (i' : Int) < (n2 : Int) := by omega
          have i3 : (0 : Int) ≤ (i' : Int) := by omega
          obtain ⟨b, o, rfl, hb⟩ := H1.out.2.1.lies.ptr (by omega)
          obtain ⟨t, ht⟩ : ∃ t, S.classes[i']? = some t := ⟨_, List.getElem?_eq_getElem (by have := HL.out; omega)⟩
          have hat := (H1.out.2.1.cell b o rfl i' t ht).keep hb (HBL.out.mono H1.out.2.2.2) (Nat.le_refl _)
          obtain ⟨n1a, n1n, n1c, e1, hN1⟩ := hat.c1
          obtain ⟨n2a, n2n, n2c, e2, hN2⟩ := hat.c2
          obtain ⟨n4a, n4n, n4c, e4, hN4⟩ := hat.c4
          obtain ⟨n5a, n5n, n5c, e5, hN5⟩ := hat.c5
          have e0 := hat.c0
          have e3 := hat.c3
          have hL : ∀ (A : Obj), ∀ k : Nat, k < 4 → ∃ a' n' c' l, ((wr.alloc A).alloc (.cells #[.slice n1a n1n n1c, .slice n2a n2n n2c, .slice n4a n4n n4c, .slice n5a n5n n5c] 46)).cell? ⟨wr.heap.size + 1, k, none⟩ = some (.slice a' n' c') ∧ Texts B ((wr.alloc A).alloc (.cells #[.slice n1a n1n n1c, .slice n2a n2n n2c, .slice n4a n4n n4c, .slice n5a n5n n5c] 46)) a' n' c' l := fun A k hk => by
            have hbA : Below B wr ((wr.alloc A).alloc (.cells #[.slice n1a n1n n1c, .slice n2a n2n n2c, .slice n4a n4n n4c, .slice n5a n5n n5c] 46)) := (((Below.refl wr.heap.size wr).alloc (Nat.le_refl _) A).alloc (by simp) _).mono (Nat.le_trans H1.out.2.2.2 HBL.out.size)
            have hcc : ∀ j, ((wr.alloc A).alloc (.cells #[.slice n1a n1n n1c, .slice n2a n2n n2c, .slice n4a n4n n4c, .slice n5a n5n n5c] 46)).cell? ⟨wr.heap.size + 1, j, none⟩ = (#[.slice n1a n1n n1c, .slice n2a n2n n2c, .slice n4a n4n n4c, .slice n5a n5n n5c] : Array Value)[j]? := fun j => by
              have := World.cell?_alloc_new (wr.alloc A) #[.slice n1a n1n n1c, .slice n2a n2n n2c, .slice n4a n4n n4c, .slice n5a n5n n5c] 46 j
              rw [World.size_alloc] at this
              exact this
            match k, hk with
            | 0, _ => exact ⟨_, _, _, _, hcc 0, hN1.keep hbA (Nat.le_refl _)⟩
            | 1, _ => exact ⟨_, _, _, _, hcc 1, hN2.keep hbA (Nat.le_refl _)⟩
            | 2, _ => exact ⟨_, _, _, _, hcc 2, hN4.keep hbA (Nat.le_refl _)⟩
            | 3, _ => exact ⟨_, _, _, _, hcc 3, hN5.keep hbA (Nat.le_refl _)⟩
          have hLL := hL (.cells #[.string t.oid, .slice n1a n1n n1c, .slice n2a n2n n2c, .int .i8 t.kind, .slice n4a n4n n4c, .slice n5a n5n n5c] 108)
          have HLL := Lib.hid hLL
          clear ht hat hN1 hN2 hN4 hN5 hL hLL
          have hba : Below wr.heap.size wr ((wr.alloc (.cells #[.string t.oid, .slice n1a n1n n1c, .slice n2a n2n n2c, .int .i8 t.kind, .slice n4a n4n n4c, .slice n5a n5n n5c] 108)).alloc (.cells #[.slice n1a n1n n1c, .slice n2a n2n n2c, .slice n4a n4n n4c, .slice n5a n5n n5c] 46)) := ((Below.refl wr.heap.size wr).alloc (Nat.le_refl _) _).alloc (by simp) _
          have HBA := Lib.hid hba; clear hba
          go_upto_region 20 with fail
          generalize (wr.alloc (.cells #[.string t.oid, .slice n1a n1n n1c, .slice n2a n2n n2c, .int .i8 t.kind, .slice n4a n4n n4c, .slice n5a n5n n5c] 108)).alloc (.cells #[.slice n1a n1n n1c, .slice n2a n2n n2c, .slice n4a n4n n4c, .slice n5a n5n n5c] 46) = wa at HLL HBA ⊢
          clear e0 e1 e2 e3 e4 e5 k0 k1
          obtain ⟨lb, hlb⟩ : ∃ lb, lb = wr.heap.size + 1 := ⟨_, rfl⟩
          obtain ⟨cb, hcb⟩ : ∃ cb, cb = wr.heap.size := ⟨_, rfl⟩
          rw [← hlb] at HLL ⊢
          rw [← hcb] at ⊢
          clear hlb hcb
          generalize wrap64 (x' + wrap64 (40 + (t.oid.size : Int))) = xx
          have hbz := HBL.out.trans (HBA.out.mono HBL.out.size)
          have HBZ := Lib.hid hbz
          clear hbz HBA HBL
          go_wp2_with fail
          go_loopw [90, 3] (fun iv nv wx => ∃ (k : Nat) (x : Int), iv = .int .i64 (k : Nat) ∧ nv = .int .i64 x ∧ k ≤ 4 ∧ Below wa.heap.size wa wx) (fun iv _ _ => 4 - (intOf iv).toNat)
          case atStart => exact ⟨0, _, rfl, rfl, Nat.zero_le _, Below.refl _ _⟩
          case round =>
            obtain ⟨k, y, rfl, rfl, hk, hbl⟩ := hrel
            by_cases hk4 : k < 4
            · have j2 : (k : Int) < 4 := by omega
              have j3 : (0 : Int) ≤ (k : Int) := by omega
              obtain ⟨va, vn, vc, l, f1, hV⟩ := HLL.out k hk4
              have hvl := hV.len
              have hvs := hV.small
              have g1 := (hbl.cell (World.block_lt_of_cell? _ _ f1)).trans f1
              have HV := Lib.hid hV
              have HB2 := Lib.hid hbl
              clear hbl f1 hV
              go_wp2_with fail
              obtain ⟨wo, rfl⟩ : ∃ wo, wo = wr := ⟨_, rfl⟩
              go_loopw [98, 3] (fun iv nv wx => ∃ (m : Nat) (x : Int), iv = .int .i64 (m : Nat) ∧ nv = .int .i64 x ∧ m ≤ vn ∧ Below wa.heap.size wa wx ∧ wx.cell? ⟨lb, k, none⟩ = some (.slice va vn vc)) (fun iv _ _ => vn - (intOf iv).toNat)
              case atStart => exact ⟨0, _, rfl, rfl, Nat.zero_le _, HB2.out, g1⟩
              case round =>
                obtain ⟨m, y2, rfl, rfl, hm, hb2, g2⟩ := hrel
                clear HB2 g1
                by_cases hmn : m < vn
                · have m2 : (m : Int) < (vn : Int) := by omega
                  have m3 : (0 : Int) ≤ (m : Int) := by omega
                  obtain ⟨b', o', rfl, hb'⟩ := HV.out.lies.ptr (by omega)
                  obtain ⟨s, hs⟩ : ∃ s, l[m]? = some s := ⟨_, List.getElem?_eq_getElem (by omega)⟩
                  have f2 := HV.out.cell b' o' rfl m s hs
                  have g3 := (hb2.cell (World.block_lt_of_cell? _ _ f2)).trans f2
                  have HB2 := Lib.hid hb2
                  have HG2 := Lib.hid g2
                  clear hb2 f2 hs
                  go_upto_region 27 with fail
                  generalize wrap64 (y2 + wrap64 (1 + (s.size : Int))) = z
                  by_cases hz : 134217728 < z
                  · go_wp2_with fail
                    go_ret
                    exact ⟨⟨_, rfl⟩, H1.out.2.2.1.trans ((HBZ.out.trans (HB2.out.mono HBZ.out.size)).mono H1.out.2.2.1.size)⟩
                  · go_wp2_with fail
                    exact ⟨⟨m + 1, z, by simp, rfl, by omega, HB2.out, HG2.out⟩, by simp [intOf]; omega⟩
                · have m2 : ¬ (m : Int) < (vn : Int) := by omega
                  have HB2 := Lib.hid hb2
                  clear hb2 g2
                  go_wp2_with fail
                  exact ⟨⟨k + 1, y2, by simp, rfl, by omega, HB2.out⟩, by simp [intOf]; omega⟩
            · have j2 : ¬ (k : Int) < 4 := by omega
              have HB2 := Lib.hid hbl
              clear hbl
              go_wp2_with fail
              exact ⟨⟨i' + 1, y, by simp, rfl, by omega, HBZ.out.trans (HB2.out.mono HBZ.out.size)⟩, by simp [intOf]; omega⟩
        · have i2 : ¬ (i' : Int) < (n2 : Int) := by omega
          go_wp2_with fail
          go_ret
          exact ⟨⟨_, rfl⟩, H1.out.2.2.1.trans (HBL.out.mono H1.out.2.2.1.size)⟩
end Go.Proofs.YtifgmnafjihlkaaGreatDoor
