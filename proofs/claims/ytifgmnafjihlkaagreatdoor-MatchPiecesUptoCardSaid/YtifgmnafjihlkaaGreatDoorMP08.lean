/- Part 8 of the walks and plain laws, joined: SchMap, Vec, First, MatPart. -/
import Derived.Test.YtifgmnafjihlkaaGreatDoorMP07
import Derived.Test.YtifgmnafjihlkaaGreatDoorProg
import Derived.Test.YtifgmnafjihlkaaGreatDoorMP00
import Derived.Maps.OwnSet
import Derived.Maps.OwnOps
import Derived.Maps.Views
import Derived.Below
import Derived.WalkArith
import Derived.WalkKit
/- A map from texts to places: what it holds, look-ups, stores. -/
namespace Go.Proofs.YtifgmnafjihlkaaGreatDoor
open Go Go.RowKit Go.Maps

theorem kStr : Keyed Tryz.prog 9 := string_keyed Tryz.underlying9
theorem zeroInt (w : World) : (zeroValue 3).run Tryz.prog w = .ok (.int .i64 0) w := by kernel_rfl
theorem keyStr {s : ByteArray} (hs : s.size ≤ maxLen) : keyOf Tryz.prog 9 (.string s) = some (.string (toL s)) := Go.WideMaps.keyOf_string_mk Tryz.underlying9 hs

/-- block b is a map of at most n entries that gives the places of f -/
structure MapIs (w : World) (b n : Nat) (f : Str → Option Nat) : Prop where
  own : ∃ D : DataW Unit, w.ownsMap Tryz.prog 9 (plainElem Tryz.prog 3) b n D ∧
    ∀ k : Str, Maps.has D (.string k) = (f k).isSome ∧ D.atKey (.string k) (.lit (.int .i64 0)) = .lit (.int .i64 ((f k).getD 0 : Nat))

theorem MapIs.lt {w : World} {b n : Nat} {f : Str → Option Nat} (h : MapIs w b n f) : b < w.heap.size := by obtain ⟨D, h1, _⟩ := h.own; exact h1.lt
theorem MapIs.of_block {w w' : World} {b n : Nat} {f : Str → Option Nat} (h : MapIs w b n f) (k : w'.heap[b]? = w.heap[b]?) : MapIs w' b n f := by
  obtain ⟨D, ⟨es, clock, hb, r⟩, h2⟩ := h.own
  exact ⟨D, ⟨es, clock, by rw [k]; exact hb, r⟩, h2⟩
theorem MapIs.keep {w w' : World} {b n B : Nat} {f : Str → Option Nat} (h : MapIs w b n f) (k : Below B w w') (hb : b < B) : MapIs w' b n f := h.of_block (k.block b hb)
theorem MapIs.mono {w : World} {b n n' : Nat} {f : Str → Option Nat} (h : MapIs w b n f) (hn : n ≤ n') : MapIs w b n' f := by
  obtain ⟨D, h1, h2⟩ := h.own; exact ⟨D, h1.mono hn, h2⟩
theorem MapIs.made (w : World) : MapIs (w.alloc (.map #[] 0)) w.heap.size 0 (fun _ => none) :=
  ⟨.map [], World.ownsMap_made _ _ _ _, fun _ => ⟨rfl, rfl⟩⟩

theorem MapIs.look {w : World} {b n : Nat} {f : Str → Option Nat} (h : MapIs w b n f) {s : ByteArray} (hs : s.size ≤ maxLen) :
    (Instr.lookup 125 (.map (some b)) (.string s) false).run Tryz.prog w = .ok (.int .i64 ((f (toL s)).getD 0 : Nat)) w := by
  obtain ⟨D, h1, h2⟩ := h.own
  obtain ⟨c, hr, hc, _⟩ := h1.lookup_int kStr Tryz.underlying125 Tryz.underlying3 (zeroInt w) (keyStr hs)
  rw [(h2 (toL s)).2] at hc
  cases hc; exact hr
theorem MapIs.look_ok {w : World} {b n : Nat} {f : Str → Option Nat} (h : MapIs w b n f) {s : ByteArray} (hs : s.size ≤ maxLen) :
    (Instr.lookup 125 (.map (some b)) (.string s) true).run Tryz.prog w = .ok (.tuple #[.int .i64 ((f (toL s)).getD 0 : Nat), .bool (f (toL s)).isSome]) w := by
  obtain ⟨D, h1, h2⟩ := h.own
  obtain ⟨v, ps, hr, hv⟩ := h1.look_ok kStr Tryz.underlying125 (zeroInt w) (plainElem_int Tryz.underlying3 (by decide)) (keyStr hs)
  obtain ⟨c, rfl, hc, _⟩ := plainElem_int_inv Tryz.underlying3 hv
  rw [(h2 (toL s)).2] at hc
  rw [(h2 (toL s)).1] at hr
  cases hc; exact hr

theorem MapIs.put {w : World} {b n : Nat} {f : Str → Option Nat} (h : MapIs w b n f) (hn : n < maxLen) {s : ByteArray} (hs : s.size ≤ maxLen) {v : Nat} (hv : v ≤ maxLen) :
    ∃ w', (Instr.mapUpdate 125 (.map (some b)) (.string s) (.int .i64 (v : Int))).run Tryz.prog w = .ok () w' ∧ MapIs w' b (n + 1) (fun x => if x = toL s then some v else f x) ∧ w.grownBy w' (some b) := by
  obtain ⟨D, h1, h2⟩ := h.own
  obtain ⟨w', hr, ho, hg⟩ := h1.update kStr Tryz.underlying125 hn (keyStr hs) (plainElem_int (H := Unit) Tryz.underlying3 (a := (v : Int)) (WalkArith.wf_i64 (by unfold maxLen at hv; omega)))
  refine ⟨w', hr, ⟨_, ho, fun k => ?_⟩, hg⟩
  by_cases e : k = toL s
  · subst e
    rw [has_put_same h1.isMap (k := .string (toL s)) trivial, atKey_put_same h1.isMap (k := .string (toL s)) trivial]
    simp
  · have hne : (Lit.string k) ≠ Lit.string (toL s) := fun e2 => e (by cases e2; rfl)
    rw [has_put_other hne, atKey_put_other hne, (h2 k).1, (h2 k).2]
    simp [e]

/-- 'm[k] = v' at the operation -/
theorem MapIs.wp_put {w : World} {b n : Nat} {f : Str → Option Nat} (h : MapIs w b n f) {ops : Array Oper} {rest : List Oper} {o : Oper} {a : Act} {Q : Exit → Act → World → Prop} (hg : o.guard = none) (m x v : Operand) (hop : o.op = Op.mapUpdate 125 m x v)
    (hm : a.eval m = .map (some b)) (s : ByteArray) (hx : a.eval x = .string s) (p : Nat) (hv : a.eval v = .int .i64 (p : Int)) (hn : n < maxLen) (hs : s.size ≤ maxLen) (hp : p ≤ maxLen)
    (hK : ∀ w', MapIs w' b (n + 1) (fun x => if x = toL s then some p else f x) → w.grownBy w' (some b) → wpList Tryz.prog ops Q rest (a.put o.dst undef) w') :
    wpList Tryz.prog ops Q (o :: rest) a w := by
  refine wpList_plain hg fun K' hK' => ?_
  obtain ⟨w', hrun, r1, r2⟩ := h.put hn hs hp
  unfold Oper.wp
  simp [execOp, hop, hm, hx, hv, hrun, Result.andThen]
  exact hK' _ _ (hK w' r1 r2)
end Go.Proofs.YtifgmnafjihlkaaGreatDoor
/- A list that the call itself makes, grown by append: whatever the elements. Helpers alone. -/
namespace Go.Proofs.YtifgmnafjihlkaaGreatDoor
open Go Go.RowKit

/-- what is asked of a slice type T of elements e -/
structure EI (P : Program) (T e : TypeId) (z : Value) (sz bytes : Nat) : Prop where
  und : P.underlying T = some (.slice e)
  info : ∃ i, P.info? e = some i ∧ i.zero = some z ∧ i.size = sz ∧ i.bytes = bytes
  zs : z.cells.size = sz
  sz0 : 0 < sz
  b0 : 0 < bytes
theorem EI.of {P : Program} {T e : TypeId} {z : Value} {sz bytes : Nat} (hu : P.underlying T = some (.slice e)) (h : (P.info? e).map (fun i => (i.zero, i.size, i.bytes)) = some (some z, sz, bytes)) (hz : z.cells.size = sz) (h0 : 0 < sz) (h1 : 0 < bytes) : EI P T e z sz bytes := by
  refine ⟨hu, ?_, hz, h0, h1⟩
  cases hi : P.info? e with
  | none => rw [hi] at h; cases h
  | some i =>
    rw [hi] at h
    simp only [Option.map_some, Option.some.injEq, Prod.mk.injEq] at h
    exact ⟨i, rfl, h.1, h.2.1, h.2.2⟩

/-- the cells vs in a row of its own, made since w0 -/
structure Vec (e sz : Nat) (w0 w : World) (go : Option Nat) (n cap : Nat) (vs : List Value) : Prop where
  own : Own w e sz go n cap vs
  fresh : ∀ g, go = some g → w0.heap.size ≤ g
  below : Below w0.heap.size w0 w

variable {P : Program} {T e : TypeId} {z : Value} {sz bytes : Nat} {w0 w : World} {go : Option Nat} {n cap : Nat} {vs : List Value}

theorem Vec.nil (e sz : Nat) (w0 : World) {w : World} (h : Below w0.heap.size w0 w) : Vec e sz w0 w none 0 0 [] := ⟨Own.nil w e sz, (fun g h => by cases h), h⟩
theorem Vec.lt {g : Nat} (h : Vec e sz w0 w (some g) n cap vs) : g < w.heap.size := h.own.row.lt
theorem Vec.size (h : Vec e sz w0 w go n cap vs) : w0.heap.size ≤ w.heap.size := h.below.size
theorem Vec.next {w' : World} (h : Vec e sz w0 w go n cap vs) (k : Below w.heap.size w w') : Vec e sz w0 w' go n cap vs :=
  ⟨h.own.keep fun g hg => by subst hg; exact k.block g h.own.row.lt, h.fresh, h.below.trans (k.mono h.size)⟩
theorem Vec.alloc (h : Vec e sz w0 w go n cap vs) (o : Obj) : Vec e sz w0 (w.alloc o) go n cap vs := h.next ((Below.refl _ w).alloc (Nat.le_refl _) o)
theorem Vec.chg {S : Nat → Prop} {w' : World} (h : Vec e sz w0 w go n cap vs) (k : Chg S w w') (hS : ∀ g, S g → w0.heap.size ≤ g) (hn : ∀ g, go = some g → ¬ S g) : Vec e sz w0 w' go n cap vs :=
  ⟨h.own.keep fun g hg => by subst hg; exact k.block g h.own.row.lt (hn g rfl), h.fresh, h.below.trans (k.below h.size fun b hb hs => by have := hS b hs; omega)⟩
theorem Vec.cell {g : Nat} (h : Vec e sz w0 w (some g) n cap vs) {j : Nat} {v : Value} (hj : vs[j]? = some v) : w.cell? ⟨g, j, none⟩ = some v := h.own.row.cell hj
theorem Vec.ptr (h : Vec e sz w0 w go n cap vs) (hn : 0 < n) : ∃ g, go = some g := by
  cases go with
  | none => have := h.own.2.1; omega
  | some g => exact ⟨g, rfl⟩

theorem Vec.from {wa : World} (h : Vec e sz w0 w go n cap vs) (k : Below wa.heap.size wa w0) : Vec e sz wa w go n cap vs := ⟨h.own, fun g hg => Nat.le_trans k.size (h.fresh g hg), k.trans (h.below.mono k.size)⟩

/-- '[]T{x, y, ..}' -/
theorem Vec.made (w0 : World) {w : World} (h : Below w0.heap.size w0 w) (e sz m : Nat) (xs : Array Value) (hx : xs.size = m * sz) (hm : m ≤ maxLen) : Vec e sz w0 (w.alloc (.cells xs e)) (some w.heap.size) m m xs.toList :=
  ⟨Own.mk (Row.made hx hm) (by simpa using hx) (Nat.le_refl _), fun g hg => by cases hg; exact h.size, h.alloc h.size _⟩

/-- append, whatever the source; L: the new length -/
theorem Vec.app (h : Vec e sz w0 w go n cap vs) (I : EI P T e z sz bytes) {ops : Array Oper} {rest : List Oper} {o : Oper} {a : Act} {Q : Exit → Act → World → Prop} (hgd : o.guard = none) (s x : Operand)
    (ho : o.op = .call { callee := .builtin .append, args := #[s, x], argTypes := #[T, T] })
    (hs : a.eval s = sv go n cap) (sa : Option Addr) (m c : Nat) (news : List Value) (hx : a.eval x = .slice sa m c) (hsn : sa = none → m = 0 ∧ c = 0) (hl : news.length = m * sz)
    (hnews : ∀ ad, sa = some ad → ∀ j u, news[j]? = some u → w.cell? (ad.add j) = some u) (h1 : ∀ u ∈ news, u.oneCell' = true)
    (L : Nat) (hL : n + m = L) (hb : L * bytes ≤ 140737488355328)
    (hk : ∀ go' cap' w', Vec e sz w0 w' go' L cap' (vs ++ news) → w.grownBy w' go → wpList P ops Q rest (a.put o.dst (sv go' L cap')) w') : wpList P ops Q (o :: rest) a w := by
  subst hL
  obtain ⟨i, h2, h3, h4, h5⟩ := I.info
  refine wpList_app0 hgd s x T ho e i z sz bytes I.und h2 h3 h4 h5 I.zs I.sz0 I.b0 go n cap vs hs h.own sa m c news hx hsn hl hnews h1 hb fun go' cap' w' hO hG hat => hk go' cap' w' ⟨hO, fun k hkk => ?_, h.below.grown hG h.size fun k hk => h.fresh k hk⟩ hG
  rcases hat with e2 | e2
  · rw [e2] at hkk; exact h.fresh _ hkk
  · rw [e2] at hkk; cases hkk; exact h.size

/-- .. what comes back is not empty -/
theorem Vec.app1 (h : Vec e sz w0 w go n cap vs) (I : EI P T e z sz bytes) {ops : Array Oper} {rest : List Oper} {o : Oper} {a : Act} {Q : Exit → Act → World → Prop} (hgd : o.guard = none) (s x : Operand)
    (ho : o.op = .call { callee := .builtin .append, args := #[s, x], argTypes := #[T, T] })
    (hs : a.eval s = sv go n cap) (sa : Option Addr) (m c : Nat) (news : List Value) (hx : a.eval x = .slice sa m c) (hsn : sa = none → m = 0 ∧ c = 0) (hl : news.length = m * sz)
    (hnews : ∀ ad, sa = some ad → ∀ j u, news[j]? = some u → w.cell? (ad.add j) = some u) (h1 : ∀ u ∈ news, u.oneCell' = true)
    (L : Nat) (hL : n + m = L) (hb : L * bytes ≤ 140737488355328) (hpos : 0 < L)
    (hk : ∀ g cap' w', Vec e sz w0 w' (some g) L cap' (vs ++ news) → w.grownBy w' go → wpList P ops Q rest (a.put o.dst (.slice (some ⟨g, 0, none⟩) L cap')) w') : wpList P ops Q (o :: rest) a w :=
  h.app I hgd s x ho hs sa m c news hx hsn hl hnews h1 L hL hb fun go' cap' w' hV hG => by
    obtain ⟨g, rfl⟩ := hV.ptr hpos
    exact hk g cap' w' hV hG

/-- append of some elements that were just laid in a block; what comes back is not empty -/
theorem Vec.push (h : Vec e sz w0 w go n cap vs) (I : EI P T e z sz bytes) {ops : Array Oper} {rest : List Oper} {o : Oper} {a : Act} {Q : Exit → Act → World → Prop} (hgd : o.guard = none) (s x : Operand)
    (ho : o.op = .call { callee := .builtin .append, args := #[s, x], argTypes := #[T, T] })
    (hs : a.eval s = sv go n cap) (m : Nat) (news : List Value) (cs : Array Value) (hcs : cs.toList = news) (hx : a.eval x = .slice (some ⟨w.heap.size, 0, none⟩) m m) (hl : news.length = m * sz) (h1 : ∀ u ∈ news, u.oneCell' = true) (hm : 0 < m)
    (L : Nat) (hL : n + m = L) (hb : L * bytes ≤ 140737488355328)
    (hk : ∀ g cap' w', Vec e sz w0 w' (some g) L cap' (vs ++ news) → (w.alloc (.cells cs e)).grownBy w' go → wpList P ops Q rest (a.put o.dst (.slice (some ⟨g, 0, none⟩) L cap')) w') : wpList P ops Q (o :: rest) a (w.alloc (.cells cs e)) := by
  refine (h.alloc (.cells cs e)).app I hgd s x ho hs (some ⟨w.heap.size, 0, none⟩) m m news hx (fun h => by cases h) hl (news_new w news cs e hcs) h1 L hL hb fun go' cap' w' hV hG => ?_
  obtain ⟨g, rfl⟩ := hV.ptr (by omega)
  exact hk g cap' w' hV hG
end Go.Proofs.YtifgmnafjihlkaaGreatDoor
/- schema.first, schema.taken. -/
namespace Go.Proofs.YtifgmnafjihlkaaGreatDoor
open Go Go.RowKit Go.Maps

theorem eiStr : EI Tryz.prog 46 9 (.string ByteArray.empty) 1 16 := EI.of Tryz.underlying46 (by kernel_rfl) rfl (by decide) (by decide)
def strV (l : List ByteArray) : List Value := l.map .string
theorem strV_one (l : List ByteArray) : ∀ u ∈ strV l, u.oneCell' = true := fun u hu => by
  obtain ⟨s, _, rfl⟩ := List.mem_map.1 hu; rfl
theorem strV_get {l : List ByteArray} {i : Nat} (h : i < l.length) : (strV l)[i]? = some (.string l[i]) := by
  simp [strV, h]
theorem Texts.news {B : Nat} {w : World} {a : Option Addr} {n c : Nat} {l : List ByteArray} (h : Texts B w a n c l) : ∀ ad, a = some ad → ∀ (j : Nat) (u : Value), (strV l)[j]? = some u → ad.block < B ∧ w.cell? (ad.add j) = some u := by
  intro ad e j u hu
  simp only [strV, List.getElem?_map, Option.map_eq_some_iff] at hu
  obtain ⟨s, hs, rfl⟩ := hu
  have hn : 0 < n := by have := (List.getElem?_eq_some_iff.1 hs).1; have := h.len; omega
  obtain ⟨b, o, e2, hb⟩ := h.lies.ptr hn
  rw [e] at e2; cases e2
  rw [Addr.add_lit]
  exact ⟨hb, h.cell b o e j s hs⟩
theorem Texts.len0 {B : Nat} {w : World} {a : Option Addr} {n c : Nat} {l : List ByteArray} (h : Texts B w a n c l) : a = none → n = 0 ∧ c = 0 := h.lies.len0

theorem Chg.of_below {S : Nat → Prop} {w w' : World} (h : Below w.heap.size w w') : Chg S w w' := ⟨h.os, h.tape, h.output, h.size, fun k hk _ => h.block k hk⟩
def keysN (oid : ByteArray) (names : List ByteArray) : List Str := (oid :: names).map fun s => low (toL s)

theorem keys_take {oid : ByteArray} {names : List ByteArray} {i : Nat} (h : i < (oid :: names).length) : (keysN oid names).take (i + 1) = (keysN oid names).take i ++ [low (toL (oid :: names)[i])] := by
  have h2 : i < (keysN oid names).length := by simpa [keysN] using h
  rw [List.take_succ_eq_append_getElem h2]
  have : (keysN oid names)[i] = low (toL (oid :: names)[i]) := by simp only [keysN, List.getElem_map]
  rw [this]

set_option maxHeartbeats 1000000 in
theorem first_any (B N mb place : Nat) (f : Str → Option Nat) (oid : ByteArray) (a : Option Addr) (n c : Nat) (names : List ByteArray) (w : World) (h : Texts B w a n c names) (ho : oid.size ≤ 4294967280)
    (hm : MapIs w mb N f) (hB : B ≤ w.heap.size) (hN : N + n + 1 < maxLen) (hp : place ≤ maxLen) :
    Calls Tryz.prog 78 #[.map (some mb), .int .i64 (place : Int), .string oid, .slice a n c] w fun e w' => e = .returned (.tuple #[]) ∧ MapIs w' mb (N + n + 1) (addKeys f place (keysN oid names)) ∧ Chg (· = mb) w w' := by
  have hnl := h.len
  have hsm := h.small
  have hlt := hm.lt
  obtain ⟨L, hL⟩ : ∃ L, 1 + n = L := ⟨_, rfl⟩
  have hLp : 0 < L := by omega
  have hLs : L ≤ 4294967281 := by omega
  have hV := Vec.made w (Below.refl _ w) 9 1 1 #[.string oid] rfl (by unfold maxLen; omega)
  have hal : Below w.heap.size w (w.alloc (.cells #[.string oid] 9)) := (Below.refl _ w).alloc (Nat.le_refl _) _
  have hnews : ∀ ad, a = some ad → ∀ (j : Nat) (u : Value), (strV names)[j]? = some u → (w.alloc (.cells #[.string oid] 9)).cell? (ad.add j) = some u := fun ad e j u hu => by
    have := h.news ad e j u hu; rw [hal.cell (p := ad.add j) (by rw [block_add]; exact Nat.lt_of_lt_of_le this.1 hB)]; exact this.2
  have hbt : L * 16 ≤ 140737488355328 := by omega
  have hsl : (strV names).length = n * 1 := by simp [strV, hnl]
  have hl0 := h.len0
  have hLn : L = names.length + 1 ∧ L = n + 1 := by omega
  have hsz : ∀ x ∈ oid :: names, x.size ≤ 4294967280 := fun x hx => by
    rcases List.mem_cons.1 hx with e | e
    · rw [e]; exact ho
    · exact h.size _ e
  have HV := Lib.hid hV; have HN := Lib.hid hnews; have HS := Lib.hid (And.intro hbt hsl); have HM := Lib.hid hm; have HL0 := Lib.hid hl0; have HL := Lib.hid hL; have HZ := Lib.hid hsz; have HC := Lib.hid (And.intro hLn (And.intro hN hp)); have HAL := Lib.hid hal
  clear h hV hal hm hl0 hnl hsm hnews hbt hsl hL hsz hLn hN hp ho hB
  go_enter Tryz.func78, Tryz.ntmps78
  go_wp2_with (at_builtin; refine HV.out.app1 eiStr rfl _ _ rfl rfl a n c (strV names) rfl HL0.out HS.out.2 HN.out (strV_one _) L HL.out HS.out.1 hLp ?_; intro g' cap' w1 hV1 hG1; have HV1 := Lib.hid (And.intro hV1 hG1); clear hV1 hG1)
  have hgf : w.heap.size ≤ g' := HV1.out.1.fresh g' rfl
  have HO1 : Hid (Own w1 9 1 (some g') L cap' (strV (oid :: names))) := Lib.hid HV1.out.1.own
  have HB1 := Lib.hid HV1.out.1.below
  clear HV1 HV HN HS HL0 HL HAL
  go_loopw [17] (fun iv wr => ∃ i : Nat, iv = .int .i64 i ∧ i ≤ L ∧ MapIs wr mb (N + i) (addKeys f place ((keysN oid names).take i)) ∧ Own wr 9 1 (some g') L cap' (strV (oid :: names)) ∧ Chg (· = mb) w wr) (fun iv _ => L - (intOf iv).toNat)
  case atStart => exact ⟨0, rfl, Nat.zero_le _, by simpa [addKeys_nil] using HM.out.keep HB1.out hlt, HO1.out, Chg.of_below HB1.out⟩
  case round =>
    clear HO1 HB1
    obtain ⟨i, rfl, hi, hmi, hown, hchg⟩ := hrel
    have hgne : g' ≠ mb := by omega
    by_cases hlt2 : i < L
    · have hli : i < (oid :: names).length := by simp only [List.length_cons]; have := HC.out.1.1; omega
      have hc := hown.row.cell (strV_get hli)
      have hsz := HZ.out _ (List.getElem_mem hli)
      have htk := keys_take hli
      have hNi : N + i + 1 < maxLen := by have := HC.out; omega
      generalize (oid :: names)[i] = s at hc hsz htk
      have HR := Lib.hid (And.intro hmi (And.intro hown (And.intro hchg (And.intro htk hNi)))); clear hmi hown hchg htk hNi
      have HLK := Lib.hid (fun w2 hb => (HR.out.1.keep (B := wr.heap.size) (w' := w2) hb HR.out.1.lt))
      have ho2 : ∀ w2, Below wr.heap.size wr w2 → Own w2 9 1 (some g') L cap' (strV (oid :: names)) := fun w2 hb => HR.out.2.1.keep fun k hk => by cases hk; exact hb.block _ HR.out.2.1.row.lt
      have HO2 := Lib.hid ho2; clear ho2
      have hls : (ByteArray.mk (low (toL s)).toArray).size ≤ maxLen := by rw [low_size]; unfold maxLen; omega
      have hlk : ∀ w2, Below wr.heap.size wr w2 → (Instr.lookup 125 (.map (some mb)) (.string ⟨(low (toL s)).toArray⟩) true).run Tryz.prog w2 = .ok (.tuple #[.int .i64 (((addKeys f place ((keysN oid names).take i)) (low (toL s))).getD 0 : Nat), .bool ((addKeys f place ((keysN oid names).take i)) (low (toL s))).isSome]) w2 :=
        fun w2 hb => (HLK.out w2 hb).look_ok hls
      have HK2 := Lib.hid hlk; clear hlk
      have HLS := Lib.hid hls; clear hls
      cases hq : (addKeys f place ((keysN oid names).take i)) (low (toL s)) with
      | some q =>
        have hk2 : ∀ w2, Below wr.heap.size wr w2 → (Instr.lookup 125 (.map (some mb)) (.string ⟨(low (toL s)).toArray⟩) true).run Tryz.prog w2 = .ok (.tuple #[.int .i64 (q : Int), .bool true]) w2 := fun w2 hb => by
          have := HK2.out w2 hb; rw [hq] at this; exact this
        have HK3 := Lib.hid hk2; have HQ := Lib.hid hq; clear hk2 hq HK2
        go_wp2_with (first
          | (go_at_call 133; refine (small_any s _ (by omega)).mono ?_; rintro e w2 ⟨rfl, hb2⟩
             have hk3 := HK3.out w2 hb2
             have HB2 := Lib.hid hb2; clear hb2)
          | fail)
        refine ⟨⟨i + 1, by simp, by omega, ?_, HO2.out _ HB2.out, HR.out.2.2.1.trans (Chg.of_below HB2.out)⟩, by simp [intOf]; omega⟩
        rw [HR.out.2.2.2.1, addKeys_snoc, addKeys_one_some (by rw [HQ.out]; rfl)]
        exact (HLK.out _ HB2.out).mono (by omega)
      | none =>
        have hk2 : ∀ w2, Below wr.heap.size wr w2 → (Instr.lookup 125 (.map (some mb)) (.string ⟨(low (toL s)).toArray⟩) true).run Tryz.prog w2 = .ok (.tuple #[.int .i64 0, .bool false]) w2 := fun w2 hb => by
          have := HK2.out w2 hb; rw [hq] at this; exact this
        have HK3 := Lib.hid hk2; have HQ := Lib.hid hq; clear hk2 hq HK2
        go_wp2_with (first
          | (go_at_call 133; refine (small_any s _ (by omega)).mono ?_; rintro e w2 ⟨rfl, hb2⟩
             have hk3 := HK3.out w2 hb2
             have HB2 := Lib.hid hb2; clear hb2 HK3)
          | (go_at_call 133; refine (small_any s _ (by omega)).mono ?_; rintro e w3 ⟨rfl, hb3⟩
             have HB3 := Lib.hid (bnext HB2.out hb3); clear hb3)
          | (at_mapUpdate; refine (HLK.out _ HB3.out).wp_put rfl _ _ _ rfl rfl ⟨(low (toL s)).toArray⟩ rfl place rfl (by have := HR.out.2.2.2.2; omega) HLS.out HC.out.2.2 ?_; intro w4 hm4 hg4; have H4 := Lib.hid (And.intro hm4 hg4); clear hm4 hg4)
          | fail)
        refine ⟨⟨i + 1, by simp, by omega, ?_, ?_, ?_⟩, by simp [intOf]; omega⟩
        · rw [HR.out.2.2.2.1, addKeys_snoc, addKeys_one_none (by rw [HQ.out]; rfl)]
          exact H4.out.1
        · exact (HO2.out _ HB3.out).keep fun k hk => by cases hk; exact H4.out.2.block _ (HO2.out _ HB3.out).row.lt (by simpa using hgne)
        · exact (HR.out.2.2.1.trans (Chg.of_below HB3.out)).grown H4.out.2 (fun k hk _ => by cases hk; rfl)
    · have hie : i = L := by omega
      subst hie
      have htk : (keysN oid names).take i = keysN oid names := List.take_of_length_le (by simp [keysN, HC.out.1.1])
      rw [htk] at hmi
      rw [show N + i = N + n + 1 by have := HC.out.1.2; omega] at hmi
      have HR := Lib.hid (And.intro hmi hchg); clear hmi hchg hown htk
      go_wp2_with fail
      go_end0
      exact ⟨rfl, HR.out⟩
end Go.Proofs.YtifgmnafjihlkaaGreatDoor
/- match.Part's closure. -/
namespace Go.Proofs.YtifgmnafjihlkaaGreatDoor
open Go Go.RowKit Go.Maps

def pieceF (f wh : Int) (p : Str) : Str × Bool := if p = [] ∧ wh ≠ 1 then ([], true) else pieceL f wh p
/-- what the closure has captured: the form, and whether all was well -/
structure PAt (w : World) (cf co : Nat) (f : Int) (ok : Bool) : Prop where
  form : w.cell? ⟨cf, 0, none⟩ = some (.int .i8 f)
  ok : w.cell? ⟨co, 0, none⟩ = some (.bool ok)
  fr : w.frozen? ⟨co, 0, none⟩ = false
  ne : cf ≠ co
theorem PAt.keep {w w' : World} {cf co : Nat} {f : Int} {ok : Bool} (h : PAt w cf co f ok) (k : Below w.heap.size w w') : PAt w' cf co f ok :=
  ⟨by rw [k.cell (World.block_lt_of_cell? w _ h.form)]; exact h.form, by rw [k.cell (World.block_lt_of_cell? w _ h.ok)]; exact h.ok, by rw [k.frozen (World.block_lt_of_cell? w _ h.ok)]; exact h.fr, h.ne⟩
theorem PAt.set {w : World} {cf co : Nat} {f : Int} {ok : Bool} (h : PAt w cf co f ok) (b : Bool) : PAt (w.setCell ⟨co, 0, none⟩ (.bool b)) cf co f b :=
  ⟨by rw [World.cell?_setCell_other _ _ _ _ (by intro e; injection e with e1 _ _; exact h.ne e1.symm)]; exact h.form, by rw [World.cell?_setCell_same _ _ _ h.ok], by rw [World.frozen?_setCell]; exact h.fr, h.ne⟩

def PiecePost (w : World) (cf co : Nat) (f : Int) (ok : Bool) (p : Str × Bool) (e : Ending) (w' : World) : Prop :=
  e = .returned (.string ⟨p.1.toArray⟩) ∧ PAt w' cf co f (ok && p.2) ∧ Chg (· = co) w w'

set_option maxRecDepth 20000 in
set_option maxHeartbeats 1000000 in
theorem part1_any (wh : Int) (p : ByteArray) (cf co : Nat) (f : Int) (ok : Bool) (w : World) (h : PAt w cf co f ok) (hE : Env w) (hp : p.size ≤ 9223372036854775807) :
    Calls Tryz.prog 69 #[.int .i8 wh, .string p, .pointer (some ⟨cf, 0, none⟩), .pointer (some ⟨co, 0, none⟩)] w (PiecePost w cf co f ok (pieceF f wh (toL p))) := by
  by_cases hs : toL p = [] ∧ wh ≠ 1
  · have hv : pieceF f wh (toL p) = ([], true) := if_pos hs
    rw [hv]
    obtain rfl := empty_of p hs.1
    have hb : (wh != 1) = true := by simpa using hs.2
    have H := Lib.hid h; clear hv hs h hE
    go_enter Tryz.func69, Tryz.ntmps69
    go_wp2_with fail
    go_ret
    exact ⟨rfl, by rw [Bool.and_true]; exact H.out, Chg.refl _ _⟩
  · have hv : pieceF f wh (toL p) = pieceL f wh (toL p) := if_neg hs
    rw [hv]
    have hpc := piece_any f wh p w hE hp
    change Calls Tryz.prog 70 #[.int .i8 f, .int .i8 wh, .string p] w fun e w' => e = .returned (ret2 (pieceL f wh (toL p))) ∧ Below w.heap.size w w' at hpc
    generalize pieceL f wh (toL p) = k at hpc ⊢
    obtain ⟨kl, kb⟩ := k
    unfold ret2 at hpc
    have fin : ∀ w2, Below w.heap.size w w2 → PiecePost w cf co f ok (kl, kb) (.returned (.string ⟨kl.toArray⟩)) (w2.setCell ⟨co, 0, none⟩ (.bool (ok && kb))) := fun w2 hb =>
      ⟨rfl, (h.keep hb).set _, Chg.setCell (S := fun x => x = co) (p := ⟨co, 0, none⟩) (Chg.of_below hb) (fun _ => rfl) _⟩
    have e1 := h.form
    have H := Lib.hid h; have HP := Lib.hid hpc; have HF := Lib.hid fin; clear fin hpc hv h hE
    have arm : True := trivial
    clear arm
    by_cases he : toL p = []
    · have h1 : wh = 1 := by by_cases e : wh = 1; exact e; exact absurd ⟨he, e⟩ hs
      subst h1
      obtain rfl := empty_of p he
      clear hs he
      cases ok <;> (
        go_enter Tryz.func69, Tryz.ntmps69
        go_wp2_with (first | (go_at_call 70; (with_reducible refine (HP.out).mono ?_); rintro e w2 ⟨rfl, hb2⟩; have e2 := (H.out.keep hb2).ok; have e3 := (H.out.keep hb2).fr; have HB2 := Lib.hid hb2; clear hb2) | fail)
        go_ret
        exact HF.out _ HB2.out)
    · obtain ⟨z1, z2, z3⟩ := nonempty_of p he
      clear hs he
      cases ok <;> (
        go_enter Tryz.func69, Tryz.ntmps69
        go_wp2_with (first | (go_at_call 70; (with_reducible refine (HP.out).mono ?_); rintro e w2 ⟨rfl, hb2⟩; have e2 := (H.out.keep hb2).ok; have e3 := (H.out.keep hb2).fr; have HB2 := Lib.hid hb2; clear hb2) | fail)
        go_ret
        exact HF.out _ HB2.out)
end Go.Proofs.YtifgmnafjihlkaaGreatDoor
