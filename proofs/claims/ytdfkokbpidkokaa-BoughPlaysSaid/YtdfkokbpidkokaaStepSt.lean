/- rosterlaw12.step: what lies in memory while it runs, and what it leaves. -/
import Derived.Test.YtdfkokbpidkokaaPSt
import Derived.Deep.RegionHeld3
import Derived.Deep.DeepCutAuto
namespace Go.Proofs.Ytdfkokbpidkokaa
open Go.RowKit

/-- an iterator that is kept, and the pairs that it must tell -/
structure KRec where
  q : Nat
  g : Nat
  ps : List (Int × ByteArray)
  wg : Option Nat
  wc : Nat
def KRec.foot (r : KRec) : List Nat := r.q :: r.g :: r.wg.toList
def KRec.ok (W : World) (r : KRec) : Prop := IterAt (.int .i64) W r.q r.g (r.ps.map fun p => (p.1, .string p.2)) ∧ r.q < W.heap.size ∧ r.g < W.heap.size ∧ Own W 105 2 r.wg r.ps.length r.wc (pcl r.ps) ∧ r.ps.length ≤ 4611686018427387903
def kf : Option KRec → Value
  | none => .nilFunc
  | some r => .func (.func 68) #[] #[.pointer (some ⟨r.q, 0, none⟩)]
def kw : Option KRec → Value
  | none => .slice none 0 0
  | some r => sv r.wg r.ps.length r.wc
theorem KRec.ok.lt {W : World} {r : KRec} (h : r.ok W) : ∀ x ∈ r.foot, x < W.heap.size := by
  intro x hx
  simp only [KRec.foot, List.mem_cons, Option.mem_toList] at hx
  rcases hx with rfl | rfl | hx
  · exact h.2.1
  · exact h.2.2.1
  · have := h.2.2.2.1
    rw [hx] at this
    exact this.row.lt
theorem KRec.ok.keep {W W' : World} {r : KRec} (h : r.ok W) (hs : W.heap.size ≤ W'.heap.size) (hk : ∀ x ∈ r.foot, W'.heap[x]? = W.heap[x]?) : r.ok W' :=
  ⟨h.1.keep (hk _ (by simp [KRec.foot])) (hk _ (by simp [KRec.foot])), Nat.lt_of_lt_of_le h.2.1 hs, Nat.lt_of_lt_of_le h.2.2.1 hs, h.2.2.2.1.keep (fun g hg => hk g (by simp [KRec.foot, hg])), h.2.2.2.2⟩
theorem KRec.ok.chg {S : Nat → Prop} {W W' : World} {r : KRec} (h : r.ok W) (hc : Chg S W W') (hn : ∀ x ∈ r.foot, ¬ S x) : r.ok W' :=
  h.keep hc.size fun x hx => hc.block x (h.lt x hx) (hn x hx)
theorem KRec.told {W : World} {r : KRec} (h : r.ok W) (leave : Int) :
    Calls Try.prog 25 #[kf (some r), kw (some r), .int .i64 leave] W fun e w' => e = .returned (.bool true) ∧ Chg (fun _ => False) W w' :=
  told_any r.ps h.2.2.2.2 r.q r.g r.wg r.wc leave W h.2.1 h.2.2.1 h.1 h.2.2.2.1

/-- step's own variables: the call, the result, what it keeps -/
structure SB (w : World) (D K : Int) (V : ByteArray) (N : Int) (r6 r8 : Array Value) (W : World) : Prop where
  b5 : W.heap[w.heap.size]? = some (.cells #[.int .i64 D, .int .i64 K, .string V, .int .i64 N] 59 (0, 0))
  b6 : W.heap[w.heap.size + 1]? = some (.cells r6 55 (0, 0))
  b8 : W.heap[w.heap.size + 1 + 1]? = some (.cells r8 55 (0, 0))
/-- with the two structures -/
def SS (w : World) (D K : Int) (V : ByteArray) (N : Int) (r6 r8 : Array Value) (o : Int) (h t : Nat) (lb lr : List (Int × ByteArray)) (p : Nat) (FT : List Nat) (W : World) : Prop :=
  ∃ FT', PS o h t lb lr p FT' W ∧ SB w D K V N r6 r8 W ∧ (∀ x ∈ FT', x ∈ FT ∨ w.heap.size + 1 + 1 < x) ∧ Chg (fun x => x ∈ FT) w W
def step0 (w : World) (D K : Int) (V : ByteArray) (N : Int) : World :=
  ((w.alloc (.cells #[.int .i64 D, .int .i64 K, .string V, .int .i64 N] 59)).alloc (.cells #[.nilFunc, .slice none 0 0] 55)).alloc (.cells #[.nilFunc, .slice none 0 0] 55)

section
variable {w W : World} {D K N : Int} {V : ByteArray} {r6 r8 : Array Value} {o : Int} {h t : Nat} {lb lr : List (Int × ByteArray)} {p : Nat} {FT : List Nat}
theorem SB.lt (H : SB w D K V N r6 r8 W) : w.heap.size + 1 + 1 < W.heap.size := (Array.getElem?_eq_some_iff.1 H.b8).1
theorem SB.chg {S : Nat → Prop} {W' : World} (H : SB w D K V N r6 r8 W) (hc : Chg S W W') (hn : ∀ x, S x → x < w.heap.size ∨ w.heap.size + 1 + 1 < x) : SB w D K V N r6 r8 W' := by
  have hl := H.lt
  exact ⟨(hc.block _ (by omega) (fun h => by have := hn _ h; omega)).trans H.b5, (hc.block _ (by omega) (fun h => by have := hn _ h; omega)).trans H.b6, (hc.block _ (by omega) (fun h => by have := hn _ h; omega)).trans H.b8⟩
theorem SB.k1 (H : SB w D K V N r6 r8 W) : W.cell? ⟨w.heap.size, 0, none⟩ = some (.int .i64 D) := by rw [cell_of_row W _ 0 _ _ (0, 0) H.b5]; rfl
theorem SB.k2 (H : SB w D K V N r6 r8 W) : W.cell? ⟨w.heap.size, 1, none⟩ = some (.int .i64 K) := by rw [cell_of_row W _ 1 _ _ (0, 0) H.b5]; rfl
theorem SB.k3 (H : SB w D K V N r6 r8 W) : W.cell? ⟨w.heap.size, 2, none⟩ = some (.string V) := by rw [cell_of_row W _ 2 _ _ (0, 0) H.b5]; rfl
theorem SB.k4 (H : SB w D K V N r6 r8 W) : W.cell? ⟨w.heap.size, 3, none⟩ = some (.int .i64 N) := by rw [cell_of_row W _ 3 _ _ (0, 0) H.b5]; rfl
theorem SB.f6 (H : SB w D K V N r6 r8 W) (j : Nat) : W.frozen? ⟨w.heap.size + 1, j, none⟩ = false := frozen_of_row W _ j _ _ H.b6
theorem SB.f8 (H : SB w D K V N r6 r8 W) (j : Nat) : W.frozen? ⟨w.heap.size + 1 + 1, j, none⟩ = false := frozen_of_row W _ j _ _ H.b8
theorem SB.c6 {a b : Value} (H : SB w D K V N #[a, b] r8 W) : W.cell? ⟨w.heap.size + 1, 0, none⟩ = some a ∧ W.cell? ⟨w.heap.size + 1, 1, none⟩ = some b := by
  rw [cell_of_row W _ 0 _ _ (0, 0) H.b6, cell_of_row W _ 1 _ _ (0, 0) H.b6]; exact ⟨rfl, rfl⟩
theorem SB.c8 {a b : Value} (H : SB w D K V N r6 #[a, b] W) : W.cell? ⟨w.heap.size + 1 + 1, 0, none⟩ = some a ∧ W.cell? ⟨w.heap.size + 1 + 1, 1, none⟩ = some b := by
  rw [cell_of_row W _ 0 _ _ (0, 0) H.b8, cell_of_row W _ 1 _ _ (0, 0) H.b8]; exact ⟨rfl, rfl⟩

theorem SB.see {a b a' b' : Value} (H : SB w D K V N #[a', b'] #[a, b] W) : W.cell? ⟨w.heap.size, 1, none⟩ = some (.int .i64 K) ∧ W.cell? ⟨w.heap.size, 2, none⟩ = some (.string V) ∧ W.cell? ⟨w.heap.size, 3, none⟩ = some (.int .i64 N) ∧
    W.cell? ⟨w.heap.size + 1 + 1, 0, none⟩ = some a ∧ W.cell? ⟨w.heap.size + 1 + 1, 1, none⟩ = some b ∧ W.frozen? ⟨w.heap.size + 1, 0, none⟩ = false ∧ W.frozen? ⟨w.heap.size + 1, 1, none⟩ = false ∧
    W.cell? ⟨w.heap.size + 1, 0, none⟩ = some a' ∧ W.cell? ⟨w.heap.size + 1, 1, none⟩ = some b' :=
  ⟨H.k2, H.k3, H.k4, H.c8.1, H.c8.2, H.f6 0, H.f6 1, H.c6.1, H.c6.2⟩
theorem SB.see7 {a b a' b' : Value} (H : SB w D K V N #[a', b'] #[a, b] W) : W.cell? ⟨w.heap.size, 1, none⟩ = some (.int .i64 K) ∧ W.cell? ⟨w.heap.size, 2, none⟩ = some (.string V) ∧ W.cell? ⟨w.heap.size, 3, none⟩ = some (.int .i64 N) ∧
    W.cell? ⟨w.heap.size + 1 + 1, 0, none⟩ = some a ∧ W.cell? ⟨w.heap.size + 1 + 1, 1, none⟩ = some b ∧ W.frozen? ⟨w.heap.size + 1, 0, none⟩ = false ∧ W.frozen? ⟨w.heap.size + 1, 1, none⟩ = false :=
  ⟨H.k2, H.k3, H.k4, H.c8.1, H.c8.2, H.f6 0, H.f6 1⟩
theorem SS.new (H : PS o h t lb lr p FT w) (D K : Int) (V : ByteArray) (N : Int) : SS w D K V N #[.nilFunc, .slice none 0 0] #[.nilFunc, .slice none 0 0] o h t lb lr p FT (step0 w D K V N) := by
  have hc : Chg (fun _ => False) w (step0 w D K V N) := (((Chg.refl _ w).alloc _).alloc _).alloc _
  refine ⟨FT, H.chg hc (fun _ _ h => h), ⟨?_, ?_, ?_⟩, fun x hx => .inl hx, hc.mono fun _ _ h => h.elim⟩
  · exact (Below.heap_alloc _ _ _ (by simp; omega)).trans ((Below.heap_alloc _ _ _ (by simp)).trans (heap_alloc_new _ _))
  · refine (Below.heap_alloc _ _ _ (by simp)).trans ?_
    have := heap_alloc_new (w.alloc (.cells #[.int .i64 D, .int .i64 K, .string V, .int .i64 N] 59)) (.cells #[.nilFunc, .slice none 0 0] 55)
    rwa [World.size_alloc] at this
  · have := heap_alloc_new ((w.alloc (.cells #[.int .i64 D, .int .i64 K, .string V, .int .i64 N] 59)).alloc (.cells #[.nilFunc, .slice none 0 0] 55)) (.cells #[.nilFunc, .slice none 0 0] 55)
    rwa [World.size_alloc, World.size_alloc] at this
theorem SS.same {W' : World} (H : SS w D K V N r6 r8 o h t lb lr p FT W) (hc : Chg (fun _ => False) W W') : SS w D K V N r6 r8 o h t lb lr p FT W' := by
  obtain ⟨FT', h1, h2, h3, h4⟩ := H
  exact ⟨FT', h1.chg hc (fun _ _ h => h), h2.chg hc (fun _ h => h.elim), h3, h4.trans (hc.mono fun _ _ h => h.elim)⟩
theorem SS.drew (H : SS w D K V N r6 r8 o h t lb lr p FT W) : SS w D K V N r6 r8 o h t lb lr p FT W.drew := H.same (Chg.refl _ W).drew
theorem SS.drewN (H : SS w D K V N r6 r8 o h t lb lr p FT W) (n : Nat) : SS w D K V N r6 r8 o h t lb lr p FT (W.drewN n) := H.same ((Chg.refl _ W).drewN n)
theorem SS.sb (H : SS w D K V N r6 r8 o h t lb lr p FT W) : SB w D K V N r6 r8 W := H.elim fun _ h => h.2.1
theorem SS.ps (H : SS w D K V N r6 r8 o h t lb lr p FT W) : ∃ FT', PS o h t lb lr p FT' W := H.elim fun _ h => ⟨_, h.1⟩
/-- a call that may turn the two -/
theorem SS.call {f : FuncId} {args : Array Value} {v : Value} {lb' lr' : List (Int × ByteArray)} {p' : Nat} (H : SS w D K V N r6 r8 o h t lb lr p FT W) (hFT : ∀ x ∈ FT, x < w.heap.size)
    (hc : ∀ FT', PS o h t lb lr p FT' W → Calls Try.prog f args W fun e W' => e = .returned v ∧ PTurn o h t lb' lr' p' FT' W W') :
    Calls Try.prog f args W fun e W' => e = .returned v ∧ Hid (SS w D K V N r6 r8 o h t lb' lr' p' FT W') := by
  obtain ⟨FT', h1, h2, h3, h4⟩ := H
  refine (hc FT' h1).mono ?_
  rintro e W' ⟨rfl, F2, g1, g2, g3⟩
  have hl := h2.lt
  refine ⟨rfl, F2, g1, h2.chg g2 (fun x hx => (h3 x hx).imp (hFT x) id), fun x hx => ?_, h4.then g2 (fun x hx hm => ?_)⟩
  · rcases g3 x hx with h5 | h5
    · exact h3 x h5
    · exact .inr (by omega)
  · rcases h3 x hm with h5 | h5
    · exact h5
    · omega
/-- a store of the kept ones, of the result -/
theorem SS.store8 {a b : Value} (H : SS w D K V N r6 r8 o h t lb lr p FT W) (hr : ((r8.setIfInBounds 0 a).setIfInBounds 1 b) = #[a, b]) (hFT : ∀ x ∈ FT, x < w.heap.size) :
    SS w D K V N r6 #[a, b] o h t lb lr p FT ((W.setCell ⟨w.heap.size + 1 + 1, 0, none⟩ a).setCell ⟨w.heap.size + 1 + 1, 1, none⟩ b) := by
  obtain ⟨FT', h1, h2, h3, h4⟩ := H
  have hs : Chg (fun x => x = w.heap.size + 1 + 1) W ((W.setCell ⟨w.heap.size + 1 + 1, 0, none⟩ a).setCell ⟨w.heap.size + 1 + 1, 1, none⟩ b) :=
    (Chg.setCell (S := fun x => x = w.heap.size + 1 + 1) (Chg.refl _ W) (p := ⟨_, 0, none⟩) (fun _ => rfl) _).setCell (p := ⟨_, 1, none⟩) (fun _ => rfl) _
  have hl := h2.lt
  refine ⟨FT', h1.chg hs (fun x hx e => ?_), ⟨(hs.block _ (by omega) (by omega)).trans h2.b5, (hs.block _ (by omega) (by omega)).trans h2.b6, ?_⟩, h3, h4.then hs (fun x hx e => by omega)⟩
  · rcases h3 x hx with h5 | h5
    · have := hFT x h5; omega
    · omega
  · rw [heap_setCell_same _ (w.heap.size + 1 + 1) 1 _ 55 b (heap_setCell_same W (w.heap.size + 1 + 1) 0 _ 55 a h2.b8), hr]
theorem SS.store6 {a b : Value} (H : SS w D K V N r6 r8 o h t lb lr p FT W) (hr : ((r6.setIfInBounds 0 a).setIfInBounds 1 b) = #[a, b]) (hFT : ∀ x ∈ FT, x < w.heap.size) :
    SS w D K V N #[a, b] r8 o h t lb lr p FT ((W.setCell ⟨w.heap.size + 1, 0, none⟩ a).setCell ⟨w.heap.size + 1, 1, none⟩ b) := by
  obtain ⟨FT', h1, h2, h3, h4⟩ := H
  have hs : Chg (fun x => x = w.heap.size + 1) W ((W.setCell ⟨w.heap.size + 1, 0, none⟩ a).setCell ⟨w.heap.size + 1, 1, none⟩ b) :=
    (Chg.setCell (S := fun x => x = w.heap.size + 1) (Chg.refl _ W) (p := ⟨_, 0, none⟩) (fun _ => rfl) _).setCell (p := ⟨_, 1, none⟩) (fun _ => rfl) _
  have hl := h2.lt
  refine ⟨FT', h1.chg hs (fun x hx e => ?_), ⟨(hs.block _ (by omega) (by omega)).trans h2.b5, ?_, (hs.block _ (by omega) (by omega)).trans h2.b8⟩, h3, h4.then hs (fun x hx e => by omega)⟩
  · rcases h3 x hx with h5 | h5
    · have := hFT x h5; omega
    · omega
  · rw [heap_setCell_same _ (w.heap.size + 1) 1 _ 55 b (heap_setCell_same W (w.heap.size + 1) 0 _ 55 a h2.b6), hr]

/-- what step leaves -/
def StepOut (w : World) (o : Int) (h t : Nat) (l : List (Int × ByteArray)) (p : Nat) (FT : List Nat) (e : Ending) (w' : World) : Prop :=
  ∃ l' p' FT' kr, e = .returned (.tuple #[.agg #[kf kr, kw kr], .bool true]) ∧ PS o h t l' l' p' FT' w' ∧ Sorted (cmpI o) l' ∧ l'.length ≤ l.length + 1 ∧ p' ≤ max 16 (p + 1) ∧ Chg (fun x => x ∈ FT) w w' ∧
    (∀ x ∈ FT', x ∈ FT ∨ w.heap.size ≤ x) ∧ ∀ r, kr = some r → KRec.ok w' r ∧ ∀ x ∈ r.foot, w.heap.size ≤ x ∧ x ∉ FT'
theorem SS.out {l l' : List (Int × ByteArray)} {p' : Nat} (H : SS w D K V N r6 r8 o h t l' l' p' FT W) (hs : Sorted (cmpI o) l') (hl : l'.length ≤ l.length + 1) (hp : p' ≤ max 16 (p + 1)) :
    StepOut w o h t l p FT (.returned (.tuple #[.agg #[.nilFunc, .slice none 0 0], .bool true])) W := by
  obtain ⟨FT', h1, h2, h3, h4⟩ := H
  exact ⟨l', p', FT', none, rfl, h1, hs, hl, hp, h4, fun x hx => (h3 x hx).imp id (fun h => by omega), fun r e => by cases e⟩
/-- the same where neither structure is turned -/
structure SF (w : World) (D K : Int) (V : ByteArray) (N : Int) (r6 r8 : Array Value) (o : Int) (h t : Nat) (l : List (Int × ByteArray)) (p : Nat) (FT : List Nat) (W : World) : Prop where
  ps : PS o h t l l p FT W
  sb : SB w D K V N r6 r8 W
  old : Chg (fun _ => False) w W
theorem SF.new {l : List (Int × ByteArray)} (H : PS o h t l l p FT w) (D K : Int) (V : ByteArray) (N : Int) : SF w D K V N #[.nilFunc, .slice none 0 0] #[.nilFunc, .slice none 0 0] o h t l p FT (step0 w D K V N) := by
  have hc : Chg (fun _ => False) w (step0 w D K V N) := (((Chg.refl _ w).alloc _).alloc _).alloc _
  exact ⟨H.chg hc (fun _ _ h => h), (SS.new H D K V N).sb, hc⟩
theorem SF.same {l : List (Int × ByteArray)} {W' : World} (H : SF w D K V N r6 r8 o h t l p FT W) (hc : Chg (fun _ => False) W W') : SF w D K V N r6 r8 o h t l p FT W' :=
  ⟨H.ps.chg hc (fun _ _ h => h), H.sb.chg hc (fun _ h => h.elim), H.old.trans hc⟩
theorem SF.drew {l : List (Int × ByteArray)} (H : SF w D K V N r6 r8 o h t l p FT W) : SF w D K V N r6 r8 o h t l p FT W.drew := H.same (Chg.refl _ W).drew
theorem SF.drewN {l : List (Int × ByteArray)} (H : SF w D K V N r6 r8 o h t l p FT W) (n : Nat) : SF w D K V N r6 r8 o h t l p FT (W.drewN n) := H.same ((Chg.refl _ W).drewN n)
theorem SF.store8 {l : List (Int × ByteArray)} {a b : Value} (H : SF w D K V N r6 r8 o h t l p FT W) (hr : ((r8.setIfInBounds 0 a).setIfInBounds 1 b) = #[a, b]) (hFT : ∀ x ∈ FT, x < w.heap.size) :
    SF w D K V N r6 #[a, b] o h t l p FT ((W.setCell ⟨w.heap.size + 1 + 1, 0, none⟩ a).setCell ⟨w.heap.size + 1 + 1, 1, none⟩ b) := by
  have hs : Chg (fun x => x = w.heap.size + 1 + 1) W ((W.setCell ⟨w.heap.size + 1 + 1, 0, none⟩ a).setCell ⟨w.heap.size + 1 + 1, 1, none⟩ b) :=
    (Chg.setCell (S := fun x => x = w.heap.size + 1 + 1) (Chg.refl _ W) (p := ⟨_, 0, none⟩) (fun _ => rfl) _).setCell (p := ⟨_, 1, none⟩) (fun _ => rfl) _
  have hl := H.sb.lt
  refine ⟨H.ps.chg hs (fun x hx e => by have := hFT x hx; omega), ⟨(hs.block _ (by omega) (by omega)).trans H.sb.b5, (hs.block _ (by omega) (by omega)).trans H.sb.b6, ?_⟩, H.old.then hs (fun x hx e => by omega)⟩
  rw [heap_setCell_same _ (w.heap.size + 1 + 1) 1 _ 55 b (heap_setCell_same W (w.heap.size + 1 + 1) 0 _ 55 a H.sb.b8), hr]
theorem SF.store6 {l : List (Int × ByteArray)} {a b : Value} (H : SF w D K V N r6 r8 o h t l p FT W) (hr : ((r6.setIfInBounds 0 a).setIfInBounds 1 b) = #[a, b]) (hFT : ∀ x ∈ FT, x < w.heap.size) :
    SF w D K V N #[a, b] r8 o h t l p FT ((W.setCell ⟨w.heap.size + 1, 0, none⟩ a).setCell ⟨w.heap.size + 1, 1, none⟩ b) := by
  have hs : Chg (fun x => x = w.heap.size + 1) W ((W.setCell ⟨w.heap.size + 1, 0, none⟩ a).setCell ⟨w.heap.size + 1, 1, none⟩ b) :=
    (Chg.setCell (S := fun x => x = w.heap.size + 1) (Chg.refl _ W) (p := ⟨_, 0, none⟩) (fun _ => rfl) _).setCell (p := ⟨_, 1, none⟩) (fun _ => rfl) _
  have hl := H.sb.lt
  refine ⟨H.ps.chg hs (fun x hx e => by have := hFT x hx; omega), ⟨(hs.block _ (by omega) (by omega)).trans H.sb.b5, ?_, (hs.block _ (by omega) (by omega)).trans H.sb.b8⟩, H.old.then hs (fun x hx e => by omega)⟩
  rw [heap_setCell_same _ (w.heap.size + 1) 1 _ 55 b (heap_setCell_same W (w.heap.size + 1) 0 _ 55 a H.sb.b6), hr]
theorem SF.outK {l : List (Int × ByteArray)} (H : SF w D K V N r6 r8 o h t l p FT W) (hs : Sorted (cmpI o) l) (hFT : ∀ x ∈ FT, x < w.heap.size) (r : KRec) (hr : r.ok W) (hf : ∀ x ∈ r.foot, w.heap.size ≤ x) :
    StepOut w o h t l p FT (.returned (.tuple #[.agg #[kf (some r), kw (some r)], .bool true])) W :=
  ⟨l, p, FT, some r, rfl, H.ps, hs, by omega, by omega, H.old.mono fun _ _ h => h.elim, fun x hx => .inl hx, fun r' e => by
    cases e
    exact ⟨hr, fun x hx => ⟨hf x hx, fun hm => by have := hf x hx; have := hFT x hm; omega⟩⟩⟩
theorem SF.out {l : List (Int × ByteArray)} (H : SF w D K V N r6 r8 o h t l p FT W) (hs : Sorted (cmpI o) l) : StepOut w o h t l p FT (.returned (.tuple #[.agg #[.nilFunc, .slice none 0 0], .bool true])) W :=
  ⟨l, p, FT, none, rfl, H.ps, hs, by omega, by omega, H.old.mono fun _ _ h => h.elim, fun x hx => .inl hx, fun r e => by cases e⟩
theorem SF.call {l : List (Int × ByteArray)} {f : FuncId} {args : Array Value} {v : Value} (H : SF w D K V N r6 r8 o h t l p FT W) (hc : Calls Try.prog f args W fun e W' => e = .returned v ∧ Chg (fun _ => False) W W') :
    Calls Try.prog f args W fun e W' => e = .returned v ∧ Hid (SF w D K V N r6 r8 o h t l p FT W') :=
  hc.mono fun _ _ ⟨he, hc⟩ => ⟨he, H.same hc⟩
theorem quiet_chg {f : FuncId} {args : Array Value} {v : Value} (h : Calls Try.prog f args W fun e W' => e = .returned v ∧ ∃ n, W' = W.drewN n) : Calls Try.prog f args W fun e W' => e = .returned v ∧ Chg (fun _ => False) W W' :=
  h.mono fun _ _ ⟨he, n, hn⟩ => ⟨he, by rw [hn]; exact (Chg.refl _ W).drewN n⟩
theorem same_chg {f : FuncId} {args : Array Value} {v : Value} (h : Calls Try.prog f args W fun e W' => e = .returned v ∧ W = W') : Calls Try.prog f args W fun e W' => e = .returned v ∧ Chg (fun _ => False) W W' :=
  h.mono fun _ _ ⟨he, hn⟩ => ⟨he, by rw [← hn]; exact Chg.refl _ W⟩
theorem SF.iter {l ps : List (Int × ByteArray)} {f : FuncId} {args : Array Value} (H : SF w D K V N r6 r8 o h t l p FT W) (hc : Calls Try.prog f args W (GivesS W ps)) :
    Calls Try.prog f args W fun e W' => ∃ q, e = .returned (.func (.func 68) #[] #[.pointer (some ⟨q, 0, none⟩)]) ∧ Hid (SF w D K V N r6 r8 o h t l p FT W' ∧ GivesS W ps (.returned (.func (.func 68) #[] #[.pointer (some ⟨q, 0, none⟩)])) W') :=
  hc.mono fun e W' hg => by
    obtain ⟨q, g, he, h1⟩ := id hg
    subst he
    exact ⟨q, rfl, H.same h1.2.2.2.2.2, hg⟩
theorem SF.list {l ps : List (Int × ByteArray)} {f : FuncId} {args : Array Value} (H : SF w D K V N r6 r8 o h t l p FT W) (hc : Calls Try.prog f args W (GivesP W ps)) :
    Calls Try.prog f args W fun e W' => ∃ wg wc, e = .returned (.slice (wg.map fun g => (⟨g, 0, none⟩ : Addr)) ps.length wc) ∧ Hid (SF w D K V N r6 r8 o h t l p FT W' ∧ GivesP W ps (.returned (sv wg ps.length wc)) W') :=
  hc.mono fun e W' hg => by
    obtain ⟨g, c, he, h1, h2, h3⟩ := id hg
    subst he
    exact ⟨g, c, rfl, H.same h2, hg⟩
theorem krec_get {W1 W2 : World} {ps : List (Int × ByteArray)} {q : Nat} {wg : Option Nat} {wc : Nat} (hl : ps.length ≤ 4611686018427387903) (g1 : GivesS W ps (.returned (.func (.func 68) #[] #[.pointer (some ⟨q, 0, none⟩)])) W1) (g2 : GivesP W1 ps (.returned (sv wg ps.length wc)) W2) :
    ∃ r : KRec, r.q = q ∧ r.wg = wg ∧ r.wc = wc ∧ r.ps = ps ∧ r.ok W2 ∧ (∀ x ∈ r.foot, W.heap.size ≤ x) := by
  obtain ⟨q', g, he, hi, hq, hg, hq1, hg1, hc1⟩ := g1
  obtain ⟨wg', wc', he2, ho, hc2, hf⟩ := g2
  simp only [Ending.returned.injEq, Value.func.injEq, true_and, Array.mk.injEq, List.cons.injEq, Value.pointer.injEq, Option.some.injEq, Addr.mk.injEq, and_true] at he
  subst he
  have hs := hc2.size
  have hw : wg = wg' ∧ wc = wc' := by
    simp only [sv, Ending.returned.injEq, Value.slice.injEq, true_and] at he2
    refine ⟨?_, he2.2⟩
    have := he2.1
    cases wg <;> cases wg' <;> simp_all
  obtain ⟨rfl, rfl⟩ := hw
  refine ⟨⟨q, g, ps, wg, wc⟩, rfl, rfl, rfl, rfl, ⟨hi.keep (hc2.block q hq1 (fun h => h)) (hc2.block g hg1 (fun h => h)), Nat.lt_of_lt_of_le hq1 hs, Nat.lt_of_lt_of_le hg1 hs, ho, hl⟩, fun x hx => ?_⟩
  simp only [KRec.foot, List.mem_cons, Option.mem_toList] at hx
  rcases hx with rfl | rfl | hx
  · exact hq
  · exact hg
  · have := hf x hx; have := hc1.size; omega
end
end Go.Proofs.Ytdfkokbpidkokaa
