/- BoughTexts: the bough of texts and the document's texts, side by side in memory; what each call on one of them leaves. -/
import Derived.Test.YtdfkokbpidkokaaLiveA
import Derived.Test.YtdfkokbpidkokaaTxtAll
import Derived.Test.YtdfkokbpidkokaaSeq2
import Derived.Test.YtdfkokbpidkokaaArg
import Derived.LaidEqlPtr
namespace Go.Proofs.Ytdfkokbpidkokaa
open Go.RowKit

structure Tx (w0 : World) (g : Int → Value) (h t : Nat) (lb lt : List (ByteArray × Int)) (p : Nat) (F : List Nat) (kg cg : Option Nat) (kc cc : Nat) (W : World) : Prop where
  b : HasA W h (lb.map (onV g)) p F
  r : TRep W t lt kg kc cg cc
  sep : ∀ x ∈ F, w0.heap.size ≤ x ∧ x ≠ t ∧ kg ≠ some x ∧ cg ≠ some x
  ft : w0.heap.size ≤ t
  fk : ∀ x, kg = some x → w0.heap.size ≤ x
  fc : ∀ x, cg = some x → w0.heap.size ≤ x
  old : Chg (fun x => w0.heap.size ≤ x) w0 W
/-- a block beside both -/
structure Bx (F : List Nat) (t : Nat) (kg cg : Option Nat) (bx : Nat) (row : Obj) (W : World) : Prop where
  h : W.heap[bx]? = some row
  f : bx ∉ F
  t : bx ≠ t
  k : kg ≠ some bx
  c : cg ≠ some bx
/-- the two, and the loop's variable s in a block of its own -/
def TxE (w0 : World) (g : Int → Value) (h t : Nat) (lb lt : List (ByteArray × Int)) (p : Nat) (bx : Nat) (row : Obj) (W : World) : Prop :=
  ∃ F kg cg kc cc, Tx w0 g h t lb lt p F kg cg kc cc W ∧ Bx F t kg cg bx row W
def TxH (w0 : World) (g : Int → Value) (h t : Nat) (lb lt : List (ByteArray × Int)) (p : Nat) (W : World) : Prop :=
  ∃ F kg cg kc cc, Tx w0 g h t lb lt p F kg cg kc cc W

section
variable {w0 W : World} {g : Int → Value} {h t : Nat} {lb lt : List (ByteArray × Int)} {p bx : Nat} {row : Obj}

theorem Tx.keep {F : List Nat} {kg cg : Option Nat} {kc cc : Nat} {W' : World} (X : Tx w0 g h t lb lt p F kg cg kc cc W) (hc : Chg (fun _ => False) W W') : Tx w0 g h t lb lt p F kg cg kc cc W' :=
  ⟨X.b.chg hc (fun _ _ h => h), X.r.chg hc (fun h => h) (fun _ _ h => h) (fun _ _ h => h), X.sep, X.ft, X.fk, X.fc, X.old.trans (hc.mono fun _ _ h => h.elim)⟩
theorem TxE.keep {W' : World} (X : TxE w0 g h t lb lt p bx row W) (hc : Chg (fun _ => False) W W') : TxE w0 g h t lb lt p bx row W' := by
  obtain ⟨F, kg, cg, kc, cc, h1, h2⟩ := X
  exact ⟨F, kg, cg, kc, cc, h1.keep hc, ⟨(hc.block bx (Array.getElem?_eq_some_iff.1 h2.h).1 (fun h => h)).trans h2.h, h2.f, h2.t, h2.k, h2.c⟩⟩
theorem TxE.drew (X : TxE w0 g h t lb lt p bx row W) : TxE w0 g h t lb lt p bx row W.drew := X.keep (Chg.refl _ W).drew
theorem TxE.drewN (X : TxE w0 g h t lb lt p bx row W) (n : Nat) : TxE w0 g h t lb lt p bx row (W.drewN n) := X.keep ((Chg.refl _ W).drewN n)
theorem TxH.keep {W' : World} (X : TxH w0 g h t lb lt p W) (hc : Chg (fun _ => False) W W') : TxH w0 g h t lb lt p W' := by
  obtain ⟨F, kg, cg, kc, cc, h1⟩ := X
  exact ⟨F, kg, cg, kc, cc, h1.keep hc⟩
theorem TxE.head (X : TxE w0 g h t lb lt p bx row W) : TxH w0 g h t lb lt p W := by
  obtain ⟨F, kg, cg, kc, cc, h1, _⟩ := X
  exact ⟨F, kg, cg, kc, cc, h1⟩
theorem TxH.box (X : TxH w0 g h t lb lt p W) (row : Obj) : TxE w0 g h t lb lt p W.heap.size row (W.alloc row) := by
  obtain ⟨F, kg, cg, kc, cc, h1⟩ := X
  refine ⟨F, kg, cg, kc, cc, h1.keep ((Chg.refl _ W).alloc row), ⟨heap_alloc_new _ _, fun hm => ?_, fun e => ?_, fun e => ?_, fun e => ?_⟩⟩
  · have := h1.b.lt _ hm; omega
  · have := h1.r.lt; omega
  · have := h1.r.klt _ e; omega
  · have := h1.r.clt _ e; omega
theorem TxE.old (X : TxE w0 g h t lb lt p bx row W) : Chg (fun x => w0.heap.size ≤ x) w0 W := by
  obtain ⟨F, kg, cg, kc, cc, h1, _⟩ := X
  exact h1.old
theorem TxH.old (X : TxH w0 g h t lb lt p W) : Chg (fun x => w0.heap.size ≤ x) w0 W := by
  obtain ⟨F, kg, cg, kc, cc, h1⟩ := X
  exact h1.old
theorem TxH.len (X : TxH w0 g h t lb lt p W) : ∃ kg kc cg cc, TRep W t lt kg kc cg cc := by
  obtain ⟨F, kg, cg, kc, cc, h1⟩ := X
  exact ⟨kg, kc, cg, cc, h1.r⟩
theorem TxE.cell {cs : Array Value} {ty : TypeId} (X : TxE w0 g h t lb lt p bx (.cells cs ty (0, 0)) W) {j : Nat} {v : Value} (hv : cs[j]? = some v) : W.cell? ⟨bx, j, none⟩ = some v := by
  obtain ⟨F, kg, cg, kc, cc, _, h2⟩ := X
  rw [cell_of_row _ _ j _ _ (0, 0) h2.h]
  exact hv
theorem TxE.tcell (X : TxE w0 g h t lb lt p bx row W) : ∃ kg kc, W.cell? ⟨t, 0, none⟩ = some (.slice kg lt.length kc) := by
  obtain ⟨F, kg, cg, kc, cc, h1, h2⟩ := X
  exact ⟨_, kc, h1.r.c0⟩
theorem TxE.mono {p' : Nat} (X : TxE w0 g h t lb lt p bx row W) (hp : p ≤ p') : TxE w0 g h t lb lt p' bx row W := by
  obtain ⟨F, kg, cg, kc, cc, h1, h2⟩ := X
  exact ⟨F, kg, cg, kc, cc, ⟨h1.b.mono hp, h1.r, h1.sep, h1.ft, h1.fk, h1.fc, h1.old⟩, h2⟩

theorem TxE.bough {F : List Nat} {kg cg : Option Nat} {kc cc : Nat} {lb' : List (ByteArray × Int)} {p' : Nat} {W' : World} (h1 : Tx w0 g h t lb lt p F kg cg kc cc W) (h2 : Bx F t kg cg bx row W)
    (T : TurnedA W h (lb'.map (onV g)) p' F W') : TxE w0 g h t lb' lt p' bx row W' := by
  obtain ⟨F', h3, h4, h5⟩ := T
  have hbl := (Array.getElem?_eq_some_iff.1 h2.h).1
  refine ⟨F', kg, cg, kc, cc, ⟨h3, h1.r.chg h4 (fun hm => (h1.sep t hm).2.1 rfl) (fun x e hm => (h1.sep x hm).2.2.1 e) (fun x e hm => (h1.sep x hm).2.2.2 e), fun x hx => ?_, h1.ft, h1.fk, h1.fc, h1.old.then h4 (fun x _ hm => (h1.sep x hm).1)⟩,
    ⟨(h4.block bx hbl h2.f).trans h2.h, fun hm => ?_, h2.t, h2.k, h2.c⟩⟩
  · rcases h5 x hx with h6 | h6
    · exact h1.sep x h6
    · exact ⟨by have := h1.old.size; omega, fun e => by have := h1.r.lt; omega, fun e => by have := h1.r.klt _ e; omega, fun e => by have := h1.r.clt _ e; omega⟩
  · rcases h5 bx hm with h6 | h6
    · exact h2.f h6
    · omega
theorem TxE.text {F : List Nat} {kg cg : Option Nat} {kc cc : Nat} {lt' : List (ByteArray × Int)} {W' : World} (h1 : Tx w0 g h t lb lt p F kg cg kc cc W) (h2 : Bx F t kg cg bx row W)
    (T : TPost W t kg cg lt' W') : TxE w0 g h t lb lt' p bx row W' := by
  obtain ⟨kg', kc', cg', cc', h3, h4, h5, h6⟩ := T
  have hbl := (Array.getElem?_eq_some_iff.1 h2.h).1
  have hsz := h1.old.size
  refine ⟨F, kg', cg', kc', cc', ⟨h1.b.chg h4 (fun x hx hm => ?_), h3, fun x hx => ⟨(h1.sep x hx).1, (h1.sep x hx).2.1, fun e => ?_, fun e => ?_⟩, h1.ft, fun x e => ?_, fun x e => ?_, h1.old.then h4 (fun x hx hm => ?_)⟩,
    ⟨(h4.block bx hbl (fun hm => ?_)).trans h2.h, h2.f, h2.t, fun e => ?_, fun e => ?_⟩⟩
  · obtain ⟨_, h7, h8, h9⟩ := h1.sep x hx
    rcases hm with hm | hm | hm
    · exact h7 hm
    · exact h8 hm
    · exact h9 hm
  · rcases h5 x e with h7 | h7
    · exact (h1.sep x hx).2.2.1 h7
    · have := h1.b.lt x hx; omega
  · rcases h6 x e with h7 | h7
    · exact (h1.sep x hx).2.2.2 h7
    · have := h1.b.lt x hx; omega
  · rcases h5 x e with h7 | h7
    · exact h1.fk x h7
    · omega
  · rcases h6 x e with h7 | h7
    · exact h1.fc x h7
    · omega
  · rcases hm with hm | hm | hm
    · rw [hm]; exact h1.ft
    · exact h1.fk x hm
    · exact h1.fc x hm
  · rcases hm with hm | hm | hm
    · exact h2.t hm
    · exact h2.k hm
    · exact h2.c hm
  · rcases h5 bx e with h7 | h7
    · exact h2.k h7
    · omega
  · rcases h6 bx e with h7 | h7
    · exact h2.c h7
    · omega

theorem tx_bput (X : TxE w0 g h t lb lt p bx row W) (k : ByteArray) (i : Int) (va : Option Addr) (vn vc : Nat) (hg : g i = .slice va vn vc) (hs : Sorted txc lb) (hp : p ≤ 70368744177664) :
    Calls Try.prog 10 #[.pointer (some ⟨h, 0, none⟩), .string k, .slice va vn vc] W fun e w' => e = .returned (.bool (!hasL txc lb k)) ∧ Hid (TxE w0 g h t (putL txc lb k i) lt (max 16 (p + 1)) bx row w') := by
  obtain ⟨F, kg, cg, kc, cc, h1, h2⟩ := X
  refine (put_hasA h1.b k va vn vc (sorted_map txc g hs) hp).mono ?_
  rintro e w' ⟨rfl, T⟩
  rw [← hg, putL_map] at T
  exact ⟨by rw [hasL_map], TxE.bough h1 h2 T⟩
theorem tx_bdel (X : TxE w0 g h t lb lt p bx row W) (k : ByteArray) (hs : Sorted txc lb) (hp : p ≤ 70368744177664) :
    Calls Try.prog 12 #[.pointer (some ⟨h, 0, none⟩), .string k] W fun e w' => e = .returned (.bool (hasL txc lb k)) ∧ Hid (TxE w0 g h t (delL txc lb k) lt p bx row w') := by
  obtain ⟨F, kg, cg, kc, cc, h1, h2⟩ := X
  refine (del_hasA h1.b k (sorted_map txc g hs) hp).mono ?_
  rintro e w' ⟨rfl, T⟩
  rw [delL_map] at T
  exact ⟨by rw [hasL_map], TxE.bough h1 h2 T⟩
theorem tx_bget (X : TxE w0 g h t lb lt p bx row W) (k : ByteArray) (hs : Sorted txc lb) (hp : p ≤ 70368744177664) :
    Calls Try.prog 14 #[.pointer (some ⟨h, 0, none⟩), .string k] W fun e w' => e = .returned (.tuple #[((getL txc lb k).map g).getD (.slice none 0 0), .bool (hasL txc lb k)]) ∧ Hid (TxE w0 g h t lb lt p bx row w') := by
  obtain ⟨F, kg, cg, kc, cc, h1, h2⟩ := id X
  refine (get_hasA h1.b k (sorted_map txc g hs) hp).mono ?_
  rintro e w' ⟨rfl, T⟩
  exact ⟨by rw [hasL_map, getL_map], X.keep T⟩
theorem tx_brank (X : TxE w0 g h t lb lt p bx row W) (k : ByteArray) (hs : Sorted txc lb) (hp : p ≤ 70368744177664) :
    Calls Try.prog 17 #[.pointer (some ⟨h, 0, none⟩), .string k] W fun e w' => e = .returned (.int .i64 (rk txc lb k)) ∧ ∃ n, w' = W.drewN n := by
  obtain ⟨F, kg, cg, kc, cc, h1, h2⟩ := X
  refine (rank_hasA h1.b k (sorted_map txc g hs) hp).mono ?_
  rintro e w' ⟨rfl, T⟩
  exact ⟨by rw [rk_map], T⟩
theorem tx_blen (X : TxE w0 g h t lb lt p bx row W) :
    Calls Try.prog 19 #[.pointer (some ⟨h, 0, none⟩)] W fun e w' => e = .returned (.int .i64 lb.length) ∧ W = w' := by
  obtain ⟨F, kg, cg, kc, cc, h1, h2⟩ := X
  refine (len_hasA h1.b).mono ?_
  rintro e w' ⟨rfl, T⟩
  exact ⟨by rw [List.length_map], T⟩
theorem tx_tput (X : TxE w0 g h t lb lt p bx row W) (k : ByteArray) (i : Int) (hl : (lt.length + 1) * 16 ≤ 140737488355328) :
    Calls Try.prog 11 #[.pointer (some ⟨t, 0, none⟩), .string k, .int .i64 i] W fun e w' => e = .returned (.bool (!hasL txc lt k)) ∧ Hid (TxE w0 g h t lb (putL txc lt k i) p bx row w') := by
  obtain ⟨F, kg, cg, kc, cc, h1, h2⟩ := X
  refine (put_txt h1.r k i hl).mono ?_
  rintro e w' ⟨rfl, T⟩
  exact ⟨rfl, TxE.text h1 h2 T⟩
theorem tx_tdel (X : TxE w0 g h t lb lt p bx row W) (k : ByteArray) (hl : (lt.length + 1) * 16 ≤ 140737488355328) :
    Calls Try.prog 13 #[.pointer (some ⟨t, 0, none⟩), .string k] W fun e w' => e = .returned (.bool (hasL txc lt k)) ∧ Hid (TxE w0 g h t lb (delL txc lt k) p bx row w') := by
  obtain ⟨F, kg, cg, kc, cc, h1, h2⟩ := X
  refine (del_txt h1.r k hl).mono ?_
  rintro e w' ⟨rfl, T⟩
  exact ⟨rfl, TxE.text h1 h2 T⟩
theorem tx_tget (X : TxE w0 g h t lb lt p bx row W) (k : ByteArray) (hl : lt.length ≤ 4611686018427387903) :
    Calls Try.prog 15 #[.pointer (some ⟨t, 0, none⟩), .string k] W fun e w' => e = .returned (.int .i64 ((getL txc lt k).getD (-1))) ∧ W = w' := by
  obtain ⟨F, kg, cg, kc, cc, h1, h2⟩ := X
  exact get_txt h1.r k hl
theorem tx_trank (X : TxE w0 g h t lb lt p bx row W) (k : ByteArray) (hl : lt.length ≤ 4611686018427387903) :
    Calls Try.prog 18 #[.pointer (some ⟨t, 0, none⟩), .string k] W fun e w' => e = .returned (.int .i64 (rk txc lt k)) ∧ W = w' := by
  obtain ⟨F, kg, cg, kc, cc, h1, h2⟩ := X
  exact rank_txt h1.r k hl

/-- the very same list: function 16 -/
theorem same_any (va : Option Addr) (vn vc : Nat) (hv : 0 < vn → ∃ b o, va = some ⟨b, o, none⟩) (W : World) :
    Calls Try.prog 16 #[.slice va vn vc, .slice va vn vc] W fun e w' => e = .returned (.bool true) ∧ ∃ n, w' = W.drewN n := by
  have t1 : (((vn : Int) != vn)) = false := by simp
  by_cases h0 : vn = 0
  · have t2 : ((vn : Int) == 0) = true := by simp; omega
    clear h0
    go_enter Try.func16, Try.ntmps16
    go_wp2
    go_quiet (fail)
    go_wp2
    go_ret
    exact ⟨rfl, _, rfl⟩
  · obtain ⟨b, o, rfl⟩ := hv (by omega)
    have t2 : ((vn : Int) == 0) = false := by simp; omega
    have t3 : (0 : Int) < vn := by omega
    have t4 : ∀ w, (binOp .eql 96 (.pointer (some ⟨b, o, none⟩)) (.pointer (some ⟨b, o, none⟩))).run Try.prog w = .ok (.bool true) w := fun w => by
      obtain ⟨i3, hi, _⟩ := info_parts Try.info3
      exact run_eql_ptr_same w _ Try.underlying96 hi
    clear h0 hv t1
    go_enter Try.func16, Try.ntmps16
    go_wp2
    go_quiet (fail)
    go_wp2
    go_ret
    exact ⟨rfl, _, rfl⟩
end
end Go.Proofs.Ytdfkokbpidkokaa
