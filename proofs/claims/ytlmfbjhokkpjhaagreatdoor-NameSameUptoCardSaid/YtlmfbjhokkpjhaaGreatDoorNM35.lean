/- Part 35 of the walks and plain laws, joined: KeyM. -/
import Derived.Test.YtlmfbjhokkpjhaaGreatDoorNM00
import Derived.Test.YtlmfbjhokkpjhaaGreatDoorNM31
import Derived.Test.YtlmfbjhokkpjhaaGreatDoorNM32
import Derived.Test.YtlmfbjhokkpjhaaGreatDoorNM34
import Derived.Test.YtlmfbjhokkpjhaaGreatDoorNM27
set_option linter.unusedVariables false
set_option linter.unusedSimpArgs false
namespace Go.Proofs.YtlmfbjhokkpjhaaGreatDoor
open Go Go.RowKit Go.Maps Go.Sort
theorem eiPair : EI Tryz.prog 130 136 (.agg #[.int .i64 0, .string ByteArray.empty]) 2 24 := EI.of Tryz.underlying130 (by kernel_rfl) rfl (by decide) (by decide)
theorem eiStrs : EI Tryz.prog 44 9 (.string ByteArray.empty) 1 16 := EI.of Tryz.underlying44 (by kernel_rfl) rfl (by decide) (by decide)
def pairC (l : List KPair) : List Value := l.flatMap encP
theorem pairC_app (l m : List KPair) : pairC (l ++ m) = pairC l ++ pairC m := by unfold pairC; rw [List.flatMap_append]
theorem pairC_at : ∀ (l : List KPair) (i c : Nat) (p : KPair), l[i]? = some p → c < 2 → (pairC l)[i * 2 + c]? = (encP p)[c]?
 | [], _, _, _, h, _ => by cases h
 | y :: l, 0, c, p, h, hc => by
  cases h
  have e : pairC (y :: l) = encP y ++ pairC l := rfl
  rw [e, Nat.zero_mul, Nat.zero_add, List.getElem?_append_left (by simpa [encP] using hc)]
 | y :: l, i + 1, c, p, h, hc => by
  have := pairC_at l i c p h hc
  have e : pairC (y :: l) = encP y ++ pairC l := rfl
  rw [e, List.getElem?_append_right (by simp [encP]; omega), ← this]
  congr 1
  simp [encP]; omega
theorem holds_own {w : World} {g cap : Nat} {l : List KPair} (h : Own w 136 2 (some g) l.length cap (pairC l)) : HoldsK encP 2 w g 0 l.toArray := by
 intro j hj
 rw [size_flatK] at hj
 have hj' : j < l.length * 2 := by simpa using hj
 have hi : j / 2 < l.length := by omega
 obtain ⟨p, hp⟩ : ∃ p, l[j / 2]? = some p := ⟨_, List.getElem?_eq_getElem hi⟩
 have h1 := pairC_at l (j / 2) (j % 2) p hp (by omega)
 rw [show j / 2 * 2 + j % 2 = j by omega] at h1
 have h2 : (l.toArray)[j / 2]! = p := by
  rw [getElem!_pos l.toArray (j / 2) (by simpa using hi)]
  simpa using (List.getElem?_eq_some_iff.1 hp).2
 have hc : (encP p)[j % 2]? = some ((encP p)[j % 2]!) := by
  have hl : j % 2 < (encP p).length := by simp [encP]; omega
  rw [getElem!_pos (encP p) (j % 2) hl]
  exact List.getElem?_eq_getElem hl
 refine ⟨?_, h.row.frozen _⟩
 rw [get_flatK _ _ _ _ hj, h2]
 exact (Nat.zero_add j).symm ▸ h.row.cell (h1.trans hc)
theorem holds_cells {w : World} {g : Nat} {d : Array KPair} {l : List KPair} (h : HoldsK encP 2 w g 0 d) (hd : d.toList = l) {i : Nat} {p : KPair} (hp : l[i]? = some p) :
  w.cell? ⟨g, 0 + i * 2, none⟩ = some (.int .i64 (p.1 : Nat)) ∧ w.cell? ⟨g, 0 + i * 2 + 1, none⟩ = some (.string (baOf p.2)) := by
 subst hd
 have hi : i < d.size := by simpa using (List.getElem?_eq_some_iff.1 hp).1
 have h2 : d[i]! = p := by
  rw [getElem!_pos d i hi]
  simpa using (List.getElem?_eq_some_iff.1 hp).2
 have h0 := (h.cell (i := i) (c := 0) hi (by omega)).1
 have h1 := (h.cell (i := i) (c := 1) hi (by omega)).1
 rw [h2] at h0 h1
 exact ⟨h0, h1⟩
structure SC (w : World) (st n : Nat) (f : Nat → ByteArray) : Prop where
 cell : ∀ j, j < n → w.cell? ⟨st, j, none⟩ = some (.string (f j))
 fr : ∀ j, w.frozen? ⟨st, j, none⟩ = false
 lt : st < w.heap.size
theorem SC.keep {w w' : World} {st n : Nat} {f : Nat → ByteArray} (h : SC w st n f) (k : Below w.heap.size w w') : SC w' st n f :=
 ⟨fun j hj => (k.cell (p := ⟨st, j, none⟩) h.lt).trans (h.cell j hj), fun j => (k.frozen (p := ⟨st, j, none⟩) h.lt).trans (h.fr j), Nat.lt_of_lt_of_le h.lt k.size⟩
theorem SC.set {w : World} {st n : Nat} {f : Nat → ByteArray} (h : SC w st n f) {j : Nat} (hj : j < n) (x : ByteArray) : SC (w.setCell ⟨st, j, none⟩ (.string x)) st n (fun q => if q = j then x else f q) :=
 ⟨fun q hq => by
  by_cases e : q = j
  ·subst e; simp only [if_true]; exact World.cell?_setCell_same _ _ _ (h.cell q hj)
  ·simp only [if_neg e]
   rw [World.cell?_setCell_other _ _ _ _ (by intro e2; injection e2 with _ e2 _; exact e e2.symm)]
   exact h.cell q hq, fun q => by rw [World.frozen?_setCell]; exact h.fr q, by simp [World.setCell]; exact h.lt⟩
theorem SC.congr {w : World} {st n : Nat} {f f' : Nat → ByteArray} (h : SC w st n f) (e : ∀ j, j < n → f j = f' j) : SC w st n f' :=
 ⟨fun j hj => by rw [h.cell j hj, e j hj], h.fr, h.lt⟩
theorem makeStrs (n : Nat) (hn : n ≤ 1024) (w : World) : ∃ w', (Instr.makeSlice 44 (.int .i64 (n : Int)) (.int .i64 (n : Int))).run Tryz.prog w = .ok (.slice (some ⟨w.heap.size, 0, none⟩) n n) w' ∧ SC w' w.heap.size n (fun _ => ByteArray.empty) ∧ Below w.heap.size w w' := by
 obtain ⟨i, h2, h3, h4, h5⟩ := eiStrs.info
 have hr := run_make (P := Tryz.prog) w 44 9 i (.string ByteArray.empty) eiStrs.und h2 h3 .i64 .i64 (n : Int) (n : Int) (by omega) (Int.le_refl _) (by rw [h5]; omega) (by omega)
 simp only [Int.toNat_natCast, h4, Nat.mul_one] at hr
 refine ⟨_, hr, ⟨fun j hj => ?_, fun j => ?_, by simp⟩, (Zl _ _).alloc (Zr _) _⟩
 ·rw [World.cell?_alloc_new]
  simp [madeCells, hj, Value.cells, Nat.mod_one]
 ·rw [World.frozen?_alloc_new]
def keyEs : List KPair → Nat → List MapEntry
 | [], _ => []
 | p :: l, i => ⟨.int .i64 (p.1 : Nat), .agg #[], i⟩ :: keyEs l (i + 1)
theorem keyEs_len : ∀ (l : List KPair) (i : Nat), (keyEs l i).length = l.length
 | [], _ => rfl
 | _ :: l, i => by simp [keyEs, keyEs_len l]
theorem keyEs_snoc (p : KPair) : ∀ (l : List KPair) (i : Nat), keyEs (l ++ [p]) i = keyEs l i ++ [⟨.int .i64 (p.1 : Nat), .agg #[], i + l.length⟩]
 | [], i => rfl
 | x :: l, i => by simp [keyEs, keyEs_snoc p l (i + 1)]; omega
theorem keyEs_find (t : Nat) : ∀ (l : List KPair) (i q : Nat), (l.any (fun p => p.1 == t) = false → Instr.findNow (.int .i64) (.int .i64 (t : Nat)) (keyEs l i) q = some none) ∧
  (l.any (fun p => p.1 == t) = true → ∃ j, Instr.findNow (.int .i64) (.int .i64 (t : Nat)) (keyEs l i) q = some (some (j, .agg #[])))
 | [], _, _ => ⟨fun _ => rfl, fun h => by cases h⟩
 | p :: l, i, q => by
  obtain ⟨h1, h2⟩ := keyEs_find t l (i + 1) (q + 1)
  have e : Instr.sameNow (.int .i64) (.int .i64 (t : Nat)) (.int .i64 (p.1 : Nat)) = some (t == p.1) := by
   simp only [Instr.sameNow, if_true]
   congr 1
   rw [Bool.eq_iff_iff]
   simp only [beq_iff_eq]
   exact Int.ofNat_inj
  by_cases hp : p.1 = t
  ·subst hp
   refine ⟨fun h => by simp at h, fun _ => ⟨q, ?_⟩⟩
   simp [keyEs, Instr.findNow, e]
  ·have hb : (t == p.1) = false := beq_eq_false_iff_ne.2 fun e => hp e.symm
   have hb2 : (p.1 == t) = false := beq_eq_false_iff_ne.2 hp
   simp only [List.any_cons, hb2, Bool.false_or]
   refine ⟨fun h => ?_, fun h => ?_⟩
   ·simp [keyEs, Instr.findNow, e, hb]; exact h1 h
   ·obtain ⟨j, hj⟩ := h2 h
    exact ⟨j, by simp [keyEs, Instr.findNow, e, hb]; exact hj⟩
theorem i64_key (t : Int) : Go.MapKept.IsKey (.int .i64) (.int .i64 t) := by simp [Go.MapKept.IsKey]
theorem sumR_const (c : Nat) (r : PRdn) : sumR (fun _ => c) r = r.length * c := by
 induction r with
 | nil => simp [sumR]
 | cons a r ih => simp only [sumR, List.map_cons, List.sum_cons, List.length_cons] at ih ⊢; rw [ih, Nat.add_mul]; omega
theorem val9' {S : PSchema} (hS : OkS S) (x : PType) (v : Str) (hv : v.length ≤ 65536) : (valK (rdK S) S x v).1.length ≤ 1100000000 := by
 have h1 := valK_leaf hS (rdK S) x v hv
 have h2 := leaf_le v
 have h3 := (rd_len hS _ v (Zr _)).1
 omega
theorem kw_bound {S : PSchema} (hS : OkS S) {r : PRdn} (h8 : r.length ≤ 8) (hz : ∀ a ∈ r, a.2.size ≤ 65536) : kw (pairsK (rdK S) S [] r).2 ≤ 9000000000 := by
 have h := pairsK_kw (rd := rdK S) (S := S) (F := fun _ => 1100000045) r [] fun a ha x => by
  have hz2 : (toL a.2).length = a.2.size := Lib.size_eq a.2
  have := val9' hS x (toL a.2) (by rw [hz2]; exact hz a ha)
  omega
 rw [sumR_const] at h
 have z : kw [] = 0 := rfl
 rw [z] at h
 have : r.length * 1100000045 ≤ 8 * 1100000045 := Nat.mul_le_mul_right _ h8
 omega
theorem sum_take {l : List Nat} (q : Nat) : (l.take q).sum ≤ l.sum := by
 have := congrArg List.sum (List.take_append_drop q l)
 rw [List.sum_append_nat] at this
 omega
theorem part_len {m : List KPair} (h1 : ∀ p ∈ m, p.1 < 1000000000) (h2 : kw m ≤ 9000000000) (q : Nat) : (joinP 43 ((m.map pairS).take q)).length ≤ 9000000000 ∧ ∀ p ∈ m, (decS p.1).length ≤ 20 ∧ (decS p.2.length).length ≤ 20 ∧ p.2.length ≤ 9000000000 := by
 have h4 : ∀ m : List KPair, (∀ p ∈ m, p.1 < 1000000000) → kw m ≤ 9000000000 → ((m.map pairS).map fun s => s.length + 1).sum ≤ kw m := by
  intro m
  induction m with
  | nil => intro _ _; simp [kw]
  | cons p m ih =>
   intro hT hk
   have hk2 : kw (p :: m) = p.2.length + 45 + kw m := by simp [kw]
   have := ih (fun q hq => hT q (by simp [hq])) (by omega)
   have a1 := hT p (by simp)
   have b1 := dec_len (n := p.1) (by omega)
   have b2 := dec_len (n := p.2.length) (by omega)
   have e : (pairS p).length ≤ p.2.length + 42 := by unfold pairS decS; simp; omega
   simp only [List.map_cons, List.sum_cons] at this ⊢
   omega
 have h5 := h4 m h1 h2
 have h6 := joinP_len 43 ((m.map pairS).take q)
 rw [List.map_take] at h6
 have h7 := sum_take (l := (m.map pairS).map fun s => s.length + 1) q
 refine ⟨by omega, fun p hp => ?_⟩
 have a1 := h1 p hp
 have a2 := kw_mem hp
 exact ⟨dec_len (n := p.1) (by omega), dec_len (n := p.2.length) (by omega), by omega⟩
def stpA (S : PSchema) (l : PName) (q : Nat) : ByteArray := baOf (stepK (pairsK (rdK S) S [] (l.getD q [])).2)
def rowF (S : PSchema) (l : PName) (n i : Nat) (j : Nat) : ByteArray := if n - 1 - j < i then stpA S l (n - 1 - j) else ByteArray.empty
theorem rowF_next (S : PSchema) (l : PName) {n i : Nat} (hi : i < n) (j : Nat) (hj : j < n) : rowF S l n (i + 1) j = if j = n - 1 - i then stpA S l i else rowF S l n i j := by
 unfold rowF
 by_cases e : j = n - 1 - i
 ·subst e
  rw [if_pos rfl, show n - 1 - (n - 1 - i) = i by omega, if_pos (by omega)]
 ·rw [if_neg e]
  by_cases h : n - 1 - j < i
  ·rw [if_pos h, if_pos (by omega)]
  ·rw [if_neg h, if_neg (by omega)]
theorem bapp2 (a b : Str) : baOf a ++ baOf b = baOf (a ++ b) := bapp a b
theorem stepsK_all {rd : Str → Str × Bool} {S : PSchema} : ∀ (l : PName), (∀ q, q < l.length → (pairsK rd S [] (l.getD q [])).1 = 0) → stepsK rd S l = (0, l.map fun r => stepK (pairsK rd S [] r).2)
 | [], _ => rfl
 | r :: l, h => by
  have h0 := h 0 (by simp)
  simp only [List.getD_cons_zero] at h0
  have ih := stepsK_all l fun q hq => by have := h (q + 1) (by simp; omega); simpa using this
  simp only [stepsK, h0, ih]
  simp
theorem stepsK_err {rd : Str → Str × Bool} {S : PSchema} : ∀ (l : PName) (i : Nat), (∀ q, q < i → (pairsK rd S [] (l.getD q [])).1 = 0) → i < l.length → (pairsK rd S [] (l.getD i [])).1 ≠ 0 → (stepsK rd S l).1 = (pairsK rd S [] (l.getD i [])).1
 | [], _, _, h, _ => by simp at h
 | r :: l, 0, _, _, h => by
  simp only [List.getD_cons_zero] at h ⊢
  simp only [stepsK, if_pos h]
 | r :: l, i + 1, h, hi, hn => by
  have h0 := h 0 (by omega)
  simp only [List.getD_cons_zero] at h0
  have ih := stepsK_err l i (fun q hq => by have := h (q + 1) (by omega); simpa using this) (by simpa using hi) (by simpa using hn)
  simp only [stepsK, h0]
  rw [if_neg (by simp), ih]
  simp
theorem joinE : ∀ l : List Str, Lib.join l [] = l.flatten
 | [] => rfl
 | x :: r => by rw [Lib.join_cons]; simp [Lib.joinTail]
structure InM (wb wr : World) (lb mb : Nat) (go : Option Nat) (cap : Nat) (acc : List KPair) : Prop where
 below : Below wb.heap.size wb wr
 lbh : wr.heap[lb]? = some (.cells #[sv go acc.length cap] 130 (0, 0))
 own : Own wr 136 2 go acc.length cap (pairC acc)
 fr : ∀ q, go = some q → mb < q
 map : wr.heap[mb]? = some (.map (keyEs acc 0).toArray (keyEs acc 0).length)
 o1 : wb.heap.size ≤ lb
 o2 : lb < mb
 o3 : mb < wr.heap.size
theorem InM.keep {wb w w' : World} {lb mb : Nat} {go : Option Nat} {cap : Nat} {acc : List KPair} (h : InM wb w lb mb go cap acc) (k : Below w.heap.size w w') : InM wb w' lb mb go cap acc := by
 have o2 := h.o2; have o3 := h.o3
 have hz := h.below.size
 exact ⟨h.below.trans (k.mono hz), by rw [k.block lb (by omega)]; exact h.lbh, h.own.keep fun q e => k.block q (by have h1 := h.own; rw [e] at h1; exact h1.row.lt), h.fr, by rw [k.block mb o3]; exact h.map, h.o1, o2, Nat.lt_of_lt_of_le o3 k.size⟩
theorem look_met {wb w : World} {lb mb : Nat} {go : Option Nat} {cap : Nat} {acc : List KPair} (h : InM wb w lb mb go cap acc) (t : Nat) (bb : Bool) (hb : acc.any (fun p => p.1 == t) = bb) :
  (Instr.lookup 131 (.map (some mb)) (.int .i64 (t : Nat)) true).run Tryz.prog w = .ok (.tuple #[.agg #[], .bool bb]) w := by
 obtain ⟨h1, h2⟩ := keyEs_find t acc 0 0
 cases bb with
 | false => exact (look_g Tryz.underlying131 Tryz.underlying3 h.map (.int .i64 (t : Nat)) (i64_key _) (.agg #[]) (by kernel_rfl) (h1 hb)).1
 | true =>
  obtain ⟨j, hj⟩ := h2 hb
  exact (look_g Tryz.underlying131 Tryz.underlying3 h.map (.int .i64 (t : Nat)) (i64_key _) (.agg #[]) (by kernel_rfl) hj).1
structure InN (wb wr : World) (lb mb : Nat) (go : Option Nat) (cap : Nat) (acc am : List KPair) : Prop where
 below : Below wb.heap.size wb wr
 lbh : wr.heap[lb]? = some (.cells #[sv go acc.length cap] 130 (0, 0))
 own : Own wr 136 2 go acc.length cap (pairC acc)
 fr : ∀ q, go = some q → mb < q
 map : wr.heap[mb]? = some (.map (keyEs am 0).toArray (keyEs am 0).length)
 o1 : wb.heap.size ≤ lb
 o2 : lb < mb
 o3 : mb < wr.heap.size
theorem InN.keep {wb w w' : World} {lb mb : Nat} {go : Option Nat} {cap : Nat} {acc am : List KPair} (h : InN wb w lb mb go cap acc am) (k : Below w.heap.size w w') : InN wb w' lb mb go cap acc am := by
 have o2 := h.o2; have o3 := h.o3
 have hz := h.below.size
 exact ⟨h.below.trans (k.mono hz), by rw [k.block lb (by omega)]; exact h.lbh, h.own.keep fun q e => k.block q (by have h1 := h.own; rw [e] at h1; exact h1.row.lt), h.fr, by rw [k.block mb o3]; exact h.map, h.o1, o2, Nat.lt_of_lt_of_le o3 k.size⟩
theorem setM_other (w : World) (r : Nat) (es : List MapEntry) {b : Nat} (h : b ≠ r) : (setM w r es).heap[b]? = w.heap[b]? := by
 show (w.heap.setIfInBounds r _)[b]? = _
 rw [Array.getElem?_setIfInBounds_ne (fun e => h e.symm)]
theorem InM.met {wb w : World} {lb mb : Nat} {go : Option Nat} {cap : Nat} {acc : List KPair} (h : InM wb w lb mb go cap acc) (t : Nat) (kv : Str) (hb : acc.any (fun p => p.1 == t) = false) :
  ∃ w', (Instr.mapUpdate 131 (.map (some mb)) (.int .i64 (t : Nat)) (.agg #[])).run Tryz.prog w = .ok () w' ∧ InN wb w' lb mb go cap acc (acc ++ [(t, kv)]) ∧ ∀ b, b ≠ mb → w'.heap[b]? = w.heap[b]? := by
 have hu := upd_g Tryz.underlying131 Tryz.underlying3 h.map (.int .i64 (t : Nat)) (.agg #[]) (i64_key _) ((keyEs_find t acc 0 0).1 hb)
 have he : keyEs acc 0 ++ [⟨.int .i64 (t : Nat), .agg #[], (keyEs acc 0).length⟩] = keyEs (acc ++ [(t, kv)]) 0 := by
  rw [keyEs_snoc, keyEs_len]; simp
 rw [he] at hu
 have o1 := h.o1; have o2 := h.o2; have o3 := h.o3
 have hz := h.below.size
 refine ⟨_, hu, ⟨setM_below h.below (by omega), by rw [setM_other _ _ _ (by omega)]; exact h.lbh, h.own.keep fun q e => setM_other _ _ _ (by have := h.fr q e; omega), h.fr, setM_heap o3, o1, o2, by rw [setM_size]; exact o3⟩, fun b hb => setM_other _ _ _ hb⟩
theorem InN.push {wb w9 w11 : World} {lb mb : Nat} {go : Option Nat} {cap : Nat} {acc : List KPair} {p : KPair} (h : InN wb w9 lb mb go cap acc (acc ++ [p])) {o : Obj} {g11 cap11 : Nat}
  (own11 : Own w11 136 2 (some g11) (acc.length + 1) cap11 (pairC acc ++ encP p)) (gr : (w9.alloc o).grownBy w11 go) (hat : go = some g11 ∨ w9.heap.size + 1 ≤ g11) :
  w11.heap[lb]? = some (.cells #[sv go acc.length cap] 130 (0, 0)) ∧ InM wb (w11.setCell ⟨lb, 0, none⟩ (.slice (some ⟨g11, 0, none⟩) (acc.length + 1) cap11)) lb mb (some g11) cap11 (acc ++ [p]) := by
 have o1 := h.o1; have o2 := h.o2; have o3 := h.o3
 have hz := h.below.size
 have hA : Below w9.heap.size w9 (w9.alloc o) := (Zl _ _).alloc (Zr _) _
 have hne : ∀ b, b ≤ mb → go ≠ some b := fun b hb e => by have := h.fr b e; omega
 have hk : ∀ b, b ≤ mb → w11.heap[b]? = w9.heap[b]? := fun b hb => by
  rw [gr.block b (by simp; omega) (fun e => hne b hb e.symm), hA.block b (by omega)]
 have h1 : w11.heap[lb]? = some (.cells #[sv go acc.length cap] 130 (0, 0)) := by rw [hk lb (by omega)]; exact h.lbh
 have hg : mb < g11 := by
  rcases hat with e | e
  ·exact h.fr _ e
  ·omega
 have hl : (acc ++ [p]).length = acc.length + 1 := by simp
 refine ⟨h1, ⟨?_, ?_, ?_, fun q e => by cases e; exact hg, ?_, o1, o2, ?_⟩⟩
 ·exact ((h.below.trans (hA.mono hz)).grown gr (by simp; omega) fun k e => by have := h.fr k e; omega).setCell (p := ⟨lb, 0, none⟩) o1 _
 ·rw [heap_setCell_same w11 lb 0 _ _ _ h1, hl]; rfl
 ·rw [hl, pairC_app]
  show Own _ _ 2 (some g11) _ cap11 (pairC acc ++ (encP p ++ []))
  rw [List.append_nil]
  exact own11.keep fun q e => by cases e; exact Below.heap_setCell w11 ⟨lb, 0, none⟩ _ g11 (by show ¬ g11 = lb; omega)
 ·rw [Below.heap_setCell w11 ⟨lb, 0, none⟩ _ mb (by show ¬ mb = lb; omega), hk mb (Zr _)]; exact h.map
 ·have := gr.size
  simp [World.setCell] at this ⊢
  omega
theorem SC.chg {w w' : World} {st n : Nat} {f : Nat → ByteArray} {Q : Nat → Prop} (h : SC w st n f) (k : Chg Q w w') (hq : ¬ Q st) : SC w' st n f := by
 have hb := k.block st h.lt hq
 exact ⟨fun j hj => by rw [← h.cell j hj]; unfold World.cell?; simp only [hb], fun j => by rw [← h.fr j]; unfold World.frozen?; simp only [hb], Nat.lt_of_lt_of_le h.lt k.size⟩
theorem holds_keep {w w' : World} {g : Nat} {d : Array KPair} (h : HoldsK encP 2 w g 0 d) (hb : w'.heap[g]? = w.heap[g]?) : HoldsK encP 2 w' g 0 d := fun j hj => by
 obtain ⟨h1, h2⟩ := h j hj
 exact ⟨by rw [← h1]; unfold World.cell?; simp only [hb], by rw [← h2]; unfold World.frozen?; simp only [hb]⟩
theorem itoa_any (n : Nat) (hn : n < 1000000000000000000) (w : World) (hE : Env w) : Calls Tryz.prog 80 #[.int .i64 (n : Nat)] w fun e w' => e = .returned (.string (baOf (decS n))) ∧ Below w.heap.size w w' :=
 (Tryz.strconv_Itoa n (by omega) (by omega) w hE.pow).mono fun e w' ⟨h1, q, os, h2⟩ => by
  subst h2
  exact ⟨by rw [h1, Lib.itoa_nonneg]; rfl, Lib.below_grow _ _ (Zr _) _ _⟩
theorem preP_join {L : List Str} {q : Nat} {x : Str} (h : L[q]? = some x) : joinP 43 (L.take (q + 1)) = preP 43 L q ++ x := joinP_step h
theorem sz_baOf (l : Str) : (baOf l).size = l.length := by show l.toArray.size = _; simp
theorem pair_cat (P D1 D2 V : Str) : baOf P ++ (baOf D1 ++ (⟨#[61]⟩ : ByteArray) ++ baOf D2 ++ (⟨#[58]⟩ : ByteArray) ++ baOf V) = baOf (P ++ (D1 ++ 61 :: (D2 ++ 58 :: V))) := by
 have e1 : (⟨#[61]⟩ : ByteArray) = baOf [61] := rfl
 have e2 : (⟨#[58]⟩ : ByteArray) = baOf [58] := rfl
 rw [e1, e2, bapp2, bapp2, bapp2, bapp2, bapp2]
 simp
theorem key_rows {S : PSchema} {l : PName} {n : Nat} (hn : n = l.length) (hq : ∀ q, q < l.length → (pairsK (rdK S) S [] (l.getD q [])).1 = 0) :
  Lib.join (((List.range n).map (rowF S l n n)).map fun x => x.data.toList) [] = (stepsK (rdK S) S l).2.reverse.flatten ∧ (stepsK (rdK S) S l).1 = 0 := by
 rw [stepsK_all l hq, joinE]
 refine ⟨?_, rfl⟩
 congr 1
 apply List.ext_getElem
 ·simp [hn]
 ·intro j h1 h2
  simp only [List.length_map, List.length_range] at h1
  rw [List.getElem_reverse]
  simp only [List.getElem_map, List.getElem_range, List.length_map]
  unfold rowF
  rw [if_pos (by omega)]
  unfold stpA
  have hg : l.getD (n - 1 - j) [] = l[l.length - 1 - j]'(by omega) := by
   rw [List.getD_eq_getElem?_getD, List.getElem?_eq_getElem (by omega)]
   simp [hn]
  rw [hg]
  show toL (baOf _) = _
  simp [toL, baOf]
theorem flat_le {c : Nat} : ∀ l : List Str, (∀ x ∈ l, x.length ≤ c) → l.flatten.length ≤ l.length * c
 | [], _ => by simp
 | x :: l, h => by
  have h1 := flat_le l fun y hy => h y (by simp [hy])
  have h2 := h x (by simp)
  simp only [List.flatten_cons, List.length_append, List.length_cons, Nat.add_mul]
  omega
theorem rowF_len {S : PSchema} (hS : OkS S) {l : PName} (h8 : ∀ r ∈ l, r.length ≤ 8) (hz : ∀ r ∈ l, ∀ a ∈ r, a.2.size ≤ 65536) (n i j : Nat) : (rowF S l n i j).size ≤ 9000000001 := by
 unfold rowF
 split
 ·unfold stpA
  rw [sz_baOf]
  by_cases hq : n - 1 - j < l.length
  ·have hg : l.getD (n - 1 - j) [] ∈ l := by rw [List.getD_eq_getElem?_getD, List.getElem?_eq_getElem hq]; exact List.getElem_mem hq
   have hk := kw_bound hS (h8 _ hg) (hz _ hg)
   have := (stepK_len (fun p hp => by have := pairsK_place hS.types (rdK S) _ [] (fun p hp => by cases hp) p hp; omega) (by omega : kw (pairsK (rdK S) S [] (l.getD (n - 1 - j) [])).2 < 1000000000000000000)).1
   omega
  ·rw [List.getD_eq_getElem?_getD, List.getElem?_eq_none (by omega)]
   show (stepK (pairsK (rdK S) S [] []).2).length ≤ _
   simp [pairsK, stepK, sortP, joinP]
 ·show (0 : Nat) ≤ _
  omega
end Go.Proofs.YtlmfbjhokkpjhaaGreatDoor
