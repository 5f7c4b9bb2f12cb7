/- Part 18 of the walks and plain laws, joined: SchNew, SchTC, SchP3, Word2, Oid2. -/
import Derived.Test.YtifgmnafjihlkaaGreatDoorMW16
import Derived.Test.YtifgmnafjihlkaaGreatDoorMW17
import Derived.Test.YtifgmnafjihlkaaGreatDoorMW08
import Derived.Test.YtifgmnafjihlkaaGreatDoorMW07
import Derived.Test.YtifgmnafjihlkaaGreatDoorMW06
import Derived.Test.YtifgmnafjihlkaaGreatDoorShelf
import Derived.Shelf.Strings.SlTrimAscii
/- How a schema that New made lies in memory: the full types, what lies below. -/
namespace Go.Proofs.YtifgmnafjihlkaaGreatDoor
open Go Go.RowKit Go.Maps

/-- rows of numbers, one for each place: in blocks of their own, behind the block that holds their heads -/
structure Bel (w : World) (bb n : Nat) (L : Nat → List Nat) (f : Nat → Option Nat × Nat) : Prop where
  lt : bb < w.heap.size
  cell : ∀ p, p < n → w.cell? ⟨bb, p, none⟩ = some (sv (f p).1 (L p).length (f p).2)
  own : ∀ p, p < n → Own w 3 1 (f p).1 (L p).length (f p).2 ((L p).map intV)
  up : ∀ p, p < n → ∀ g, (f p).1 = some g → bb < g
  ne : ∀ p q, p < n → q < n → p ≠ q → ∀ g, (f p).1 = some g → (f q).1 ≠ some g
  fr : ∀ j, w.frozen? ⟨bb, j, none⟩ = false
theorem Bel.keep {w w' : World} {bb n : Nat} {L : Nat → List Nat} {f : Nat → Option Nat × Nat} (h : Bel w bb n L f) (k : Below w.heap.size w w') : Bel w' bb n L f where
  lt := Nat.lt_of_lt_of_le h.lt k.size
  cell := fun p hp => by rw [k.cell (p := ⟨bb, p, none⟩) h.lt]; exact h.cell p hp
  own := fun p hp => (h.own p hp).keep fun g hg => k.block g (by have := h.own p hp; rw [hg] at this; exact this.row.lt)
  up := h.up
  ne := h.ne
  fr := fun j => by rw [k.frozen (p := ⟨bb, j, none⟩) h.lt]; exact h.fr j
/-- another block than these turns -/
theorem Bel.other {w w' : World} {bb n : Nat} {L : Nat → List Nat} {f : Nat → Option Nat × Nat} (h : Bel w bb n L f) (hs : w.heap.size ≤ w'.heap.size) (k : ∀ b, bb ≤ b → b < w.heap.size → w'.heap[b]? = w.heap[b]?) : Bel w' bb n L f where
  lt := Nat.lt_of_lt_of_le h.lt hs
  cell := fun p hp => by rw [World.cell?_of_block (a := ⟨bb, p, none⟩) (k bb (Nat.le_refl _) h.lt)]; exact h.cell p hp
  own := fun p hp => (h.own p hp).keep fun g hg => k g (Nat.le_of_lt (h.up p hp g hg)) (by have := h.own p hp; rw [hg] at this; exact this.row.lt)
  up := h.up
  ne := h.ne
  fr := fun j => by rw [World.frozen?_of_block (a := ⟨bb, j, none⟩) (k bb (Nat.le_refl _) h.lt)]; exact h.fr j
theorem Bel.ptr {w : World} {bb n : Nat} {L : Nat → List Nat} {f : Nat → Option Nat × Nat} (h : Bel w bb n L f) {p : Nat} (hp : p < n) {g : Nat} (hg : (f p).1 = some g) : g < w.heap.size := by
  have := h.own p hp; rw [hg] at this; exact this.row.lt
/-- one more number in a row, and its head's cell written -/
theorem Bel.app {w w' : World} {bb n : Nat} {L : Nat → List Nat} {f : Nat → Option Nat × Nat} (h : Bel w bb n L f) {p : Nat} (hp : p < n) {g cap i m : Nat} (hm : m = (L p).length + 1)
    (ho : Own w' 3 1 (some g) m cap ((L p).map intV ++ [intV i])) (hg : w.grownBy w' (f p).1) (hat : (f p).1 = some g ∨ g = w.heap.size) :
    Bel (w'.setCell ⟨bb, p, none⟩ (.slice (some ⟨g, 0, none⟩) m cap)) bb n (fun q => if q = p then L p ++ [i] else L q) (fun q => if q = p then (some g, cap) else f q) := by
  subst hm
  have hbw : bb < w'.heap.size := Nat.lt_of_lt_of_le h.lt hg.size
  have hbp : ∀ g', (f p).1 = some g' → bb ≠ g' := fun g' e => by have := h.up p hp g' e; omega
  have hbb : w'.heap[bb]? = w.heap[bb]? := hg.block bb h.lt (fun e => hbp bb e.symm rfl)
  have hgb : bb < g := by
    rcases hat with e | e
    · exact h.up p hp g e
    · rw [e]; exact h.lt
  have hold : ∀ q, w'.cell? ⟨bb, q, none⟩ = w.cell? ⟨bb, q, none⟩ := fun q => World.cell?_of_block (a := ⟨bb, q, none⟩) hbb
  have hoth : ∀ q, q < n → q ≠ p → ∀ g', (f q).1 = some g' → g' ≠ g ∧ w'.heap[g']? = w.heap[g']? := fun q hq hqp g' e => by
    have hlt := h.ptr hq e
    constructor
    · rintro rfl
      rcases hat with e2 | e2
      · exact h.ne p q hp hq (Ne.symm hqp) g' e2 e
      · omega
    · exact hg.block g' hlt (fun e2 => h.ne p q hp hq (Ne.symm hqp) g' e2.symm e)
  refine ⟨by simpa [World.setCell] using hbw, fun q hq => ?_, fun q hq => ?_, fun q hq g' e => ?_, fun q r hq hr hqr g' e => ?_, fun j => ?_⟩
  · by_cases e : q = p
    · subst e
      simp only [if_true, List.length_append, List.length_cons, List.length_nil]
      rw [World.cell?_setCell_same _ _ _ ((hold q).trans (h.cell q hq))]
      rfl
    · simp only [if_neg e]
      rw [World.cell?_setCell_other _ _ _ _ (by intro e2; injection e2 with _ e3 _; exact e e3.symm), hold]
      exact h.cell q hq
  · by_cases e : q = p
    · subst e
      simp only [if_true, List.length_append, List.length_cons, List.length_nil, List.map_append, List.map_cons, List.map_nil]
      exact ho.keep fun g' hg' => by cases hg'; exact Below.heap_setCell w' ⟨bb, q, none⟩ _ g (by show g ≠ bb; omega)
    · simp only [if_neg e]
      refine (h.own q hq).keep fun g' hg' => ?_
      have h1 := hoth q hq e g' hg'
      rw [Below.heap_setCell w' ⟨bb, p, none⟩ _ g' (by have := h.up q hq g' hg'; show g' ≠ bb; omega)]
      exact h1.2
  · by_cases e2 : q = p
    · simp only [if_pos e2] at e
      cases e; exact hgb
    · simp only [if_neg e2] at e
      exact h.up q hq g' e
  · by_cases e2 : q = p
    · simp only [if_pos e2] at e
      cases e
      rw [if_neg (by rintro rfl; exact hqr e2)]
      intro e3
      exact (hoth r hr (by rintro rfl; exact hqr e2) g e3).1 rfl
    · simp only [if_neg e2] at e
      by_cases e3 : r = p
      · simp only [if_pos e3]
        intro e4; injection e4 with e5
        exact (hoth q hq e2 g' e).1 e5.symm
      · simp only [if_neg e3]
        exact h.ne q r hq hr hqr g' e
  · rw [World.frozen?_setCell, World.frozen?_of_block (a := ⟨bb, j, none⟩) hbb]; exact h.fr j
/-- fresh: no row has anything -/
theorem Bel.made {w : World} {bb n : Nat} (hlt : bb < w.heap.size) (hc : ∀ p, p < n → w.cell? ⟨bb, p, none⟩ = some (.slice none 0 0)) (hf : ∀ j, w.frozen? ⟨bb, j, none⟩ = false) : Bel w bb n (fun _ => []) (fun _ => (none, 0)) where
  lt := hlt
  cell := fun p hp => hc p hp
  own := fun p _ => Own.nil w _ _
  up := fun p _ g e => by cases e
  ne := fun p q _ _ _ g e => by cases e
  fr := hf

/-- the rows of the full types -/
def fullCells (S : PSchema) (nv : Nat → Value) (i : Nat) : List Value := (List.range i).flatMap fun t => (tyAgg (fullT S t) (nv t)).toList
theorem fullCells_succ (S : PSchema) (nv : Nat → Value) (i : Nat) (v : Value) : fullCells S (fun t => if t = i then v else nv t) (i + 1) = fullCells S nv i ++ (tyAgg (fullT S i) v).toList := by
  unfold fullCells
  rw [List.range_succ, List.flatMap_append]
  congr 1
  · simp only [List.flatMap]
    congr 1
    apply List.map_congr_left
    intro t ht
    have := List.mem_range.1 ht
    rw [if_neg (by omega)]
  · simp
theorem tyAgg_one (x : PType) {nv : Value} (h : nv.oneCell' = true) : ∀ u ∈ (tyAgg x nv).toList, u.oneCell' = true := by
  intro u hu
  simp only [tyAgg, List.mem_cons, List.not_mem_nil, or_false] at hu
  rcases hu with rfl | rfl | rfl | rfl | rfl | rfl | rfl | rfl | rfl <;> first | exact h | rfl
theorem fullCells_len (S : PSchema) (nv : Nat → Value) (i : Nat) : (fullCells S nv i).length = i * 9 := by
  unfold fullCells
  induction i with
  | zero => rfl
  | succ i ih => rw [List.range_succ, List.flatMap_append, List.length_append, ih]; simp [tyAgg]; omega
theorem fullCells_get (S : PSchema) (nv : Nat → Value) {i t j : Nat} (ht : t < i) (hj : j < 9) : (fullCells S nv i)[t * 9 + j]? = (tyAgg (fullT S t) (nv t))[j]? := by
  induction i with
  | zero => omega
  | succ i ih =>
    unfold fullCells
    rw [List.range_succ, List.flatMap_append]
    by_cases e : t = i
    · subst e
      rw [List.getElem?_append_right (by have := fullCells_len S nv t; unfold fullCells at this; omega)]
      have := fullCells_len S nv t
      unfold fullCells at this
      rw [this, show t * 9 + j - t * 9 = j by omega]
      simp
    · rw [List.getElem?_append_left (by have := fullCells_len S nv i; unfold fullCells at this; rw [this]; omega)]
      exact ih (by omega)

/-- what the names of the full types are -/
def NvOk (B : Nat) (w : World) (S : PSchema) (nv : Nat → Value) (i : Nat) : Prop := ∀ t, t < i → ∃ a n c, nv t = .slice a n c ∧ Texts B w a n c (fullT S t).names
theorem NvOk.keep {B : Nat} {w w' : World} {S : PSchema} {nv : Nat → Value} {i : Nat} (h : NvOk B w S nv i) (k : Below B w w') : NvOk B w' S nv i := fun t ht => by
  obtain ⟨a, n, c, h1, h2⟩ := h t ht
  exact ⟨a, n, c, h1, h2.keep k (Nat.le_refl _)⟩
theorem NvOk.succ {B : Nat} {w : World} {S : PSchema} {nv : Nat → Value} {i : Nat} (h : NvOk B w S nv i) {a : Option Addr} {n c : Nat} (ht : Texts B w a n c (fullT S i).names) : NvOk B w S (fun t => if t = i then .slice a n c else nv t) (i + 1) := fun t hlt => by
  by_cases e : t = i
  · subst e; exact ⟨a, n, c, if_pos rfl, ht⟩
  · obtain ⟨a', n', c', h1, h2⟩ := h t (by omega)
    exact ⟨a', n', c', by simp only [if_neg e]; exact h1, h2⟩

/-- a schema that New made -/
structure Sch (w : World) (g : Nat) (S : PSchema) : Prop where
  base : Mk w g S
  full : ∃ (go : Option Nat) (cap : Nat) (nv : Nat → Value), w.cell? ⟨g, 4, none⟩ = some (sv go S.types.length cap) ∧ Own w 48 9 go S.types.length cap (fullCells S nv S.types.length) ∧ NvOk g w S nv S.types.length
  below : ∃ bb f, w.cell? ⟨g, 5, none⟩ = some (.slice (some ⟨bb, 0, none⟩) S.types.length S.types.length) ∧ Bel w bb S.types.length (belowOf S) f
  above : ∃ lo hi go cap vs, hi ≤ w.heap.size ∧ Ups w g lo hi S S.classes.length go cap vs
  small : S.types.length ≤ 1024 ∧ S.classes.length ≤ 1024
  ok : newE S = (0, 0)
theorem Sch.keep {w w' : World} {g : Nat} {S : PSchema} (h : Sch w g S) (k : Below w.heap.size w w') : Sch w' g S where
  base := h.base.keep k
  full := by
    obtain ⟨go, cap, nv, h1, h2, h3⟩ := h.full
    exact ⟨go, cap, nv, by rw [k.cell (World.block_lt_of_cell? w _ h1)]; exact h1, h2.keep fun b hb => k.block b (by subst hb; exact h2.row.lt), h3.keep (k.mono (Nat.le_of_lt h.base.lt))⟩
  below := by
    obtain ⟨bb, f, h1, h2⟩ := h.below
    exact ⟨bb, f, by rw [k.cell (World.block_lt_of_cell? w _ h1)]; exact h1, h2.keep k⟩
  above := by
    obtain ⟨lo, hi, go, cap, vs, h1, h2⟩ := h.above
    exact ⟨lo, hi, go, cap, vs, Nat.le_trans h1 k.size, h2.keep h1 k⟩
  small := h.small
  ok := h.ok
end Go.Proofs.YtifgmnafjihlkaaGreatDoor
/- (*schema.Schema).Type, Class: places. -/
namespace Go.Proofs.YtifgmnafjihlkaaGreatDoor
open Go Go.RowKit Go.Maps

set_option maxRecDepth 20000 in
theorem type_any (S : PSchema) (g : Nat) (s : ByteArray) (w : World) (h : Sch w g S) (hs : s.size ≤ 140737488355328) :
    Calls Tryz.prog 51 #[.pointer (some ⟨g, 0, none⟩), .string s] w fun e w' => e = .returned (.int .i64 (placeI (typeAt S (toL s)))) ∧ Below w.heap.size w w' := by
  obtain ⟨m, N, e2, _, hm⟩ := h.base.tm
  have hf := find_any m N (placeOf (tK S)) s w hm hs
  change Calls Tryz.prog 108 _ _ fun e w' => e = .returned (.int .i64 (placeI (typeAt S (toL s)))) ∧ _ at hf
  generalize placeI (typeAt S (toL s)) = p at hf ⊢
  have HF := Lib.hid hf; clear hf hm h hs
  go_enter Tryz.func51, Tryz.ntmps51
  go_wp2_with (first | (go_at_call 108; refine (HF.out).mono ?_; rintro e w1 ⟨rfl, hb1⟩; have HB1 := Lib.hid hb1; clear hb1) | fail)
  go_ret
  exact ⟨rfl, HB1.out⟩
set_option maxRecDepth 20000 in
theorem class_any (S : PSchema) (g : Nat) (s : ByteArray) (w : World) (h : Sch w g S) (hs : s.size ≤ 140737488355328) :
    Calls Tryz.prog 61 #[.pointer (some ⟨g, 0, none⟩), .string s] w fun e w' => e = .returned (.int .i64 (placeI (classAt S (toL s)))) ∧ Below w.heap.size w w' := by
  obtain ⟨m, N, e2, _, hm⟩ := h.base.cm
  have hf := find_any m N (placeOf (cK S)) s w hm hs
  change Calls Tryz.prog 108 _ _ fun e w' => e = .returned (.int .i64 (placeI (classAt S (toL s)))) ∧ _ at hf
  generalize placeI (classAt S (toL s)) = p at hf ⊢
  have HF := Lib.hid hf; clear hf hm h hs
  go_enter Tryz.func61, Tryz.ntmps61
  go_wp2_with (first | (go_at_call 108; refine (HF.out).mono ?_; rintro e w1 ⟨rfl, hb1⟩; have HB1 := Lib.hid hb1; clear hb1) | fail)
  go_ret
  exact ⟨rfl, HB1.out⟩
end Go.Proofs.YtifgmnafjihlkaaGreatDoor
/- What it means that a schema may be. No program. -/
namespace Go.Proofs.YtifgmnafjihlkaaGreatDoor
open Go

theorem firstE_none (f : Nat → Int) : ∀ (n i : Nat), firstE f i n = none → ∀ j, i ≤ j → j < i + n → f j = 0
  | 0, i, _, j, h1, h2 => by omega
  | n + 1, i, h, j, h1, h2 => by
    have e : firstE f i (n + 1) = if f i ≠ 0 then some (f i, i) else firstE f (i + 1) n := rfl
    rw [e] at h
    by_cases h0 : f i ≠ 0
    · rw [if_pos h0] at h; cases h
    · rw [if_neg h0] at h
      by_cases hj : j = i
      · subst hj; simpa using h0
      · exact firstE_none f n (i + 1) h j (by omega) (by omega)
theorem firstE_some (f : Nat → Int) : ∀ (n i : Nat) (p : Int × Nat), firstE f i n = some p → p.1 ≠ 0 ∧ p.1 = f p.2 ∧ i ≤ p.2 ∧ p.2 < i + n
  | 0, i, p, h => by cases h
  | n + 1, i, p, h => by
    have e : firstE f i (n + 1) = if f i ≠ 0 then some (f i, i) else firstE f (i + 1) n := rfl
    rw [e] at h
    by_cases h0 : f i ≠ 0
    · rw [if_pos h0] at h; cases h; exact ⟨h0, rfl, by simp, by simp⟩
    · rw [if_neg h0] at h
      obtain ⟨a, b, c, d⟩ := firstE_some f n (i + 1) p h
      exact ⟨a, b, by omega, by omega⟩

structure OkS (S : PSchema) : Prop where
  types : S.types.length ≤ 1024
  classes : S.classes.length ≤ 1024
  ty : ∀ t, t < S.types.length → typeE S t = 0
  cl : ∀ c, c < S.classes.length → classE S c = 0
  obj : objE S = 0
theorem newE_ok {S : PSchema} (h : (newE S).1 = 0) : OkS S := by
  unfold newE at h
  by_cases hb : 1024 < S.types.length ∨ 1024 < S.classes.length
  · rw [if_pos hb] at h; cases h
  · rw [if_neg hb] at h
    cases ht : firstE (typeE S) 0 S.types.length with
    | some p => rw [ht] at h; exact absurd h (firstE_some _ _ _ _ ht).1
    | none =>
      rw [ht] at h
      simp only at h
      cases hc : firstE (classE S) 0 S.classes.length with
      | some p => rw [hc] at h; exact absurd h (firstE_some _ _ _ _ hc).1
      | none =>
        rw [hc] at h
        exact ⟨by omega, by omega, fun t h1 => firstE_none _ _ _ ht t (Nat.zero_le _) (by omega), fun c h1 => firstE_none _ _ _ hc c (Nat.zero_le _) (by omega), h⟩

theorem inheritT_same (S : PSchema) (t : Nat) (up : List Nat) : (inheritT S t up).names = (tyAt S t).names ∧ (inheritT S t up).oid = (tyAt S t).oid ∧ (inheritT S t up).sup = (tyAt S t).sup ∧ (inheritT S t up).syn = (tyAt S t).syn ∧ (inheritT S t up).single = (tyAt S t).single ∧ (inheritT S t up).index = (tyAt S t).index := by
  unfold inheritT
  generalize tyAt S t = x
  generalize up.drop 1 = l
  induction l generalizing x with
  | nil => exact ⟨rfl, rfl, rfl, rfl, rfl, rfl⟩
  | cons p l ih => rw [List.foldl_cons]; exact ih (mixT x (tyAt S p))
theorem typeE_named {S : PSchema} {t : Nat} (h : typeE S t = 0) : namedE (tyAt S t).oid (tyAt S t).names = 0 := by
  unfold typeE at h
  simp only at h
  by_cases hn : namedE (tyAt S t).oid (tyAt S t).names ≠ 0
  · rw [if_pos hn] at h; exact absurd h hn
  · simpa using hn
theorem namedE_zero {oid : ByteArray} {names : List ByteArray} (h : namedE oid names = 0) : oidB (toL oid) = true ∧ oid.size ≤ 65536 ∧ names ≠ [] ∧ (∀ n ∈ names, wordB (toL n) = true ∧ n.size ≤ 65536) ∧ names.length ≤ 16 := by
  unfold namedE at h
  by_cases h1 : (!oidB (toL oid) || decide (65536 < oid.size) || names.isEmpty) = true
  · rw [if_pos h1] at h; cases h
  · rw [if_neg h1] at h
    by_cases h2 : (names.all fun n => wordB (toL n) && decide (n.size ≤ 65536)) = true
    · rw [if_pos h2] at h
      by_cases h3 : 16 < names.length
      · rw [if_pos h3] at h; cases h
      · simp at h1
        refine ⟨h1.1.1, h1.1.2, ?_, ?_, by omega⟩
        · have := h1.2; cases names <;> simp_all
        · intro n hn
          have := List.all_eq_true.1 h2 n hn
          simpa using this
    · rw [if_neg h2] at h; cases h
theorem OkS.names {S : PSchema} (h : OkS S) {t : Nat} (ht : t < S.types.length) : (fullT S t).names ≠ [] := by
  unfold fullT; rw [(inheritT_same S t _).1]; exact (namedE_zero (typeE_named (h.ty t ht))).2.2.1
theorem typeE_syn {S : PSchema} {t : Nat} (h : typeE S t = 0) : 0 ≤ (tyAt S t).syn ∧ (tyAt S t).syn ≤ 8 := by
  unfold typeE at h
  simp only at h
  split at h
  · contradiction
  · split at h
    · cases h
    · split at h
      · cases h
      · split at h
        · cases h
        · split at h
          · cases h
          · split at h
            · cases h
            · rename_i hn; omega
theorem OkS.syn {S : PSchema} (h : OkS S) {t : Nat} (ht : t < S.types.length) : 0 ≤ (fullT S t).syn ∧ (fullT S t).syn ≤ 8 := by
  unfold fullT; rw [(inheritT_same S t _).2.2.2.1]; exact typeE_syn (h.ty t ht)
theorem mixT_eq (x y : PType) : (mixT x y).eq = if x.eq = 0 then y.eq else x.eq := rfl
/-- the rules of a full type are small numbers, where those of all types are -/
theorem inheritT_range (S : PSchema) (hS : ∀ t, (-128 ≤ (tyAt S t).eq ∧ (tyAt S t).eq ≤ 127) ∧ (-128 ≤ (tyAt S t).ord ∧ (tyAt S t).ord ≤ 127) ∧ (-128 ≤ (tyAt S t).part ∧ (tyAt S t).part ≤ 127)) (t : Nat) (up : List Nat) :
    (-128 ≤ (inheritT S t up).eq ∧ (inheritT S t up).eq ≤ 127) ∧ (-128 ≤ (inheritT S t up).ord ∧ (inheritT S t up).ord ≤ 127) ∧ (-128 ≤ (inheritT S t up).part ∧ (inheritT S t up).part ≤ 127) := by
  unfold inheritT
  have h0 := hS t
  generalize tyAt S t = x at h0
  generalize up.drop 1 = l
  induction l generalizing x with
  | nil => exact h0
  | cons p l ih =>
    rw [List.foldl_cons]
    apply ih
    have hp := hS p
    unfold mixT
    refine ⟨?_, ?_, ?_⟩ <;> (dsimp only; split <;> omega)
end Go.Proofs.YtifgmnafjihlkaaGreatDoor
/- schema.isWord. -/
namespace Go.Proofs.YtifgmnafjihlkaaGreatDoor
open Go Go.RowKit

theorem isWord_any (s : ByteArray) (w : World) (hs : s.size ≤ 140737488355328) : Calls Tryz.prog 145 #[.string s] w fun e w' => e = .returned (.bool (wordB (toL s))) ∧ w = w' := by
  by_cases hv : toL s = []
  · obtain rfl := empty_of s hv
    clear hv
    go_enter Tryz.func145, Tryz.ntmps145
    go_wp2_with fail
    go_ret
    exact ⟨rfl, rfl⟩
  · obtain ⟨b, l, hl⟩ : ∃ b l, toL s = b :: l := by
      cases hl : toL s with
      | nil => exact absurd hl hv
      | cons b l => exact ⟨b, l, rfl⟩
    obtain rfl : s = ⟨(b :: l).toArray⟩ := by rw [← bmk s]; unfold toL at hl; rw [hl]
    clear hv hl
    have hb : ∀ h, (ByteArray.mk (b :: l).toArray)[0]'h = b := fun _ => rfl
    have hsz : 0 < (ByteArray.mk (b :: l).toArray).size := by show 0 < l.length + 1; omega
    have cl := letter_any b
    have ct := fun w => tail_any (ByteArray.mk (b :: l).toArray) w hs
    have hw : wordB (toL ⟨(b :: l).toArray⟩) = (isLet b && tailB (toL ⟨(b :: l).toArray⟩)) := rfl
    generalize tailB (toL ⟨(b :: l).toArray⟩) = x at hw ct
    have HW := Lib.hid hw; clear hw
    cases hL : isLet b with
    | true =>
      rw [hL] at cl HW
      have CL := Lib.hid cl; have CT := Lib.hid ct; clear cl ct hL
      go_enter Tryz.func145, Tryz.ntmps145
      go_wp2_with (first | (go_at_call 193; with_reducible refine (CL.out _).mono ?_; rintro e w1 ⟨rfl, rfl⟩) | (go_at_call 147; with_reducible refine (CT.out _).mono ?_; rintro e w1 ⟨rfl, rfl⟩) | fail)
      go_ret
      exact ⟨by rw [HW.out]; rfl, rfl⟩
    | false =>
      rw [hL] at cl HW
      have CL := Lib.hid cl; clear cl ct hL
      go_enter Tryz.func145, Tryz.ntmps145
      go_wp2_with (first | (go_at_call 193; with_reducible refine (CL.out _).mono ?_; rintro e w1 ⟨rfl, rfl⟩) | fail)
      go_ret
      exact ⟨by rw [HW.out]; rfl, rfl⟩
end Go.Proofs.YtifgmnafjihlkaaGreatDoor
/- schema.isOid, schema.named. -/
namespace Go.Proofs.YtifgmnafjihlkaaGreatDoor
open Go Go.RowKit

theorem digs_fin : ∀ n : Fin 256, ([48, 49, 50, 51, 52, 53, 54, 55, 56, 57] : List UInt8).contains (UInt8.ofNat n.val) = decide (48 ≤ n.val ∧ n.val ≤ 57) := by decide +kernel
theorem digs_eq (b : UInt8) : ([48, 49, 50, 51, 52, 53, 54, 55, 56, 57] : List UInt8).contains b = dig b := by
  have := digs_fin ⟨b.toNat, b.toNat_lt⟩
  simpa [dig] using this
theorem dropWhile_nil_iff {p : UInt8 → Bool} : ∀ {l : List UInt8}, l.dropWhile p = [] ↔ ∀ b ∈ l, p b = true
  | [] => by simp
  | b :: l => by
    rw [List.dropWhile_cons]
    cases h : p b with
    | true => simp [h, dropWhile_nil_iff (l := l)]
    | false => simp [h]
theorem trimS_nil (l cs : List UInt8) : Lib.trimS l cs = [] ↔ l.all (cs.contains ·) = true := by
  unfold Lib.trimS Lib.trimLeftS Lib.trimRightS
  constructor
  · intro h
    have h1 : ∀ b ∈ (l.reverse.dropWhile (cs.contains ·)), cs.contains b = true := by
      intro b hb
      have := dropWhile_nil_iff.1 h b (by simpa using hb)
      simpa using this
    have h2 : l.reverse.dropWhile (cs.contains ·) = [] := by
      cases hd : l.reverse.dropWhile (cs.contains ·) with
      | nil => rfl
      | cons b t =>
        have h3 := h1 b (by rw [hd]; exact List.mem_cons_self ..)
        have h4 := List.head_dropWhile_not (cs.contains ·) (l := l.reverse) (by rw [hd]; simp)
        simp only [hd, List.head_cons] at h4
        rw [h3] at h4; cases h4
    rw [List.all_eq_true]
    intro b hb
    have := dropWhile_nil_iff.1 h2 b (by simpa using hb)
    simpa using this
  · intro h
    rw [List.all_eq_true] at h
    have h2 : l.reverse.dropWhile (cs.contains ·) = [] := dropWhile_nil_iff.2 fun b hb => h b (by simpa using hb)
    rw [h2]; rfl
theorem trim_digits (l : Str) : Lib.trimS l [48, 49, 50, 51, 52, 53, 54, 55, 56, 57] = [] ↔ l.all dig = true := by
  rw [trimS_nil]
  have : (fun b => ([48, 49, 50, 51, 52, 53, 54, 55, 56, 57] : List UInt8).contains b) = dig := funext digs_eq
  rw [this]
theorem trim_any (s : ByteArray) (w : World) (hs : s.size ≤ 4294967280) :
    Calls Tryz.prog 194 #[.string s, .string ⟨#[48, 49, 50, 51, 52, 53, 54, 55, 56, 57]⟩] w fun e w' => e = .returned (.string ⟨(Lib.trimS (toL s) [48, 49, 50, 51, 52, 53, 54, 55, 56, 57]).toArray⟩) ∧ Below w.heap.size w w' :=
  Any.strings_Trim_laid Tryz.lays160 (by kernel_rfl) s ⟨#[48, 49, 50, 51, 52, 53, 54, 55, 56, 57]⟩ w (by omega) (by decide) (ascii_of_all (by decide))

theorem rowcs (x : ByteArray) : (x = ⟨#[]⟩ ∧ rowOk (toL x) = false) ∨ ∃ b l, x = ⟨(b :: l).toArray⟩ ∧ rowOk (toL x) = ((b :: l).all dig && !(b == 48 && !l.isEmpty)) := by
  cases hl : toL x with
  | nil => exact .inl ⟨empty_of x hl, rfl⟩
  | cons b l => exact .inr ⟨b, l, by rw [← bmk x]; unfold toL at hl; rw [hl], rfl⟩

set_option maxRecDepth 20000 in
set_option maxHeartbeats 1000000 in
theorem isOid_any (v : ByteArray) (w : World) (E : EnvS w) (hs : v.size ≤ 4294967280) :
    Calls Tryz.prog 146 #[.string v] w fun e w' => e = .returned (.bool (oidB (toL v))) ∧ Below w.heap.size w w' := by
  obtain ⟨m, hm⟩ := E.max
  have HM := Lib.hid hm; clear hm E
  go_enter Tryz.func146, Tryz.ntmps146
  go_wp2_with fail
  go_at_call 144
  refine (Tryz.strings_Split _ _ m _ (by omega) HM.out (by decide)).mono ?_
  rintro e w1 ⟨rfl, hw1⟩
  have hlen := Lib.splitB_all ⟨#[46]⟩ (by decide) 0 _ v rfl
  have hcut := splitB_cut v 46 (Lib.countB v ⟨#[46]⟩) rfl
  have hcl := Lib.countB_le ⟨#[46]⟩ (by decide) _ v (Nat.le_refl _)
  have hsub : ∀ x, x ∈ Lib.splitB ⟨#[46]⟩ 0 (Lib.countB v ⟨#[46]⟩) v → x.size ≤ 4294967280 := fun x hx => by
    have h1 : x.data.toList ∈ cutAt 46 v.data.toList := by rw [← hcut]; exact List.mem_map_of_mem hx
    have h2 := cutAt_le 46 v.data.toList _ h1
    rw [Lib.size_eq]
    have h3 : v.data.toList.length ≤ 4294967280 := by rw [← Lib.size_eq]; exact hs
    omega
  generalize Lib.splitB ⟨#[46]⟩ 0 (Lib.countB v ⟨#[46]⟩) v = xs at hlen hcut hw1 hsub
  rw [← hlen]
  have hxl : xs.length ≤ 4294967281 := by omega
  clear hlen hcl
  have hcell : ∀ j x, xs[j]? = some x → w1.cell? ⟨w.heap.size, j, none⟩ = some (.string x) := by
    intro j x hj
    rw [hw1, cell_of_row _ _ j _ _ (0, 0) (heap_alloc_new _ _)]
    simp [hj]
  have B1 : Below w.heap.size w w1 := by rw [hw1]; exact (Below.refl _ w).alloc (Nat.le_refl _) _
  have hgl : w.heap.size < w1.heap.size := by rw [hw1]; simp
  have hq : cutAt 46 (toL v) = xs.map (·.data.toList) := hcut.symm
  generalize hgg : w.heap.size = g at hcell hgl B1 ⊢
  have HX := Lib.hid (And.intro hcell (And.intro hq (And.intro hsub hgg))); have HB1 := Lib.hid B1; have HGL := Lib.hid hgl; clear hcell hcut hsub B1 hw1 HM m hq hgg hgl
  go_wp2_with fail
  go_loopw [10] (fun iv wr => ∃ i : Nat, iv = .int .i64 i ∧ i ≤ xs.length ∧ Below w1.heap.size w1 wr ∧ (cutAt 46 (toL v)).all rowOk = ((xs.map (·.data.toList)).drop i).all rowOk) (fun iv _ => xs.length - (intOf iv).toNat)
  case atStart => exact ⟨0, rfl, Nat.zero_le _, Below.refl _ _, by rw [HX.out.2.1]; rfl⟩
  case round =>
    obtain ⟨i, rfl, hi, hbl, hall⟩ := hrel
    have HA := Lib.hid hall; clear hall
    by_cases hlt : i < xs.length
    · have hc := HX.out.1 i _ (List.getElem?_eq_getElem hlt)
      rw [← hbl.cell (p := ⟨g, i, none⟩) HGL.out] at hc
      have HBL := Lib.hid hbl; clear hbl
      have hs2 := HX.out.2.2.1 _ (List.getElem_mem hlt)
      have ha : (cutAt 46 (toL v)).all rowOk = (rowOk (toL xs[i]) && ((xs.map (·.data.toList)).drop (i + 1)).all rowOk) := by
        rw [HA.out, List.drop_eq_getElem_cons (by simpa using hlt), List.all_cons]; simp
      have HA2 := Lib.hid ha; clear ha HA
      generalize xs[i] = x at hc hs2 HA2
      have fin : rowOk (toL x) = false → oidB (toL v) = false := fun h => by unfold oidB; rw [HA2.out, h]; rfl
      have HF := Lib.hid fin; clear fin
      have HGW := Lib.hid (Nat.le_trans (Nat.le_of_lt HGL.out) HBL.out.size)
      have HBB := Lib.hid (HB1.out.trans (HBL.out.mono (Nat.le_of_lt HGL.out)))
      rcases rowcs x with ⟨rfl, hr⟩ | ⟨c, t, rfl, hr⟩
      · have HR := Lib.hid hr; clear hr
        go_wp2_with fail
        go_ret
        exact ⟨by rw [HF.out HR.out]; rfl, by rw [HX.out.2.2.2]; exact HBB.out⟩
      · have hb3 : ∀ h, (ByteArray.mk (c :: t).toArray)[0]'h = c := fun _ => rfl
        have hsz3 : 0 < (ByteArray.mk (c :: t).toArray).size := by show 0 < t.length + 1; omega
        have hne : ∀ c : UInt8, c ≠ 48 → ¬ (c.toNat : Int) = 48 := fun c h e => h (UInt8.toNat_inj.1 (by show c.toNat = 48; omega))
        have tr := fun w => trim_any (ByteArray.mk (c :: t).toArray) w hs2
        have td := trim_digits (toL (ByteArray.mk (c :: t).toArray))
        cases hD : (c :: t).all dig with
        | false =>
          rw [show (toL (ByteArray.mk (c :: t).toArray)).all dig = false from hD] at td
          have hz := nonempty_of ⟨(Lib.trimS (toL (ByteArray.mk (c :: t).toArray)) [48, 49, 50, 51, 52, 53, 54, 55, 56, 57]).toArray⟩ (fun e => by have := td.1 e; cases this)
          generalize (ByteArray.mk (Lib.trimS (toL (ByteArray.mk (c :: t).toArray)) [48, 49, 50, 51, 52, 53, 54, 55, 56, 57]).toArray) = y at tr hz
          obtain ⟨hz1, hz2, hz3⟩ := hz
          rw [hD, Bool.false_and] at hr
          have HR := Lib.hid hr; have HTR := Lib.hid tr; clear hr hD td tr
          by_cases h48 : c = 48
          · subst h48
            cases t with
            | nil =>
              clear hne
              go_wp2_with (first
                | (go_at_call 194; refine (HTR.out _).mono ?_; rintro e w3 ⟨rfl, hb3⟩; have HB3 := Lib.hid (HBB.out.trans (hb3.mono HGW.out)); clear hb3)
                | fail)
              go_ret
              exact ⟨by rw [HF.out HR.out]; rfl, by rw [HX.out.2.2.2]; exact HB3.out⟩
            | cons d t =>
              have hl2 : (1 : Int) < (t.length : Int) + 1 + 1 := by omega
              clear hne
              go_wp2_with fail
              go_ret
              exact ⟨by rw [HF.out HR.out]; rfl, by rw [HX.out.2.2.2]; exact HBB.out⟩
          · have hn := hne c h48
            clear hne h48
            go_wp2_with (first
              | (go_at_call 194; refine (HTR.out _).mono ?_; rintro e w3 ⟨rfl, hb3⟩; have HB3 := Lib.hid (HBB.out.trans (hb3.mono HGW.out)); clear hb3)
              | fail)
            go_ret
            exact ⟨by rw [HF.out HR.out]; rfl, by rw [HX.out.2.2.2]; exact HB3.out⟩
        | true =>
          rw [td.2 hD] at tr
          rw [hD, Bool.true_and] at hr
          have HTR := Lib.hid tr; clear hD td tr
          by_cases h48 : c = 48
          · subst h48
            cases t with
            | nil =>
              have HR := Lib.hid hr; clear hne hr
              go_wp2_with (first
                | (go_at_call 194; refine (HTR.out _).mono ?_; rintro e w3 ⟨rfl, hb3⟩; have HB3 := Lib.hid (bnext HBL.out hb3); clear hb3)
                | fail)
              exact ⟨⟨i + 1, by simp, by omega, HB3.out, by rw [HA2.out, HR.out]; simp⟩, by simp [intOf]; omega⟩
            | cons d t =>
              have hl2 : (1 : Int) < (t.length : Int) + 1 + 1 := by omega
              have HR := Lib.hid hr; clear hne hr
              go_wp2_with fail
              go_ret
              exact ⟨by rw [HF.out (by rw [HR.out]; rfl)]; rfl, by rw [HX.out.2.2.2]; exact HBB.out⟩
          · have hn := hne c h48
            rw [show (c == 48) = false by simpa using h48] at hr
            have HR := Lib.hid hr; clear hne h48 hr
            go_wp2_with (first
              | (go_at_call 194; refine (HTR.out _).mono ?_; rintro e w3 ⟨rfl, hb3⟩; have HB3 := Lib.hid (bnext HBL.out hb3); clear hb3)
              | fail)
            exact ⟨⟨i + 1, by simp, by omega, HB3.out, by rw [HA2.out, HR.out]; simp⟩, by simp [intOf]; omega⟩
    · have hfin : (cutAt 46 (toL v)).all rowOk = true := by rw [HA.out, List.drop_eq_nil_of_le (by simpa using hlt)]; rfl
      have hle : (cutAt 46 (toL v)).length = xs.length := by rw [HX.out.2.1]; simp
      have hb := HB1.out.trans (hbl.mono (Nat.le_of_lt HGL.out))
      have HF := Lib.hid (And.intro hfin (And.intro hle hb)); clear hfin hle hb hbl
      go_wp2_with fail
      go_ret
      refine ⟨?_, by rw [HX.out.2.2.2]; exact HF.out.2.2⟩
      rw [show oidB (toL v) = decide (1 < xs.length) by unfold oidB; rw [HF.out.1, HF.out.2.1, Bool.true_and]]
      rw [show decide (1 < xs.length) = decide ((1 : Int) < (xs.length : Int)) from decide_eq_decide.2 (by omega)]
      rfl
end Go.Proofs.YtifgmnafjihlkaaGreatDoor
