/- Part 14 of the walks and plain laws, joined: SchNew, RegionC. -/
import Derived.Test.YtlmfbjhokkpjhaaGreatDoorML00
import Derived.Test.YtlmfbjhokkpjhaaGreatDoorML12
import Derived.Test.YtlmfbjhokkpjhaaGreatDoorML13
import Derived.OrdersHeld
import Derived.Deep.RegionHeld
import Derived.Deep.Quiet
namespace Go.Proofs.YtlmfbjhokkpjhaaGreatDoor
open Go Go.RowKit Go.Maps
structure Bel (w : World) (bb n : Nat) (L : Nat → List Nat) (f : Nat → Option Nat × Nat) : Prop where
 lt : bb < w.heap.size
 cell : ∀ p, p < n → w.cell? ⟨bb, p, none⟩ = some (sv (f p).1 (L p).length (f p).2)
 own : ∀ p, p < n → Own w 3 1 (f p).1 (L p).length (f p).2 ((L p).map intV)
 up : ∀ p, p < n → ∀ g, (f p).1 = some g → bb < g
 ne : ∀ p q, p < n → q < n → p ≠ q → ∀ g, (f p).1 = some g → (f q).1 ≠ some g
 fr : ∀ j, w.frozen? ⟨bb, j, none⟩ = false
theorem Bel.keep {w w' : World} {bb n : Nat} {L : Nat → List Nat} {f : Nat → Option Nat × Nat} (h : Bel w bb n L f) (k : Below w.heap.size w w') : Bel w' bb n L f where
 lt := Nat.lt_of_lt_of_le h.lt k.size
 cell := fun p hp => by rw [k.cell (p := ⟨bb, p, none⟩) h.lt]; exact h.cell p hp
 own := fun p hp => (h.own p hp).keep fun g hg => k.block g (by have := h.own p hp; rw [hg] at this; exact this.row.lt)
 up := h.up
 ne := h.ne
 fr := fun j => by rw [k.frozen (p := ⟨bb, j, none⟩) h.lt]; exact h.fr j
theorem Bel.other {w w' : World} {bb n : Nat} {L : Nat → List Nat} {f : Nat → Option Nat × Nat} (h : Bel w bb n L f) (hs : w.heap.size ≤ w'.heap.size) (k : ∀ b, bb ≤ b → b < w.heap.size → w'.heap[b]? = w.heap[b]?) : Bel w' bb n L f where
 lt := Nat.lt_of_lt_of_le h.lt hs
 cell := fun p hp => by rw [World.cell?_of_block (a := ⟨bb, p, none⟩) (k bb (Zr _) h.lt)]; exact h.cell p hp
 own := fun p hp => (h.own p hp).keep fun g hg => k g (Nat.le_of_lt (h.up p hp g hg)) (by have := h.own p hp; rw [hg] at this; exact this.row.lt)
 up := h.up
 ne := h.ne
 fr := fun j => by rw [World.frozen?_of_block (a := ⟨bb, j, none⟩) (k bb (Zr _) h.lt)]; exact h.fr j
theorem Bel.ptr {w : World} {bb n : Nat} {L : Nat → List Nat} {f : Nat → Option Nat × Nat} (h : Bel w bb n L f) {p : Nat} (hp : p < n) {g : Nat} (hg : (f p).1 = some g) : g < w.heap.size := by
 have := h.own p hp; rw [hg] at this; exact this.row.lt
theorem Bel.app {w w' : World} {bb n : Nat} {L : Nat → List Nat} {f : Nat → Option Nat × Nat} (h : Bel w bb n L f) {p : Nat} (hp : p < n) {g cap i m : Nat} (hm : m = (L p).length + 1)
  (ho : Own w' 3 1 (some g) m cap ((L p).map intV ++ [intV i])) (hg : w.grownBy w' (f p).1) (hat : (f p).1 = some g ∨ g = w.heap.size) :
  Bel (w'.setCell ⟨bb, p, none⟩ (.slice (some ⟨g, 0, none⟩) m cap)) bb n (fun q => if q = p then L p ++ [i] else L q) (fun q => if q = p then (some g, cap) else f q) := by
 subst hm
 have hbw : bb < w'.heap.size := Nat.lt_of_lt_of_le h.lt hg.size
 have hbp : ∀ g', (f p).1 = some g' → bb ≠ g' := fun g' e => by have := h.up p hp g' e; omega
 have hbb : w'.heap[bb]? = w.heap[bb]? := hg.block bb h.lt (fun e => hbp bb e.symm rfl)
 have hgb : bb < g := by
  rcases hat with e | e
  ·exact h.up p hp g e
  ·rw [e]; exact h.lt
 have hold : ∀ q, w'.cell? ⟨bb, q, none⟩ = w.cell? ⟨bb, q, none⟩ := fun q => World.cell?_of_block (a := ⟨bb, q, none⟩) hbb
 have hoth : ∀ q, q < n → q ≠ p → ∀ g', (f q).1 = some g' → g' ≠ g ∧ w'.heap[g']? = w.heap[g']? := fun q hq hqp g' e => by
  have hlt := h.ptr hq e
  constructor
  ·rintro rfl
   rcases hat with e2 | e2
   ·exact h.ne p q hp hq (Ne.symm hqp) g' e2 e
   ·omega
  ·exact hg.block g' hlt (fun e2 => h.ne p q hp hq (Ne.symm hqp) g' e2.symm e)
 refine ⟨by simpa [World.setCell] using hbw, fun q hq => ?_, fun q hq => ?_, fun q hq g' e => ?_, fun q r hq hr hqr g' e => ?_, fun j => ?_⟩
 ·by_cases e : q = p
  ·subst e
   simp only [if_true, List.length_append, List.length_cons, List.length_nil]
   rw [World.cell?_setCell_same _ _ _ ((hold q).trans (h.cell q hq))]
   rfl
  ·simp only [if_neg e]
   rw [World.cell?_setCell_other _ _ _ _ (by intro e2; injection e2 with _ e3 _; exact e e3.symm), hold]
   exact h.cell q hq
 ·by_cases e : q = p
  ·subst e
   simp only [if_true, List.length_append, List.length_cons, List.length_nil, List.map_append, List.map_cons, List.map_nil]
   exact ho.keep fun g' hg' => by cases hg'; exact Below.heap_setCell w' ⟨bb, q, none⟩ _ g (by show g ≠ bb; omega)
  ·simp only [if_neg e]
   refine (h.own q hq).keep fun g' hg' => ?_
   have h1 := hoth q hq e g' hg'
   rw [Below.heap_setCell w' ⟨bb, p, none⟩ _ g' (by have := h.up q hq g' hg'; show g' ≠ bb; omega)]
   exact h1.2
 ·by_cases e2 : q = p
  ·simp only [if_pos e2] at e
   cases e; exact hgb
  ·simp only [if_neg e2] at e
   exact h.up q hq g' e
 ·by_cases e2 : q = p
  ·simp only [if_pos e2] at e
   cases e
   rw [if_neg (by rintro rfl; exact hqr e2)]
   intro e3
   exact (hoth r hr (by rintro rfl; exact hqr e2) g e3).1 rfl
  ·simp only [if_neg e2] at e
   by_cases e3 : r = p
   ·simp only [if_pos e3]
    intro e4; injection e4 with e5
    exact (hoth q hq e2 g' e).1 e5.symm
   ·simp only [if_neg e3]
    exact h.ne q r hq hr hqr g' e
 ·rw [World.frozen?_setCell, World.frozen?_of_block (a := ⟨bb, j, none⟩) hbb]; exact h.fr j
theorem Bel.made {w : World} {bb n : Nat} (hlt : bb < w.heap.size) (hc : ∀ p, p < n → w.cell? ⟨bb, p, none⟩ = some (.slice none 0 0)) (hf : ∀ j, w.frozen? ⟨bb, j, none⟩ = false) : Bel w bb n (fun _ => []) (fun _ => (none, 0)) where
 lt := hlt
 cell := fun p hp => hc p hp
 own := fun p _ => Own.nil w _ _
 up := fun p _ g e => by cases e
 ne := fun p q _ _ _ g e => by cases e
 fr := hf
def fullCells (S : PSchema) (nv : Nat → Value) (i : Nat) : List Value := (List.range i).flatMap fun t => (tyAgg (fullT S t) (nv t)).toList
theorem fullCells_succ (S : PSchema) (nv : Nat → Value) (i : Nat) (v : Value) : fullCells S (fun t => if t = i then v else nv t) (i + 1) = fullCells S nv i ++ (tyAgg (fullT S i) v).toList := by
 unfold fullCells
 rw [List.range_succ, List.flatMap_append]
 congr 1
 ·simp only [List.flatMap]
  congr 1
  apply List.map_congr_left
  intro t ht
  have := List.mem_range.1 ht
  rw [if_neg (by omega)]
 ·simp
theorem tyAgg_one (x : PType) {nv : Value} (h : nv.oneCell' = true) : ∀ u ∈ (tyAgg x nv).toList, u.oneCell' = true := by
 intro u hu
 simp only [tyAgg, List.mem_cons, List.not_mem_nil, or_false] at hu
 rcases hu with rfl | rfl | rfl | rfl | rfl | rfl | rfl | rfl | rfl <;> first | exact h | rfl
theorem fullCells_len (S : PSchema) (nv : Nat → Value) (i : Nat) : (fullCells S nv i).length = i * 9 := by
 unfold fullCells
 induction i with
 | zero => rfl
 | succ i ih => rw [List.range_succ, List.flatMap_append, List.length_append, ih]; simp [tyAgg]; omega
theorem fullCells_get (S : PSchema) (nv : Nat → Value) {i t j : Nat} (ht : t < i) (hj : j < 9) : (fullCells S nv i)[t * 9 + j]? = (tyAgg (fullT S t) (nv t))[j]? := by
 induction i with
 | zero => omega
 | succ i ih =>
  unfold fullCells
  rw [List.range_succ, List.flatMap_append]
  by_cases e : t = i
  ·subst e
   rw [List.getElem?_append_right (by have := fullCells_len S nv t; unfold fullCells at this; omega)]
   have := fullCells_len S nv t
   unfold fullCells at this
   rw [this, show t * 9 + j - t * 9 = j by omega]
   simp
  ·rw [List.getElem?_append_left (by have := fullCells_len S nv i; unfold fullCells at this; rw [this]; omega)]
   exact ih (by omega)
def NvOk (B : Nat) (w : World) (S : PSchema) (nv : Nat → Value) (i : Nat) : Prop := ∀ t, t < i → ∃ a n c, nv t = .slice a n c ∧ Texts B w a n c (fullT S t).names
theorem NvOk.keep {B : Nat} {w w' : World} {S : PSchema} {nv : Nat → Value} {i : Nat} (h : NvOk B w S nv i) (k : Below B w w') : NvOk B w' S nv i := fun t ht => by
 obtain ⟨a, n, c, h1, h2⟩ := h t ht
 exact ⟨a, n, c, h1, h2.keep k (Zr _)⟩
theorem NvOk.succ {B : Nat} {w : World} {S : PSchema} {nv : Nat → Value} {i : Nat} (h : NvOk B w S nv i) {a : Option Addr} {n c : Nat} (ht : Texts B w a n c (fullT S i).names) : NvOk B w S (fun t => if t = i then .slice a n c else nv t) (i + 1) := fun t hlt => by
 by_cases e : t = i
 ·subst e; exact ⟨a, n, c, if_pos rfl, ht⟩
 ·obtain ⟨a', n', c', h1, h2⟩ := h t (by omega)
  exact ⟨a', n', c', by simp only [if_neg e]; exact h1, h2⟩
structure Sch (w : World) (g : Nat) (S : PSchema) : Prop where
 base : Mk w g S
 full : ∃ (go : Option Nat) (cap : Nat) (nv : Nat → Value), w.cell? ⟨g, 4, none⟩ = some (sv go S.types.length cap) ∧ Own w 46 9 go S.types.length cap (fullCells S nv S.types.length) ∧ NvOk g w S nv S.types.length
 below : ∃ bb f, w.cell? ⟨g, 5, none⟩ = some (.slice (some ⟨bb, 0, none⟩) S.types.length S.types.length) ∧ Bel w bb S.types.length (belowOf S) f
 above : ∃ lo hi go cap vs, hi ≤ w.heap.size ∧ Ups w g lo hi S S.classes.length go cap vs
 small : S.types.length ≤ 1024 ∧ S.classes.length ≤ 1024
 ok : newE S = (0, 0)
theorem Sch.keep {w w' : World} {g : Nat} {S : PSchema} (h : Sch w g S) (k : Below w.heap.size w w') : Sch w' g S where
 base := h.base.keep k
 full := by
  obtain ⟨go, cap, nv, h1, h2, h3⟩ := h.full
  exact ⟨go, cap, nv, by rw [k.cell (Zb w _ h1)]; exact h1, h2.keep fun b hb => k.block b (by subst hb; exact h2.row.lt), h3.keep (k.mono (Nat.le_of_lt h.base.lt))⟩
 below := by
  obtain ⟨bb, f, h1, h2⟩ := h.below
  exact ⟨bb, f, by rw [k.cell (Zb w _ h1)]; exact h1, h2.keep k⟩
 above := by
  obtain ⟨lo, hi, go, cap, vs, h1, h2⟩ := h.above
  exact ⟨lo, hi, go, cap, vs, Nat.le_trans h1 k.size, h2.keep h1 k⟩
 small := h.small
 ok := h.ok
end Go.Proofs.YtlmfbjhokkpjhaaGreatDoor
namespace Go.Proofs.YtlmfbjhokkpjhaaGreatDoor
open Go
section
variable {P : Program} {ops : Array Oper} {Q : Exit → Act → World → Prop} {md : Region.Mode} {C : World → Prop} {s0 : Nat}
def wpC (P : Program) (md : Region.Mode) (ops : Array Oper) (Q : Exit → Act → World → Prop) (C : World → Prop) (s0 : Nat) : Nat → Array Bool → Act → World → Prop
 | 0, listed, a, w => Region.ready md ops listed = [] ∧ Q .normal a w
 | fuel + 1, listed, a, w => (Region.ready md ops listed = [] → Q .normal a w) ∧
  ∀ i ∈ Region.ready md ops listed, wpOp P ops Q i (fun a' w' => ((listed.setIfInBounds i true).getD s0 true = false → C w') ∧ wpC P md ops Q C s0 fuel (listed.setIfInBounds i true) a' w') a w
theorem wpAny_of_wpC : ∀ (fuel : Nat) (listed : Array Bool) (a : Act) (w : World), wpC P md ops Q C s0 fuel listed a w → wpAny P md ops Q fuel listed a w
 | 0, _, _, _, h => h
 | fuel + 1, _, _, _, h => ⟨h.1, fun i hi => wpOp_mono (fun a' w' h' => wpAny_of_wpC fuel _ a' w' h'.2) (h.2 i hi)⟩
theorem wp_region_C {id : Nat} {a : Act} {w : World} (hm : P.follows .mixedOrders = true) (hC : C w.drew)
  (h : C w.drew → wpC P .any ops Q C s0 ops.size (Array.replicate ops.size false) a w.drew) : (Code.region id ops true).wp P Q a w :=
 wp_region_any hm (wpAny_of_wpC _ _ _ _ (h hC))
theorem wpC_first {Y : World → Prop} {i : Nat} {oi : Oper} {v : Value} (hi : ops[i]? = some oi) (hsel : ∀ (j : Nat) (o : Oper) cs b, ops[j]? = some o → o.op ≠ .select cs b)
  (hQ : ∀ c a w, Q (.panic c) (a.put oi.dst v) w → Q (.panic c) a w) (his : i ≠ s0)
  (hY : (∀ w, Y w) ∨ ((∀ w, C w → Y w) ∧ ∃ os, ops[s0]? = some os ∧ ∃ e ∈ os.after, Region.binds md e = true ∧ e.on = i)) :
  ∀ (fuel : Nat) (listed : Array Bool) (a : Act) (w : World),
   (∀ j oj, ops[j]? = some oj → j ≠ i → listed.getD j true = false → (∀ e ∈ oj.after, Region.binds md e = true → e.on ≠ i) → oi.apart ops oj = true) →
   i ∈ Region.ready md ops listed → YieldsIf P ops Y oi v a → Y w → (listed.getD s0 true = false → C w) → ((∀ w, Y w) ∨ listed.getD s0 true = false) →
   wpC P md ops Q C s0 fuel (listed.setIfInBounds i true) (a.put oi.dst v) w → wpC P md ops Q C s0 (fuel + 1) listed a w := by
 intro fuel
 have same : ∀ listed : Array Bool, (listed.setIfInBounds i true).getD s0 true = listed.getD s0 true := fun l => getD_set_ne true his
 induction fuel with
 | zero =>
  intro listed a w _ hr hy hyw hC _ H
  refine ⟨fun h => (by rw [h] at hr; cases hr), fun j hj => ?_⟩
  by_cases e : j = i
  ·subst e; exact hy.wpOp hi hyw ⟨fun h => hC (by rw [same] at h; exact h), H⟩
  ·have := ready_mono hj e
   rw [H.1] at this; cases this
 | succ fuel ih =>
  intro listed a w hfree hr hy hyw hC hlate H
  refine ⟨fun h => (by rw [h] at hr; cases hr), fun j hj => ?_⟩
  by_cases e : j = i
  ·subst e; exact hy.wpOp hi hyw ⟨fun h => hC (by rw [same] at h; exact h), H⟩
  ·have h1 := H.2 j (ready_mono hj e)
   obtain ⟨hjun, oj, hoj, hall⟩ := mem_ready.1 hj
   have hiun := (mem_ready.1 hr).1
   have waits : ∀ e ∈ oj.after, Region.binds md e = true → e.on ≠ i := fun e he hb heq => by
    have h2 := hall e he hb
    rw [heq] at h2
    rcases Nat.lt_or_ge i listed.size with h' | h'
    ·simp [h'] at hiun h2; rw [hiun] at h2; cases h2
    ·simp [Array.getElem?_eq_none h'] at h2
   have hjs : (∀ w, Y w) ∨ j ≠ s0 := by
    rcases hY with h | ⟨_, os, hos, e', he', hb', hon⟩
    ·exact .inl h
    ·refine .inr fun e2 => ?_
     subst e2
     rw [hos] at hoj; cases hoj
     exact waits e' he' hb' hon
   have h2 := wpOp_putIf hoj (hfree j oj hoj e hjun waits) (fun cs b => hsel i oi cs b hi) (fun cs b => hsel j oj cs b hoj) hQ hy h1
   have hfree' : ∀ k ok, ops[k]? = some ok → k ≠ i → (listed.setIfInBounds j true).getD k true = false → (∀ e ∈ ok.after, Region.binds md e = true → e.on ≠ i) → oi.apart ops ok = true := fun k ok hk hki hun hno => by
    refine hfree k ok hk hki ?_ hno
    by_cases hjk : j = k
    ·subst hjk; exact hjun
    ·rw [getD_set_ne true hjk] at hun; exact hun
   refine wpOp_mono (fun a' w' h3 => ?_) h2
   obtain ⟨hy', hC', hW'⟩ := h3
   have sw : ((listed.setIfInBounds i true).setIfInBounds j true).getD s0 true = (listed.setIfInBounds j true).getD s0 true := by
    rw [Array.setIfInBounds_comm _ _ (Ne.symm e), same]
   have hCj : (listed.setIfInBounds j true).getD s0 true = false → C w' := fun h => hC' (by rw [sw]; exact h)
   have hlate' : (∀ w, Y w) ∨ (listed.setIfInBounds j true).getD s0 true = false := by
    rcases hjs with h | h
    ·exact .inl h
    ·rcases hlate with h0 | h0
     ·exact .inl h0
     ·exact .inr (by rw [getD_set_ne true h]; exact h0)
   have hyw' : Y w' := by
    rcases hlate' with h | h
    ·exact h _
    ·rcases hY with h0 | ⟨h0, _⟩
     ·exact h0 _
     ·exact h0 _ (hCj h)
   refine ⟨hCj, ih (listed.setIfInBounds j true) a' w' hfree' (ready_mono hr (Ne.symm e)) hy' hyw' hCj hlate' ?_⟩
   rw [Array.setIfInBounds_comm _ _ e]
   exact hW'
theorem wpC_pure {i : Nat} {oi : Oper} {v : Value} {fuel : Nat} {listed : Array Bool} {a : Act} {w : World} (hi : ops[i]? = some oi) (his : i ≠ s0)
  (hs : Region.noSelect ops = true) (hf : Region.free md ops listed i = true) (hr : (Region.ready md ops listed).contains i = true)
  (hQ : ∀ c a w, Q (.panic c) (a.put oi.dst v) w → Q (.panic c) a w) (hy : YieldsIf P ops (fun _ => True) oi v a) (hC : listed.getD s0 true = false → C w)
  (h : wpC P md ops Q C s0 fuel (listed.setIfInBounds i true) (a.put oi.dst v) w) : wpC P md ops Q C s0 (fuel + 1) listed a w :=
 wpC_first hi (Region.noSelect_spec hs) hQ his (.inl fun _ => trivial) fuel listed a w (Region.free_spec hi hf) (by simpa using hr) hy trivial hC (.inl fun _ => trivial) h
theorem wpC_load {i : Nat} {oi os : Oper} {v : Value} {fuel : Nat} {listed : Array Bool} {a : Act} {w : World} (hi : ops[i]? = some oi) (his : i ≠ s0) (hos : ops[s0]? = some os) (hwait : (os.after.any fun e => Region.binds md e && e.on == i) = true)
  (hs : Region.noSelect ops = true) (hf : Region.free md ops listed i = true) (hr : (Region.ready md ops listed).contains i = true) (hl : listed.getD s0 true = false)
  (hQ : ∀ c a w, Q (.panic c) (a.put oi.dst v) w → Q (.panic c) a w) (hy : YieldsIf P ops C oi v a) (hC : C w)
  (h : wpC P md ops Q C s0 fuel (listed.setIfInBounds i true) (a.put oi.dst v) w) : wpC P md ops Q C s0 (fuel + 1) listed a w := by
 rw [Array.any_eq_true] at hwait
 obtain ⟨k, hk, he⟩ := hwait
 simp only [Bool.and_eq_true, beq_iff_eq] at he
 exact wpC_first hi (Region.noSelect_spec hs) hQ his (.inr ⟨fun _ h => h, os, hos, os.after[k], Array.getElem_mem hk, he.1, he.2⟩) fuel listed a w (Region.free_spec hi hf) (by simpa using hr) hy hC (fun _ => hC) (.inr hl) h
theorem wpC_step {i : Nat} {o : Oper} {fuel : Nat} {listed : Array Bool} {a : Act} {w : World} (hr : Region.ready md ops listed = [i]) (ho : ops[i]? = some o)
    (h : ∀ K' : Act → World → Prop, Shut (∀ a w, ((listed.setIfInBounds i true).getD s0 true = false → C w) → wpC P md ops Q C s0 fuel (listed.setIfInBounds i true) a w → K' a w) → if Region.wanted o (yielded ops a.tmps) = true then Oper.wp P o a w K' Q else K' (a.put o.dst undef) w) :
    wpC P md ops Q C s0 (fuel + 1) listed a w :=
  ⟨(fun h0 => by rw [hr] at h0; cases h0), fun j hj => by
    rw [hr] at hj
    obtain rfl := List.mem_singleton.1 hj
    exact wpOp_step ho fun K' hK => h K' fun a w h1 h2 => hK a w ⟨h1, h2⟩⟩
theorem Zu {i : Nat} {oi : Oper} {v : Value} {fuel : Nat} {listed : Array Bool} {a : Act} {w : World} (hi : ops[i]? = some oi) (hC : listed.getD s0 true = false → C w)
  (h : wpC P md ops Q C s0 fuel (listed.setIfInBounds i true) (a.put oi.dst v) w) (his : i ≠ s0 := by decide) (hs : Region.noSelect ops = true := by kernel_rfl) (hf : Region.free md ops listed i = true := by kernel_rfl) (hr : (Region.ready md ops listed).contains i = true := by kernel_rfl)
  (hQ : ∀ c a w, Q (.panic c) (a.put oi.dst v) w → Q (.panic c) a w := by exact fun _ _ _ h => h) (hy : YieldsIf P ops (fun _ => True) oi v a := by exact Or.inl ⟨by rfl, by (intro w _; go_simp; (first | done | with_reducible rfl))⟩) : wpC P md ops Q C s0 (fuel + 1) listed a w := wpC_pure hi his hs hf hr hQ hy hC h
theorem Zv {i : Nat} {oi os : Oper} {v : Value} {fuel : Nat} {listed : Array Bool} {a : Act} {w : World} (hi : ops[i]? = some oi) (hos : ops[s0]? = some os) (hC : C w)
  (h : wpC P md ops Q C s0 fuel (listed.setIfInBounds i true) (a.put oi.dst v) w) (his : i ≠ s0 := by decide) (hwait : (os.after.any fun e => Region.binds md e && e.on == i) = true := by kernel_rfl) (hs : Region.noSelect ops = true := by kernel_rfl) (hf : Region.free md ops listed i = true := by kernel_rfl) (hr : (Region.ready md ops listed).contains i = true := by kernel_rfl) (hl : listed.getD s0 true = false := by kernel_rfl)
  (hQ : ∀ c a w, Q (.panic c) (a.put oi.dst v) w → Q (.panic c) a w := by exact fun _ _ _ h => h) (hy : YieldsIf P ops C oi v a := by exact Or.inl ⟨by rfl, by (intro w hSw; (try dsimp only at hSw); go_simp; (first | done | with_reducible rfl))⟩) : wpC P md ops Q C s0 (fuel + 1) listed a w := wpC_load hi his hos hwait hs hf hr hl hQ hy hC h
theorem wpC_done {listed : Array Bool} {a : Act} {w : World} (hr : Region.ready md ops listed = []) (h : Q .normal a w) : ∀ fuel, wpC P md ops Q C s0 fuel listed a w
 | 0 => ⟨hr, h⟩
 | _ + 1 => ⟨fun _ => h, by rw [hr]; simp⟩
end
end Go.Proofs.YtlmfbjhokkpjhaaGreatDoor
