/- prep.rules: the map of the forms' rules. -/
import Derived.Test.YtpnnbffhdhbonaaGreatDoorForms
import Derived.MapKept
namespace Go.Proofs.YtpnnbffhdhbonaaGreatDoor
open Go Go.RowKit

/-- the rules' first n entries -/
def ruleEs : List MapEntry := [⟨.int .i8 0, .func (.func 62) #[.agg #[]] #[], 0⟩, ⟨.int .i8 1, .func (.func 63) #[.agg #[]] #[], 1⟩, ⟨.int .i8 2, .func (.func 64) #[.agg #[]] #[], 2⟩, ⟨.int .i8 3, .func (.func 65) #[.agg #[]] #[], 3⟩, ⟨.int .i8 4, .func (.func 66) #[.agg #[]] #[], 4⟩, ⟨.int .i8 5, .func (.func 67) #[.agg #[]] #[], 5⟩, ⟨.int .i8 6, .func (.func 68) #[.agg #[]] #[], 6⟩, ⟨.int .i8 7, .func (.func 69) #[.agg #[]] #[], 7⟩, ⟨.int .i8 8, .func (.func 70) #[.agg #[]] #[], 8⟩]
/-- a world in which block r is another map -/
def setM (w : World) (r : Nat) (es : List MapEntry) : World := { w with heap := w.heap.setIfInBounds r (.map es.toArray es.length) }
theorem setM_heap {w : World} {r : Nat} {es : List MapEntry} (h : r < w.heap.size) : (setM w r es).heap[r]? = some (.map es.toArray es.length) := by
  unfold setM; simp [h]
theorem setM_size (w : World) (r : Nat) (es : List MapEntry) : (setM w r es).heap.size = w.heap.size := by unfold setM; simp
theorem setM_below {w0 w : World} {r : Nat} {es : List MapEntry} (h : Below w0.heap.size w0 w) (hr : w0.heap.size ≤ r) : Below w0.heap.size w0 (setM w r es) :=
  ⟨h.os, h.tape, h.output, by rw [setM_size]; exact h.size, fun k hk => by
    rw [← h.block k hk]; show (w.heap.setIfInBounds r _)[k]? = _
    rw [Array.getElem?_setIfInBounds_ne (by omega)]⟩

theorem upd_new {w : World} {r : Nat} {es : List MapEntry} (hh : w.heap[r]? = some (.map es.toArray es.length)) (k : Int) (v : Value) (hn : Instr.findNow (.int .i8) (.int .i8 k) es 0 = some none) :
    (Instr.mapUpdate 37 (.map (some r)) (.int .i8 k) v).run Tryz.prog w = .ok () (setM w r (es ++ [⟨.int .i8 k, v, es.length⟩])) := by
  unfold Instr.mapUpdate
  simp only [Sem.run_bind, run_underlying Tryz.underlying37, Result.andThen, Go.MapKept.run_getObj_map hh]
  rw [Go.MapKept.run_checkKey (P := Tryz.prog) (d := .int .i8) Tryz.underlying22 (by simp [Go.MapKept.IsKey])]
  simp only []
  rw [Go.MapKept.run_findKey (P := Tryz.prog) (d := .int .i8) (a := none) Tryz.underlying22 (by simpa using hn)]
  simp only []
  rw [Go.MapKept.run_setObj_map _ hh]
  simp [setM]

/-- the world behind rules: block r is the map of the nine rules -/
structure RulesAt (w : World) (r : Nat) : Prop where
  hd : w.heap[r]? = some (.map ruleEs.toArray ruleEs.length)

set_option maxRecDepth 20000 in
theorem rules_any (w : World) :
    Calls Tryz.prog 23 #[] w fun e w' => ∃ r, e = .returned (.map (some r)) ∧ RulesAt w' r ∧ Below w.heap.size w w' := by
  have b0 : Below w.heap.size w (w.alloc (.cells #[] 61)) := (Below.refl _ w).alloc (Nat.le_refl _) _
  have hr : w.heap.size ≤ (w.alloc (.cells #[] 61)).heap.size := b0.size
  have hm := run_makeMap (P := Tryz.prog) 37 (w.alloc (.cells #[] 61))
  have hh : ((w.alloc (.cells #[] 61)).alloc (.map #[] 0)).heap[(w.alloc (.cells #[] 61)).heap.size]? = some (.map (([] : List MapEntry)).toArray ([] : List MapEntry).length) := heap_alloc_new _ _
  have hlt : (w.alloc (.cells #[] 61)).heap.size < ((w.alloc (.cells #[] 61)).alloc (.map #[] 0)).heap.size := by simp
  have b1 : Below w.heap.size w ((w.alloc (.cells #[] 61)).alloc (.map #[] 0)) := b0.alloc hr _
  generalize ((w.alloc (.cells #[] 61)).alloc (.map #[] 0)) = w0 at hm hh hlt b1
  generalize (w.alloc (.cells #[] 61)).heap.size = r at hm hh hlt hr
  clear b0
  have u0 := upd_new hh 0 (.func (.func 62) #[.agg #[]] #[]) rfl
  obtain ⟨w1, e1⟩ : ∃ x, x = setM w0 r ([] ++ [⟨.int .i8 0, .func (.func 62) #[.agg #[]] #[], ([] : List MapEntry).length⟩]) := ⟨_, rfl⟩
  rw [← e1] at u0
  have hl1 : r < w1.heap.size := by rw [e1, setM_size]; exact hlt
  have hh1 : w1.heap[r]? = some (.map (ruleEs.take 1 : List MapEntry).toArray (ruleEs.take 1 : List MapEntry).length) := by rw [e1]; exact setM_heap hlt
  have b2 : Below w.heap.size w w1 := by rw [e1]; exact setM_below b1 hr
  clear e1
  have u1 := upd_new hh1 1 (.func (.func 63) #[.agg #[]] #[]) rfl
  obtain ⟨w2, e2⟩ : ∃ x, x = setM w1 r (ruleEs.take 1 ++ [⟨.int .i8 1, .func (.func 63) #[.agg #[]] #[], (ruleEs.take 1 : List MapEntry).length⟩]) := ⟨_, rfl⟩
  rw [← e2] at u1
  have hl2 : r < w2.heap.size := by rw [e2, setM_size]; exact hl1
  have hh2 : w2.heap[r]? = some (.map (ruleEs.take 2 : List MapEntry).toArray (ruleEs.take 2 : List MapEntry).length) := by rw [e2]; exact setM_heap hl1
  have b3 : Below w.heap.size w w2 := by rw [e2]; exact setM_below b2 hr
  clear e2
  have u2 := upd_new hh2 2 (.func (.func 64) #[.agg #[]] #[]) rfl
  obtain ⟨w3, e3⟩ : ∃ x, x = setM w2 r (ruleEs.take 2 ++ [⟨.int .i8 2, .func (.func 64) #[.agg #[]] #[], (ruleEs.take 2 : List MapEntry).length⟩]) := ⟨_, rfl⟩
  rw [← e3] at u2
  have hl3 : r < w3.heap.size := by rw [e3, setM_size]; exact hl2
  have hh3 : w3.heap[r]? = some (.map (ruleEs.take 3 : List MapEntry).toArray (ruleEs.take 3 : List MapEntry).length) := by rw [e3]; exact setM_heap hl2
  have b4 : Below w.heap.size w w3 := by rw [e3]; exact setM_below b3 hr
  clear e3
  have u3 := upd_new hh3 3 (.func (.func 65) #[.agg #[]] #[]) rfl
  obtain ⟨w4, e4⟩ : ∃ x, x = setM w3 r (ruleEs.take 3 ++ [⟨.int .i8 3, .func (.func 65) #[.agg #[]] #[], (ruleEs.take 3 : List MapEntry).length⟩]) := ⟨_, rfl⟩
  rw [← e4] at u3
  have hl4 : r < w4.heap.size := by rw [e4, setM_size]; exact hl3
  have hh4 : w4.heap[r]? = some (.map (ruleEs.take 4 : List MapEntry).toArray (ruleEs.take 4 : List MapEntry).length) := by rw [e4]; exact setM_heap hl3
  have b5 : Below w.heap.size w w4 := by rw [e4]; exact setM_below b4 hr
  clear e4
  have u4 := upd_new hh4 4 (.func (.func 66) #[.agg #[]] #[]) rfl
  obtain ⟨w5, e5⟩ : ∃ x, x = setM w4 r (ruleEs.take 4 ++ [⟨.int .i8 4, .func (.func 66) #[.agg #[]] #[], (ruleEs.take 4 : List MapEntry).length⟩]) := ⟨_, rfl⟩
  rw [← e5] at u4
  have hl5 : r < w5.heap.size := by rw [e5, setM_size]; exact hl4
  have hh5 : w5.heap[r]? = some (.map (ruleEs.take 5 : List MapEntry).toArray (ruleEs.take 5 : List MapEntry).length) := by rw [e5]; exact setM_heap hl4
  have b6 : Below w.heap.size w w5 := by rw [e5]; exact setM_below b5 hr
  clear e5
  have u5 := upd_new hh5 5 (.func (.func 67) #[.agg #[]] #[]) rfl
  obtain ⟨w6, e6⟩ : ∃ x, x = setM w5 r (ruleEs.take 5 ++ [⟨.int .i8 5, .func (.func 67) #[.agg #[]] #[], (ruleEs.take 5 : List MapEntry).length⟩]) := ⟨_, rfl⟩
  rw [← e6] at u5
  have hl6 : r < w6.heap.size := by rw [e6, setM_size]; exact hl5
  have hh6 : w6.heap[r]? = some (.map (ruleEs.take 6 : List MapEntry).toArray (ruleEs.take 6 : List MapEntry).length) := by rw [e6]; exact setM_heap hl5
  have b7 : Below w.heap.size w w6 := by rw [e6]; exact setM_below b6 hr
  clear e6
  have u6 := upd_new hh6 6 (.func (.func 68) #[.agg #[]] #[]) rfl
  obtain ⟨w7, e7⟩ : ∃ x, x = setM w6 r (ruleEs.take 6 ++ [⟨.int .i8 6, .func (.func 68) #[.agg #[]] #[], (ruleEs.take 6 : List MapEntry).length⟩]) := ⟨_, rfl⟩
  rw [← e7] at u6
  have hl7 : r < w7.heap.size := by rw [e7, setM_size]; exact hl6
  have hh7 : w7.heap[r]? = some (.map (ruleEs.take 7 : List MapEntry).toArray (ruleEs.take 7 : List MapEntry).length) := by rw [e7]; exact setM_heap hl6
  have b8 : Below w.heap.size w w7 := by rw [e7]; exact setM_below b7 hr
  clear e7
  have u7 := upd_new hh7 7 (.func (.func 69) #[.agg #[]] #[]) rfl
  obtain ⟨w8, e8⟩ : ∃ x, x = setM w7 r (ruleEs.take 7 ++ [⟨.int .i8 7, .func (.func 69) #[.agg #[]] #[], (ruleEs.take 7 : List MapEntry).length⟩]) := ⟨_, rfl⟩
  rw [← e8] at u7
  have hl8 : r < w8.heap.size := by rw [e8, setM_size]; exact hl7
  have hh8 : w8.heap[r]? = some (.map (ruleEs.take 8 : List MapEntry).toArray (ruleEs.take 8 : List MapEntry).length) := by rw [e8]; exact setM_heap hl7
  have b9 : Below w.heap.size w w8 := by rw [e8]; exact setM_below b8 hr
  clear e8
  have u8 := upd_new hh8 8 (.func (.func 70) #[.agg #[]] #[]) rfl
  obtain ⟨w9, e9⟩ : ∃ x, x = setM w8 r (ruleEs.take 8 ++ [⟨.int .i8 8, .func (.func 70) #[.agg #[]] #[], (ruleEs.take 8 : List MapEntry).length⟩]) := ⟨_, rfl⟩
  rw [← e9] at u8
  have hl9 : r < w9.heap.size := by rw [e9, setM_size]; exact hl8
  have hh9 : w9.heap[r]? = some (.map (ruleEs.take 9 : List MapEntry).toArray (ruleEs.take 9 : List MapEntry).length) := by rw [e9]; exact setM_heap hl8
  have b10 : Below w.heap.size w w9 := by rw [e9]; exact setM_below b9 hr
  clear e9
  have HH := Lib.hid (And.intro hh9 b10)
  clear hh hh1 hh2 hh3 hh4 hh5 hh6 hh7 hh8 hh9 b1 b2 b3 b4 b5 b6 b7 b8 b9 b10 hlt hl1 hl2 hl3 hl4 hl5 hl6 hl7 hl8 hl9 hr
  go_enter Tryz.func23, Tryz.ntmps23
  go_wp2_with fail
  go_ret
  exact ⟨r, rfl, ⟨HH.out.1⟩, HH.out.2⟩

theorem look_run {w : World} {r : Nat} (R : RulesAt w r) (k : Int) {a : Option (Nat × Value)} (hn : Instr.findNow (.int .i8) (.int .i8 k) ruleEs 0 = some a) :
    (Instr.lookup 37 (.map (some r)) (.int .i8 k) true).run Tryz.prog w = .ok (match a with | some (_, v) => .tuple #[v, .bool true] | none => .tuple #[.nilFunc, .bool false]) w := by
  have hz : (zeroValue 35).run Tryz.prog w = .ok .nilFunc w := by kernel_rfl
  unfold Instr.lookup
  simp only [Sem.run_bind, run_underlying Tryz.underlying37, Result.andThen, Go.MapKept.run_getObj_map R.hd, Sem.run_pure]
  rw [Go.MapKept.run_checkKey (P := Tryz.prog) (d := .int .i8) Tryz.underlying22 (by simp [Go.MapKept.IsKey])]
  simp only []
  rw [Go.MapKept.run_findKey (P := Tryz.prog) (d := .int .i8) (a := a) Tryz.underlying22 (by simpa using hn)]
  cases a with
  | none => simp [hz, Result.andThen]
  | some p => simp
theorem look0 {w : World} {r : Nat} (R : RulesAt w r) : (Instr.lookup 37 (.map (some r)) (.int .i8 0) true).run Tryz.prog w = .ok (.tuple #[.func (.func 62) #[.agg #[]] #[], .bool true]) w := look_run R 0 (a := some (0, .func (.func 62) #[.agg #[]] #[])) rfl
theorem look1 {w : World} {r : Nat} (R : RulesAt w r) : (Instr.lookup 37 (.map (some r)) (.int .i8 1) true).run Tryz.prog w = .ok (.tuple #[.func (.func 63) #[.agg #[]] #[], .bool true]) w := look_run R 1 (a := some (1, .func (.func 63) #[.agg #[]] #[])) rfl
theorem look2 {w : World} {r : Nat} (R : RulesAt w r) : (Instr.lookup 37 (.map (some r)) (.int .i8 2) true).run Tryz.prog w = .ok (.tuple #[.func (.func 64) #[.agg #[]] #[], .bool true]) w := look_run R 2 (a := some (2, .func (.func 64) #[.agg #[]] #[])) rfl
theorem look3 {w : World} {r : Nat} (R : RulesAt w r) : (Instr.lookup 37 (.map (some r)) (.int .i8 3) true).run Tryz.prog w = .ok (.tuple #[.func (.func 65) #[.agg #[]] #[], .bool true]) w := look_run R 3 (a := some (3, .func (.func 65) #[.agg #[]] #[])) rfl
theorem look4 {w : World} {r : Nat} (R : RulesAt w r) : (Instr.lookup 37 (.map (some r)) (.int .i8 4) true).run Tryz.prog w = .ok (.tuple #[.func (.func 66) #[.agg #[]] #[], .bool true]) w := look_run R 4 (a := some (4, .func (.func 66) #[.agg #[]] #[])) rfl
theorem look5 {w : World} {r : Nat} (R : RulesAt w r) : (Instr.lookup 37 (.map (some r)) (.int .i8 5) true).run Tryz.prog w = .ok (.tuple #[.func (.func 67) #[.agg #[]] #[], .bool true]) w := look_run R 5 (a := some (5, .func (.func 67) #[.agg #[]] #[])) rfl
theorem look6 {w : World} {r : Nat} (R : RulesAt w r) : (Instr.lookup 37 (.map (some r)) (.int .i8 6) true).run Tryz.prog w = .ok (.tuple #[.func (.func 68) #[.agg #[]] #[], .bool true]) w := look_run R 6 (a := some (6, .func (.func 68) #[.agg #[]] #[])) rfl
theorem look7 {w : World} {r : Nat} (R : RulesAt w r) : (Instr.lookup 37 (.map (some r)) (.int .i8 7) true).run Tryz.prog w = .ok (.tuple #[.func (.func 69) #[.agg #[]] #[], .bool true]) w := look_run R 7 (a := some (7, .func (.func 69) #[.agg #[]] #[])) rfl
theorem look8 {w : World} {r : Nat} (R : RulesAt w r) : (Instr.lookup 37 (.map (some r)) (.int .i8 8) true).run Tryz.prog w = .ok (.tuple #[.func (.func 70) #[.agg #[]] #[], .bool true]) w := look_run R 8 (a := some (8, .func (.func 70) #[.agg #[]] #[])) rfl
theorem look_none {w : World} {r : Nat} (R : RulesAt w r) (k : Int) (h : k < 0 ∨ 8 < k) : (Instr.lookup 37 (.map (some r)) (.int .i8 k) true).run Tryz.prog w = .ok (.tuple #[.nilFunc, .bool false]) w := by
  refine look_run R k (a := none) ?_
  have hne : ∀ j : Int, 0 ≤ j → j ≤ 8 → (k == j) = false := fun j h0 h1 => by simp; omega
  simp [Instr.findNow, Instr.sameNow, ruleEs, hne]
end Go.Proofs.YtpnnbffhdhbonaaGreatDoor
