/- Part 24 of the walks and plain laws, joined: Read, Fail, Stuck. -/
import Derived.Test.YtlmfbjhokkpjhaaGreatDoorNM00
import Derived.Test.YtlmfbjhokkpjhaaGreatDoorNM07
import Derived.Test.YtlmfbjhokkpjhaaGreatDoorShelfS
import Derived.BigQuiet
set_option linter.unusedVariables false
set_option linter.unusedSimpArgs false
namespace Go.Proofs.YtlmfbjhokkpjhaaGreatDoor
open Go Go.RowKit
theorem quiet_callv {P : Program} {C : World → Prop} {o : Oper} {a : Act} {K : Act → Prop} (f : FuncId) (vs : Array Value) (hr : ∀ w, (execOp a.eval o).run P w = .ok (.enter f vs) w) (v : Value) (hc : ∀ w, C w → Calls P f vs w fun e w' => e = .returned v ∧ C w') (hk : K (a.put o.dst v)) : o.quiet P a C K := by
 refine ⟨v, fun w hw => ?_, hk⟩
 unfold Oper.quietAt
 rw [hr]
 exact ⟨rfl, hc w hw⟩
structure Rd (w : World) (g : Nat) (s : ByteArray) (p : Nat) (bad : Option Addr) : Prop where
 c0 : w.cell? ⟨g, 0, none⟩ = some (.string s)
 c1 : w.cell? ⟨g, 1, none⟩ = some (.int .i64 (p : Nat))
 c2 : w.cell? ⟨g, 2, none⟩ = some (.pointer bad)
 fr : ∀ j, w.frozen? ⟨g, j, none⟩ = false
 le : p ≤ s.size
 small : s.size ≤ 1099511627776
theorem Rd.lt {w : World} {g : Nat} {s : ByteArray} {p : Nat} {bad : Option Addr} (h : Rd w g s p bad) : g < w.heap.size := Zb w _ h.c0
theorem Rd.drewN {w : World} {g : Nat} {s : ByteArray} {p : Nat} {bad : Option Addr} (h : Rd w g s p bad) (q : Nat) : Rd (w.drewN q) g s p bad := ⟨h.c0, h.c1, h.c2, h.fr, h.le, h.small⟩
theorem Rd.keep {w w' : World} {g : Nat} {s : ByteArray} {p : Nat} {bad : Option Addr} (h : Rd w g s p bad) (k : Below w.heap.size w w') : Rd w' g s p bad :=
 ⟨by rw [k.cell h.lt]; exact h.c0, by rw [k.cell h.lt]; exact h.c1, by rw [k.cell h.lt]; exact h.c2, fun j => by rw [k.frozen (p := ⟨g, j, none⟩) h.lt]; exact h.fr j, h.le, h.small⟩
theorem Rd.put {w : World} {g : Nat} {s : ByteArray} {p : Nat} {bad : Option Addr} (h : Rd w g s p bad) {q : Nat} (hq : q ≤ s.size) : Rd (w.setCell ⟨g, 1, none⟩ (.int .i64 (q : Nat))) g s q bad :=
 ⟨by rw [World.cell?_setCell_other _ _ _ _ (fun e => by cases e)]; exact h.c0, by rw [World.cell?_setCell_same _ _ _ h.c1], by rw [World.cell?_setCell_other _ _ _ _ (fun e => by cases e)]; exact h.c2, fun j => by rw [World.frozen?_setCell]; exact h.fr j, hq, h.small⟩
def rdAt (g : Nat) (w : World) : Nat := match w.cell? ⟨g, 1, none⟩ with
 | some (.int _ x) => x.toNat
 | _ => 0
theorem rdAt_of {w : World} {g p : Nat} (h : w.cell? ⟨g, 1, none⟩ = some (.int .i64 (p : Nat))) : rdAt g w = p := by unfold rdAt; rw [h]; simp
theorem nletter_any (b : UInt8) (w : World) : Calls Tryz.prog 116 #[.int .u8 (b.toNat : Int)] w fun e w' => e = .returned (.bool (isLet b)) ∧ w' = w := by
 have hl : isLet b = (decide (97 ≤ b.toNat ∧ b.toNat ≤ 122) || decide (65 ≤ b.toNat ∧ b.toNat ≤ 90)) := rfl
 rw [hl]
 generalize b.toNat = n
 rcases (by omega : n < 65 ∨ (65 ≤ n ∧ n ≤ 90) ∨ (90 < n ∧ n < 97) ∨ (97 ≤ n ∧ n ≤ 122) ∨ 122 < n) with h | ⟨h, h2⟩ | ⟨h, h2⟩ | ⟨h, h2⟩ | h
 ·have e1 : (decide (97 ≤ n ∧ n ≤ 122) || decide (65 ≤ n ∧ n ≤ 90)) = false := by simp; omega
  rw [e1]
  have i1 : ¬ (97 : Int) ≤ n := by omega
  have i2 : ¬ (65 : Int) ≤ n := by omega
  clear e1 h
  go_enter Tryz.func116, Tryz.ntmps116
  go_wp2_with fail
  go_ret
  exact ⟨rfl, rfl⟩
 ·have e1 : (decide (97 ≤ n ∧ n ≤ 122) || decide (65 ≤ n ∧ n ≤ 90)) = true := by simp; omega
  rw [e1]
  have i1 : ¬ (97 : Int) ≤ n := by omega
  have i2 : (65 : Int) ≤ n := by omega
  have i3 : (n : Int) ≤ 90 := by omega
  clear e1 h h2
  go_enter Tryz.func116, Tryz.ntmps116
  go_wp2_with fail
  go_ret
  exact ⟨rfl, rfl⟩
 ·have e1 : (decide (97 ≤ n ∧ n ≤ 122) || decide (65 ≤ n ∧ n ≤ 90)) = false := by simp; omega
  rw [e1]
  have i1 : ¬ (97 : Int) ≤ n := by omega
  have i2 : (65 : Int) ≤ n := by omega
  have i3 : ¬ (n : Int) ≤ 90 := by omega
  clear e1 h h2
  go_enter Tryz.func116, Tryz.ntmps116
  go_wp2_with fail
  go_ret
  exact ⟨rfl, rfl⟩
 ·have e1 : (decide (97 ≤ n ∧ n ≤ 122) || decide (65 ≤ n ∧ n ≤ 90)) = true := by simp; omega
  rw [e1]
  have i1 : (97 : Int) ≤ n := by omega
  have i2 : (n : Int) ≤ 122 := by omega
  clear e1 h h2
  go_enter Tryz.func116, Tryz.ntmps116
  go_wp2_with fail
  go_ret
  exact ⟨rfl, rfl⟩
 ·have e1 : (decide (97 ≤ n ∧ n ≤ 122) || decide (65 ≤ n ∧ n ≤ 90)) = false := by simp; omega
  rw [e1]
  have i1 : (97 : Int) ≤ n := by omega
  have i2 : ¬ (n : Int) ≤ 122 := by omega
  have i3 : (65 : Int) ≤ n := by omega
  have i4 : ¬ (n : Int) ≤ 90 := by omega
  clear e1 h
  go_enter Tryz.func116, Tryz.ntmps116
  go_wp2_with fail
  go_ret
  exact ⟨rfl, rfl⟩
theorem ndigit_any (b : UInt8) (w : World) : Calls Tryz.prog 119 #[.int .u8 (b.toNat : Int)] w fun e w' => e = .returned (.bool (dig b)) ∧ w' = w := by
 have hl : dig b = decide (48 ≤ b.toNat ∧ b.toNat ≤ 57) := rfl
 rw [hl]
 generalize b.toNat = n
 rcases (by omega : n < 48 ∨ (48 ≤ n ∧ n ≤ 57) ∨ 57 < n) with h | ⟨h, h2⟩ | h
 ·have e1 : decide (48 ≤ n ∧ n ≤ 57) = false := by simp; omega
  rw [e1]
  have i1 : ¬ (48 : Int) ≤ n := by omega
  clear e1 h
  go_enter Tryz.func119, Tryz.ntmps119
  go_wp2_with fail
  go_ret
  exact ⟨rfl, rfl⟩
 ·have e1 : decide (48 ≤ n ∧ n ≤ 57) = true := by simp; omega
  rw [e1]
  have i1 : (48 : Int) ≤ n := by omega
  have i3 : (n : Int) ≤ 57 := by omega
  clear e1 h h2
  go_enter Tryz.func119, Tryz.ntmps119
  go_wp2_with fail
  go_ret
  exact ⟨rfl, rfl⟩
 ·have e1 : decide (48 ≤ n ∧ n ≤ 57) = false := by simp; omega
  rw [e1]
  have i1 : (48 : Int) ≤ n := by omega
  have i3 : ¬ (n : Int) ≤ 57 := by omega
  clear e1 h
  go_enter Tryz.func119, Tryz.ntmps119
  go_wp2_with fail
  go_ret
  exact ⟨rfl, rfl⟩
set_option maxRecDepth 20000 in
theorem nkind1_any (b : UInt8) (w : World) : Calls Tryz.prog 118 #[.int .u8 (b.toNat : Int)] w fun e w' => e = .returned (.bool (tailC b)) ∧ w' = w := by
 have hl := fun w => nletter_any b w
 have hd := fun w => ndigit_any b w
 have ht : tailC b = (isLet b || dig b || b == 45) := rfl
 rw [ht]
 have h45 : (b == 45) = decide ((b.toNat : Int) = 45) := by
  by_cases e : b = 45
  ·subst e; rfl
  ·have h1 : (b == 45) = false := by simpa using e
   rw [h1]
   symm
   exact decide_eq_false fun h => e (UInt8.toNat_inj.1 (by show b.toNat = 45; omega))
 rw [h45]
 clear h45 ht
 generalize isLet b = x at hl
 generalize dig b = y at hd
 have HL := Zh hl; have HD := Zh hd; clear hl hd
 by_cases h : (b.toNat : Int) = 45
 ·have hb : ((b.toNat : Int) == 45) = true := by simpa using h
  rw [decide_eq_true h]
  clear h
  cases x <;> cases y <;> (
   go_enter Tryz.func118, Tryz.ntmps118
   go_wp2_with (first
    | (go_at_call 116; (with_reducible refine (HL.out _).mono ?_); rintro e w1 ⟨rfl, rfl⟩)
    | (go_at_call 119; (with_reducible refine (HD.out _).mono ?_); rintro e w1 ⟨rfl, rfl⟩)
    | fail)
   go_ret
   exact ⟨rfl, rfl⟩)
 ·have hb : ((b.toNat : Int) == 45) = false := by simpa using h
  rw [decide_eq_false h]
  clear h
  cases x <;> cases y <;> (
   go_enter Tryz.func118, Tryz.ntmps118
   go_wp2_with (first
    | (go_at_call 116; (with_reducible refine (HL.out _).mono ?_); rintro e w1 ⟨rfl, rfl⟩)
    | (go_at_call 119; (with_reducible refine (HD.out _).mono ?_); rintro e w1 ⟨rfl, rfl⟩)
    | fail)
   go_ret
   exact ⟨rfl, rfl⟩)
def twEnd (P : UInt8 → Bool) (l : Str) (p : Nat) : Nat := p + ((l.drop p).takeWhile P).length
theorem tw_in {P : UInt8 → Bool} {s : ByteArray} {p q : Nat} (h1 : p ≤ q) (h2 : q < twEnd P (toL s) p) : ∃ h : q < s.size, P s[q] = true := by
 unfold twEnd at h2
 have h3 : q - p < (((toL s).drop p).takeWhile P).length := by omega
 have hp := List.takeWhile_prefix P (l := (toL s).drop p)
 have hl := hp.length_le
 have hq : q < s.size := by have := Lib.size_eq s; simp only [List.length_drop] at hl; unfold toL at hl h3; omega
 refine ⟨hq, ?_⟩
 have h4 : (((toL s).drop p).takeWhile P)[q - p] ∈ ((toL s).drop p).takeWhile P := List.getElem_mem h3
 have h5 := List.all_eq_true.1 (tw_all P ((toL s).drop p)) _ h4
 have h6 : (((toL s).drop p).takeWhile P)[q - p]? = ((toL s).drop p)[q - p]? := by
  obtain ⟨t, ht⟩ := hp
  conv => rhs; rw [← ht]
  rw [List.getElem?_append_left h3]
 rw [List.getElem?_eq_getElem h3, List.getElem?_drop, show p + (q - p) = q by omega] at h6
 have h7 : (toL s)[q]? = some s[q] := by
  unfold toL
  have := drop_at s hq
  have h8 := congrArg (·[0]?) this
  simpa using h8
 rw [h7] at h6
 rw [Option.some.inj h6] at h5
 exact h5
where
 tw_all (p : UInt8 → Bool) (l : Str) : (l.takeWhile p).all p = true := by
  induction l with
  | nil => rfl
  | cons a l ih =>
   rw [List.takeWhile_cons]
   split
   ·rename_i h; simp [h]
   ·rfl
theorem tw_out {P : UInt8 → Bool} {s : ByteArray} {p : Nat} (hp : p ≤ s.size) : twEnd P (toL s) p ≤ s.size ∧ ∀ h : twEnd P (toL s) p < s.size, P (s[twEnd P (toL s) p]'h) = false := by
 have hpre := List.takeWhile_prefix P (l := (toL s).drop p)
 have hl := hpre.length_le
 have hz := Lib.size_eq s
 have hle : twEnd P (toL s) p ≤ s.size := by unfold twEnd; simp only [List.length_drop] at hl; unfold toL at hl ⊢; omega
 refine ⟨hle, fun h => ?_⟩
 have h7 : (toL s)[twEnd P (toL s) p]? = some (s[twEnd P (toL s) p]'h) := by
  unfold toL at h ⊢
  have := drop_at s h
  have h8 := congrArg (·[0]?) this
  simpa using h8
 have h9 : ((toL s).drop p)[(((toL s).drop p).takeWhile P).length]? = some (s[twEnd P (toL s) p]'h) := by
  rw [List.getElem?_drop]; exact h7
 exact tw_stop P _ h9
where
 tw_stop (P : UInt8 → Bool) (l : Str) {c : UInt8} (h : l[(l.takeWhile P).length]? = some c) : P c = false := by
  induction l with
  | nil => simp at h
  | cons a l ih =>
   rw [List.takeWhile_cons] at h
   split at h
   ·simp at h; exact ih h
   ·rename_i h2; simp at h; rw [← h]; simpa using h2
set_option maxRecDepth 20000 in
set_option maxHeartbeats 1000000 in
theorem skipT_any (g : Nat) (s : ByteArray) (p : Nat) (bad : Option Addr) (w : World) (h : Rd w g s p bad) :
  Calls Tryz.prog 117 #[.pointer (some ⟨g, 0, none⟩), .func (.func 118) #[] #[]] w fun e w' =>
   e = .returned (.int .i64 ((twEnd tailC (toL s) p : Nat) - (p : Nat))) ∧ Rd w' g s (twEnd tailC (toL s) p) bad ∧ Chg (· = g) w w' := by
 have hin := fun q h1 h2 => @tw_in tailC s p q h1 h2
 obtain ⟨ho1, ho2⟩ := @tw_out tailC s p h.le
 have hpe : p ≤ twEnd tailC (toL s) p := by unfold twEnd; omega
 generalize twEnd tailC (toL s) p = pe at hin ho1 ho2 hpe ⊢
 have hsm := h.small
 have c1 := h.c1
 have HR := Zh h; have HIN := Zh hin; have HO := Zh ho2; clear h hin ho2
 go_enter Tryz.func117, Tryz.ntmps117
 go_wp2_with fail
 go_loopw [] (fun wr => ∃ q : Nat, p ≤ q ∧ q ≤ pe ∧ Rd wr g s q bad ∧ Chg (· = g) w wr) (fun wr => pe - rdAt g wr)
 case atStart => exact ⟨p, Zr _, hpe, HR.out, Chg.refl _ _⟩
 case round =>
  obtain ⟨q, h1, h2, hrd, hch⟩ := hrel
  have e0 := hrd.c0
  have e1 := hrd.c1
  have ef := hrd.fr 1
  have HRD := Zh (Zi hrd hch); clear hrd hch
  have hat := rdAt_of e1
  have HAT := Zh hat; clear hat
  by_cases hz : q < s.size
  ·have d1 : decide ((q : Int) < (s.size : Int)) = true := by simp; omega
   have d2 : (q : Int) < (s.size : Int) := by omega
   have d3 : (0 : Int) ≤ (q : Int) := by omega
   by_cases hlt : q < pe
   ·obtain ⟨hz2, hb⟩ := HIN.out q h1 hlt
    have hc := fun w => nkind1_any (s[q]'hz) w
    rw [hb] at hc
    have HC := Zh hc; clear hc hb
    generalize hbb : (s[q]'hz) = bb at HC
    go_wp2_with fail
    refine wp_region_quiet_lit (by kernel_rfl) (by kernel_rfl) ?_
    repeat (go_big_quiet_step (fail))
    go_big_quiet_want
    refine quiet_callv 118 #[.int .u8 (bb.toNat : Int)] (fun w => by kernel_rfl) (.bool true) (fun w hw => ?_) ?_
    ·obtain ⟨m, rfl⟩ := hw
     exact (HC.out _).mono fun e w' ⟨h1, h2⟩ => ⟨h1, m, h2⟩
    simp only [Act.put, Z1, Z2, Z3]
    go_big_quiet_on
    repeat (go_big_quiet_step (fail))
    refine wpQuiet_nil ?_
    intro _ hw'
    obtain ⟨nq, hw''⟩ := hw'
    subst hw''
    go_wp2_with fail
    have hfin := (HRD.out.1.drewN nq).put (q := q + 1) (by omega)
    rw [show (((q + 1 : Nat)) : Int) = (q : Int) + 1 by omega] at hfin
    refine ⟨⟨q + 1, by omega, by omega, hfin, (HRD.out.2.drewN nq).setCell (p := ⟨g, 1, none⟩) (fun _ => rfl) _⟩, ?_⟩
    rw [HAT.out, rdAt_of (p := q + 1) hfin.c1]
    omega
   ·obtain rfl : q = pe := by omega
    have hb := HO.out hz
    have hc := fun w => nkind1_any (s[q]'hz) w
    rw [hb] at hc
    have HC := Zh hc; clear hc hb
    generalize hbb : (s[q]'hz) = bb at HC
    go_wp2_with fail
    refine wp_region_quiet_lit (by kernel_rfl) (by kernel_rfl) ?_
    repeat (go_big_quiet_step (fail))
    go_big_quiet_want
    refine quiet_callv 118 #[.int .u8 (bb.toNat : Int)] (fun w => by kernel_rfl) (.bool false) (fun w hw => ?_) ?_
    ·obtain ⟨m, rfl⟩ := hw
     exact (HC.out _).mono fun e w' ⟨h1, h2⟩ => ⟨h1, m, h2⟩
    simp only [Act.put, Z1, Z2, Z3]
    go_big_quiet_on
    repeat (go_big_quiet_step (fail))
    refine wpQuiet_nil ?_
    intro _ hw'
    obtain ⟨nq, hw''⟩ := hw'
    subst hw''
    go_wp2_with fail
    go_ret
    exact ⟨rfl, HRD.out.1.drewN _, HRD.out.2.drewN _⟩
  ·have hq1 := HRD.out.1.le
   obtain rfl : q = pe := by omega
   have d1 : decide ((q : Int) < (s.size : Int)) = false := by simp; omega
   go_wp2_with fail
   go_quiet (fail)
   go_wp2_with fail
   go_ret
   exact ⟨rfl, HRD.out.1.drewN _, HRD.out.2.drewN _⟩
set_option maxRecDepth 20000 in
set_option maxHeartbeats 1000000 in
theorem skipD_any (g : Nat) (s : ByteArray) (p : Nat) (bad : Option Addr) (w : World) (h : Rd w g s p bad) :
  Calls Tryz.prog 117 #[.pointer (some ⟨g, 0, none⟩), .func (.func 119) #[] #[]] w fun e w' =>
   e = .returned (.int .i64 ((twEnd dig (toL s) p : Nat) - (p : Nat))) ∧ Rd w' g s (twEnd dig (toL s) p) bad ∧ Chg (· = g) w w' := by
 have hin := fun q h1 h2 => @tw_in dig s p q h1 h2
 obtain ⟨ho1, ho2⟩ := @tw_out dig s p h.le
 have hpe : p ≤ twEnd dig (toL s) p := by unfold twEnd; omega
 generalize twEnd dig (toL s) p = pe at hin ho1 ho2 hpe ⊢
 have hsm := h.small
 have c1 := h.c1
 have HR := Zh h; have HIN := Zh hin; have HO := Zh ho2; clear h hin ho2
 go_enter Tryz.func117, Tryz.ntmps117
 go_wp2_with fail
 go_loopw [] (fun wr => ∃ q : Nat, p ≤ q ∧ q ≤ pe ∧ Rd wr g s q bad ∧ Chg (· = g) w wr) (fun wr => pe - rdAt g wr)
 case atStart => exact ⟨p, Zr _, hpe, HR.out, Chg.refl _ _⟩
 case round =>
  obtain ⟨q, h1, h2, hrd, hch⟩ := hrel
  have e0 := hrd.c0
  have e1 := hrd.c1
  have ef := hrd.fr 1
  have HRD := Zh (Zi hrd hch); clear hrd hch
  have hat := rdAt_of e1
  have HAT := Zh hat; clear hat
  by_cases hz : q < s.size
  ·have d1 : decide ((q : Int) < (s.size : Int)) = true := by simp; omega
   have d2 : (q : Int) < (s.size : Int) := by omega
   have d3 : (0 : Int) ≤ (q : Int) := by omega
   by_cases hlt : q < pe
   ·obtain ⟨hz2, hb⟩ := HIN.out q h1 hlt
    have hc := fun w => ndigit_any (s[q]'hz) w
    rw [hb] at hc
    have HC := Zh hc; clear hc hb
    generalize hbb : (s[q]'hz) = bb at HC
    go_wp2_with fail
    refine wp_region_quiet_lit (by kernel_rfl) (by kernel_rfl) ?_
    repeat (go_big_quiet_step (fail))
    go_big_quiet_want
    refine quiet_callv 119 #[.int .u8 (bb.toNat : Int)] (fun w => by kernel_rfl) (.bool true) (fun w hw => ?_) ?_
    ·obtain ⟨m, rfl⟩ := hw
     exact (HC.out _).mono fun e w' ⟨h1, h2⟩ => ⟨h1, m, h2⟩
    simp only [Act.put, Z1, Z2, Z3]
    go_big_quiet_on
    repeat (go_big_quiet_step (fail))
    refine wpQuiet_nil ?_
    intro _ hw'
    obtain ⟨nq, hw''⟩ := hw'
    subst hw''
    go_wp2_with fail
    have hfin := (HRD.out.1.drewN nq).put (q := q + 1) (by omega)
    rw [show (((q + 1 : Nat)) : Int) = (q : Int) + 1 by omega] at hfin
    refine ⟨⟨q + 1, by omega, by omega, hfin, (HRD.out.2.drewN nq).setCell (p := ⟨g, 1, none⟩) (fun _ => rfl) _⟩, ?_⟩
    rw [HAT.out, rdAt_of (p := q + 1) hfin.c1]
    omega
   ·obtain rfl : q = pe := by omega
    have hb := HO.out hz
    have hc := fun w => ndigit_any (s[q]'hz) w
    rw [hb] at hc
    have HC := Zh hc; clear hc hb
    generalize hbb : (s[q]'hz) = bb at HC
    go_wp2_with fail
    refine wp_region_quiet_lit (by kernel_rfl) (by kernel_rfl) ?_
    repeat (go_big_quiet_step (fail))
    go_big_quiet_want
    refine quiet_callv 119 #[.int .u8 (bb.toNat : Int)] (fun w => by kernel_rfl) (.bool false) (fun w hw => ?_) ?_
    ·obtain ⟨m, rfl⟩ := hw
     exact (HC.out _).mono fun e w' ⟨h1, h2⟩ => ⟨h1, m, h2⟩
    simp only [Act.put, Z1, Z2, Z3]
    go_big_quiet_on
    repeat (go_big_quiet_step (fail))
    refine wpQuiet_nil ?_
    intro _ hw'
    obtain ⟨nq, hw''⟩ := hw'
    subst hw''
    go_wp2_with fail
    go_ret
    exact ⟨rfl, HRD.out.1.drewN _, HRD.out.2.drewN _⟩
  ·have hq1 := HRD.out.1.le
   obtain rfl : q = pe := by omega
   have d1 : decide ((q : Int) < (s.size : Int)) = false := by simp; omega
   go_wp2_with fail
   go_quiet (fail)
   go_wp2_with fail
   go_ret
   exact ⟨rfl, HRD.out.1.drewN _, HRD.out.2.drewN _⟩
structure FaultAt (w : World) (fb : Nat) (f : PFault) : Prop where
 c0 : w.cell? ⟨fb, 0, none⟩ = some (.int .i64 f.1)
 c1 : w.cell? ⟨fb, 1, none⟩ = some (.int .i64 (f.2.1 : Nat))
 c2 : w.cell? ⟨fb, 2, none⟩ = some (.string ⟨f.2.2.toArray⟩)
theorem FaultAt.keep {w w' : World} {fb : Nat} {f : PFault} (h : FaultAt w fb f) (k : Below w.heap.size w w') : FaultAt w' fb f :=
 ⟨by rw [k.cell (Zb w _ h.c0)]; exact h.c0, by rw [k.cell (Zb w _ h.c1)]; exact h.c1, by rw [k.cell (Zb w _ h.c2)]; exact h.c2⟩
def RdBad (w : World) (g : Nat) (s : ByteArray) (f : PFault) (w' : World) : Prop := ∃ p fb, Rd w' g s p (some ⟨fb, 0, none⟩) ∧ FaultAt w' fb f ∧ w.heap.size ≤ fb ∧ Chg (· = g) w w'
theorem take_one {s : ByteArray} {q : Nat} (h : q < s.size) : ((toL s).drop q).take 1 = [s[q]] := by unfold toL; rw [drop_at s h]; rfl
theorem extract_one {s : ByteArray} {q : Nat} (h : q < s.size) : s.extract q (q + 1) = ⟨#[s[q]]⟩ := by
 rw [Lib.extract_eq]
 have h1 := take_one h
 unfold toL at h1
 rw [show q + 1 - q = 1 by omega, h1]
set_option maxRecDepth 20000 in
set_option maxHeartbeats 1000000 in
theorem fail_any (g : Nat) (s : ByteArray) (p : Nat) (bad : Option Addr) (code : Int) (q : Nat) (w : World) (h : Rd w g s p bad) (hq : q ≤ 1099511627777) :
  Calls Tryz.prog 76 #[.pointer (some ⟨g, 0, none⟩), .int .i64 code, .int .i64 (q : Nat)] w fun e w' => e = .returned (.tuple #[]) ∧ RdBad w g s (faultAt (toL s) code q) w' := by
 have c0 := h.c0
 have c2 := h.c2
 have cf := h.fr 2
 have hgl := h.lt
 have HR := Zh h; clear h
 go_enter Tryz.func76, Tryz.ntmps76
 go_upto_region 1 with fail
 have hb1 : Below w.heap.size w (w.alloc (.cells #[.int .i64 code, .int .i64 (q : Nat), .string ⟨#[]⟩] 125)) := (Zl _ w).alloc (Zr _) _
 have hr1 := HR.out.keep hb1
 have hcs : ∀ j v, (#[.int .i64 code, .int .i64 (q : Nat), .string ⟨#[]⟩] : Array Value)[j]? = some v → ((w.alloc (.cells #[.int .i64 code, .int .i64 (q : Nat), .string ⟨#[]⟩] 125)).setCell ⟨g, 2, none⟩ (.pointer (some ⟨w.heap.size, 0, none⟩))).cell? ⟨w.heap.size, j, none⟩ = some v := fun j v hv => by
  rw [World.cell?_setCell_other _ _ _ _ (by intro e; injection e with e _ _; omega), World.cell?_alloc_new]; exact hv
 have hff : ((w.alloc (.cells #[.int .i64 code, .int .i64 (q : Nat), .string ⟨#[]⟩] 125)).setCell ⟨g, 2, none⟩ (.pointer (some ⟨w.heap.size, 0, none⟩))).frozen? ⟨w.heap.size, 2, none⟩ = false := by
  rw [World.frozen?_setCell]; exact frozen_of_row _ _ 2 _ _ (heap_alloc_new w _)
 have hr2 : Rd ((w.alloc (.cells #[.int .i64 code, .int .i64 (q : Nat), .string ⟨#[]⟩] 125)).setCell ⟨g, 2, none⟩ (.pointer (some ⟨w.heap.size, 0, none⟩))) g s p (some ⟨w.heap.size, 0, none⟩) :=
  ⟨by rw [World.cell?_setCell_other _ _ _ _ (fun e => by cases e)]; exact hr1.c0, by rw [World.cell?_setCell_other _ _ _ _ (fun e => by cases e)]; exact hr1.c1, by rw [World.cell?_setCell_same _ _ _ hr1.c2], fun j => by rw [World.frozen?_setCell]; exact hr1.fr j, hr1.le, hr1.small⟩
 have hch : Chg (· = g) w ((w.alloc (.cells #[.int .i64 code, .int .i64 (q : Nat), .string ⟨#[]⟩] 125)).setCell ⟨g, 2, none⟩ (.pointer (some ⟨w.heap.size, 0, none⟩))) := ((Chg.refl (S := (· = g)) w).alloc _).setCell (p := ⟨g, 2, none⟩) (fun _ => rfl) _
 have hfl : w.heap.size < ((w.alloc (.cells #[.int .i64 code, .int .i64 (q : Nat), .string ⟨#[]⟩] 125)).setCell ⟨g, 2, none⟩ (.pointer (some ⟨w.heap.size, 0, none⟩))).heap.size := by simp [World.setCell]
 rw [World.setCell_alloc_past _ _ _ _ hgl] at hff hr2 hch hfl
 simp only [World.setCell_alloc_past _ _ _ _ hgl] at hcs
 generalize (w.setCell ⟨g, 2, none⟩ (.pointer (some ⟨w.heap.size, 0, none⟩))).alloc (.cells #[.int .i64 code, .int .i64 (q : Nat), .string ⟨#[]⟩] 125) = w1 at hcs hff hr2 hch hfl ⊢
 have f0 := hcs 0 _ rfl
 have f1 := hcs 1 _ rfl
 have f2 := hcs 2 _ rfl
 have e0 := hr2.c0
 have e2 := hr2.c2
 clear hb1 hr1 hcs c0 c2 cf
 have hle : g < w.heap.size := hgl
 generalize hfb : w.heap.size = fb at *
 have H1 := Zh (Zi f0 (Zi f1 (Zi f2 (Zi hr2 hch)))); clear f0 f1 hr2 hch
 by_cases hlt : q < s.size
 ·have i1 : (q : Int) < (s.size : Int) := by omega
  have i2 : (q : Int) + 1 ≤ (s.size : Int) := by omega
  have i3 : (q : Int) ≤ (q : Int) + 1 := by omega
  have hx := extract_one hlt
  have hw : faultAt (toL s) code q = (code, q, [s[q]]) := by unfold faultAt; rw [take_one hlt]
  have HW := Zh hw; have HX := Zh hx; clear hx hw
  go_wp2_with fail
  go_region
  go_end0
  obtain ⟨f0, f1, f2', hr2, hch⟩ := H1.out
  refine ⟨rfl, p, fb, ?_, ?_, by omega, ?_⟩
  ·exact ⟨by rw [World.cell?_drew, World.cell?_setCell_other _ _ _ _ (by intro e; injection e with e _ _; omega)]; exact hr2.c0, by rw [World.cell?_drew, World.cell?_setCell_other _ _ _ _ (by intro e; injection e with e _ _; omega)]; exact hr2.c1, by rw [World.cell?_drew, World.cell?_setCell_other _ _ _ _ (by intro e; injection e with e _ _; omega)]; exact hr2.c2, fun j => by rw [World.frozen?_drew, World.frozen?_setCell]; exact hr2.fr j, hr2.le, hr2.small⟩
  ·rw [HW.out]
   exact ⟨by rw [World.cell?_drew, World.cell?_setCell_other _ _ _ _ (fun e => by cases e)]; exact f0, by rw [World.cell?_drew, World.cell?_setCell_other _ _ _ _ (fun e => by cases e)]; exact f1, by rw [World.cell?_drew, World.cell?_setCell_same _ _ _ f2', HX.out]⟩
  ·exact (hch.setCell (p := ⟨fb, 2, none⟩) (fun h => by have h : fb < w.heap.size := h; omega) _).drew
 ·have i1 : ¬ (q : Int) < (s.size : Int) := by omega
  have hw : faultAt (toL s) code q = (code, q, []) := by
   unfold faultAt
   rw [List.drop_eq_nil_of_le (by have := Lib.size_eq s; unfold toL; omega)]; rfl
  have HW := Zh hw; clear hw
  go_wp2_with fail
  go_end0
  refine ⟨rfl, p, fb, H1.out.2.2.2.1, ?_, by omega, H1.out.2.2.2.2⟩
  rw [HW.out]
  exact ⟨H1.out.1, H1.out.2.1, H1.out.2.2.1⟩
theorem Chg.lead {S : Nat → Prop} {w w1 w2 : World} (h : Chg S w w1) (k : Chg S w1 w2) : Chg S w w2 := h.trans k
theorem RdBad.after {w w1 w2 : World} {g : Nat} {s : ByteArray} {f : PFault} (h : Chg (· = g) w w1) (k : RdBad w1 g s f w2) : RdBad w g s f w2 := by
 obtain ⟨p, fb, h1, h2, h3, h4⟩ := k
 exact ⟨p, fb, h1, h2, Nat.le_trans h.size h3, h.trans h4⟩
set_option maxRecDepth 20000 in
set_option maxHeartbeats 1000000 in
theorem stuck_any (g : Nat) (s : ByteArray) (p : Nat) (bad : Option Addr) (w : World) (h : Rd w g s p bad) :
  Calls Tryz.prog 120 #[.pointer (some ⟨g, 0, none⟩)] w fun e w' => e = .returned (.tuple #[]) ∧ RdBad w g s (stuckAt (toL s) p) w' := by
 have c0 := h.c0
 have c1 := h.c1
 have hz : (toL s).length = s.size := Lib.size_eq s
 by_cases hp : p < s.size
 ·have hs : stuckAt (toL s) p = faultAt (toL s) 50 p := by unfold stuckAt; rw [hz, if_pos hp]
  rw [hs]
  have d1 : decide ((p : Int) < (s.size : Int)) = true := by simp; omega
  have hle := h.le
  have hsm := h.small
  have HR := Zh h; clear h hs hz
  go_enter Tryz.func120, Tryz.ntmps120
  go_wp2_with fail
  go_quiet (fail)
  go_wp2_with (go_at_call 76; refine (fail_any g s p bad 50 p _ (HR.out.drewN _) (by omega)).mono ?_; rintro e w1 ⟨rfl, h1⟩)
  go_end0
  exact ⟨rfl, h1.after ((Chg.refl _ _).drewN _)⟩
 ·have hs : stuckAt (toL s) p = faultAt (toL s) 5 p := by unfold stuckAt; rw [hz, if_neg hp]
  rw [hs]
  have d1 : decide ((p : Int) < (s.size : Int)) = false := by simp; omega
  have hle := h.le
  have hsm := h.small
  have HR := Zh h; clear h hs hz
  go_enter Tryz.func120, Tryz.ntmps120
  go_wp2_with fail
  go_quiet (fail)
  go_wp2_with (go_at_call 76; refine (fail_any g s p bad 5 p _ (HR.out.drewN _) (by omega)).mono ?_; rintro e w1 ⟨rfl, h1⟩)
  go_end0
  exact ⟨rfl, h1.after ((Chg.refl _ _).drewN _)⟩
end Go.Proofs.YtlmfbjhokkpjhaaGreatDoor
