/- rosterref12.Bough, the document's answer for pairs: its methods Rank (56), at (67), Get (55), Len (29), Nth (57). -/
import Derived.Test.YtdfkokbpidkokaaSeq2
import Derived.Test.YtdfkokbpidkokaaUp0
import Derived.Test.YtdfkokbpidkokaaCmp
namespace Go.Proofs.Ytdfkokbpidkokaa
open Go.RowKit

def pcl (l : List (Int × ByteArray)) : List Value := cells (.int .i64) (l.map (onV Value.string))
@[simp] theorem pcl_length (l : List (Int × ByteArray)) : (pcl l).length = l.length * 2 := by simp [pcl]
theorem pcl_one (l : List (Int × ByteArray)) : ∀ u ∈ pcl l, u.oneCell' = true :=
  cells_one _ (fun _ => rfl) _ (fun p hp => by obtain ⟨x, _, rfl⟩ := List.mem_map.1 hp; rfl)
theorem pcl_append (xs ys : List (Int × ByteArray)) : pcl (xs ++ ys) = pcl xs ++ pcl ys := by simp [pcl]
theorem pcl_take (xs : List (Int × ByteArray)) (n : Nat) : (pcl xs).take (n * 2) = pcl (xs.take n) := by unfold pcl; rw [cells_take, List.map_take]
theorem pcl_drop (xs : List (Int × ByteArray)) (n : Nat) : (pcl xs).drop (n * 2) = pcl (xs.drop n) := by unfold pcl; rw [cells_drop, List.map_drop]
theorem pcl_key (l : List (Int × ByteArray)) {i : Nat} (hi : i < l.length) : (pcl l)[i * 2]? = some (.int .i64 (l[i]).1) := by
  unfold pcl; rw [cells_key _ _ _ (by simpa using hi)]; simp [onV]
theorem pcl_val (l : List (Int × ByteArray)) {i : Nat} (hi : i < l.length) : (pcl l)[i * 2 + 1]? = some (.string (l[i]).2) := by
  unfold pcl; rw [cells_val _ _ _ (by simpa using hi)]; simp [onV]

/-- at t lie the order and the pairs -/
structure PRep (w : World) (o : Int) (t : Nat) (l : List (Int × ByteArray)) (pg : Option Nat) (pc : Nat) : Prop where
  hd : w.heap[t]? = some (.cells #[.int .i64 o, sv pg l.length pc] 102 (0, 0))
  r : Own w 105 2 pg l.length pc (pcl l)
  tp : ∀ g, pg = some g → g ≠ t

section
variable {w : World} {o : Int} {t : Nat} {l : List (Int × ByteArray)} {pg : Option Nat} {pc : Nat}
theorem PRep.lt (T : PRep w o t l pg pc) : t < w.heap.size := (Array.getElem?_eq_some_iff.1 T.hd).1
theorem PRep.plt (T : PRep w o t l pg pc) : ∀ g, pg = some g → g < w.heap.size := fun g h => by have := T.r; rw [h] at this; exact this.row.lt
theorem PRep.keep {w' : World} (T : PRep w o t l pg pc) (h0 : w'.heap[t]? = w.heap[t]?) (h1 : ∀ g, pg = some g → w'.heap[g]? = w.heap[g]?) : PRep w' o t l pg pc where
  hd := h0.trans T.hd
  r := T.r.keep h1
  tp := T.tp
theorem PRep.chg {S : Nat → Prop} {w' : World} (T : PRep w o t l pg pc) (hc : Chg S w w') (h0 : ¬ S t) (h1 : ∀ g, pg = some g → ¬ S g) : PRep w' o t l pg pc :=
  T.keep (hc.block t T.lt h0) (fun g hg => hc.block g (T.plt g hg) (h1 g hg))
theorem PRep.drewN (T : PRep w o t l pg pc) (n : Nat) : PRep (w.drewN n) o t l pg pc := T.keep rfl (fun _ _ => rfl)
theorem PRep.c0 (T : PRep w o t l pg pc) : w.cell? ⟨t, 0, none⟩ = some (.int .i64 o) := by rw [cell_of_row _ _ 0 _ _ (0, 0) T.hd]; rfl
theorem PRep.c1 (T : PRep w o t l pg pc) : w.cell? ⟨t, 1, none⟩ = some (sv pg l.length pc) := by rw [cell_of_row _ _ 1 _ _ (0, 0) T.hd]; rfl
theorem PRep.fr (T : PRep w o t l pg pc) (j : Nat) : w.frozen? ⟨t, j, none⟩ = false := frozen_of_row _ _ _ _ _ T.hd
theorem PRep.key {g : Nat} (T : PRep w o t l (some g) pc) {i : Nat} (hi : i < l.length) : w.cell? ⟨g, i * 2, none⟩ = some (.int .i64 (l[i]).1) := T.r.row.cell (pcl_key l hi)
theorem PRep.val {g : Nat} (T : PRep w o t l (some g) pc) {i : Nat} (hi : i < l.length) : w.cell? ⟨g, i * 2 + 1, none⟩ = some (.string (l[i]).2) := T.r.row.cell (pcl_val l hi)
theorem PRep.some' (T : PRep w o t l pg pc) (h : 0 < l.length) : ∃ g, pg = some g := by
  cases pg with
  | none => have := T.r.2.1; omega
  | some g => exact ⟨g, rfl⟩
theorem PRep.le (T : PRep w o t l pg pc) : l.length ≤ pc := by
  cases pg with
  | none => have := T.r.2.1; omega
  | some g => exact T.r.le

set_option maxRecDepth 20000 in
set_option maxHeartbeats 1000000 in
theorem rank_p (T : PRep w o t l pg pc) (k : Int) (hl : l.length ≤ 4611686018427387903) :
    Calls Try.prog 56 #[.pointer (some ⟨t, 0, none⟩), .int .i64 k] w fun e w' => e = .returned (.int .i64 (rk (cmpI o) l k)) ∧ ∃ n, w' = w.drewN n := by
  have HT := Lib.hid T; clear T
  have hrl := rk_le (cmpI o) l k
  go_enter Try.func56, Try.ntmps56
  go_wp2
  go_loopw [5] (fun iv' wr => ∃ i q : Nat, iv' = .int .i64 i ∧ i ≤ rk (cmpI o) l k ∧ wr = w.drewN q) (fun iv' _ => (rk (cmpI o) l k - intOf iv').toNat)
  case atStart => exact ⟨0, 0, rfl, Nat.zero_le _, rfl⟩
  case round =>
    obtain ⟨i, q, rfl, hi, hwr⟩ := hrel
    have T2 : Hid (PRep wr o t l pg pc) := by rw [hwr]; exact HT.out.drewN q
    have HW := Lib.hid hwr; clear hwr
    have hc0 := T2.out.c0
    have hc1 := T2.out.c1
    simp only [sv] at hc1
    by_cases hlt : i < l.length
    · obtain ⟨g, rfl⟩ := T2.out.some' (by omega)
      simp only [Option.map_some] at hc1
      have hk := T2.out.key hlt
      have b1 : ((i : Int) < l.length) := by omega
      have b0 : (0 : Int) ≤ i := by omega
      by_cases hr : i < rk (cmpI o) l k
      · have h1 := rk_lt (cmpI o) hr (List.getElem?_eq_getElem hlt)
        generalize l[i] = z at hk h1
        go_wp2_with fail
        go_quiet ((go_at_call 52; exact quiet_eq (cmp_any o _ _ _)))
        go_wp2
        go_roundw
        case rel => exact ⟨i + 1, q + nq, by go_num, hr, by rw [HW.out, World.drewN_drewN]⟩
        case measure => simp [intOf]; omega
      · obtain rfl : i = rk (cmpI o) l k := by omega
        have h1 := rk_ge_first (c := cmpI o) (List.getElem?_eq_getElem hlt)
        generalize l[rk (cmpI o) l k] = z at hk h1
        generalize hrr : rk (cmpI o) l k = r at *
        have HR := Lib.hid hrr; clear hrr
        go_wp2_with fail
        go_quiet ((go_at_call 52; exact quiet_eq (cmp_any o _ _ _)))
        go_wp2
        go_ret
        exact ⟨by rw [HR.out]; rfl, q + nq, by rw [HW.out, World.drewN_drewN]⟩
    · obtain rfl : i = rk (cmpI o) l k := by omega
      have hd : decide (((rk (cmpI o) l k : Nat) : Int) < l.length) = false := by simp; omega
      generalize hrr : rk (cmpI o) l k = r at *
      have HR := Lib.hid hrr; clear hrr
      go_wp2_with fail
      go_quiet ((go_at_call 52; exact quiet_eq (cmp_any o _ _ _)))
      go_wp2
      go_ret
      exact ⟨by rw [HR.out]; rfl, q + nq, by rw [HW.out, World.drewN_drewN]⟩

theorem hasL_pt {k : Int} (h : rk (cmpI o) l k < l.length) : hasL (cmpI o) l k = (cmpI o (l[rk (cmpI o) l k]).1 k == 0) := hasL_at (cmpI o) l k _ (List.getElem?_eq_getElem h)
/-- what 'at' tells -/
def atV (o : Int) (l : List (Int × ByteArray)) (k : Int) : Int := if hasL (cmpI o) l k then (rk (cmpI o) l k : Int) else -1
theorem atV_yes {k : Int} (h : hasL (cmpI o) l k = true) : atV o l k = rk (cmpI o) l k := by unfold atV; rw [if_pos h]
theorem atV_no {k : Int} (h : hasL (cmpI o) l k = false) : atV o l k = -1 := by unfold atV; rw [if_neg (by rw [h]; simp)]
set_option maxRecDepth 20000 in
set_option maxHeartbeats 1000000 in
theorem at_p (T : PRep w o t l pg pc) (k : Int) (hl : l.length ≤ 4611686018427387903) :
    Calls Try.prog 67 #[.pointer (some ⟨t, 0, none⟩), .int .i64 k] w fun e w' => e = .returned (.int .i64 (atV o l k)) ∧ ∃ n, w' = w.drewN n := by
  have HR := Lib.hid (rank_p T k hl)
  have HT := Lib.hid T; clear T
  have hrl := rk_le (cmpI o) l k
  go_enter Try.func67, Try.ntmps67
  go_wp2_with fail
  refine HR.out.mono ?_
  rintro e w1 ⟨rfl, n1, rfl⟩
  have T2 := Lib.hid (HT.out.drewN n1)
  have HD : Hid (∀ n, ∃ m, (w.drewN n1).drewN n = w.drewN m) := fun n => ⟨_, World.drewN_drewN _ _ _⟩
  generalize w.drewN n1 = w1 at T2 HD ⊢
  have hc0 := T2.out.c0
  have hc1 := T2.out.c1
  simp only [sv] at hc1
  clear HR
  by_cases hlt : rk (cmpI o) l k < l.length
  · have hh := hasL_pt hlt
    obtain ⟨g, rfl⟩ := T2.out.some' (by omega)
    simp only [Option.map_some] at hc1
    have hk := T2.out.key hlt
    have b0 : (0 : Int) ≤ rk (cmpI o) l k := by omega
    have b1 : ((rk (cmpI o) l k : Nat) : Int) < l.length := by omega
    have b2 : (((rk (cmpI o) l k : Nat) : Int) == l.length) = false := by simp; omega
    generalize l[rk (cmpI o) l k] = z at hh hk
    cases hb : (cmpI o z.1 k == 0)
    · have e1 : (cmpI o z.1 k != 0) = true := by simp [bne, hb]
      rw [hb] at hh
      have HH := Lib.hid (atV_no hh); clear hh hb
      generalize rk (cmpI o) l k = r at *
      go_wp2_with fail
      go_quiet ((go_at_call 52; exact quiet_eq (cmp_any o _ _ _)))
      obtain ⟨m, hm⟩ := HD.out nq
      have HM := Lib.hid hm; clear hm
      go_wp2
      go_ret
      exact ⟨by rw [HH.out]; rfl, m, HM.out⟩
    · have e1 : (cmpI o z.1 k != 0) = false := by simp [bne, hb]
      rw [hb] at hh
      have HH := Lib.hid (atV_yes hh); clear hh hb
      generalize rk (cmpI o) l k = r at *
      go_wp2_with fail
      go_quiet ((go_at_call 52; exact quiet_eq (cmp_any o _ _ _)))
      obtain ⟨m, hm⟩ := HD.out nq
      have HM := Lib.hid hm; clear hm
      go_wp2
      go_ret
      exact ⟨by rw [HH.out]; rfl, m, HM.out⟩
  · have hh := atV_no (hasL_end (cmpI o) l k hlt)
    have b2 : (((rk (cmpI o) l k : Nat) : Int) == l.length) = true := by simp; omega
    have HH := Lib.hid hh; clear hh
    generalize rk (cmpI o) l k = r at *
    go_wp2_with fail
    go_quiet ((go_at_call 52; exact quiet_eq (cmp_any o _ _ _)))
    obtain ⟨m, hm⟩ := HD.out nq
    have HM := Lib.hid hm; clear hm
    go_wp2
    go_ret
    exact ⟨by rw [HH.out]; rfl, m, HM.out⟩

set_option maxRecDepth 20000 in
set_option maxHeartbeats 1000000 in
theorem get_p (T : PRep w o t l pg pc) (k : Int) (hl : l.length ≤ 4611686018427387903) :
    Calls Try.prog 55 #[.pointer (some ⟨t, 0, none⟩), .int .i64 k] w fun e w' => e = .returned (.tuple #[.string ((getL (cmpI o) l k).getD ByteArray.empty), .bool (hasL (cmpI o) l k)]) ∧ ∃ n, w' = w.drewN n := by
  have HA := Lib.hid (at_p T k hl)
  have HT := Lib.hid T; clear T
  have hrl := rk_le (cmpI o) l k
  cases hh : hasL (cmpI o) l k
  · have hg : getL (cmpI o) l k = none := by have := hasL_isSome (cmpI o) l k; rw [hh] at this; cases hz : getL (cmpI o) l k with | none => rfl | some v => rw [hz] at this; cases this
    have ha := HA.out
    rw [atV_no hh] at ha
    have HA2 := Lib.hid ha; clear ha HA hh
    have HG := Lib.hid hg; clear hg
    go_enter Try.func55, Try.ntmps55
    go_wp2_with fail
    refine HA2.out.mono ?_
    rintro e w1 ⟨rfl, n1, rfl⟩
    go_wp2
    go_ret2
    exact ⟨by rw [HG.out]; rfl, n1, rfl⟩
  · have hlt := hasL_lt (cmpI o) hh
    have hg : getL (cmpI o) l k = some (l[rk (cmpI o) l k]).2 := by
      have h2 := hasL_pt hlt
      rw [hh] at h2
      unfold getL
      rw [List.getElem?_eq_getElem hlt]
      simp [← h2]
    have ha := HA.out
    rw [atV_yes hh] at ha
    have HA2 := Lib.hid ha; clear ha HA hh
    obtain ⟨g, rfl⟩ := HT.out.some' (by omega)
    have b0 : (0 : Int) ≤ rk (cmpI o) l k := by omega
    have b1 : ((rk (cmpI o) l k : Nat) : Int) < l.length := by omega
    have HK := Lib.hid (fun n => (HT.out.drewN n).val hlt)
    generalize l[rk (cmpI o) l k] = z at hg HK
    generalize rk (cmpI o) l k = r at *
    have HG := Lib.hid hg; clear hg
    go_enter Try.func55, Try.ntmps55
    go_wp2_with fail
    refine HA2.out.mono ?_
    rintro e w1 ⟨rfl, n1, rfl⟩
    have hk := HK.out n1
    have hc1 := (HT.out.drewN n1).c1
    simp only [sv, Option.map_some] at hc1
    go_wp2
    go_ret2
    exact ⟨by rw [HG.out]; rfl, n1, rfl⟩

set_option maxRecDepth 20000 in
set_option maxHeartbeats 1000000 in
theorem len_p (T : PRep w o t l pg pc) : Calls Try.prog 29 #[.pointer (some ⟨t, 0, none⟩)] w fun e w' => e = .returned (.int .i64 l.length) ∧ w = w' := by
  have hc1 := T.c1
  simp only [sv] at hc1
  clear T
  go_enter Try.func29, Try.ntmps29
  go_wp2
  go_ret
  exact ⟨rfl, rfl⟩

set_option maxRecDepth 20000 in
set_option maxHeartbeats 1000000 in
theorem nth_in_p (T : PRep w o t l pg pc) (i : Nat) (hi : i < l.length) (hl : l.length ≤ 4611686018427387903) :
    Calls Try.prog 57 #[.pointer (some ⟨t, 0, none⟩), .int .i64 i] w fun e w' => e = .returned (.tuple #[.int .i64 (l[i]).1, .string (l[i]).2, .bool true]) ∧ ∃ n, w' = w.drewN n := by
  obtain ⟨g, rfl⟩ := T.some' (by omega)
  have hc1 := T.c1
  simp only [sv, Option.map_some] at hc1
  have hk := T.key hi
  have hv := T.val hi
  have b0 : (0 : Int) ≤ i := by omega
  have b1 : (i : Int) < l.length := by omega
  clear T
  generalize l[i] = z at *
  go_enter Try.func57, Try.ntmps57
  go_wp2
  go_quiet (fail)
  go_wp2
  go_ret3
  exact ⟨rfl, nq, rfl⟩

set_option maxRecDepth 20000 in
set_option maxHeartbeats 1000000 in
theorem nth_out_p (T : PRep w o t l pg pc) (i : Int) (hi : i < 0 ∨ l.length ≤ i) :
    Calls Try.prog 57 #[.pointer (some ⟨t, 0, none⟩), .int .i64 i] w fun e w' => e = .returned (.tuple #[.int .i64 0, .string ⟨#[]⟩, .bool false]) ∧ w = w' := by
  have hc1 := T.c1
  simp only [sv] at hc1
  clear T
  by_cases h0 : i < 0
  · clear hi
    go_enter Try.func57, Try.ntmps57
    go_wp2
    go_ret3
    exact ⟨rfl, rfl⟩
  · have h1 : (l.length : Int) ≤ i := by omega
    have h2 : (0 : Int) ≤ i := by omega
    clear hi h0
    go_enter Try.func57, Try.ntmps57
    go_wp2
    go_ret3
    exact ⟨rfl, rfl⟩
end
end Go.Proofs.Ytdfkokbpidkokaa
