/- bough.search at [int, string]: where the first pair lies whose key is not less. -/
import Derived.Test.YtdfkokbpidkokaaRep
import Derived.Test.YtdfkokbpidkokaaCmp
namespace Go.Proofs.Ytdfkokbpidkokaa
open Go.RowKit

set_option maxHeartbeats 1000000 in
theorem search_anyB (h : Nat) (k : Int) (la : Option Addr) (L nl capl : Nat) (lb ln lc : Nat → Nat) (key : Nat → Nat → Int) (w : World) (o : Int) (q : Nat) (hq : w.cell? ⟨q, 0, none⟩ = some (.int .i64 o))
    (h0 : w.cell? ⟨h, 0, none⟩ = some (.func (.func 51) #[] #[.pointer (some ⟨q, 0, none⟩)])) (h1 : w.cell? ⟨h, 1, none⟩ = some (.slice la nl capl)) (hla : 0 < nl → la = some ⟨L, 0, none⟩)
    (hnl : nl ≤ 4611686018427387903)
    (hln : ∀ i, i < nl → 0 < ln i ∧ ln i ≤ 4611686018427387903)
    (hleaf : ∀ i, i < nl → w.cell? ⟨L, i, none⟩ = some (.slice (some ⟨lb i, 0, none⟩) (ln i) (lc i)))
    (hkey : ∀ i j, i < nl → j < ln i → w.cell? ⟨lb i, j * 2, none⟩ = some (.int .i64 (key i j)))
    (A : Nat) (hA : A ≤ nl) (hA' : ∀ i, i < nl → (cmpI o (key i (ln i - 1)) k < 0 ↔ i < A)) (B : Nat) (hB : A < nl → B ≤ ln A) (hB' : ∀ i, A < nl → i < ln A → (cmpI o (key A i) k < 0 ↔ i < B)) :
    Calls Try.prog 65 #[.pointer (some ⟨h, 0, none⟩), .int .i64 k] w fun e w' => e = .returned (if A < nl then .tuple #[.int .i64 A, .int .i64 B, .bool (decide (B < ln A) && (cmpI o (key A B) k == 0))] else .tuple #[.int .i64 nl, .int .i64 0, .bool false]) ∧ ∃ n, w' = w.drewN n := by
  have HK := Lib.hid hkey; clear hkey
  have HL := Lib.hid hleaf; clear hleaf
  have HN := Lib.hid hln; clear hln
  have HA := Lib.hid hA'; clear hA'
  have HB := Lib.hid hB'; clear hB'
  have HBB := Lib.hid hB; clear hB
  have HLA := Lib.hid hla; clear hla
  have H0 := Lib.hid h0
  have H1 := Lib.hid h1
  have HQ := Lib.hid hq; clear hq
  go_enter Try.func65, Try.ntmps65
  go_wp2
  go_quiet (fail)
  go_wp2
  clear h0 h1
  go_loopw [7, 8] (fun lo hi wr => ∃ (a b q : Nat), lo = .int .i64 a ∧ hi = .int .i64 b ∧ a ≤ A ∧ A ≤ b ∧ b ≤ nl ∧ wr = w.drewN q)
    (fun lo hi _ => (intOf hi - intOf lo).toNat)
  case atStart => exact ⟨0, nl, nq, rfl, rfl, by omega, by omega, by omega, rfl⟩
  case round =>
    obtain ⟨a, b, q2, rfl, rfl, hab, hab2, hb, hwr⟩ := hrel
    have HW := Lib.hid hwr; clear hwr
    have h0 := cellq HW.out H0.out
    have h1 := cellq HW.out H1.out
    have hq1 := cellq HW.out HQ.out
    by_cases hlt : a < b
    · obtain rfl := HLA.out (by omega)
      have hl := cellq HW.out (HL.out ((a + b) / 2) (by omega))
      have hn := HN.out ((a + b) / 2) (by omega)
      have ha := HA.out ((a + b) / 2) (by omega)
      have hk := cellq HW.out (HK.out ((a + b) / 2) (ln ((a + b) / 2) - 1) (by omega) (by omega))
      have HAm := Lib.hid ha; clear ha
      go_wp2
      have e1 : IntKind.i64.wrap (↑(ln ((a + b) / 2)) - 1) = ↑(ln ((a + b) / 2)) - 1 := IntWalk.i64_in _ (by omega)
      have e2 : (1:Int) ≤ ↑(ln ((a + b) / 2)) := by omega
      have e3 : (↑(ln ((a + b) / 2)) - 1 : Int).toNat = ln ((a + b) / 2) - 1 := by omega
      have e4 : (↑(ln ((a + b) / 2)) - 1 : Int) < ↑(ln ((a + b) / 2)) := by omega
      go_quiet ((go_at_call 51; exact quiet_eq (order_cmp q o _ _ _ (by first | exact hq1 | exact hq2))))
      clear e1 e2 e3 e4
      go_wp2
      · have hc : cmpI o (key ((a + b) / 2) (ln ((a + b) / 2) - 1)) k < 0 := by assumption
        have := HAm.out.1 hc
        go_roundw
        case rel => exact ⟨(a+b)/2 + 1, b, q2 + nq, by go_num, rfl, by omega, by omega, by omega, by rw [HW.out, World.drewN_drewN]⟩
        case measure => simp [intOf]; omega
      · have hc : ¬ cmpI o (key ((a + b) / 2) (ln ((a + b) / 2) - 1)) k < 0 := by omega
        have := mt HAm.out.2 hc
        go_roundw
        case rel => exact ⟨a, (a+b)/2, q2 + nq, rfl, by go_num, by omega, by omega, by omega, by rw [HW.out, World.drewN_drewN]⟩
        case measure => simp [intOf]; omega
    · obtain rfl : a = A := by omega
      obtain rfl : a = b := by omega
      by_cases hlast : a < nl
      · obtain rfl := HLA.out (by omega)
        have t1 : ((a : Int) == nl) = false := by simp; omega
        have hl := cellq HW.out (HL.out a hlast)
        have hn := HN.out a hlast
        have hB := HBB.out hlast
        go_wp2
        clear h0 h1 hl t1
        clear hq1
        go_loopw [12, 13] (fun lo hi w2 => ∃ (i j q : Nat), lo = .int .i64 i ∧ hi = .int .i64 j ∧ i ≤ B ∧ B ≤ j ∧ j ≤ ln a ∧ w2 = w.drewN q)
          (fun lo hi _ => (intOf hi - intOf lo).toNat)
        case atStart => exact ⟨0, ln a, q2, rfl, rfl, by omega, by omega, by omega, HW.out⟩
        case round =>
          obtain ⟨i, j, q3, rfl, rfl, hij, hij2, hj, hw2⟩ := hrel
          have HW2 := Lib.hid hw2; clear hw2
          have h0 := cellq HW2.out H0.out
          have hq2 := cellq HW2.out HQ.out
          by_cases hlt2 : i < j
          · have hb := HB.out ((i + j) / 2) hlast (by omega)
            have hk := cellq HW2.out (HK.out a ((i + j) / 2) (by omega) (by omega))
            have HBm := Lib.hid hb; clear hb
            go_wp2
            have e4 : ((i + j) / 2 : Int) < ↑(ln a) := by omega
            go_quiet ((go_at_call 51; exact quiet_eq (order_cmp q o _ _ _ (by first | exact hq1 | exact hq2))))
            clear e4
            go_wp2
            · have hc : cmpI o (key a ((i + j) / 2)) k < 0 := by assumption
              have := HBm.out.1 hc
              go_roundw
              case rel => exact ⟨(i+j)/2 + 1, j, q3 + nq, by go_num, rfl, by omega, by omega, by omega, by rw [HW2.out, World.drewN_drewN]⟩
              case measure => simp [intOf]; omega
            · have hc : ¬ cmpI o (key a ((i + j) / 2)) k < 0 := by omega
              have := mt HBm.out.2 hc
              go_roundw
              case rel => exact ⟨i, (i+j)/2, q3 + nq, rfl, by go_num, by omega, by omega, by omega, by rw [HW2.out, World.drewN_drewN]⟩
              case measure => simp [intOf]; omega
          · obtain rfl : i = B := by omega
            obtain rfl : i = j := by omega
            by_cases hf : i < ln a
            · have hk := cellq HW2.out (HK.out a i (by omega) (by omega))
              go_wp2
              go_quiet ((go_at_call 51; exact quiet_eq (order_cmp q o _ _ _ (by first | exact hq1 | exact hq2))))
              go_wp2
              go_ret3
              exact ⟨by simp, q3 + nq, by rw [HW2.out, World.drewN_drewN]⟩
            · have hf2 : decide (i < ln a) = false := by simpa using hf
              go_wp2
              go_quiet ((go_at_call 51; exact quiet_eq (order_cmp q o _ _ _ (by first | exact hq1 | exact hq2))))
              go_wp2
              go_ret3
              exact ⟨by simp, q3 + nq, by rw [HW2.out, World.drewN_drewN]⟩
      · obtain rfl : a = nl := by omega
        go_wp2
        go_ret3
        exact ⟨by simp, q2, HW.out⟩

/-- the row's element types in this program -/
abbrev RepB (w : World) (cv : Value) (h : Nat) (lo : Option Nat) (cl : Nat) (ls : List (Leaf Int Value)) : Prop := BRep (.int .i64) 99 107 120 w cv h lo cl ls

theorem search_repB {w : World} {h : Nat} {lo : Option Nat} {cl : Nat} {ls : List (Leaf Int Value)} {o : Int} {q : Nat} (R : RepB w (.func (.func 51) #[] #[.pointer (some ⟨q, 0, none⟩)]) h lo cl ls) (k : Int) (hs : Sorted (cmpI o) (flat ls)) (hsz : (flat ls).length ≤ 4611686018427387903) (hq : w.cell? ⟨q, 0, none⟩ = some (.int .i64 o)) :
    Calls Try.prog 65 #[.pointer (some ⟨h, 0, none⟩), .int .i64 k] w fun e w' => e = .returned (.tuple #[.int .i64 (loc ls (rk (cmpI o) (flat ls) k)).1, .int .i64 (loc ls (rk (cmpI o) (flat ls) k)).2, .bool (hasL (cmpI o) (flat ls) k)]) ∧ ∃ n, w' = w.drewN n := by
  have hr := rk_le (cmpI o) (flat ls) k
  have hi := fun i p => rk_iff (cmpI o) (cmpI_ord o) hs (k := k) (i := i) (p := p)
  have hll := fun i (h : i < ls.length) => loc_lt ls _ hr h
  obtain ⟨s1, s2, s3, s4⟩ := loc_spec ls _ hr
  have hnl := R.nl_le
  generalize hA : (loc ls (rk (cmpI o) (flat ls) k)).1 = A at *
  generalize hB : (loc ls (rk (cmpI o) (flat ls) k)).2 = B at *
  have hg : ∀ i (h : i < ls.length), ls.getD i ⟨0, 0, []⟩ = ls[i] := fun i h => by simp [List.getD, List.getElem?_eq_getElem h]
  let lf : Nat → Leaf Int Value := fun i => ls.getD i ⟨0, 0, []⟩
  have hlf : ∀ i (h : i < ls.length), lf i = ls[i] := hg
  refine (search_anyB h k (lo.map fun g => ⟨g, 0, none⟩) (lo.getD 0) ls.length cl (fun i => (lf i).b) (fun i => (lf i).ps.length) (fun i => (lf i).c)
    (fun i j => ((lf i).ps.map (·.1)).getD j default) w o q hq R.c0 R.c1 ?_ (by omega) ?_ ?_ ?_ A s1 ?_ B ?_ ?_).mono ?_
  · intro hp
    obtain ⟨L, rfl⟩ := R.some_of hp
    rfl
  · intro i h
    have := R.pos h
    simp only [hlf i h]
    omega
  · intro i h
    obtain ⟨L, rfl⟩ := R.some_of (by omega)
    simp only [hlf i h]
    exact R.leaf h
  · intro i j h hj
    simp only [hlf i h] at hj ⊢
    have := R.key h hj
    simpa [List.getD, List.getElem?_eq_getElem hj] using this
  · intro i h
    have hp := R.pos h
    have hf := flat_get h (show (ls[i]).ps.length - 1 < (ls[i]).ps.length by omega)
    have h1 := hi _ _ hf
    have h2 := hll i h
    rw [off_succ h] at h2
    simp only [hlf i h]
    rw [← h2]
    simp only [List.getD, List.getElem?_map, List.getElem?_eq_getElem (show (ls[i]).ps.length - 1 < (ls[i]).ps.length by omega), Option.map_some, Option.getD_some]
    rw [h1]
    omega
  · intro h
    have := s3 h
    simp only [hlf A h]
    omega
  · intro j h hj
    simp only [hlf A h] at hj ⊢
    have hf := flat_get h hj
    have h1 := hi _ _ hf
    simp only [List.getD, List.getElem?_map, List.getElem?_eq_getElem hj, Option.map_some, Option.getD_some]
    rw [h1]
    omega
  · rintro e w' ⟨rfl, hw⟩
    refine ⟨?_, hw⟩
    by_cases h : A < ls.length
    · rw [if_pos h]
      have h3 := s3 h
      have hf := flat_get h h3
      have e : hasL (cmpI o) (flat ls) k = (cmpI o ((ls[A]).ps[B]).1 k == 0) := by
        unfold hasL
        rw [← s2, hf]
      rw [e]
      simp only [hlf A h, List.getD, List.getElem?_map, List.getElem?_eq_getElem h3, Option.map_some, Option.getD_some, h3, decide_true, Bool.true_and]
    · rw [if_neg h]
      have h4 := s4 (by omega)
      have e : hasL (cmpI o) (flat ls) k = false := by
        unfold hasL
        rw [h4.2, List.getElem?_eq_none (Nat.le_refl _)]
      rw [e, h4.1, show A = ls.length by omega]
      rfl
end Go.Proofs.Ytdfkokbpidkokaa
