/- Part 18 of the walks and plain laws, joined: Named. -/
import Derived.Test.YtlmfbjhokkpjhaaGreatDoorML00
import Derived.Test.YtlmfbjhokkpjhaaGreatDoorML17
set_option linter.unusedVariables false
set_option linter.unusedSimpArgs false
namespace Go.Proofs.YtlmfbjhokkpjhaaGreatDoor
open Go Go.RowKit
def nameOk (n : ByteArray) : Bool := wordB (toL n) && decide (n.size ≤ 65536)
theorem namedE_bad {oid : ByteArray} {names : List ByteArray} (h : oidB (toL oid) = false ∨ 65536 < oid.size ∨ names = []) : namedE oid names = 50 := by
 unfold namedE
 rw [if_pos]
 rcases h with h | h | h
 ·simp [h]
 ·simp [h]
 ·simp [h]
theorem namedE_ok {oid : ByteArray} {names : List ByteArray} (h1 : oidB (toL oid) = true) (h2 : oid.size ≤ 65536) (h3 : names ≠ []) : namedE oid names = if names.all nameOk then (if 16 < names.length then 3 else 0) else 50 := by
 unfold namedE
 rw [if_neg]
 ·rfl
 ·cases names with
  | nil => exact absurd rfl h3
  | cons a l => simp [h1]; omega
set_option maxRecDepth 20000 in
set_option maxHeartbeats 1000000 in
theorem named_any (oid : ByteArray) (B : Nat) (a : Option Addr) (n c : Nat) (names : List ByteArray) (w : World) (E : EnvS w) (h : Texts B w a n c names) (hB : B ≤ w.heap.size) (ho : oid.size ≤ 4294967280) :
  Calls Tryz.prog 90 #[.string oid, .slice a n c] w fun e w' => e = .returned (.int .i64 (namedE oid names)) ∧ Below w.heap.size w w' := by
 have hl := h.len
 have HN := Zh hl; have H := Zh h; have HE := Zh E; have HBB := Zh hB; have HO := Zh ho; clear h hl E hB ho
 have K := Zh (fun s w (hs : s.size ≤ 4294967280) (hE : EnvS w) => isOid_any s w hE hs)
 go_enter Tryz.func90, Tryz.ntmps90
 go_wp2_with (first | (go_at_call 132; with_reducible refine (K.out oid _ HO.out HE.out).mono ?_; rintro e w1 ⟨rfl, hb1⟩; have HB1 := Zh hb1; clear hb1) | fail)
 rotate_left
 ·rename_i h1 h2 h3 kx ky
  have h3' : 0 < names.length := by have := HN.out; have h4 := h3.2; simp only [beq_eq_false_iff_ne] at h4; omega
  have hne : names ≠ [] := by intro e; rw [e] at h3'; simp at h3'
  have hok := namedE_ok h1 (by omega) hne
  have HK := Zh hok; clear hok h1 h2 h3 hne
  obtain ⟨b, o, rfl, hb⟩ := H.out.lies.ptr (by have := HN.out; omega)
  have hlt0 : b < w.heap.size := Nat.lt_of_lt_of_le hb HBB.out
  have HLT := Zh hlt0; clear hb hlt0 h3'
  have hns : n ≤ 4294967280 := H.out.small
  go_loop [22] (fun iv => ∃ i : Nat, iv = .int .i64 i ∧ i ≤ n ∧ names.all nameOk = (names.drop i).all nameOk) (fun iv => n - (intOf iv).toNat)
  case atStart => exact ⟨0, rfl, Nat.zero_le _, rfl⟩
  case round =>
   obtain ⟨i, rfl, hi, ht⟩ := hrel
   have HT := Zh ht; clear ht
   by_cases hlt : i < n
   ·have hli : i < names.length := by have := HN.out; omega
    have hc := H.out.cell b o rfl i _ (List.getElem?_eq_getElem hli)
    rw [← HB1.out.cell (p := ⟨b, o + i, none⟩) HLT.out] at hc
    have hsz := H.out.size _ (List.getElem_mem hli)
    have hd : (names.drop i).all nameOk = (nameOk names[i] && (names.drop (i + 1)).all nameOk) := by rw [List.drop_eq_getElem_cons hli]; rfl
    rw [hd] at HT
    clear hd
    unfold nameOk at HT
    generalize names[i] = s at hc hsz HT
    have cw := fun w => isWord_any s w (by omega)
    cases hW : wordB (toL s) with
    | false =>
     rw [hW] at HT cw
     have CW := Zh cw; clear cw hW
     go_wp2_with (first | (go_at_call 133; with_reducible refine (CW.out _).mono ?_; rintro e w2 ⟨rfl, rfl⟩) | fail)
     go_ret
     refine ⟨?_, HB1.out⟩
     rw [HK.out]; unfold nameOk; rw [HT.out]; rfl
    | true =>
     rw [hW] at HT cw
     have CW := Zh cw; clear cw hW
     by_cases hs : (65536 : Int) < s.size
     ·rw [decide_eq_false (by omega)] at HT
      go_wp2_with (first | (go_at_call 133; with_reducible refine (CW.out _).mono ?_; rintro e w2 ⟨rfl, rfl⟩) | fail)
      go_ret
      refine ⟨?_, HB1.out⟩
      rw [HK.out]; unfold nameOk; rw [HT.out]; rfl
     ·rw [decide_eq_true (by omega)] at HT
      have hs2 : (s.size : Int) ≤ 65536 := by omega
      clear hs
      go_wp2_with (first | (go_at_call 133; with_reducible refine (CW.out _).mono ?_; rintro e w2 ⟨rfl, rfl⟩) | fail)
      exact ⟨⟨i + 1, by simp, by omega, by unfold nameOk; rw [HT.out]; simp⟩, by simp [intOf]; omega⟩
   ·have hie : i = n := by omega
    rw [List.drop_eq_nil_of_le (by have := HN.out; omega)] at HT
    have hall : names.all nameOk = true := HT.out
    have HA := Zh hall; clear hall hie HT
    by_cases h16 : (16 : Int) < n
    ·go_wp2_with fail
     go_ret
     exact ⟨by rw [HK.out, HA.out, if_pos rfl, if_pos (by have := HN.out; omega)]; rfl, HB1.out⟩
    ·go_wp2_with fail
     go_ret
     exact ⟨by rw [HK.out, HA.out, if_pos rfl, if_neg (by have := HN.out; omega)]; rfl, HB1.out⟩
 ·rename_i h1 h2
  go_ret
  exact ⟨by rw [namedE_bad (.inr (.inl (by omega)))]; rfl, HB1.out⟩
 ·rename_i h1
  go_ret
  exact ⟨by rw [namedE_bad (.inl (by simpa using h1))]; rfl, HB1.out⟩
 ·rename_i h1 h2 h3
  go_ret
  refine ⟨?_, HB1.out⟩
  rw [namedE_bad]; rfl
  rcases h3 with h3 | h3
  ·exact .inr (.inl (by omega))
  ·refine .inr (.inr ?_)
   have : names.length = 0 := by have := HN.out; have h4 := beq_iff_eq.1 h3; omega
   exact List.eq_nil_of_length_eq_zero this
end Go.Proofs.YtlmfbjhokkpjhaaGreatDoor
