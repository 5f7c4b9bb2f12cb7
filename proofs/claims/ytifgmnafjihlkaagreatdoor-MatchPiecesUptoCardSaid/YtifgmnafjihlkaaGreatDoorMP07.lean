/- Part 7 of the walks and plain laws, joined: MatKey, Piece, Word, SchP, SchM. -/
import Derived.Test.YtifgmnafjihlkaaGreatDoorMP06
import Derived.Test.YtifgmnafjihlkaaGreatDoorMP02
import Derived.Test.YtifgmnafjihlkaaGreatDoorMP01
import Derived.Below
/- match.sortOf, truth, Key under a rule of a form. -/
namespace Go.Proofs.YtifgmnafjihlkaaGreatDoor
open Go Go.RowKit

set_option maxRecDepth 20000 in
theorem sortOf_any (r : Int) (w : World) (E : EnvM w) (hr : -128 ≤ r ∧ r ≤ 127) :
    Calls Tryz.prog 59 #[.int .i8 r] w fun e w' => e = .returned (.int .i8 (sortV r)) ∧ w = w' := by
  obtain ⟨r1, r2⟩ := hr
  by_cases hneg : r < 0
  · have hs : sortV r = 0 := by unfold sortV; rw [if_neg (by omega)]
    rw [hs]; clear hs E
    go_enter Tryz.func59, Tryz.ntmps59
    go_wp2_with fail
    go_ret
    exact ⟨rfl, rfl⟩
  · by_cases h21 : 21 ≤ r
    · have hs : sortV r = 0 := by unfold sortV; rw [if_neg (by omega)]
      rw [hs]; clear hs E
      have h0 : 0 ≤ r := by omega
      clear hneg
      go_enter Tryz.func59, Tryz.ntmps59
      go_wp2_with fail
      go_ret
      exact ⟨rfl, rfl⟩
    · obtain ⟨n, rfl⟩ : ∃ n : Nat, r = (n : Int) := ⟨r.toNat, by omega⟩
      have hn : n < 21 := by omega
      have hl : sortsV.length = 21 := rfl
      have hc := E.sorts n sortsV[n] (List.getElem?_eq_getElem (by omega))
      have hs : sortV (n : Int) = sortsV[n] := by
        unfold sortV; rw [if_pos (by omega)]
        show sortsV.getD n 0 = _
        rw [List.getD_eq_getElem?_getD, List.getElem?_eq_getElem (by omega)]; rfl
      rw [hs]
      generalize sortsV[n] = v at hc ⊢
      have hn2 : (n : Int) < 21 := by omega
      have hn3 : (0 : Int) ≤ n := by omega
      clear hs E h21 hneg r1 r2 hl
      go_enter Tryz.func59, Tryz.ntmps59
      go_wp2_with fail
      go_ret
      exact ⟨rfl, rfl⟩

theorem truth_any (b : Bool) (w : World) : Calls Tryz.prog 75 #[.bool b] w fun e w' => e = .returned (.int .i8 (truthV b)) ∧ w = w' := by
  cases b <;> (
    go_enter Tryz.func75, Tryz.ntmps75
    go_wp2_with fail
    go_ret
    exact ⟨rfl, rfl⟩)

set_option maxRecDepth 20000 in
theorem mkey_nil (r : Int) (v : ByteArray) (w : World) : Calls Tryz.prog 15 #[.pointer none, .int .i8 r, .string v] w fun e w' => e = .returned (ret2 ([], false)) ∧ w = w' := by
  go_enter Tryz.func15, Tryz.ntmps15
  go_wp2_with fail
  go_ret2
  exact ⟨rfl, rfl⟩

set_option maxRecDepth 20000 in
set_option maxHeartbeats 1000000 in
theorem mkey_form (p : Addr) (r : Int) (v : ByteArray) (w : World) (hE : Env w) (hES : EnvS w) (hEM : EnvM w) (hr : -128 ≤ r ∧ r ≤ 127) (h19 : r ≠ 19) (h20 : r ≠ 20) :
    Calls Tryz.prog 15 #[.pointer (some p), .int .i8 r, .string v] w fun e w' => e = .returned (ret2 (keyM r (toL v))) ∧ Below w.heap.size w w' := by
  have hso := sortOf_any r w hEM hr
  have hfo := form_any r w hES hr
  have hkey := fun w' (hb : Below w.heap.size w w') => key_any (lineOf r).form v w' (hE.next hb)
  have b19 : (r == 19) = false := beq_eq_false_iff_ne.2 h19
  have b20 : (r == 20) = false := beq_eq_false_iff_ne.2 h20
  obtain ⟨so, hs⟩ : ∃ so, sortV r = so := ⟨_, rfl⟩
  have hk : keyM r (toL v) = if so = 0 then ([], false) else keyL (lineOf r).form (toL v) := by unfold keyM; rw [hs]
  rw [hs] at hso
  have hno := @keyL_no (lineOf r).form (toL v)
  change ∀ w' (_ : Below w.heap.size w w'), Calls Tryz.prog 60 #[.int .i8 (lineOf r).form, .string v] w' fun e w'' => e = .returned (ret2 (keyL (lineOf r).form (toL v))) ∧ Below w'.heap.size w' w'' at hkey
  generalize keyL (lineOf r).form (toL v) = k at hk hkey hno
  generalize (lineOf r).form = f at hfo hkey
  generalize (lineOf r).syn = y at hfo
  by_cases h0 : so = 0
  · subst h0
    rw [if_pos rfl] at hk
    have HSO := Lib.hid hso; have HK := Lib.hid hk
    clear hso hfo hk hno hkey hE hES hEM hs h19 h20 hr
    go_enter Tryz.func15, Tryz.ntmps15
    go_wp2_with (first | (go_at_call 59; with_reducible refine (HSO.out).mono ?_; rintro e w1 ⟨rfl, rfl⟩) | fail)
    go_ret2
    exact ⟨by rw [HK.out]; rfl, Below.refl _ _⟩
  · have hb0 : (so == 0) = false := beq_eq_false_iff_ne.2 h0
    rw [if_neg h0] at hk
    obtain ⟨kl, kb⟩ := k
    cases kb with
    | false =>
      have hn2 := hno rfl
      simp only at hn2
      subst hn2
      unfold ret2 at hkey
      have HSO := Lib.hid hso; have HFO := Lib.hid hfo; have HK := Lib.hid hk; have HKEY := Lib.hid hkey
      clear hso hfo hk hkey hE hES hEM hs h19 h20 hr h0 hno
      go_enter Tryz.func15, Tryz.ntmps15
      go_wp2_with (first
        | (go_at_call 59; with_reducible refine (HSO.out).mono ?_; rintro e w1 ⟨rfl, rfl⟩)
        | (go_at_call 63; with_reducible refine (HFO.out).mono ?_; rintro e w2 ⟨rfl, hb2⟩; have HB2 := Lib.hid hb2; clear hb2)
        | (go_at_call 60; with_reducible refine (HKEY.out _ HB2.out).mono ?_; rintro e w3 ⟨rfl, hb3⟩; have HB3 := Lib.hid (bnext HB2.out hb3); clear hb3)
        | fail)
      go_ret2
      exact ⟨by rw [HK.out]; rfl, HB3.out⟩
    | true =>
      unfold ret2 at hkey
      have HSO := Lib.hid hso; have HFO := Lib.hid hfo; have HK := Lib.hid hk; have HKEY := Lib.hid hkey
      clear hso hfo hk hkey hE hES hEM hs h19 h20 hr h0 hno
      go_enter Tryz.func15, Tryz.ntmps15
      go_wp2_with (first
        | (go_at_call 59; with_reducible refine (HSO.out).mono ?_; rintro e w1 ⟨rfl, rfl⟩)
        | (go_at_call 63; with_reducible refine (HFO.out).mono ?_; rintro e w2 ⟨rfl, hb2⟩; have HB2 := Lib.hid hb2; clear hb2)
        | (go_at_call 60; with_reducible refine (HKEY.out _ HB2.out).mono ?_; rintro e w3 ⟨rfl, hb3⟩; have HB3 := Lib.hid (bnext HB2.out hb3); clear hb3)
        | fail)
      go_ret2
      exact ⟨by rw [HK.out]; rfl, HB3.out⟩
end Go.Proofs.YtifgmnafjihlkaaGreatDoor
/- prep.Piece: what a piece of a value becomes. -/
namespace Go.Proofs.YtifgmnafjihlkaaGreatDoor
open Go Go.RowKit

def placeL (wh : Int) (t : List UInt8) : List UInt8 := if wh = 0 then Lib.trimPrefix t [32] else if wh = 2 then Lib.trimSuffix t [32] else t
def pieceL (f wh : Int) (s : List UInt8) : List UInt8 × Bool :=
  if 65536 < s.length ∨ wh < 0 ∨ 2 < wh then ([], false)
  else if f = 0 ∨ f = 1 then (if Lib.validD s = false then ([], false) else (placeL wh (sqz false (if f = 0 then low s else s)), true))
  else if f = 2 then (if onlyL [32] s = true then (zapB 32 s, true) else ([], false))
  else if f = 3 then (if onlyL signs s = true then (dialL s, true) else ([], false))
  else ([], false)

theorem low_length (l : List UInt8) : (low l).length = l.length := by unfold low; simp

set_option maxRecDepth 20000 in
theorem piece_any (f wh : Int) (s : ByteArray) (w : World) (E : Env w) (hs : s.size ≤ 9223372036854775807) :
    Calls Tryz.prog 70 #[.int .i8 f, .int .i8 wh, .string s] w fun e w' => e = .returned (ret2 (pieceL f wh s.data.toList)) ∧ Below w.heap.size w w' := by
  have hls := Lib.size_eq s
  have HL0 := Lib.hid hls; clear hls
  by_cases h1 : 65536 < s.size
  · have HE := Lib.hid E; clear E
    go_enter Tryz.func70, Tryz.ntmps70
    go_wp2_with fail
    go_ret2
    exact ⟨by rw [pieceL, if_pos (.inl (by have := HL0.out; omega))]; rfl, Below.refl _ _⟩
  have g1 : ¬ (65536 : Int) < s.size := by omega
  by_cases h2 : wh < 0
  · have HE := Lib.hid E; clear E
    go_enter Tryz.func70, Tryz.ntmps70
    go_wp2_with fail
    go_ret2
    exact ⟨by rw [pieceL, if_pos (.inr (.inl h2))]; rfl, Below.refl _ _⟩
  by_cases h3 : 2 < wh
  · have HE := Lib.hid E; clear E
    go_enter Tryz.func70, Tryz.ntmps70
    go_wp2_with fail
    go_ret2
    exact ⟨by rw [pieceL, if_pos (.inr (.inr h3))]; rfl, Below.refl _ _⟩
  have hP : pieceL f wh s.data.toList = if f = 0 ∨ f = 1 then (if Lib.validD s.data.toList = false then ([], false) else (placeL wh (sqz false (if f = 0 then low s.data.toList else s.data.toList)), true))
      else if f = 2 then (if onlyL [32] s.data.toList = true then (zapB 32 s.data.toList, true) else ([], false))
      else if f = 3 then (if onlyL signs s.data.toList = true then (dialL s.data.toList, true) else ([], false))
      else ([], false) := by
    have := HL0.out
    unfold pieceL; rw [if_neg (by omega)]
  have HP := Lib.hid hP; have HE := Lib.hid E; clear hP E
  have l1 := sqz_length false (low s.data.toList)
  have l2 := sqz_length false s.data.toList
  rw [low_length, ← HL0.out] at l1
  rw [← HL0.out] at l2
  have HL := Lib.hid (And.intro (show (sqz false (low s.data.toList)).length ≤ 65536 by omega) (show (sqz false s.data.toList).length ≤ 65536 by omega)); clear l1 l2
  have hw : wh = 0 ∨ wh = 1 ∨ wh = 2 := by omega
  clear h2 h3
  by_cases f0 : f = 0
  · subst f0
    cases hv : Lib.validD s.data.toList with
    | false =>
      have HV := Lib.hid (show pieceL 0 wh s.data.toList = ([], false) by rw [HP.out, if_pos (.inl rfl), if_pos hv])
      clear HP
      go_enter Tryz.func70, Tryz.ntmps70
      go_wp2_with (first
        | (go_at_call 117; refine (valid_any _ _ (by omega)).mono ?_; rintro e w1 ⟨rfl, hb1⟩; have HB1 := Lib.hid hb1; clear hb1)
        | fail)
      go_ret2
      exact ⟨by rw [HV.out]; rfl, HB1.out⟩
    | true =>
      have HV := Lib.hid (show pieceL 0 wh s.data.toList = (placeL wh (sqz false (low s.data.toList)), true) by rw [HP.out, if_pos (.inl rfl), if_neg (by rw [hv]; simp), if_pos rfl])
      rcases hw with rfl | rfl | rfl
      · skip
        go_enter Tryz.func70, Tryz.ntmps70
        go_wp2_with (first
          | (go_at_call 117; refine (valid_any _ _ (by omega)).mono ?_; rintro e w1 ⟨rfl, hb1⟩; have HB1 := Lib.hid hb1; clear hb1)
          | (go_at_call 118; refine (lower_any _ _ (by omega)).mono ?_; rintro e w2 ⟨rfl, hb2⟩; have HB2 := Lib.hid (bnext HB1.out hb2); clear hb2)
          | (go_at_call 119; refine (squeeze_any _ _ (by show (low s.data.toList).length ≤ _; rw [low_length, ← HL0.out]; omega)).mono ?_; rintro e w3 ⟨rfl, hb3⟩; have HB3 := Lib.hid (bnext HB2.out hb3); clear hb3)
          | (go_at_call 120; refine (Tryz.strings_TrimPrefix _ _ _).mono ?_; rintro e w4 ⟨rfl, rfl⟩)
          | fail)
        go_ret2
        exact ⟨by rw [HV.out]; rfl, HB3.out⟩
      · skip
        go_enter Tryz.func70, Tryz.ntmps70
        go_wp2_with (first
          | (go_at_call 117; refine (valid_any _ _ (by omega)).mono ?_; rintro e w1 ⟨rfl, hb1⟩; have HB1 := Lib.hid hb1; clear hb1)
          | (go_at_call 118; refine (lower_any _ _ (by omega)).mono ?_; rintro e w2 ⟨rfl, hb2⟩; have HB2 := Lib.hid (bnext HB1.out hb2); clear hb2)
          | (go_at_call 119; refine (squeeze_any _ _ (by show (low s.data.toList).length ≤ _; rw [low_length, ← HL0.out]; omega)).mono ?_; rintro e w3 ⟨rfl, hb3⟩; have HB3 := Lib.hid (bnext HB2.out hb3); clear hb3)
          | fail)
        go_ret2
        exact ⟨by rw [HV.out]; rfl, HB3.out⟩
      · skip
        go_enter Tryz.func70, Tryz.ntmps70
        go_wp2_with (first
          | (go_at_call 117; refine (valid_any _ _ (by omega)).mono ?_; rintro e w1 ⟨rfl, hb1⟩; have HB1 := Lib.hid hb1; clear hb1)
          | (go_at_call 118; refine (lower_any _ _ (by omega)).mono ?_; rintro e w2 ⟨rfl, hb2⟩; have HB2 := Lib.hid (bnext HB1.out hb2); clear hb2)
          | (go_at_call 119; refine (squeeze_any _ _ (by show (low s.data.toList).length ≤ _; rw [low_length, ← HL0.out]; omega)).mono ?_; rintro e w3 ⟨rfl, hb3⟩; have HB3 := Lib.hid (bnext HB2.out hb3); clear hb3)
          | (go_at_call 121; refine (Tryz.strings_TrimSuffix _ _ _ (by have := HL.out; show (sqz false (low s.data.toList)).length ≤ _; omega)).mono ?_; rintro e w4 ⟨rfl, rfl⟩)
          | fail)
        go_ret2
        exact ⟨by rw [HV.out]; rfl, HB3.out⟩
  by_cases f1 : f = 1
  · subst f1
    cases hv : Lib.validD s.data.toList with
    | false =>
      have HV := Lib.hid (show pieceL 1 wh s.data.toList = ([], false) by rw [HP.out, if_pos (.inr rfl), if_pos hv])
      clear HP
      go_enter Tryz.func70, Tryz.ntmps70
      go_wp2_with (first
        | (go_at_call 117; refine (valid_any _ _ (by omega)).mono ?_; rintro e w1 ⟨rfl, hb1⟩; have HB1 := Lib.hid hb1; clear hb1)
        | fail)
      go_ret2
      exact ⟨by rw [HV.out]; rfl, HB1.out⟩
    | true =>
      have HV := Lib.hid (show pieceL 1 wh s.data.toList = (placeL wh (sqz false s.data.toList), true) by rw [HP.out, if_pos (.inr rfl), if_neg (by rw [hv]; simp), if_neg (by decide)])
      rcases hw with rfl | rfl | rfl
      · skip
        go_enter Tryz.func70, Tryz.ntmps70
        go_wp2_with (first
          | (go_at_call 117; refine (valid_any _ _ (by omega)).mono ?_; rintro e w1 ⟨rfl, hb1⟩; have HB1 := Lib.hid hb1; clear hb1)
          | (go_at_call 119; refine (squeeze_any _ _ (by omega)).mono ?_; rintro e w3 ⟨rfl, hb3⟩; have HB3 := Lib.hid (bnext HB1.out hb3); clear hb3)
          | (go_at_call 120; refine (Tryz.strings_TrimPrefix _ _ _).mono ?_; rintro e w4 ⟨rfl, rfl⟩)
          | fail)
        go_ret2
        exact ⟨by rw [HV.out]; rfl, HB3.out⟩
      · skip
        go_enter Tryz.func70, Tryz.ntmps70
        go_wp2_with (first
          | (go_at_call 117; refine (valid_any _ _ (by omega)).mono ?_; rintro e w1 ⟨rfl, hb1⟩; have HB1 := Lib.hid hb1; clear hb1)
          | (go_at_call 119; refine (squeeze_any _ _ (by omega)).mono ?_; rintro e w3 ⟨rfl, hb3⟩; have HB3 := Lib.hid (bnext HB1.out hb3); clear hb3)
          | fail)
        go_ret2
        exact ⟨by rw [HV.out]; rfl, HB3.out⟩
      · skip
        go_enter Tryz.func70, Tryz.ntmps70
        go_wp2_with (first
          | (go_at_call 117; refine (valid_any _ _ (by omega)).mono ?_; rintro e w1 ⟨rfl, hb1⟩; have HB1 := Lib.hid hb1; clear hb1)
          | (go_at_call 119; refine (squeeze_any _ _ (by omega)).mono ?_; rintro e w3 ⟨rfl, hb3⟩; have HB3 := Lib.hid (bnext HB1.out hb3); clear hb3)
          | (go_at_call 121; refine (Tryz.strings_TrimSuffix _ _ _ (by have := HL.out; show (sqz false s.data.toList).length ≤ _; omega)).mono ?_; rintro e w4 ⟨rfl, rfl⟩)
          | fail)
        go_ret2
        exact ⟨by rw [HV.out]; rfl, HB3.out⟩
  by_cases f2 : f = 2
  · subst f2
    cases hv : onlyL [32] s.data.toList with
    | false =>
      have HV := Lib.hid (show pieceL 2 wh s.data.toList = ([], false) by rw [HP.out, if_neg (by decide), if_pos rfl, if_neg (by rw [hv]; simp)])
      clear HP
      go_enter Tryz.func70, Tryz.ntmps70
      go_wp2_with (first
        | (go_at_call 122; refine (only_any _ _ _ (by omega)).mono ?_; rintro e w1 ⟨rfl, rfl⟩; rw [show onlyL (ByteArray.mk #[32]).data.toList s.data.toList = false from hv])
        | fail)
      go_ret2
      exact ⟨by rw [HV.out]; rfl, Below.refl _ _⟩
    | true =>
      have HV := Lib.hid (show pieceL 2 wh s.data.toList = (zapB 32 s.data.toList, true) by rw [HP.out, if_neg (by decide), if_pos rfl, if_pos hv])
      clear HP
      obtain ⟨m, hm⟩ := HE.out.max
      have HM := Lib.hid hm; clear hm
      go_enter Tryz.func70, Tryz.ntmps70
      go_wp2_with (first
        | (go_at_call 122; refine (only_any _ _ _ (by omega)).mono ?_; rintro e w1 ⟨rfl, rfl⟩; rw [show onlyL (ByteArray.mk #[32]).data.toList s.data.toList = true from hv])
        | (go_at_call 123; refine (Tryz.strings_ReplaceAll s _ _ m _ (by omega) HM.out (by decide) (by show _ + _ * 0 ≤ _; omega)).mono ?_; rintro e w2 ⟨rfl, hb2⟩; have HB2 := Lib.hid hb2; clear hb2; rw [show Lib.replaceAll s.data.toList (ByteArray.mk #[32]).data.toList (ByteArray.mk #[]).data.toList = zapB 32 s.data.toList from replaceAll_zap 32 _])
        | fail)
      go_ret2
      exact ⟨by rw [HV.out]; rfl, HB2.out⟩
  by_cases f3 : f = 3
  · subst f3
    cases hv : onlyL signs s.data.toList with
    | false =>
      have HV := Lib.hid (show pieceL 3 wh s.data.toList = ([], false) by rw [HP.out, if_neg (by decide), if_neg (by decide), if_pos rfl, if_neg (by rw [hv]; simp)])
      clear HP
      go_enter Tryz.func70, Tryz.ntmps70
      go_wp2_with (first
        | (go_at_call 122; refine (only_any _ _ _ (by omega)).mono ?_; rintro e w1 ⟨rfl, rfl⟩; rw [show onlyL (ByteArray.mk #[97, 98, 99, 100, 101, 102, 103, 104, 105, 106, 107, 108, 109, 110, 111, 112, 113, 114, 115, 116, 117, 118, 119, 120, 121, 122, 65, 66, 67, 68, 69, 70, 71, 72, 73, 74, 75, 76, 77, 78, 79, 80, 81, 82, 83, 84, 85, 86, 87, 88, 89, 90, 39, 40, 41, 43, 44, 45, 46, 47, 58, 63, 61, 32]).data.toList s.data.toList = false from hv])
        | fail)
      go_ret2
      exact ⟨by rw [HV.out]; rfl, Below.refl _ _⟩
    | true =>
      have HV := Lib.hid (show pieceL 3 wh s.data.toList = (dialL s.data.toList, true) by rw [HP.out, if_neg (by decide), if_neg (by decide), if_pos rfl, if_pos hv])
      clear HP
      obtain ⟨m, hm⟩ := HE.out.max
      have HM := Lib.hid hm; clear hm
      go_enter Tryz.func70, Tryz.ntmps70
      go_wp2_with (first
        | (go_at_call 122; refine (only_any _ _ _ (by omega)).mono ?_; rintro e w1 ⟨rfl, rfl⟩; rw [show onlyL (ByteArray.mk #[97, 98, 99, 100, 101, 102, 103, 104, 105, 106, 107, 108, 109, 110, 111, 112, 113, 114, 115, 116, 117, 118, 119, 120, 121, 122, 65, 66, 67, 68, 69, 70, 71, 72, 73, 74, 75, 76, 77, 78, 79, 80, 81, 82, 83, 84, 85, 86, 87, 88, 89, 90, 39, 40, 41, 43, 44, 45, 46, 47, 58, 63, 61, 32]).data.toList s.data.toList = true from hv])
        | (go_at_call 124; refine (dialled_any s _ HE.out (by omega)).mono ?_; rintro e w2 ⟨rfl, hb2⟩; have HB2 := Lib.hid hb2; clear hb2)
        | fail)
      go_ret2
      exact ⟨by rw [HV.out]; rfl, HB2.out⟩
  have HV := Lib.hid (show pieceL f wh s.data.toList = ([], false) by rw [HP.out, if_neg (by rintro (h | h); exact f0 h; exact f1 h), if_neg f2, if_neg f3])
  clear HP
  go_enter Tryz.func70, Tryz.ntmps70
  go_wp2_with (first
    | fail)
  go_ret2
  exact ⟨by rw [HV.out]; rfl, Below.refl _ _⟩
end Go.Proofs.YtifgmnafjihlkaaGreatDoor
/- schema.small, letter, digit, tail, isWord. -/
namespace Go.Proofs.YtifgmnafjihlkaaGreatDoor
open Go Go.RowKit

theorem small_any (s : ByteArray) (w : World) (hs : s.size ≤ 140737488355328) :
    Calls Tryz.prog 133 #[.string s] w fun e w' => e = .returned (.string ⟨(low (toL s)).toArray⟩) ∧ Below w.heap.size w w' := by
  go_enter Tryz.func133, Tryz.ntmps133
  have hc := Lib.run_convert_string_bytes (P := Tryz.prog) w 9 144 5 s Tryz.underlying9 Tryz.underlying144 Tryz.underlying5
  have B0 := below_bytes w 5 s
  have T0 := Bts.conv w s
  generalize Lib.bytesWorld w 5 s = w1 at hc B0 T0
  generalize grownCap w s.size 0 5 = cap at hc
  go_wp2_with fail
  clear hc
  have HB0 := Lib.hid B0; clear B0
  have HT0 := Lib.hid T0; clear T0
  go_loopw [10] (fun iv wr => ∃ i : Nat, iv = .int .i64 i ∧ i ≤ s.size ∧ Below w.heap.size w wr ∧ Bts wr w.heap.size (low (s.data.toList.take i) ++ s.data.toList.drop i)) (fun iv _ => s.size - (intOf iv).toNat)
  case atStart => exact ⟨0, rfl, Nat.zero_le _, HB0.out, by simpa [low] using HT0.out⟩
  case round =>
    clear HB0 HT0
    obtain ⟨i, rfl, hi, hb, ht⟩ := hrel
    have HB := Lib.hid hb; clear hb
    have HT := Lib.hid ht; clear ht
    have hl0 : s.data.toList.length = s.size := by simp
    have hlen : (low (s.data.toList.take i) ++ s.data.toList.drop i).length = s.size := by simp [low]; omega
    by_cases hlt : i < s.size
    · have hget : (low (s.data.toList.take i) ++ s.data.toList.drop i)[i]? = some s[i] := by
        rw [List.getElem?_append_right (by rw [low, List.length_map, List.length_take]; omega), show i - (low (s.data.toList.take i)).length = 0 by rw [low, List.length_map, List.length_take]; omega, drop_at s hlt]; rfl
      have hcell := HT.out.cell i _ hget
      have hfr := HT.out.fr i (by omega)
      have hst := low_step s.data.toList (by omega : i < s.data.toList.length)
      have hsi : s.data.toList[i]'(by omega) = s[i] := rfl
      rw [hsi] at hst
      have HS := Lib.hid hst; clear hst
      have HN := Lib.hid (low_keep s.data.toList (by omega : i < s.data.toList.length))
      rw [hsi] at HN
      have hset := HT.out.set (i := i) (by omega) (lowB s[i])
      rw [HS.out] at hset
      have HQ := Lib.hid hset; clear hset HS
      clear hget hsi hlen
      generalize s[i] = b at *
      go_wp2_with fail
      · have e1 := lowB_nat (b := b) (by omega)
        have hq := HQ.out
        rw [show ((lowB b).toNat : Int) = (b.toNat : Int) + 32 by omega] at hq
        exact ⟨⟨i + 1, by simp, by omega, HB.out.setCell (Nat.le_refl _) _, hq⟩, by simp [intOf]; omega⟩
      all_goals exact ⟨⟨i + 1, by simp, by omega, HB.out, by rw [HN.out (lowB_same (by omega))]; exact HT.out⟩, by simp [intOf]; omega⟩
    · have hie : i = s.size := by omega
      subst hie
      have hfin := HT.out
      rw [List.take_of_length_le (by omega), List.drop_eq_nil_of_le (by omega), List.append_nil] at hfin
      have hbk := hfin.back (P := Tryz.prog) (src := 144) (dst := 9) (e := 5) (n := s.size) (by simp [low]) cap Tryz.underlying144 Tryz.underlying5 Tryz.underlying9
      clear hfin hlen
      go_wp2_with fail
      go_ret
      exact ⟨rfl, HB.out⟩

theorem let_fin : ∀ n : Fin 256, (decide (97 ≤ bits BinOp.or IntKind.u8 (n.val : Int) 32) && decide (bits BinOp.or IntKind.u8 (n.val : Int) 32 ≤ 122)) = (decide (97 ≤ n.val ∧ n.val ≤ 122) || decide (65 ≤ n.val ∧ n.val ≤ 90)) := by decide +kernel
theorem let_eq (b : UInt8) : (decide (97 ≤ bits BinOp.or IntKind.u8 (b.toNat : Int) 32) && decide (bits BinOp.or IntKind.u8 (b.toNat : Int) 32 ≤ 122)) = isLet b := let_fin ⟨b.toNat, b.toNat_lt⟩
theorem letter_any (b : UInt8) (w : World) : Calls Tryz.prog 193 #[.int .u8 (b.toNat : Int)] w fun e w' => e = .returned (.bool (isLet b)) ∧ w = w' := by
  have he := let_eq b
  generalize isLet b = x at he
  have HE := Lib.hid he; clear he
  go_enter Tryz.func193, Tryz.ntmps193
  go_wp2_with fail
  all_goals
    rename_i h
    go_ret
    refine ⟨?_, rfl⟩
    rw [← HE.out]
    simp [h]
  omega
theorem dig_eq (b : UInt8) : (decide (48 ≤ (b.toNat : Int)) && decide ((b.toNat : Int) ≤ 57)) = dig b := by
  unfold dig; rw [Bool.eq_iff_iff]; simp; omega
theorem digit_any (b : UInt8) (w : World) : Calls Tryz.prog 195 #[.int .u8 (b.toNat : Int)] w fun e w' => e = .returned (.bool (dig b)) ∧ w = w' := by
  have he := dig_eq b
  generalize dig b = x at he
  have HE := Lib.hid he; clear he
  go_enter Tryz.func195, Tryz.ntmps195
  go_wp2_with fail
  all_goals
    rename_i h
    go_ret
    refine ⟨?_, rfl⟩
    rw [← HE.out]
    simp [h]
  omega

theorem tailC_45 (b : UInt8) : (b == 45) = decide ((b.toNat : Int) = 45) := by
  rw [Bool.eq_iff_iff]; simp only [beq_iff_eq, decide_eq_true_eq]
  exact ⟨fun h => by subst h; rfl, fun h => UInt8.toNat_inj.1 (by show b.toNat = 45; omega)⟩
theorem tail_any (s : ByteArray) (w : World) (hs : s.size ≤ 140737488355328) : Calls Tryz.prog 147 #[.string s] w fun e w' => e = .returned (.bool (tailB (toL s))) ∧ w = w' := by
  go_enter Tryz.func147, Tryz.ntmps147
  go_wp2_with fail
  go_loop [6] (fun iv => ∃ i : Nat, iv = .int .i64 i ∧ i ≤ s.size ∧ tailB (toL s) = tailB ((toL s).drop i)) (fun iv => s.size - (intOf iv).toNat)
  case atStart => exact ⟨0, rfl, Nat.zero_le _, rfl⟩
  case round =>
    obtain ⟨i, rfl, hi, ht⟩ := hrel
    have HT := Lib.hid ht; clear ht
    by_cases hlt : i < s.size
    · have hd : tailB ((toL s).drop i) = (tailC s[i] && tailB ((toL s).drop (i + 1))) := by
        unfold toL; rw [drop_at s hlt]; rfl
      have HD := Lib.hid (HT.out.trans hd); clear hd HT
      have h45 := tailC_45 s[i]
      unfold tailC at HD
      have cl := letter_any s[i]
      have cd := digit_any s[i]
      cases hL : isLet s[i] with
      | true =>
        rw [hL] at cl HD
        have CL := Lib.hid cl; clear cl cd h45 hL
        go_wp2_with (first | (go_at_call 193; with_reducible refine (CL.out _).mono ?_; rintro e w1 ⟨rfl, rfl⟩) | fail)
        exact ⟨⟨i + 1, by simp, by omega, by rw [HD.out]; simp⟩, by simp [intOf]; omega⟩
      | false =>
        rw [hL] at cl HD
        have CL := Lib.hid cl; clear cl hL
        cases hD : dig s[i] with
        | true =>
          rw [hD] at cd HD
          have CD := Lib.hid cd; clear cd h45 hD
          go_wp2_with (first | (go_at_call 193; with_reducible refine (CL.out _).mono ?_; rintro e w1 ⟨rfl, rfl⟩) | (go_at_call 195; with_reducible refine (CD.out _).mono ?_; rintro e w1 ⟨rfl, rfl⟩) | fail)
          exact ⟨⟨i + 1, by simp, by omega, by rw [HD.out]; simp⟩, by simp [intOf]; omega⟩
        | false =>
          rw [hD] at cd HD
          rw [h45] at HD
          have CD := Lib.hid cd; clear cd h45 hD
          by_cases h5 : (s[i].toNat : Int) = 45
          · rw [decide_eq_true h5] at HD
            have hB : ((s[i].toNat : Int) == 45) = true := by rw [h5]; rfl
            have hN : ((s[i].toNat : Int) != 45) = false := by rw [h5]; rfl
            clear h5
            go_wp2_with (first | (go_at_call 193; with_reducible refine (CL.out _).mono ?_; rintro e w1 ⟨rfl, rfl⟩) | (go_at_call 195; with_reducible refine (CD.out _).mono ?_; rintro e w1 ⟨rfl, rfl⟩) | fail)
            exact ⟨⟨i + 1, by simp, by omega, by rw [HD.out]; simp⟩, by simp [intOf]; omega⟩
          · rw [decide_eq_false h5] at HD
            go_wp2_with (first | (go_at_call 193; with_reducible refine (CL.out _).mono ?_; rintro e w1 ⟨rfl, rfl⟩) | (go_at_call 195; with_reducible refine (CD.out _).mono ?_; rintro e w1 ⟨rfl, rfl⟩) | fail)
            go_ret
            exact ⟨by rw [HD.out]; rfl, rfl⟩
    · have hfin : tailB ((toL s).drop i) = true := by unfold toL; rw [drop_end s hlt]; rfl
      have HF := Lib.hid (HT.out.trans hfin); clear hfin HT
      go_wp2_with fail
      go_ret
      exact ⟨by rw [HF.out]; rfl, rfl⟩
end Go.Proofs.YtifgmnafjihlkaaGreatDoor
/- Plain facts on places, chains, what lies above. No program. -/
namespace Go.Proofs.YtifgmnafjihlkaaGreatDoor
open Go

/-! ### places -/
def addKeys (f : Str → Option Nat) (place : Nat) (ks : List Str) (k : Str) : Option Nat :=
  if (f k).isSome then f k else if ks.contains k then some place else none

theorem placeOf_lt {L : List (List Str)} {k : Str} {i : Nat} (h : placeOf L k = some i) : i < L.length := by
  unfold placeOf at h
  have := List.findIdx?_eq_some_iff_getElem.1 h
  exact this.1
theorem placeOf_snoc (L : List (List Str)) (ks : List Str) (k : Str) : placeOf (L ++ [ks]) k = addKeys (placeOf L) L.length ks k := by
  unfold addKeys placeOf
  rw [List.findIdx?_append]
  cases h : L.findIdx? (·.contains k) with
  | some i => simp
  | none =>
    simp only [Option.none_or, List.findIdx?_cons, List.findIdx?_nil, Option.isSome_none, Bool.false_eq_true, if_false]
    cases ks.contains k <;> simp
theorem placeOf_nil (k : Str) : placeOf [] k = none := rfl
theorem addKeys_nil (f : Str → Option Nat) (place : Nat) : addKeys f place [] = f := by
  funext k; unfold addKeys; cases h : f k <;> simp
theorem addKeys_snoc (f : Str → Option Nat) (place : Nat) (ks : List Str) (k : Str) : addKeys f place (ks ++ [k]) = addKeys (addKeys f place ks) place [k] := by
  funext x
  unfold addKeys
  cases h : f x with
  | some i => simp
  | none =>
    simp only [Option.isSome_none, Bool.false_eq_true, if_false]
    by_cases hc : ks.contains x
    · have : x ∈ ks := by simpa using hc
      simp [this]
    · have : x ∉ ks := by simpa using hc
      simp [this]
/-- what a look-up and a store at one key make of a map of places -/
theorem addKeys_one_some {f : Str → Option Nat} {place : Nat} {k : Str} (h : (f k).isSome = true) : addKeys f place [k] = f := by
  funext x; unfold addKeys
  by_cases hx : (f x).isSome
  · simp [hx]
  · have : x ≠ k := fun e => by subst e; exact hx h
    have h2 : f x = none := by simpa using hx
    simp [h2, this]
theorem addKeys_one_none {f : Str → Option Nat} {place : Nat} {k : Str} (h : (f k).isSome = false) : addKeys f place [k] = fun x => if x = k then some place else f x := by
  funext x; unfold addKeys
  by_cases e : x = k
  · subst e; have h2 : f x = none := by simpa using h
    simp [h2]
  · cases hx : f x <;> simp [e]

/-! ### lists without repetition, below a bound -/
theorem nodup_le : ∀ (n : Nat) (l : List Nat), l.Nodup → (∀ a ∈ l, a < n) → l.length ≤ n
  | 0, l, _, h => by cases l with
    | nil => simp
    | cons a l => have := h a (List.mem_cons_self ..); omega
  | n + 1, l, hn, h => by
    have h1 := nodup_le n (l.filter (· != n)) (hn.filter _) (fun a ha => by
      have := List.mem_filter.1 ha
      have h2 := h a this.1
      have h3 : a ≠ n := by simpa using this.2
      omega)
    have h2 : l.length ≤ (l.filter (· != n)).length + 1 := by
      clear h1 h
      induction l with
      | nil => simp
      | cons a l ih =>
        have hn' := List.nodup_cons.1 hn
        by_cases e : a = n
        · subst e
          have : l.filter (· != a) = l := List.filter_eq_self.2 fun b hb => by
            have : b ≠ a := fun e => hn'.1 (e ▸ hb)
            simpa using this
          simp [this]
        · have := ih hn'.2
          simp [e]; omega
    omega

/-! ### chains -/
theorem upT_lt {S : PSchema} {t u : Nat} (h : upT S t = some u) : u < S.types.length := by
  unfold upT typeAt at h
  split at h
  · cases h
  · have := placeOf_lt h; simpa [tK] using this

/-- where the loop of chain stands: acc is what was met, t comes next -/
structure OnChain (S : PSchema) (t0 : Nat) (acc : List Nat) (t : Nat) : Prop where
  eq : ∃ f, chainOf S t0 = chainL S f acc t ∧ f + acc.length = S.types.length + 1
  nodup : acc.Nodup
  lt : ∀ a ∈ acc, a < S.types.length
  tlt : t < S.types.length
  head : acc = [] → t = t0
theorem OnChain.start {S : PSchema} {t : Nat} (h : t < S.types.length) : OnChain S t [] t :=
  ⟨⟨_, rfl, by simp⟩, List.nodup_nil, by simp, h, fun _ => rfl⟩
theorem OnChain.len {S : PSchema} {t0 t : Nat} {acc : List Nat} (h : OnChain S t0 acc t) : acc.length ≤ S.types.length := nodup_le _ _ h.nodup h.lt
theorem OnChain.twice {S : PSchema} {t0 t : Nat} {acc : List Nat} (h : OnChain S t0 acc t) (hc : acc.contains t = true) : chainOf S t0 = (acc, false) := by
  obtain ⟨f, he, hf⟩ := h.eq
  have := h.len
  obtain ⟨g, rfl⟩ : ∃ g, f = g + 1 := ⟨f - 1, by omega⟩
  rw [he]; unfold chainL; rw [if_pos hc]
theorem OnChain.last {S : PSchema} {t0 t : Nat} {acc : List Nat} (h : OnChain S t0 acc t) (hc : acc.contains t = false) (hu : upT S t = none) : chainOf S t0 = (acc ++ [t], true) := by
  obtain ⟨f, he, hf⟩ := h.eq
  have := h.len
  obtain ⟨g, rfl⟩ : ∃ g, f = g + 1 := ⟨f - 1, by omega⟩
  rw [he]; unfold chainL; rw [if_neg (by rw [hc]; simp), hu]
theorem OnChain.next {S : PSchema} {t0 t u : Nat} {acc : List Nat} (h : OnChain S t0 acc t) (hc : acc.contains t = false) (hu : upT S t = some u) : OnChain S t0 (acc ++ [t]) u := by
  obtain ⟨f, he, hf⟩ := h.eq
  have := h.len
  obtain ⟨g, rfl⟩ : ∃ g, f = g + 1 := ⟨f - 1, by omega⟩
  refine ⟨⟨g, ?_, by simp; omega⟩, ?_, ?_, upT_lt hu, fun e => by simp at e⟩
  · rw [he]; show (if acc.contains t = true then (acc, false) else match upT S t with | none => (acc ++ [t], true) | some u => chainL S g (acc ++ [t]) u) = _
    rw [if_neg (by rw [hc]; simp), hu]
  · have : t ∉ acc := by simpa using hc
    rw [List.nodup_append]
    exact ⟨h.nodup, List.nodup_cons.2 ⟨by simp, List.nodup_nil⟩, fun a ha b hb e => by simp at hb; subst hb; subst e; exact this ha⟩
  · intro a ha
    rcases List.mem_append.1 ha with ha | ha
    · exact h.lt a ha
    · simp at ha; subst ha; exact h.tlt

theorem chainL_facts (S : PSchema) (n : Nat) (hn : n = S.types.length) : ∀ (f : Nat) (acc : List Nat) (t : Nat), acc.Nodup → (∀ a ∈ acc, a < n) → t < n →
    (chainL S f acc t).1.Nodup ∧ (∀ a ∈ (chainL S f acc t).1, a < n) ∧ (∃ l, (chainL S f acc t).1 = acc ++ l)
  | 0, acc, t, h1, h2, _ => ⟨h1, h2, [], by simp [chainL]⟩
  | f + 1, acc, t, h1, h2, h3 => by
    unfold chainL
    by_cases hc : acc.contains t
    · rw [if_pos hc]; exact ⟨h1, h2, [], by simp⟩
    · rw [if_neg hc]
      have hm : t ∉ acc := by simpa using hc
      have h1' : (acc ++ [t]).Nodup := by
        rw [List.nodup_append]
        exact ⟨h1, List.nodup_cons.2 ⟨by simp, List.nodup_nil⟩, fun a ha b hb e => by simp at hb; subst hb; subst e; exact hm ha⟩
      have h2' : ∀ a ∈ acc ++ [t], a < n := fun a ha => by
        rcases List.mem_append.1 ha with ha | ha
        · exact h2 a ha
        · simp at ha; subst ha; exact h3
      cases hu : upT S t with
      | none => exact ⟨h1', h2', [t], rfl⟩
      | some u =>
        obtain ⟨a, b, l, hl⟩ := chainL_facts S n hn f (acc ++ [t]) u h1' h2' (by rw [hn]; exact upT_lt hu)
        exact ⟨a, b, t :: l, by rw [hl]; simp⟩
theorem chainOf_facts (S : PSchema) {t : Nat} (h : t < S.types.length) : (chainOf S t).1.Nodup ∧ (∀ a ∈ (chainOf S t).1, a < S.types.length) ∧ ∃ l, (chainOf S t).1 = t :: l := by
  obtain ⟨a, b, _⟩ := chainL_facts S _ rfl (S.types.length + 1) [] t List.nodup_nil (by simp) h
  refine ⟨a, b, ?_⟩
  unfold chainOf chainL
  simp only [List.contains_nil, Bool.false_eq_true, if_false]
  cases hu : upT S t with
  | none => exact ⟨[], by simp⟩
  | some u =>
    obtain ⟨_, _, l, hl⟩ := chainL_facts S _ rfl S.types.length ([] ++ [t]) u (by simp) (by simpa using h) (upT_lt hu)
    exact ⟨l, by rw [hl]; simp⟩

/-! ### what lies above a class -/
def offs (s : List Bool) : Nat := s.count false
theorem offs_set {s : List Bool} {p : Nat} (hp : p < s.length) (h : s.getD p false = false) : offs (s.set p true) + 1 = offs s := by
  unfold offs
  induction s generalizing p with
  | nil => simp at hp
  | cons b s ih =>
    cases p with
    | zero => simp at h; subst h; simp
    | succ p =>
      have := ih (p := p) (by simpa using hp) (by simpa using h)
      simp [List.count_cons] at this ⊢; omega
/-- s' has all that s has, and is as long -/
def OnMore (s s' : List Bool) : Prop := s'.length = s.length ∧ ∀ i, s.getD i false = true → s'.getD i false = true
theorem OnMore.refl (s : List Bool) : OnMore s s := ⟨rfl, fun _ h => h⟩
theorem OnMore.trans {a b c : List Bool} (h : OnMore a b) (k : OnMore b c) : OnMore a c := ⟨k.1.trans h.1, fun i hi => k.2 i (h.2 i hi)⟩
theorem OnMore.set (s : List Bool) (p : Nat) : OnMore s (s.set p true) := ⟨by simp, fun i hi => by
  by_cases e : p = i
  · subst e
    have : p < s.length := by
      rcases Nat.lt_or_ge p s.length with h | h
      · exact h
      · simp [List.getD, List.getElem?_eq_none h] at hi
    simp [List.getD, this]
  · simp [List.getD, List.getElem?_set_ne e] at hi ⊢; exact hi⟩
theorem OnMore.offs {s s' : List Bool} (h : OnMore s s') : offs s' ≤ offs s := by
  obtain ⟨hl, hm⟩ := h
  unfold Proofs.YtifgmnafjihlkaaGreatDoor.offs
  induction s generalizing s' with
  | nil => cases s' with
    | nil => simp
    | cons => simp at hl
  | cons b s ih =>
    cases s' with
    | nil => simp at hl
    | cons b' s' =>
      have h1 := ih (s' := s') (by simpa using hl) (fun i hi => by have := hm (i + 1) (by simpa using hi); simpa using this)
      have h2 := hm 0
      cases b <;> cases b' <;> simp at h2 ⊢ <;> omega
theorem dfs_more (S : PSchema) : ∀ (f : Nat) (s : List Bool) (c : Nat), OnMore s (dfs S f s c)
  | 0, s, c => OnMore.refl s
  | f + 1, s, c => by
    unfold dfs
    generalize supsOf S c = l
    induction l generalizing s with
    | nil => exact OnMore.refl s
    | cons p l ih =>
      rw [List.foldl_cons]
      refine OnMore.trans ?_ (ih _)
      cases p with
      | none => exact OnMore.refl s
      | some p =>
        dsimp only
        split
        · exact OnMore.refl s
        · exact (OnMore.set s p).trans (dfs_more S f _ p)
end Go.Proofs.YtifgmnafjihlkaaGreatDoor
/- How lists of texts, types and classes lie in memory. No program but its types' sizes. -/
namespace Go.Proofs.YtifgmnafjihlkaaGreatDoor
open Go Go.RowKit

theorem block_add (a : Addr) (i : Nat) : (a.add i).block = a.block := by unfold Addr.add; split <;> rfl

/-- n cells of a slice's address, whatever its kind: the address bears no spot where there is a cell -/
structure Lies (B : Nat) (a : Option Addr) (n c : Nat) : Prop where
  le : n ≤ c
  cap : c ≤ maxLen
  nil : a = none → c = 0
  lt : ∀ ad, a = some ad → ad.block < B
  spot : ∀ ad, a = some ad → 0 < n → ad.spot = none
theorem Lies.ptr {B : Nat} {a : Option Addr} {n c : Nat} (h : Lies B a n c) (hn : 0 < n) : ∃ b o, a = some ⟨b, o, none⟩ ∧ b < B := by
  cases a with
  | none => have h1 := h.nil rfl; have h2 := h.le; omega
  | some ad =>
    obtain ⟨b, o, sp⟩ := ad
    have := h.spot _ rfl hn
    simp only at this; subst this
    exact ⟨b, o, rfl, h.lt _ rfl⟩
theorem Lies.mono {B B' : Nat} {a : Option Addr} {n c : Nat} (h : Lies B a n c) (hb : B ≤ B') : Lies B' a n c := ⟨h.le, h.cap, h.nil, fun ad e => Nat.lt_of_lt_of_le (h.lt ad e) hb, h.spot⟩
theorem Lies.len0 {B : Nat} {a : Option Addr} {n c : Nat} (h : Lies B a n c) : a = none → n = 0 ∧ c = 0 := fun e => ⟨by have := h.nil e; have := h.le; omega, h.nil e⟩

/-- as Lies; of an empty slice's address nothing is said -/
structure LiesW (B : Nat) (a : Option Addr) (n c : Nat) : Prop where
  le : n ≤ c
  cap : c ≤ maxLen
  nil : a = none → c = 0
  lt : ∀ ad, a = some ad → 0 < n → ad.block < B
  spot : ∀ ad, a = some ad → 0 < n → ad.spot = none
theorem LiesW.ptr {B : Nat} {a : Option Addr} {n c : Nat} (h : LiesW B a n c) (hn : 0 < n) : ∃ b o, a = some ⟨b, o, none⟩ ∧ b < B := by
  cases a with
  | none => have h1 := h.nil rfl; have h2 := h.le; omega
  | some ad =>
    obtain ⟨b, o, sp⟩ := ad
    have := h.spot _ rfl hn
    simp only at this; subst this
    exact ⟨b, o, rfl, h.lt _ rfl hn⟩
theorem LiesW.mono {B B' : Nat} {a : Option Addr} {n c : Nat} (h : LiesW B a n c) (hb : B ≤ B') : LiesW B' a n c := ⟨h.le, h.cap, h.nil, fun ad e hn => Nat.lt_of_lt_of_le (h.lt ad e hn) hb, h.spot⟩
theorem LiesW.len0 {B : Nat} {a : Option Addr} {n c : Nat} (h : LiesW B a n c) : a = none → n = 0 ∧ c = 0 := fun e => ⟨by have := h.nil e; have := h.le; omega, h.nil e⟩
theorem Lies.weak {B : Nat} {a : Option Addr} {n c : Nat} (h : Lies B a n c) : LiesW B a n c := ⟨h.le, h.cap, h.nil, fun ad e _ => h.lt ad e, h.spot⟩

/-- a slice reads as texts; its cells lie in blocks below B -/
structure Texts (B : Nat) (w : World) (a : Option Addr) (n c : Nat) (l : List ByteArray) : Prop where
  len : n = l.length
  lies : LiesW B a n c
  small : n ≤ 4294967280
  cell : ∀ b o, a = some ⟨b, o, none⟩ → ∀ i s, l[i]? = some s → w.cell? ⟨b, o + i, none⟩ = some (.string s)
  size : ∀ s ∈ l, s.size ≤ 4294967280
theorem Texts.keep {B B' : Nat} {w w' : World} {a : Option Addr} {n c : Nat} {l : List ByteArray} (h : Texts B w a n c l) (k : Below B w w') (hb : B ≤ B') : Texts B' w' a n c l :=
  ⟨h.len, h.lies.mono hb, h.small, fun b o e i s hs => by rw [k.cell (p := ⟨b, o + i, none⟩) (h.lies.lt ⟨b, o, none⟩ e (by have h1 := h.len; have h2 := (List.getElem?_eq_some_iff.1 hs).1; omega))]; exact h.cell b o e i s hs, h.size⟩

/-- a type's nine cells -/
structure TypeAt (B : Nat) (w : World) (b o : Nat) (x : PType) : Prop where
  c0 : w.cell? ⟨b, o, none⟩ = some (.string x.oid)
  c1 : ∃ a n c, w.cell? ⟨b, o + 1, none⟩ = some (.slice a n c) ∧ Texts B w a n c x.names
  c2 : w.cell? ⟨b, o + 2, none⟩ = some (.string x.sup)
  c3 : w.cell? ⟨b, o + 3, none⟩ = some (.int .i8 x.syn)
  c4 : w.cell? ⟨b, o + 4, none⟩ = some (.int .i8 x.eq)
  c5 : w.cell? ⟨b, o + 5, none⟩ = some (.int .i8 x.ord)
  c6 : w.cell? ⟨b, o + 6, none⟩ = some (.int .i8 x.part)
  c7 : w.cell? ⟨b, o + 7, none⟩ = some (.bool x.single)
  c8 : w.cell? ⟨b, o + 8, none⟩ = some (.int .u8 x.index)
/-- what the numbers and texts of a type may be -/
structure TypeOk (x : PType) : Prop where
  oid : x.oid.size ≤ 4294967280
  sup : x.sup.size ≤ 4294967280
  syn : -128 ≤ x.syn ∧ x.syn ≤ 127
  eq : -128 ≤ x.eq ∧ x.eq ≤ 127
  ord : -128 ≤ x.ord ∧ x.ord ≤ 127
  part : -128 ≤ x.part ∧ x.part ≤ 127
  index : 0 ≤ x.index ∧ x.index ≤ 255
theorem TypeAt.keep {B B' : Nat} {w w' : World} {b o : Nat} {x : PType} (h : TypeAt B w b o x) (hl : b < B) (k : Below B w w') (hb : B ≤ B') : TypeAt B' w' b o x where
  c0 := by rw [k.cell (by exact hl)]; exact h.c0
  c1 := by obtain ⟨a, n, c, h1, h2⟩ := h.c1; exact ⟨a, n, c, by rw [k.cell (by exact hl)]; exact h1, h2.keep k hb⟩
  c2 := by rw [k.cell (by exact hl)]; exact h.c2
  c3 := by rw [k.cell (by exact hl)]; exact h.c3
  c4 := by rw [k.cell (by exact hl)]; exact h.c4
  c5 := by rw [k.cell (by exact hl)]; exact h.c5
  c6 := by rw [k.cell (by exact hl)]; exact h.c6
  c7 := by rw [k.cell (by exact hl)]; exact h.c7
  c8 := by rw [k.cell (by exact hl)]; exact h.c8

/-- a slice reads as types -/
structure Types (B : Nat) (w : World) (a : Option Addr) (n c : Nat) (l : List PType) : Prop where
  len : n = l.length
  lies : Lies B a n c
  cell : ∀ b o, a = some ⟨b, o, none⟩ → ∀ i x, l[i]? = some x → TypeAt B w b (o + i * 9) x
  ok : ∀ x ∈ l, TypeOk x
  top : ∀ ad, a = some ad → ad.spot = none
theorem Types.keep {B B' : Nat} {w w' : World} {a : Option Addr} {n c : Nat} {l : List PType} (h : Types B w a n c l) (k : Below B w w') (hb : B ≤ B') : Types B' w' a n c l :=
  ⟨h.len, h.lies.mono hb, fun b o e i x hx => (h.cell b o e i x hx).keep (h.lies.lt ⟨b, o, none⟩ e) k hb, h.ok, h.top⟩

/-- a class's six cells -/
structure ClassAt (B : Nat) (w : World) (b o : Nat) (x : PClass) : Prop where
  c0 : w.cell? ⟨b, o, none⟩ = some (.string x.oid)
  c1 : ∃ a n c, w.cell? ⟨b, o + 1, none⟩ = some (.slice a n c) ∧ Texts B w a n c x.names
  c2 : ∃ a n c, w.cell? ⟨b, o + 2, none⟩ = some (.slice a n c) ∧ Texts B w a n c x.sups
  c3 : w.cell? ⟨b, o + 3, none⟩ = some (.int .i8 x.kind)
  c4 : ∃ a n c, w.cell? ⟨b, o + 4, none⟩ = some (.slice a n c) ∧ Texts B w a n c x.must
  c5 : ∃ a n c, w.cell? ⟨b, o + 5, none⟩ = some (.slice a n c) ∧ Texts B w a n c x.may
structure ClassOk (x : PClass) : Prop where
  oid : x.oid.size ≤ 4294967280
  kind : -128 ≤ x.kind ∧ x.kind ≤ 127
theorem ClassAt.keep {B B' : Nat} {w w' : World} {b o : Nat} {x : PClass} (h : ClassAt B w b o x) (hl : b < B) (k : Below B w w') (hb : B ≤ B') : ClassAt B' w' b o x where
  c0 := by rw [k.cell (by exact hl)]; exact h.c0
  c1 := by obtain ⟨a, n, c, h1, h2⟩ := h.c1; exact ⟨a, n, c, by rw [k.cell (by exact hl)]; exact h1, h2.keep k hb⟩
  c2 := by obtain ⟨a, n, c, h1, h2⟩ := h.c2; exact ⟨a, n, c, by rw [k.cell (by exact hl)]; exact h1, h2.keep k hb⟩
  c3 := by rw [k.cell (by exact hl)]; exact h.c3
  c4 := by obtain ⟨a, n, c, h1, h2⟩ := h.c4; exact ⟨a, n, c, by rw [k.cell (by exact hl)]; exact h1, h2.keep k hb⟩
  c5 := by obtain ⟨a, n, c, h1, h2⟩ := h.c5; exact ⟨a, n, c, by rw [k.cell (by exact hl)]; exact h1, h2.keep k hb⟩
structure Classes (B : Nat) (w : World) (a : Option Addr) (n c : Nat) (l : List PClass) : Prop where
  len : n = l.length
  lies : Lies B a n c
  cell : ∀ b o, a = some ⟨b, o, none⟩ → ∀ i x, l[i]? = some x → ClassAt B w b (o + i * 6) x
  ok : ∀ x ∈ l, ClassOk x
  top : ∀ ad, a = some ad → ad.spot = none
theorem Classes.keep {B B' : Nat} {w w' : World} {a : Option Addr} {n c : Nat} {l : List PClass} (h : Classes B w a n c l) (k : Below B w w') (hb : B ≤ B') : Classes B' w' a n c l :=
  ⟨h.len, h.lies.mono hb, fun b o e i x hx => (h.cell b o e i x hx).keep (h.lies.lt ⟨b, o, none⟩ e) k hb, h.ok, h.top⟩
end Go.Proofs.YtifgmnafjihlkaaGreatDoor
