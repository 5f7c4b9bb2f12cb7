/- rosterref03.Piece: what a piece of a value becomes. -/
import Derived.Test.YtpnnbffhdhbonaaGreatDoorRefC
namespace Go.Proofs.YtpnnbffhdhbonaaGreatDoor
open Go Go.RowKit

theorem trim_prefix (t : List UInt8) : Lib.trimPrefix t [32] = trimE false (trimH true t) := by
  have hE : trimE false (trimH true t) = trimH true t := if_neg (by simp)
  rw [hE]
  by_cases h : t.head? = some 32
  · cases t with
    | nil => cases h
    | cons a t =>
      injection h with h; subst h
      unfold trimH; rw [if_pos ⟨rfl, rfl⟩]; rfl
  · rw [prefix_none h]; unfold trimH; rw [if_neg (fun e => h e.2)]
theorem trim_suffix (t : List UInt8) : Lib.trimSuffix t [32] = trimE true (trimH false t) := by
  have hE : trimH false t = t := if_neg (by simp)
  rw [hE]
  by_cases h : t.getLast? = some 32
  · unfold trimE; rw [if_pos ⟨rfl, h⟩]
    have hne : t ≠ [] := fun e => by rw [e] at h; cases h
    have hl : t = t.dropLast ++ [32] := by
      have := List.dropLast_concat_getLast hne
      rw [List.getLast?_eq_some_getLast hne] at h
      injection h with h
      rw [h] at this; exact this.symm
    generalize t.dropLast = u at hl
    subst hl
    unfold Lib.trimSuffix Lib.hasSuffix
    rw [if_pos (by rw [List.isSuffixOf_iff_suffix]; exact ⟨u, rfl⟩)]
    simp
  · rw [suffix_none h]; unfold trimE; rw [if_neg (fun e => h e.2)]
theorem repl_run (k : Nat) (h : NoRun false (List.replicate k (32 : UInt8))) : k ≤ 1 := by
  match k, h with
  | 0, _ => omega
  | 1, _ => omega
  | k + 2, h => exact absurd ⟨rfl, rfl⟩ h.2.1
theorem trim_both {t : List UInt8} (h : NoRun false t) : trimS t = trimE true (trimH true t) := by
  obtain ⟨h1, h2, k, m, he⟩ := trim_ends t
  generalize trimS t = u at *
  by_cases hu : u = []
  · subst hu
    rw [List.append_nil] at he
    rw [List.replicate_append_replicate] at he
    rw [he] at h
    have := repl_run _ h
    rw [he]
    match k + m, this with
    | 0, _ => rfl
    | 1, _ => rfl
  · have hk : k ≤ 1 := repl_run k (noRun_left _ _ _ (noRun_left _ _ _ (he ▸ h)))
    have hm : m ≤ 1 := repl_run m (noRun_right _ _ _ (he ▸ h))
    have e1 : trimH true t = u ++ List.replicate m 32 := by
      have hh : (u ++ List.replicate m (32 : UInt8)).head? ≠ some 32 := by
        cases u with
        | nil => exact absurd rfl hu
        | cons x u => exact h1
      rw [he]
      match k, hk with
      | 0, _ => unfold trimH; rw [if_neg]; · rfl
                intro e; exact hh (by simpa using e.2)
      | 1, _ => unfold trimH; rw [if_pos ⟨rfl, rfl⟩]; rfl
    rw [e1]
    match m, hm with
    | 0, _ => unfold trimE; rw [List.replicate_zero, List.append_nil, if_neg (fun e => h2 e.2)]
    | 1, _ => unfold trimE; rw [if_pos ⟨rfl, by simp⟩]; simp

/-- what the reference trims, by the place -/
theorem place_ref (t : List UInt8) : placeL 0 t = trimE false (trimH true t) ∧ placeL 1 t = trimE false (trimH false t) ∧ placeL 2 t = trimE true (trimH false t) :=
  ⟨by unfold placeL; rw [if_pos rfl]; exact trim_prefix t, by unfold placeL; rw [if_neg (by decide), if_neg (by decide)]; unfold trimE trimH; rw [if_neg (by simp), if_neg (by simp)],
   by unfold placeL; rw [if_neg (by decide), if_pos rfl]; exact trim_suffix t⟩

theorem pieceL_far {f wh : Int} {s : List UInt8} (h : wh < 0 ∨ 2 < wh) : pieceL f wh s = ([], false) := if_pos (.inr h)
theorem pieceL_long {f wh : Int} {s : List UInt8} (h : 65536 < s.length) : pieceL f wh s = ([], false) := if_pos (.inl h)

set_option maxRecDepth 20000 in
theorem rpiece_bad (f wh : Int) (s : ByteArray) (w : World) (h : 65536 < s.size ∨ wh < 0 ∨ 2 < wh) :
    Calls Tryz.prog 14 #[.int .i8 f, .int .i8 wh, .string s] w fun e w' => e = .returned (ret2 (pieceL f wh s.data.toList)) ∧ Below w.heap.size w w' := by
  have HP := Lib.hid (show pieceL f wh s.data.toList = ([], false) from if_pos (by rw [← Lib.size_eq]; exact h))
  by_cases h1 : 65536 < s.size
  · have g1 : (65536 : Int) < s.size := by omega
    clear h h1
    go_enter Tryz.func14, Tryz.ntmps14
    go_wp2_with fail
    go_ret2
    exact ⟨by rw [HP.out]; rfl, Below.refl _ _⟩
  · have g1 : ¬ (65536 : Int) < s.size := by omega
    have e0 : (wh != 0) = true := by rw [bne_iff_ne]; omega
    have e1 : (wh != 1) = true := by rw [bne_iff_ne]; omega
    have e2 : (wh != 2) = true := by rw [bne_iff_ne]; omega
    clear h h1
    go_enter Tryz.func14, Tryz.ntmps14
    go_wp2_with fail
    go_ret2
    exact ⟨by rw [HP.out]; rfl, Below.refl _ _⟩

set_option maxRecDepth 20000 in
theorem rpiece_none (f wh : Int) (s : ByteArray) (w : World) (hs : s.size ≤ 65536) (hw : wh = 0 ∨ wh = 1 ∨ wh = 2) (hf : f < 0 ∨ 3 < f) :
    Calls Tryz.prog 14 #[.int .i8 f, .int .i8 wh, .string s] w fun e w' => e = .returned (ret2 (pieceL f wh s.data.toList)) ∧ Below w.heap.size w w' := by
  have HP := Lib.hid (show pieceL f wh s.data.toList = ([], false) by
    unfold pieceL; rw [if_neg (by rw [← Lib.size_eq]; omega), if_neg (by omega), if_neg (by omega), if_neg (by omega)])
  have g1 : ¬ (65536 : Int) < s.size := by omega
  have e0 : (f == 0) = false := by rw [beq_eq_false_iff_ne]; omega
  have e1 : (f == 1) = false := by rw [beq_eq_false_iff_ne]; omega
  have e2 : (f == 2) = false := by rw [beq_eq_false_iff_ne]; omega
  have e3 : (f == 3) = false := by rw [beq_eq_false_iff_ne]; omega
  clear hf hs
  rcases hw with rfl | rfl | rfl <;> (
    go_enter Tryz.func14, Tryz.ntmps14
    go_wp2_with fail
    go_ret2
    exact ⟨by rw [HP.out]; rfl, Below.refl _ _⟩)

set_option maxRecDepth 20000 in
set_option maxHeartbeats 4000000 in
theorem rpiece_text (f wh : Int) (s : ByteArray) (w : World) (hs : s.size ≤ 65536) (hw : wh = 0 ∨ wh = 1 ∨ wh = 2) (hf : f = 0 ∨ f = 1) :
    Calls Tryz.prog 14 #[.int .i8 f, .int .i8 wh, .string s] w fun e w' => e = .returned (ret2 (pieceL f wh s.data.toList)) ∧ Below w.heap.size w w' := by
  have hP : pieceL f wh s.data.toList = if Lib.validD s.data.toList = false then ([], false) else (placeL wh (sqz false (if f = 0 then low s.data.toList else s.data.toList)), true) := by
    unfold pieceL; rw [if_neg (by rw [← Lib.size_eq]; omega), if_pos hf]
  have g1 : ¬ (65536 : Int) < s.size := by omega
  have hv := fun w => rvalid_any s w (by omega)
  cases hvd : Lib.validD s.data.toList with
  | false =>
    rw [hvd] at hv
    rw [if_pos hvd] at hP
    have HP := Lib.hid hP; have HV := Lib.hid hv; clear hP hv hvd hs
    rcases hw with rfl | rfl | rfl <;> rcases hf with rfl | rfl <;> (
      go_enter Tryz.func14, Tryz.ntmps14
      go_wp2_with (first
        | (go_at_call 24; with_reducible refine (HV.out _).mono ?_; rintro e w1 ⟨rfl, rfl⟩)
        | fail)
      go_ret2
      exact ⟨by rw [HP.out]; rfl, Below.refl _ _⟩)
  | true =>
    rw [hvd] at hv
    rw [if_neg (by rw [hvd]; simp)] at hP
    have HV := Lib.hid hv; clear hv hvd
    obtain ⟨t, ht⟩ : ∃ t, t = if f = 0 then low s.data.toList else s.data.toList := ⟨_, rfl⟩
    rw [← ht] at hP
    have htl : t.length = s.size := by rw [ht]; split <;> simp [low]
    have hql := sqz_length false t
    have hr := fun w => rruns_any ⟨t.toArray⟩ w (by show t.length ≤ _; omega)
    have hlow := fun w => rlow_any s w (by omega)
    rw [show (ByteArray.mk t.toArray).data.toList = t from rfl] at hr
    obtain ⟨q, hq⟩ : ∃ q, q = sqz false t := ⟨_, rfl⟩
    rw [← hq] at hr hP hql
    have hql2 : q.length ≤ 140737488355327 := by omega
    have ht0 := fun st en w => rtrim_any ⟨q.toArray⟩ st en w hql2
    obtain ⟨p0, p1, p2⟩ := place_ref q
    have HR := Lib.hid hr; have HT := Lib.hid ht0; have HQ := Lib.hid hq; clear hr ht0 hq hql hql2 htl
    rcases hf with rfl | rfl
    · rw [if_pos rfl] at ht
      rw [← ht] at hlow
      have HL := Lib.hid hlow; clear hlow ht hs
      rcases hw with rfl | rfl | rfl
      · rw [p0] at hP
        have HP := Lib.hid hP; clear hP p0 p1 p2
        have h3 := fun w => HT.out true false w
        rw [show (ByteArray.mk q.toArray).data.toList = q from rfl] at h3
        have H3 := Lib.hid h3; clear h3
        go_enter Tryz.func14, Tryz.ntmps14
        go_wp2_with (first
          | (go_at_call 24; with_reducible refine (HV.out _).mono ?_; rintro e w1 ⟨rfl, rfl⟩)
          | (go_at_call 25; with_reducible refine (HL.out _).mono ?_; rintro e w2 ⟨rfl, hb2⟩; have HB2 := Lib.hid hb2; clear hb2)
          | (go_at_call 27; with_reducible refine (HR.out _).mono ?_; rintro e w3 ⟨rfl, hb3⟩; have HB3 := Lib.hid (bnext HB2.out hb3); clear hb3)
          | (go_at_call 26; with_reducible refine (H3.out _).mono ?_; rintro e w4 ⟨rfl, rfl⟩)
          | fail)
        go_ret2
        exact ⟨by rw [HP.out]; rfl, HB3.out⟩
      · rw [p1] at hP
        have HP := Lib.hid hP; clear hP p0 p1 p2
        have h3 := fun w => HT.out false false w
        rw [show (ByteArray.mk q.toArray).data.toList = q from rfl] at h3
        have H3 := Lib.hid h3; clear h3
        go_enter Tryz.func14, Tryz.ntmps14
        go_wp2_with (first
          | (go_at_call 24; with_reducible refine (HV.out _).mono ?_; rintro e w1 ⟨rfl, rfl⟩)
          | (go_at_call 25; with_reducible refine (HL.out _).mono ?_; rintro e w2 ⟨rfl, hb2⟩; have HB2 := Lib.hid hb2; clear hb2)
          | (go_at_call 27; with_reducible refine (HR.out _).mono ?_; rintro e w3 ⟨rfl, hb3⟩; have HB3 := Lib.hid (bnext HB2.out hb3); clear hb3)
          | (go_at_call 26; with_reducible refine (H3.out _).mono ?_; rintro e w4 ⟨rfl, rfl⟩)
          | fail)
        go_ret2
        exact ⟨by rw [HP.out]; rfl, HB3.out⟩
      · rw [p2] at hP
        have HP := Lib.hid hP; clear hP p0 p1 p2
        have h3 := fun w => HT.out false true w
        rw [show (ByteArray.mk q.toArray).data.toList = q from rfl] at h3
        have H3 := Lib.hid h3; clear h3
        go_enter Tryz.func14, Tryz.ntmps14
        go_wp2_with (first
          | (go_at_call 24; with_reducible refine (HV.out _).mono ?_; rintro e w1 ⟨rfl, rfl⟩)
          | (go_at_call 25; with_reducible refine (HL.out _).mono ?_; rintro e w2 ⟨rfl, hb2⟩; have HB2 := Lib.hid hb2; clear hb2)
          | (go_at_call 27; with_reducible refine (HR.out _).mono ?_; rintro e w3 ⟨rfl, hb3⟩; have HB3 := Lib.hid (bnext HB2.out hb3); clear hb3)
          | (go_at_call 26; with_reducible refine (H3.out _).mono ?_; rintro e w4 ⟨rfl, rfl⟩)
          | fail)
        go_ret2
        exact ⟨by rw [HP.out]; rfl, HB3.out⟩
    · rw [if_neg (by decide)] at ht
      have hr2 := HR.out
      rw [ht, bmk s] at hr2
      have HR2 := Lib.hid hr2; clear hr2 hlow ht hs HR
      rcases hw with rfl | rfl | rfl
      · rw [p0] at hP
        have HP := Lib.hid hP; clear hP p0 p1 p2
        have h3 := fun w => HT.out true false w
        rw [show (ByteArray.mk q.toArray).data.toList = q from rfl] at h3
        have H3 := Lib.hid h3; clear h3
        go_enter Tryz.func14, Tryz.ntmps14
        go_wp2_with (first
          | (go_at_call 24; with_reducible refine (HV.out _).mono ?_; rintro e w1 ⟨rfl, rfl⟩)
          | (go_at_call 27; with_reducible refine (HR2.out _).mono ?_; rintro e w3 ⟨rfl, hb3⟩; have HB3 := Lib.hid hb3; clear hb3)
          | (go_at_call 26; with_reducible refine (H3.out _).mono ?_; rintro e w4 ⟨rfl, rfl⟩)
          | fail)
        go_ret2
        exact ⟨by rw [HP.out]; rfl, HB3.out⟩
      · rw [p1] at hP
        have HP := Lib.hid hP; clear hP p0 p1 p2
        have h3 := fun w => HT.out false false w
        rw [show (ByteArray.mk q.toArray).data.toList = q from rfl] at h3
        have H3 := Lib.hid h3; clear h3
        go_enter Tryz.func14, Tryz.ntmps14
        go_wp2_with (first
          | (go_at_call 24; with_reducible refine (HV.out _).mono ?_; rintro e w1 ⟨rfl, rfl⟩)
          | (go_at_call 27; with_reducible refine (HR2.out _).mono ?_; rintro e w3 ⟨rfl, hb3⟩; have HB3 := Lib.hid hb3; clear hb3)
          | (go_at_call 26; with_reducible refine (H3.out _).mono ?_; rintro e w4 ⟨rfl, rfl⟩)
          | fail)
        go_ret2
        exact ⟨by rw [HP.out]; rfl, HB3.out⟩
      · rw [p2] at hP
        have HP := Lib.hid hP; clear hP p0 p1 p2
        have h3 := fun w => HT.out false true w
        rw [show (ByteArray.mk q.toArray).data.toList = q from rfl] at h3
        have H3 := Lib.hid h3; clear h3
        go_enter Tryz.func14, Tryz.ntmps14
        go_wp2_with (first
          | (go_at_call 24; with_reducible refine (HV.out _).mono ?_; rintro e w1 ⟨rfl, rfl⟩)
          | (go_at_call 27; with_reducible refine (HR2.out _).mono ?_; rintro e w3 ⟨rfl, hb3⟩; have HB3 := Lib.hid hb3; clear hb3)
          | (go_at_call 26; with_reducible refine (H3.out _).mono ?_; rintro e w4 ⟨rfl, rfl⟩)
          | fail)
        go_ret2
        exact ⟨by rw [HP.out]; rfl, HB3.out⟩

set_option maxRecDepth 20000 in
theorem rpiece_digits (wh : Int) (s : ByteArray) (w : World) (hs : s.size ≤ 65536) (hw : wh = 0 ∨ wh = 1 ∨ wh = 2) :
    Calls Tryz.prog 14 #[.int .i8 2, .int .i8 wh, .string s] w fun e w' => e = .returned (ret2 (pieceL 2 wh s.data.toList)) ∧ Below w.heap.size w w' := by
  have hP : pieceL 2 wh s.data.toList = if onlyL [32] s.data.toList = true then (zapB 32 s.data.toList, true) else ([], false) := by
    unfold pieceL; rw [if_neg (by rw [← Lib.size_eq]; omega), if_neg (by omega), if_pos rfl]
  have g1 : ¬ (65536 : Int) < s.size := by omega
  have hS := fun w => rspaced_any s w (by omega)
  have hW := fun w => rwithout_any s ⟨#[32]⟩ w (by omega) (by decide)
  rw [show lessB (ByteArray.mk #[32]).data.toList s.data.toList = zapB 32 s.data.toList from lessB_one _] at hW
  have HW := Lib.hid hW; clear hW hs
  cases ho : onlyL [32] s.data.toList <;> (
    rw [ho] at hP hS
    have HP := Lib.hid hP; have HS := Lib.hid hS; clear hP hS ho
    rcases hw with rfl | rfl | rfl)
  iterate 3 (
    · go_enter Tryz.func14, Tryz.ntmps14
      go_wp2_with (first
        | (go_at_call 29; with_reducible refine (HS.out _).mono ?_; rintro e w1 ⟨rfl, rfl⟩)
        | fail)
      go_ret2
      exact ⟨by rw [HP.out]; rfl, Below.refl _ _⟩)
  iterate 3 (
    · go_enter Tryz.func14, Tryz.ntmps14
      go_wp2_with (first
        | (go_at_call 29; with_reducible refine (HS.out _).mono ?_; rintro e w1 ⟨rfl, rfl⟩)
        | (go_at_call 28; with_reducible refine (HW.out _).mono ?_; rintro e w2 ⟨rfl, hb2⟩; have HB2 := Lib.hid hb2; clear hb2)
        | fail)
      go_ret2
      exact ⟨by rw [HP.out]; rfl, HB2.out⟩)

set_option maxRecDepth 20000 in
theorem rpiece_phone (wh : Int) (s : ByteArray) (w : World) (hs : s.size ≤ 65536) (hw : wh = 0 ∨ wh = 1 ∨ wh = 2) :
    Calls Tryz.prog 14 #[.int .i8 3, .int .i8 wh, .string s] w fun e w' => e = .returned (ret2 (pieceL 3 wh s.data.toList)) ∧ Below w.heap.size w w' := by
  have hP : pieceL 3 wh s.data.toList = if onlyL signs s.data.toList = true then (dialL s.data.toList, true) else ([], false) := by
    unfold pieceL; rw [if_neg (by rw [← Lib.size_eq]; omega), if_neg (by omega), if_neg (by omega), if_pos rfl]
  have g1 : ¬ (65536 : Int) < s.size := by omega
  have hS := fun w => rphone_any s w (by omega)
  have hW := fun w => rwithout_any s ⟨#[32, 45]⟩ w (by omega) (by decide)
  have hl2 := lessB_length [32, 45] s.data.toList
  rw [← Lib.size_eq] at hl2
  have hL := fun w => rlow_any ⟨(lessB [32, 45] s.data.toList).toArray⟩ w (by show (lessB [32, 45] s.data.toList).length ≤ _; omega)
  rw [show (ByteArray.mk (lessB [32, 45] s.data.toList).toArray).data.toList = lessB [32, 45] s.data.toList from rfl] at hL
  rw [show low (lessB [32, 45] s.data.toList) = dialL s.data.toList by rw [lessB_two]; rfl] at hL
  rw [show lessB (ByteArray.mk #[32, 45]).data.toList s.data.toList = lessB [32, 45] s.data.toList from rfl] at hW
  have HW := Lib.hid hW; have HL := Lib.hid hL; clear hW hL hs hl2
  cases ho : onlyL signs s.data.toList <;> (
    rw [ho] at hP hS
    have HP := Lib.hid hP; have HS := Lib.hid hS; clear hP hS ho
    rcases hw with rfl | rfl | rfl)
  iterate 3 (
    · go_enter Tryz.func14, Tryz.ntmps14
      go_wp2_with (first
        | (go_at_call 30; with_reducible refine (HS.out _).mono ?_; rintro e w1 ⟨rfl, rfl⟩)
        | fail)
      go_ret2
      exact ⟨by rw [HP.out]; rfl, Below.refl _ _⟩)
  iterate 3 (
    · go_enter Tryz.func14, Tryz.ntmps14
      go_wp2_with (first
        | (go_at_call 30; with_reducible refine (HS.out _).mono ?_; rintro e w1 ⟨rfl, rfl⟩)
        | (go_at_call 28; with_reducible refine (HW.out _).mono ?_; rintro e w2 ⟨rfl, hb2⟩; have HB2 := Lib.hid hb2; clear hb2)
        | (go_at_call 25; with_reducible refine (HL.out _).mono ?_; rintro e w3 ⟨rfl, hb3⟩; have HB3 := Lib.hid (bnext HB2.out hb3); clear hb3)
        | fail)
      go_ret2
      exact ⟨by rw [HP.out]; rfl, HB3.out⟩)

theorem rpiece_any (f wh : Int) (s : ByteArray) (w : World) :
    Calls Tryz.prog 14 #[.int .i8 f, .int .i8 wh, .string s] w fun e w' => e = .returned (ret2 (pieceL f wh s.data.toList)) ∧ Below w.heap.size w w' := by
  by_cases h : 65536 < s.size ∨ wh < 0 ∨ 2 < wh
  · exact rpiece_bad f wh s w h
  have hs : s.size ≤ 65536 := by omega
  have hw : wh = 0 ∨ wh = 1 ∨ wh = 2 := by omega
  rcases (show (f < 0 ∨ 3 < f) ∨ (f = 0 ∨ f = 1) ∨ f = 2 ∨ f = 3 by omega) with hf | hf | rfl | rfl
  · exact rpiece_none f wh s w hs hw hf
  · exact rpiece_text f wh s w hs hw hf
  · exact rpiece_digits wh s w hs hw
  · exact rpiece_phone wh s w hs hw
end Go.Proofs.YtpnnbffhdhbonaaGreatDoor
