/- prep.oid: a type's word as a key. -/
import Derived.Test.YtpnnbffhdhbonaaGreatDoorCut
import Derived.Test.YtpnnbffhdhbonaaGreatDoorNumeral
namespace Go.Proofs.YtpnnbffhdhbonaaGreatDoor
open Go Go.RowKit

def letters : List UInt8 := [97, 98, 99, 100, 101, 102, 103, 104, 105, 106, 107, 108, 109, 110, 111, 112, 113, 114, 115, 116, 117, 118, 119, 120, 121, 122, 65, 66, 67, 68, 69, 70, 71, 72, 73, 74, 75, 76, 77, 78, 79, 80, 81, 82, 83, 84, 85, 86, 87, 88, 89, 90]
/-- a row of digits that does not begin with nought but nought itself -/
def rowOk (r : List UInt8) : Bool := match r with | [] => false | b :: l => (b :: l).all dig && !(b == 48 && !l.isEmpty)
def oidL (v : List UInt8) : List UInt8 × Bool := match v with
  | [] => ([], false)
  | b :: l => if letters.contains b then (low (b :: l), onlyL (letters ++ [45]) (b :: l))
    else if (cutAt 46 (b :: l)).all rowOk then (b :: l, decide (1 < (cutAt 46 (b :: l)).length)) else ([], false)

/-- what a walk asks of a row -/
theorem row_cases (x : ByteArray) : (x = ⟨#[]⟩ ∧ rowOk x.data.toList = false) ∨ ∃ b l, x = ⟨(b :: l).toArray⟩ ∧ rowOk x.data.toList = ((b :: l).all dig && !(b == 48 && !l.isEmpty)) := by
  cases hl : x.data.toList with
  | nil => exact .inl ⟨empty_of x hl, rfl⟩
  | cons b l => exact .inr ⟨b, l, by rw [← bmk x, hl], rfl⟩

set_option maxRecDepth 20000 in
theorem oid_any (v : ByteArray) (w : World) (E : Env w) (hs : v.size ≤ 4294967280) :
    Calls Tryz.prog 70 #[.agg #[], .string v] w fun e w' => e = .returned (ret2 (oidL v.data.toList)) ∧ Below w.heap.size w w' := by
  have b0 : Below w.heap.size w (w.alloc (.cells #[] 61)) := (Below.refl _ w).alloc (Nat.le_refl _) _
  obtain ⟨m, hm⟩ := (E.next b0).max
  have HB0 := Lib.hid b0; have HM := Lib.hid hm; clear b0 hm E
  by_cases hv : v.data.toList = []
  · obtain rfl := empty_of v hv
    go_enter Tryz.func70, Tryz.ntmps70
    go_wp2_with fail
    go_ret2
    exact ⟨rfl, HB0.out⟩
  · obtain ⟨b, l, hl⟩ : ∃ b l, v.data.toList = b :: l := by
      cases hl : v.data.toList with
      | nil => exact absurd hl hv
      | cons b l => exact ⟨b, l, rfl⟩
    obtain rfl : v = ⟨(b :: l).toArray⟩ := by rw [← bmk v, hl]
    clear hv hl
    have hb : ∀ h, (ByteArray.mk (b :: l).toArray)[0]'h = b := fun _ => rfl
    have hsz : 0 < (ByteArray.mk (b :: l).toArray).size := by show 0 < l.length + 1; omega
    cases hc : letters.contains b with
    | true =>
      have hi : ¬ Lib.indexByte letters b < 0 := fun e => by rw [(idx_neg _ _).1 e] at hc; cases hc
      have hi2 : 0 ≤ Lib.indexByte letters b := by omega
      clear hi
      have HC := Lib.hid hc
      clear hc
      go_enter Tryz.func70, Tryz.ntmps70
      go_wp2_with (first
        | (go_at_call 81; refine (Tryz.strings_IndexByte _ _ _).mono ?_; rintro e w1 ⟨rfl, rfl⟩
           rw [show Lib.indexByte (ByteArray.mk #[97, 98, 99, 100, 101, 102, 103, 104, 105, 106, 107, 108, 109, 110, 111, 112, 113, 114, 115, 116, 117, 118, 119, 120, 121, 122, 65, 66, 67, 68, 69, 70, 71, 72, 73, 74, 75, 76, 77, 78, 79, 80, 81, 82, 83, 84, 85, 86, 87, 88, 89, 90]).data.toList ((b.toNat : Int).toNat.toUInt8) = Lib.indexByte letters b from by rw [u8_of]; rfl])
        | (go_at_call 33; refine (lower_any _ _ (by omega)).mono ?_; rintro e w2 ⟨rfl, hb2⟩; have HB2 := Lib.hid (bnext HB0.out hb2); clear hb2)
        | (go_at_call 37; refine (only_any _ _ _ (by omega)).mono ?_; rintro e w3 ⟨rfl, rfl⟩)
        | fail)
      go_ret2
      refine ⟨?_, HB2.out⟩
      rw [show oidL (b :: l) = (low (b :: l), onlyL (letters ++ [45]) (b :: l)) by unfold oidL; dsimp only; rw [if_pos HC.out]]
      rfl
    | false =>
      have hi2 : Lib.indexByte letters b < 0 := (idx_neg _ _).2 hc
      have HC := Lib.hid hc
      clear hc
      go_enter Tryz.func70, Tryz.ntmps70
      go_wp2_with (first
        | (go_at_call 81; refine (Tryz.strings_IndexByte _ _ _).mono ?_; rintro e w1 ⟨rfl, rfl⟩
           rw [show Lib.indexByte (ByteArray.mk #[97, 98, 99, 100, 101, 102, 103, 104, 105, 106, 107, 108, 109, 110, 111, 112, 113, 114, 115, 116, 117, 118, 119, 120, 121, 122, 65, 66, 67, 68, 69, 70, 71, 72, 73, 74, 75, 76, 77, 78, 79, 80, 81, 82, 83, 84, 85, 86, 87, 88, 89, 90]).data.toList ((b.toNat : Int).toNat.toUInt8) = Lib.indexByte letters b from by rw [u8_of]; rfl])
        | fail)
      go_at_call 99
      refine (Tryz.strings_Split _ _ m _ (by omega) HM.out (by decide)).mono ?_
      rintro e w1 ⟨rfl, hw1⟩
      have hlen := Lib.splitB_all ⟨#[46]⟩ (by decide) 0 _ (⟨(b :: l).toArray⟩ : ByteArray) rfl
      have hcut := splitB_cut (⟨(b :: l).toArray⟩ : ByteArray) 46 (Lib.countB ⟨(b :: l).toArray⟩ ⟨#[46]⟩) rfl
      have hcl := Lib.countB_le ⟨#[46]⟩ (by decide) _ (⟨(b :: l).toArray⟩ : ByteArray) (Nat.le_refl _)
      have hsub : ∀ x, x ∈ Lib.splitB ⟨#[46]⟩ 0 (Lib.countB ⟨(b :: l).toArray⟩ ⟨#[46]⟩) ⟨(b :: l).toArray⟩ → x.size ≤ 4294967280 := fun x hx => by
        have h1 : x.data.toList ∈ cutAt 46 (b :: l) := by
          rw [← show cutAt 46 (ByteArray.mk (b :: l).toArray).data.toList = cutAt 46 (b :: l) from rfl, ← hcut]
          exact List.mem_map_of_mem hx
        have h2 := cutAt_le 46 (b :: l) _ h1
        rw [Lib.size_eq]
        have h3 : (b :: l).length ≤ 4294967280 := hs
        omega
      generalize Lib.splitB ⟨#[46]⟩ 0 (Lib.countB ⟨(b :: l).toArray⟩ ⟨#[46]⟩) ⟨(b :: l).toArray⟩ = xs at hlen hcut hw1 hsub
      rw [← hlen]
      rw [show (ByteArray.mk (b :: l).toArray).data.toList = b :: l from rfl] at hcut
      have hxl : xs.length ≤ 4294967281 := by omega
      clear hlen hcl
      have hcell : ∀ j x, xs[j]? = some x → w1.cell? ⟨(w.alloc (.cells #[] 61)).heap.size, j, none⟩ = some (.string x) := by
        intro j x hj
        rw [hw1, cell_of_row _ _ j _ _ (0, 0) (heap_alloc_new _ _)]
        simp [hj]
      have B1 : Below w.heap.size w w1 := by rw [hw1]; exact HB0.out.alloc (by simp) _
      generalize (w.alloc (.cells #[] 61)).heap.size = g at hcell
      have HX := Lib.hid (And.intro hcell (And.intro hcut hsub)); have HB1 := Lib.hid B1; clear hcell hcut hsub B1 hw1 HM m
      go_wp2_with fail
      go_loopw [23] (fun iv wr => ∃ i : Nat, iv = .int .i64 i ∧ i ≤ xs.length ∧ wr = w1 ∧ (cutAt 46 (b :: l)).all rowOk = ((xs.map (·.data.toList)).drop i).all rowOk) (fun iv _ => xs.length - (intOf iv).toNat)
      case atStart => exact ⟨0, rfl, Nat.zero_le _, rfl, by rw [HX.out.2.1]; rfl⟩
      case round =>
        obtain ⟨i, rfl, hi, rfl, hall⟩ := hrel
        have HA := Lib.hid hall; clear hall
        by_cases hlt : i < xs.length
        · have hc := HX.out.1 i _ (List.getElem?_eq_getElem hlt)
          have hs2 := HX.out.2.2 _ (List.getElem_mem hlt)
          have ha : (cutAt 46 (b :: l)).all rowOk = (rowOk xs[i].data.toList && ((xs.map (·.data.toList)).drop (i + 1)).all rowOk) := by
            rw [HA.out, List.drop_eq_getElem_cons (by simpa using hlt), List.all_cons]; simp
          have HA2 := Lib.hid ha; clear ha HA
          generalize xs[i] = x at hc hs2 HA2
          rcases row_cases x with ⟨rfl, hr⟩ | ⟨c, t, rfl, hr⟩
          · have HR := Lib.hid hr; clear hr
            go_wp2_with fail
            go_ret2
            refine ⟨?_, HB1.out⟩
            rw [show oidL (b :: l) = ([], false) by unfold oidL; dsimp only; rw [if_neg (by rw [HC.out]; simp), if_neg (by rw [HA2.out, HR.out]; simp)]]
            rfl
          · have hb3 : ∀ h, (ByteArray.mk (c :: t).toArray)[0]'h = c := fun _ => rfl
            have hsz3 : 0 < (ByteArray.mk (c :: t).toArray).size := by show 0 < t.length + 1; omega
            have hne : ∀ c : UInt8, c ≠ 48 → ¬ (c.toNat : Int) = 48 := fun c h e => h (UInt8.toNat_inj.1 (by show c.toNat = 48; omega))
            cases hD : (c :: t).all dig with
            | false =>
              have ho : onlyL (ByteArray.mk #[]).data.toList (ByteArray.mk (c :: t).toArray).data.toList = false := (onlyL_nil _).trans hD
              rw [hD, Bool.false_and] at hr
              have HR := Lib.hid hr; clear hr hD hne
              go_wp2_with (first
                | (go_at_call 37; refine (only_any _ _ _ (by omega)).mono ?_; rintro e w2 ⟨rfl, rfl⟩; rw [ho])
                | fail)
              go_ret2
              refine ⟨?_, HB1.out⟩
              rw [show oidL (b :: l) = ([], false) by unfold oidL; dsimp only; rw [if_neg (by rw [HC.out]; simp), if_neg (by rw [HA2.out, HR.out]; simp)]]
              rfl
            | true =>
              have ho : onlyL (ByteArray.mk #[]).data.toList (ByteArray.mk (c :: t).toArray).data.toList = true := (onlyL_nil _).trans hD
              rw [hD, Bool.true_and] at hr
              clear hD
              by_cases h48 : c = 48
              · subst h48
                cases t with
                | nil =>
                  have HR := Lib.hid hr; clear hr hne
                  go_wp2_with (first
                    | (go_at_call 37; refine (only_any _ _ _ (by omega)).mono ?_; rintro e w2 ⟨rfl, rfl⟩; rw [ho])
                    | fail)
                  exact ⟨⟨i + 1, by simp, by omega, trivial, by rw [HA2.out, HR.out]; simp⟩, by simp [intOf]; omega⟩
                | cons d t =>
                  have hl2 : (1 : Int) < (t.length : Int) + 1 + 1 := by omega
                  have HR := Lib.hid hr; clear hr hne
                  go_wp2_with (first
                    | (go_at_call 37; refine (only_any _ _ _ (by omega)).mono ?_; rintro e w2 ⟨rfl, rfl⟩; rw [ho])
                    | fail)
                  go_ret2
                  refine ⟨?_, HB1.out⟩
                  rw [show oidL (b :: l) = ([], false) by unfold oidL; dsimp only; rw [if_neg (by rw [HC.out]; simp), if_neg (by rw [HA2.out, HR.out]; simp)]]
                  rfl
              · have hn := hne c h48
                rw [show (c == 48) = false from by simpa using h48] at hr
                have HR := Lib.hid hr; clear hr hne h48
                go_wp2_with (first
                  | (go_at_call 37; refine (only_any _ _ _ (by omega)).mono ?_; rintro e w2 ⟨rfl, rfl⟩; rw [ho])
                  | fail)
                exact ⟨⟨i + 1, by simp, by omega, trivial, by rw [HA2.out, HR.out]; simp⟩, by simp [intOf]; omega⟩
        · have hfin : (cutAt 46 (b :: l)).all rowOk = true := by rw [HA.out, List.drop_eq_nil_of_le (by simpa using hlt)]; rfl
          have hle : (cutAt 46 (b :: l)).length = xs.length := by rw [← HX.out.2.1]; simp
          have HF := Lib.hid (And.intro hfin hle); clear hfin hle
          go_wp2_with fail
          go_ret2
          refine ⟨?_, HB1.out⟩
          rw [show oidL (b :: l) = (b :: l, decide (1 < xs.length)) by unfold oidL; dsimp only; rw [if_neg (by rw [HC.out]; simp), if_pos HF.out.1, HF.out.2]]
          rw [show decide (1 < xs.length) = decide ((1 : Int) < (xs.length : Int)) from decide_eq_decide.2 (by omega)]
          rfl
end Go.Proofs.YtpnnbffhdhbonaaGreatDoor
