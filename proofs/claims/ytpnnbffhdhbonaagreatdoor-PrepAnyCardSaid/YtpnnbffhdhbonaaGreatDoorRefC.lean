/- rosterref03.runs, trimmed, Piece: what a piece of a value becomes. -/
import Derived.Test.YtpnnbffhdhbonaaGreatDoorRefB
import Derived.Test.YtpnnbffhdhbonaaGreatDoorRefV
import Derived.Test.YtpnnbffhdhbonaaGreatDoorAgainV
import Derived.Deep.CutRange
import Derived.Deep.DeepCutAuto
namespace Go.Proofs.YtpnnbffhdhbonaaGreatDoor
open Go Go.RowKit

theorem getD_at (s : ByteArray) {i : Nat} (h : i < s.size) : s.data.toList.getD i 0 = s[i] := by
  have hl : s.data.toList.length = s.size := by simp
  rw [List.getD_eq_getElem?_getD, List.getElem?_eq_getElem (by rw [hl]; exact h)]; rfl

set_option maxRecDepth 20000 in
theorem rruns_any (s : ByteArray) (w : World) (hs : s.size ≤ 140737488355327) :
    Calls Tryz.prog 27 #[.string s] w fun e w' => e = .returned (.string ⟨(sqz false s.data.toList).toArray⟩) ∧ Below w.heap.size w w' := by
  go_enter Tryz.func27, Tryz.ntmps27
  go_wp2_with fail
  go_loopw [3, 4] (fun sl iv wr => ∃ (i cap : Nat) (go : Option Nat) (out : List UInt8) (p : Bool), sl = sv go out.length cap ∧ iv = .int .i64 i ∧ i ≤ s.size ∧ out.length ≤ i ∧ Buf w wr go cap out ∧ ((go = none ∧ out = []) ∨ (∃ g, go = some g)) ∧
      sqz false s.data.toList = out ++ sqz p (s.data.toList.drop i) ∧ ((i = 0 ∧ p = false) ∨ (0 < i ∧ p = (s.data.toList.getD (i - 1) 0 == 32)))) (fun _ iv _ => s.size - (intOf iv).toNat)
  case atStart => exact ⟨0, 0, none, [], false, rfl, rfl, Nat.zero_le _, Nat.zero_le _, Buf.nil w, .inl ⟨rfl, rfl⟩, rfl, .inl ⟨rfl, rfl⟩⟩
  case round =>
    obtain ⟨i, cap, go, out, p, rfl, rfl, hi, hle, hB, hgo, hq, hp⟩ := hrel
    have HB := Lib.hid hB; have HG := Lib.hid hgo; clear hB hgo
    by_cases hlt : i < s.size
    · rw [drop_at s hlt, sqz_cons] at hq
      have hnx : s.data.toList.getD (i + 1 - 1) 0 = s[i] := getD_at s hlt
      generalize hsb : s[i]'hlt = b at hq hnx
      by_cases h32 : b = 32
      · have e32 : ((b.toNat : Int) != 32) = false := by subst h32; rfl
        have hpb : (b == 32) = true := by subst h32; rfl
        rcases hp with ⟨hi0, rfl⟩ | ⟨hi0, hp⟩
        · rw [if_neg (by simp), hpb] at hq
          have HQ := Lib.hid hq; have HN := Lib.hid (show true = (s.data.toList.getD (i + 1 - 1) 0 == 32) by rw [hnx]; exact hpb.symm); clear hq hnx hpb h32
          have e0 : ((i : Int) == 0) = true := by rw [hi0]; rfl
          have HI0 := Lib.hid hi0; clear hi0
          go_wp2_with (first
            | (at_builtin; refine HB.out.push rfl _ _ rfl rfl b rfl rfl (by omega) ?_; intro g' cap' w' hB'; have HB' := Lib.hid hB'; clear hB')
            | fail)
          exact ⟨⟨i + 1, cap', some g', out ++ [b], true, by simp [sv], rfl, by omega, by simp; omega, HB'.out, .inr ⟨g', rfl⟩, by rw [HQ.out]; simp, .inr ⟨by omega, HN.out⟩⟩, by simp [intOf]; omega⟩
        · obtain ⟨j, rfl⟩ : ∃ j, i = j + 1 := ⟨i - 1, by omega⟩
          have hj : j < s.size := by omega
          have hsj := getD_at s hj
          rw [show j + 1 - 1 = j from rfl, hsj] at hp
          generalize hsc : s[j]'hj = c at hp
          have e0 : (((j + 1 : Nat) : Int) == 0) = false := by rw [beq_eq_false_iff_ne]; omega
          have j1 : (0 : Int) ≤ j := by omega
          have j2 : (j : Int) < s.size := by omega
          clear hsj
          cases hpc : (c == 32) with
          | true =>
            have e2 : ((c.toNat : Int) != 32) = false := by rw [eq_of_beq hpc]; rfl
            rw [hp, hpc, if_pos ⟨h32, rfl⟩] at hq
            have HQ := Lib.hid hq; have HN := Lib.hid (show true = (s.data.toList.getD (j + 1 + 1 - 1) 0 == 32) by rw [hnx]; exact hpb.symm); clear hq hnx hpb h32 hp hpc
            go_wp2_with fail
            exact ⟨⟨j + 1 + 1, cap, go, out, true, rfl, by simp, by omega, by omega, HB.out, HG.out, HQ.out, .inr ⟨by omega, HN.out⟩⟩, by simp [intOf]; omega⟩
          | false =>
            have e2 : ((c.toNat : Int) != 32) = true := by
              rw [bne_iff_ne]; intro e; rw [beq_eq_false_iff_ne] at hpc; exact hpc (UInt8.toNat_inj.1 (by show c.toNat = 32; omega))
            rw [hp, hpc, if_neg (by simp), hpb] at hq
            have HQ := Lib.hid hq; have HN := Lib.hid (show true = (s.data.toList.getD (j + 1 + 1 - 1) 0 == 32) by rw [hnx]; exact hpb.symm); clear hq hnx hpb h32 hp hpc
            go_wp2_with (first
              | (at_builtin; refine HB.out.push rfl _ _ rfl rfl b rfl rfl (by omega) ?_; intro g' cap' w' hB'; have HB' := Lib.hid hB'; clear hB')
              | fail)
            exact ⟨⟨j + 1 + 1, cap', some g', out ++ [b], true, by simp [sv], by simp, by omega, by simp; omega, HB'.out, .inr ⟨g', rfl⟩, by rw [HQ.out]; simp, .inr ⟨by omega, HN.out⟩⟩, by simp [intOf]; omega⟩
      · have e32 : ((b.toNat : Int) != 32) = true := by
          rw [bne_iff_ne]; intro e; exact h32 (UInt8.toNat_inj.1 (by show b.toNat = 32; omega))
        have hpb : (b == 32) = false := by simpa using h32
        rw [if_neg (fun e => h32 e.1), hpb] at hq
        have HQ := Lib.hid hq; have HN := Lib.hid (show false = (s.data.toList.getD (i + 1 - 1) 0 == 32) by rw [hnx]; exact hpb.symm); clear hq hnx hpb h32 hp
        go_wp2_with (first
          | (at_builtin; refine HB.out.push rfl _ _ rfl rfl b rfl rfl (by omega) ?_; intro g' cap' w' hB'; have HB' := Lib.hid hB'; clear hB')
          | fail)
        exact ⟨⟨i + 1, cap', some g', out ++ [b], false, by simp [sv], rfl, by omega, by simp; omega, HB'.out, .inr ⟨g', rfl⟩, by rw [HQ.out]; simp, .inr ⟨by omega, HN.out⟩⟩, by simp [intOf]; omega⟩
    · rw [drop_end s hlt, sqz_nil, List.append_nil] at hq
      have HQ := Lib.hid hq; clear hq
      rcases HG.out with ⟨rfl, rfl⟩ | ⟨g, rfl⟩
      · have hbk : ∀ w, (convert 58 9 (.slice none 0 0)).run Tryz.prog w = .ok (.string ⟨#[]⟩) w := fun w => by kernel_rfl
        obtain rfl : cap = 0 := HB.out.own.2.2
        have hsv : sv none ([] : List UInt8).length 0 = .slice none 0 0 := rfl
        rw [hsv]
        go_wp2_with fail
        go_ret
        exact ⟨by rw [HQ.out]; rfl, HB.out.below⟩
      · have hbk := HB.out.back rfl cap
        have hsv : sv (some g) out.length cap = .slice (some ⟨g, 0, none⟩) out.length cap := rfl
        rw [hsv]
        go_wp2_with fail
        go_ret
        exact ⟨by rw [HQ.out]; rfl, HB.out.below⟩

/-- without a blank at the beginning, at the end -/
def trimH (st : Bool) (l : List UInt8) : List UInt8 := if st = true ∧ l.head? = some 32 then l.tail else l
def trimE (en : Bool) (l : List UInt8) : List UInt8 := if en = true ∧ l.getLast? = some 32 then l.dropLast else l

set_option maxRecDepth 20000 in
set_option maxHeartbeats 4000000 in
theorem rtrim_any (s : ByteArray) (st en : Bool) (w : World) (hs : s.size ≤ 140737488355327) :
    Calls Tryz.prog 26 #[.string s, .bool st, .bool en] w fun e w' => e = .returned (.string ⟨(trimE en (trimH st s.data.toList)).toArray⟩) ∧ w' = w := by
  have hl : s.data.toList.length = s.size := by simp
  obtain ⟨z, hz⟩ : ∃ z, z = trimH st s.data.toList := ⟨_, rfl⟩
  obtain ⟨Z, hZS⟩ : ∃ Z : ByteArray, Z = ⟨z.toArray⟩ := ⟨_, rfl⟩
  have hzl : z.length ≤ 140737488355327 := by have : z.length ≤ s.data.toList.length := by { rw [hz]; unfold trimH; split <;> simp }
                                              omega
  rw [← hz]
  have HZS := Lib.hid hZS; clear hZS
  cases st with
  | false =>
    have hzs : z = s.data.toList := hz.trans (if_neg (by simp))
    have hsZ : Z = s := by rw [HZS.out, hzs]
    subst hsZ; clear hz hzs hl
    cases en with
    | false =>
      have HF := Lib.hid (show trimE false z = z from if_neg (by simp)); clear hzl
      go_enter Tryz.func26, Tryz.ntmps26
      go_wp2_with fail
      go_ret
      exact ⟨by rw [HF.out, ← HZS.out]; rfl, rfl⟩
    | true =>
      by_cases hn : z = []
      · have HF := Lib.hid (show trimE true z = z from if_neg (by rw [hn]; simp))
        have hz0 : Z.size = 0 := by rw [HZS.out, hn]; rfl
        clear hzl hn
        go_enter Tryz.func26, Tryz.ntmps26
        go_wp2_with fail
        go_ret
        exact ⟨by rw [HF.out, ← HZS.out]; rfl, rfl⟩
      · obtain ⟨u, d, hu⟩ : ∃ u d, z = u ++ [d] := ⟨z.dropLast, z.getLast hn, (List.dropLast_concat_getLast hn).symm⟩
        have hzn : Z.size = u.length + 1 := by rw [HZS.out, hu]; show (u ++ [d]).length = _; rw [List.length_append]; rfl
        have hul : u.length + 1 ≤ 140737488355327 := by rw [hu, List.length_append] at hzl; simpa using hzl
        have hzd : ∀ h, Z[u.length]'h = d := by rw [HZS.out, hu]; intro h; show (u ++ [d])[u.length]'_ = d; simp
        have hzx : Z.extract 0 u.length = ⟨u.toArray⟩ := by rw [HZS.out, hu, Lib.extract_eq]; simp
        by_cases h32 : d = 32
        · have HF := Lib.hid (show trimE true z = u by rw [hu, h32]; unfold trimE; rw [if_pos ⟨rfl, by simp⟩]; simp)
          have e32 : ((d.toNat : Int) == 32) = true := by rw [h32]; rfl
          clear hzl hn hu h32
          go_enter Tryz.func26, Tryz.ntmps26
          go_wp2_with fail
          go_ret
          exact ⟨by rw [HF.out]; rfl, rfl⟩
        · have HF := Lib.hid (show trimE true z = z by rw [hu]; unfold trimE; rw [if_neg (by simp; exact h32)])
          have e32 : ((d.toNat : Int) == 32) = false := by rw [beq_eq_false_iff_ne]; intro e; exact h32 (UInt8.toNat_inj.1 (by show d.toNat = 32; omega))
          clear hzl hn hu h32
          go_enter Tryz.func26, Tryz.ntmps26
          go_wp2_with fail
          go_ret
          exact ⟨by rw [HF.out, ← HZS.out]; rfl, rfl⟩
  | true =>
    by_cases hn0 : s.data.toList = []
    · have hzs : z = s.data.toList := hz.trans (if_neg (by rw [hn0]; simp))
      have hsZ : Z = s := by rw [HZS.out, hzs]
      have hs0 : s.size = 0 := by rw [← hl, hn0]; rfl
      have HF := Lib.hid (show trimE en z = z by rw [hzs, hn0]; exact if_neg (by simp))
      subst hsZ; clear hz hzs hl hn0 hzl
      cases en <;> (
        go_enter Tryz.func26, Tryz.ntmps26
        go_wp2_with fail
        go_ret
        exact ⟨by rw [HF.out, ← HZS.out]; rfl, rfl⟩)
    · obtain ⟨c, t, hct⟩ : ∃ c t, s.data.toList = c :: t := List.exists_cons_of_ne_nil hn0
      have hs0 : s.size = t.length + 1 := by rw [← hl, hct]; rfl
      have hsc : ∀ h, s[0]'h = c := by
        obtain ⟨⟨l⟩⟩ := s
        have : l = c :: t := hct
        subst this; intro h; rfl
      by_cases h32 : c = 32
      · have hzs : z = t := hz.trans (by unfold trimH; rw [hct, h32, if_pos ⟨rfl, rfl⟩]; rfl)
        have hsx : s.extract 1 (t.length + 1) = Z := by rw [HZS.out, hzs, Lib.extract_eq, hct]; simp
        have c32 : ((c.toNat : Int) == 32) = true := by rw [h32]; rfl
        clear hz hzs hl hn0 hct h32
        cases en with
        | false =>
          have HF := Lib.hid (show trimE false z = z from if_neg (by simp)); clear hzl
          go_enter Tryz.func26, Tryz.ntmps26
          go_wp2_with fail
          go_ret
          exact ⟨by rw [HF.out, ← HZS.out]; rfl, rfl⟩
        | true =>
          by_cases hn : z = []
          · have HF := Lib.hid (show trimE true z = z from if_neg (by rw [hn]; simp))
            have hz0 : Z.size = 0 := by rw [HZS.out, hn]; rfl
            clear hzl hn
            go_enter Tryz.func26, Tryz.ntmps26
            go_wp2_with fail
            go_ret
            exact ⟨by rw [HF.out, ← HZS.out]; rfl, rfl⟩
          · obtain ⟨u, d, hu⟩ : ∃ u d, z = u ++ [d] := ⟨z.dropLast, z.getLast hn, (List.dropLast_concat_getLast hn).symm⟩
            have hzn : Z.size = u.length + 1 := by rw [HZS.out, hu]; show (u ++ [d]).length = _; rw [List.length_append]; rfl
            have hul : u.length + 1 ≤ 140737488355327 := by rw [hu, List.length_append] at hzl; simpa using hzl
            have hzd : ∀ h, Z[u.length]'h = d := by rw [HZS.out, hu]; intro h; show (u ++ [d])[u.length]'_ = d; simp
            have hzx : Z.extract 0 u.length = ⟨u.toArray⟩ := by rw [HZS.out, hu, Lib.extract_eq]; simp
            by_cases h32 : d = 32
            · have HF := Lib.hid (show trimE true z = u by rw [hu, h32]; unfold trimE; rw [if_pos ⟨rfl, by simp⟩]; simp)
              have e32 : ((d.toNat : Int) == 32) = true := by rw [h32]; rfl
              clear hzl hn hu h32
              go_enter Tryz.func26, Tryz.ntmps26
              go_wp2_with fail
              go_ret
              exact ⟨by rw [HF.out]; rfl, rfl⟩
            · have HF := Lib.hid (show trimE true z = z by rw [hu]; unfold trimE; rw [if_neg (by simp; exact h32)])
              have e32 : ((d.toNat : Int) == 32) = false := by rw [beq_eq_false_iff_ne]; intro e; exact h32 (UInt8.toNat_inj.1 (by show d.toNat = 32; omega))
              clear hzl hn hu h32
              go_enter Tryz.func26, Tryz.ntmps26
              go_wp2_with fail
              go_ret
              exact ⟨by rw [HF.out, ← HZS.out]; rfl, rfl⟩
      · have hzs : z = s.data.toList := hz.trans (if_neg (by rw [hct]; simp; exact h32))
        have hsZ : Z = s := by rw [HZS.out, hzs]
        have c32 : ((c.toNat : Int) == 32) = false := by rw [beq_eq_false_iff_ne]; intro e; exact h32 (UInt8.toNat_inj.1 (by show c.toNat = 32; omega))
        have hs1 : (0 : Int) < s.size := by omega
        have hs2 : 0 < s.size := by omega
        subst hsZ; clear hz hzs hl hn0 hct h32 hs0
        cases en with
        | false =>
          have HF := Lib.hid (show trimE false z = z from if_neg (by simp)); clear hzl
          go_enter Tryz.func26, Tryz.ntmps26
          go_wp2_with fail
          go_ret
          exact ⟨by rw [HF.out, ← HZS.out]; rfl, rfl⟩
        | true =>
          by_cases hn : z = []
          · have HF := Lib.hid (show trimE true z = z from if_neg (by rw [hn]; simp))
            have hz0 : Z.size = 0 := by rw [HZS.out, hn]; rfl
            clear hzl hn
            go_enter Tryz.func26, Tryz.ntmps26
            go_wp2_with fail
            go_ret
            exact ⟨by rw [HF.out, ← HZS.out]; rfl, rfl⟩
          · obtain ⟨u, d, hu⟩ : ∃ u d, z = u ++ [d] := ⟨z.dropLast, z.getLast hn, (List.dropLast_concat_getLast hn).symm⟩
            have hzn : Z.size = u.length + 1 := by rw [HZS.out, hu]; show (u ++ [d]).length = _; rw [List.length_append]; rfl
            have hul : u.length + 1 ≤ 140737488355327 := by rw [hu, List.length_append] at hzl; simpa using hzl
            have hzd : ∀ h, Z[u.length]'h = d := by rw [HZS.out, hu]; intro h; show (u ++ [d])[u.length]'_ = d; simp
            have hzx : Z.extract 0 u.length = ⟨u.toArray⟩ := by rw [HZS.out, hu, Lib.extract_eq]; simp
            by_cases h32 : d = 32
            · have HF := Lib.hid (show trimE true z = u by rw [hu, h32]; unfold trimE; rw [if_pos ⟨rfl, by simp⟩]; simp)
              have e32 : ((d.toNat : Int) == 32) = true := by rw [h32]; rfl
              clear hzl hn hu h32
              go_enter Tryz.func26, Tryz.ntmps26
              go_wp2_with fail
              go_ret
              exact ⟨by rw [HF.out]; rfl, rfl⟩
            · have HF := Lib.hid (show trimE true z = z by rw [hu]; unfold trimE; rw [if_neg (by simp; exact h32)])
              have e32 : ((d.toNat : Int) == 32) = false := by rw [beq_eq_false_iff_ne]; intro e; exact h32 (UInt8.toNat_inj.1 (by show d.toNat = 32; omega))
              clear hzl hn hu h32
              go_enter Tryz.func26, Tryz.ntmps26
              go_wp2_with fail
              go_ret
              exact ⟨by rw [HF.out, ← HZS.out]; rfl, rfl⟩
end Go.Proofs.YtpnnbffhdhbonaaGreatDoor
