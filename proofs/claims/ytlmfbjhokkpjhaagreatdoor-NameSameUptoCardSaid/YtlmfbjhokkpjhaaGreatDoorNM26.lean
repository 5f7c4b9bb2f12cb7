/- Part 26 of the walks and plain laws, joined: StepC, StepsC, KeySt, AlvV6, PlainC. -/
import Derived.Test.YtlmfbjhokkpjhaaGreatDoorNM00
import Derived.Test.YtlmfbjhokkpjhaaGreatDoorNM25
import Derived.Test.YtlmfbjhokkpjhaaGreatDoorNM10
import Derived.Test.YtlmfbjhokkpjhaaGreatDoorNM09
import Derived.Test.YtlmfbjhokkpjhaaGreatDoorNM23
import Derived.Test.YtlmfbjhokkpjhaaGreatDoorNM22
import Derived.Test.YtlmfbjhokkpjhaaGreatDoorNM12
import Derived.Test.YtlmfbjhokkpjhaaGreatDoorNM14
import Derived.Deep.DeepCutAuto
import Derived.Laws.ResultCell
set_option linter.unusedVariables false
set_option linter.unusedSimpArgs false
namespace Go.Proofs.YtlmfbjhokkpjhaaGreatDoor
open Go Go.RowKit
theorem toL_cons {s : ByteArray} {q : Nat} (h : q < s.size) : (toL s).drop q = s[q] :: (toL s).drop (q + 1) := by unfold toL; exact drop_at s h
theorem toL_extract (s : ByteArray) (q : Nat) : toL (s.extract q s.size) = (toL s).drop q := by
 unfold toL
 have := Lib.extract_eq s q s.size
 rw [this]
 have hz := Lib.size_eq s
 simp
 rw [List.take_of_length_le]
 rw [List.length_drop, hz]; exact Zr _
theorem size_extract (s : ByteArray) (q : Nat) : (s.extract q s.size).size = s.size - q := by simp
theorem count_le' {l : Str} {t d : Nat} (h : countV l = some (t, d)) : d ≤ l.length ∧ 1 ≤ d ∧ t < 1000000000 := by
 rw [countV_eq] at h
 split at h
 ·cases h
 ·rename_i hn
  cases h
  have h1 := (List.takeWhile_prefix dig (l := l)).length_le
  refine ⟨h1, by omega, ?_⟩
  exact (atoi_dig (List.all_eq_true.2 fun x hx => tw_mem hx) (fun h => by rw [h] at hn; simp at hn) (by omega)).2
theorem stepV_more : ∀ (f f' : Nat) (last : Int) (l : Str), l.length < f → l.length < f' → stepV f last l = stepV f' last l
 | 0, _, _, l, h, _ => by omega
 | _, 0, _, l, _, h => by omega
 | f + 1, f' + 1, last, l, h1, h2 => by
  rw [stepV, stepV]
  cases hc : countV l with
  | none => rfl
  | some td =>
   obtain ⟨t, d⟩ := td
   simp only
   split
   ·rfl
   ·cases hd : l.drop d with
    | nil => rfl
    | cons c l2 =>
     simp only
     split
     ·rfl
     ·cases hc2 : countV l2 with
      | none => rfl
      | some nd =>
       obtain ⟨n, d2⟩ := nd
       simp only
       cases hd2 : l2.drop d2 with
       | nil => rfl
       | cons c2 l3 =>
        simp only
        split
        ·rfl
        ·cases hd3 : l3.drop n with
         | nil => rfl
         | cons c3 l4 =>
          simp only
          have e1 := congrArg List.length hd
          have e2 := congrArg List.length hd2
          have e3 := congrArg List.length hd3
          simp only [List.length_drop, List.length_cons] at e1 e2 e3
          rw [stepV_more f f' t l4 (by omega) (by omega)]
section
variable {f : Nat} {last : Int} {l l2 l3 l4 : Str} {t d n d2 : Nat} {c c2 c3 : UInt8}
theorem sv_none (h : countV l = none) : stepV (f + 1) last l = none := by rw [stepV, h]
theorem sv_le (h : countV l = some (t, d)) (ht : (t : Int) ≤ last) : stepV (f + 1) last l = none := by rw [stepV, h]; simp only; rw [if_pos ht]
theorem sv_nil (h : countV l = some (t, d)) (hd : l.drop d = []) : stepV (f + 1) last l = none := by rw [stepV, h]; simp only [hd]; split <;> rfl
theorem sv_ne (h : countV l = some (t, d)) (hd : l.drop d = c :: l2) (hc : c ≠ 61) : stepV (f + 1) last l = none := by rw [stepV, h]; simp only [hd]; split <;> first | rfl | rw [if_pos hc]
theorem sv_none2 (h : countV l = some (t, d)) (hd : l.drop d = 61 :: l2) (h2 : countV l2 = none) : stepV (f + 1) last l = none := by rw [stepV, h]; simp only [hd, h2]; split <;> first | rfl | simp
theorem sv_nil2 (h : countV l = some (t, d)) (hd : l.drop d = 61 :: l2) (h2 : countV l2 = some (n, d2)) (hd2 : l2.drop d2 = []) : stepV (f + 1) last l = none := by rw [stepV, h]; simp only [hd, h2, hd2]; split <;> first | rfl | simp
theorem sv_ne2 (h : countV l = some (t, d)) (hd : l.drop d = 61 :: l2) (h2 : countV l2 = some (n, d2)) (hd2 : l2.drop d2 = c2 :: l3) (hc : c2 ≠ 58 ∨ l3.length < n + 1) : stepV (f + 1) last l = none := by
 rw [stepV, h]; simp only [hd, h2, hd2]; split <;> first | rfl | simp [hc]
theorem sv_step (h : countV l = some (t, d)) (ht : ¬ (t : Int) ≤ last) (hd : l.drop d = 61 :: l2) (h2 : countV l2 = some (n, d2)) (hd2 : l2.drop d2 = 58 :: l3) (hl : ¬ l3.length < n + 1) (hd3 : l3.drop n = c3 :: l4) :
  stepV (f + 1) last l = if c3 = 59 then some (d + 1 + d2 + 1 + n + 1) else if c3 = 43 then (stepV f t l4).map (· + (d + 1 + d2 + 1 + n + 1)) else none := by
 rw [stepV, h]; simp only [hd, h2, hd2]; rw [if_neg ht, if_neg (by simp), if_neg (by simp; omega)]; simp only [hd3]
end
def StepPost (s : ByteArray) (w : World) (e : Ending) (w' : World) : Prop :=
 (∀ k, stepV ((toL s).length + 1) (-1) (toL s) = some k → e = .returned (.tuple #[.string (s.extract k s.size), .bool true])) ∧ (stepV ((toL s).length + 1) (-1) (toL s) = none → ∃ x, e = .returned (.tuple #[.string x, .bool false])) ∧ Below w.heap.size w w'
theorem toL_injS {a b : ByteArray} (h : toL a = toL b) : a = b := by
 unfold toL at h
 cases a; cases b
 simp only [ByteArray.mk.injEq]
 exact Array.toList_inj.1 h
theorem ext_ext (s : ByteArray) (a b : Nat) : (s.extract a s.size).extract b (s.extract a s.size).size = s.extract (a + b) s.size := by
 apply toL_injS
 rw [toL_extract, toL_extract, toL_extract, List.drop_drop]
structure StepS (s cur : ByteArray) (k : Nat) (last : Int) : Prop where
 c : cur = s.extract k s.size
 lo : -1 ≤ last
 hi : last < 1000000000
 yes : ∀ j, stepV ((toL cur).length + 1) last (toL cur) = some j → stepV ((toL s).length + 1) (-1) (toL s) = some (k + j)
 no : stepV ((toL cur).length + 1) last (toL cur) = none → stepV ((toL s).length + 1) (-1) (toL s) = none
set_option maxRecDepth 20000 in
set_option maxHeartbeats 4000000 in
theorem nstep_any (s : ByteArray) (w : World) (hs : s.size ≤ 4294967280) : Calls Tryz.prog 65 #[.string s] w (StepPost s w) := by
 go_enter Tryz.func65, Tryz.ntmps65
 go_wp2_with fail
 go_loopw [0, 4] (fun kv lv wr => ∃ (cur : ByteArray) (k : Nat) (last : Int), kv = .string cur ∧ lv = .int .i64 last ∧ StepS s cur k last ∧ Below w.heap.size w wr) (fun kv _ _ => (match kv with | .string c => c.size | _ => 0))
 case atStart => exact ⟨s, 0, -1, rfl, rfl, ⟨by simp, by decide, by decide, (fun j h => by rw [Nat.zero_add]; exact h), (fun h => h)⟩, Zl _ _⟩
 case round =>
  obtain ⟨cur, k, last, rfl, rfl, hst, hbl⟩ := hrel
  have hcz : cur.size ≤ 4294967280 := by rw [hst.c, size_extract]; omega
  have l0 := hst.lo
  have l1 := hst.hi
  have hc1 := ncount_any cur wr hcz
  have HST := Zh hst; have HBL := Zh hbl
  clear hst hbl
  cases hcv : countV (toL cur) with
  | none =>
   have hc2 : Calls Tryz.prog 109 #[.string cur] wr fun e w' => e = .returned (.tuple #[.int .i64 (-1), .string cur]) ∧ Below wr.heap.size wr w' := hc1.mono fun e w' ⟨_, h2, h3⟩ => ⟨h2 hcv, h3⟩
   have HN := Zh (HST.out.no (sv_none hcv))
   have HC2 := Zh hc2
   clear hc1 hc2 hcv
   have j1 : (-1 : Int) ≤ last := l0
   go_wp2_with (go_at_call 109; with_reducible refine HC2.out.mono ?_; rintro e w1 ⟨rfl, hb1⟩; have HB1 := Zh hb1; clear hb1)
   go_ret2
   exact ⟨(fun k h => by rw [HN.out] at h; cases h), (fun _ => ⟨_, rfl⟩), HBL.out.trans (HB1.out.mono HBL.out.size)⟩
  | some td =>
   obtain ⟨t, d⟩ := td
   obtain ⟨hdl, hd1, ht9⟩ := count_le' hcv
   obtain ⟨s1, hs1⟩ : ∃ s1, s1 = cur.extract d cur.size := ⟨_, rfl⟩
   have hc2 : Calls Tryz.prog 109 #[.string cur] wr fun e w' => e = .returned (.tuple #[.int .i64 (t : Nat), .string s1]) ∧ Below wr.heap.size wr w' := hc1.mono fun e w' ⟨h1, _, h3⟩ => ⟨by rw [hs1]; exact h1 t d hcv, h3⟩
   have hl1 : (toL cur).drop d = toL s1 := by rw [hs1, toL_extract]
   have hz1 : s1.size ≤ 4294967280 := by rw [hs1, size_extract]; omega
   have HC2 := Zh hc2
   have HS1 := Zh hs1
   clear hc1 hc2 hs1
   go_upto_region 3 with (go_at_call 109; with_reducible refine HC2.out.mono ?_; rintro e w1 ⟨rfl, hb1⟩; have HB1 := Zh (HBL.out.trans (hb1.mono HBL.out.size)); clear hb1)
   clear HC2
   by_cases ht : (t : Int) ≤ last
   ·have HN := Zh (HST.out.no (sv_le hcv ht))
    go_wp2_with fail
    go_ret2
    exact ⟨(fun k h => by rw [HN.out] at h; cases h), (fun _ => ⟨_, rfl⟩), HB1.out⟩
   ·have ht2 : ¬ (t : Int) ≤ last := ht
    by_cases he : s1.size = 0
    ·have hl0 : toL s1 = [] := List.eq_nil_of_length_eq_zero (by rw [show (toL s1).length = s1.size from Lib.size_eq s1]; exact he)
     have hs0 : s1 = ⟨#[]⟩ := toL_injS (by rw [hl0])
     have HN := Zh (HST.out.no (sv_nil hcv (hl1.trans hl0)))
     clear hl1 hl0 hcv
     subst hs0
     go_wp2_with fail
     go_ret2
     exact ⟨(fun k h => by rw [HN.out] at h; cases h), (fun _ => ⟨_, rfl⟩), HB1.out⟩
    ·have hp : 0 < s1.size := by omega
     have hem : s1.toList.isEmpty = false := by
      rw [← decide_eq_emptyBytes]
      exact decide_eq_false (fun h => by rw [h] at he; exact he rfl)
     have z0 : (0 : Int) < (s1.size : Int) := by omega
     obtain ⟨c, hc⟩ : ∃ c, s1[0]'hp = c := ⟨_, rfl⟩
     have hl2 : toL s1 = c :: (toL s1).drop 1 := by
      have := toL_cons (s := s1) (q := 0) hp
      rw [List.drop_zero] at this
      rw [← hc]; exact this
     by_cases h61 : c = 61
     ·subst h61
      obtain ⟨s2, hs2⟩ : ∃ s2, s2 = s1.extract 1 s1.size := ⟨_, rfl⟩
      have hl3 : (toL s1).drop 1 = toL s2 := by rw [hs2, toL_extract]
      have hz2 : s2.size ≤ 4294967280 := by rw [hs2, size_extract]; omega
      have hk2 := ncount_any s2 w1 hz2
      have z1 : (1 : Int) ≤ (s1.size : Int) := by omega
      rw [hl3] at hl2
      cases hcv2 : countV (toL s2) with
      | none =>
       have hc2 : Calls Tryz.prog 109 #[.string (s1.extract 1 s1.size)] w1 fun e w' => e = .returned (.tuple #[.int .i64 (-1), .string s2]) ∧ Below w1.heap.size w1 w' := by rw [← hs2]; exact hk2.mono fun e w' ⟨_, h2, h3⟩ => ⟨h2 hcv2, h3⟩
       have HC2 := Zh hc2
       have HN := Zh (HST.out.no (sv_none2 hcv (hl1.trans hl2) hcv2))
       clear hk2 hc2 hcv hcv2 hl1 hl2 hl3 hs2 hz2
       go_wp2_with (go_at_call 109; with_reducible refine HC2.out.mono ?_; rintro e w2 ⟨rfl, hb2⟩; have HB2 := Zh (HB1.out.trans (hb2.mono HB1.out.size)); clear hb2)
       go_ret2
       exact ⟨(fun k h => by rw [HN.out] at h; cases h), (fun _ => ⟨_, rfl⟩), HB2.out⟩
      | some nd =>
       obtain ⟨n, d2⟩ := nd
       obtain ⟨hd2l, hd21, hn9⟩ := count_le' hcv2
       obtain ⟨s3, hs3⟩ : ∃ s3, s3 = s2.extract d2 s2.size := ⟨_, rfl⟩
       have hl4 : (toL s2).drop d2 = toL s3 := by rw [hs3, toL_extract]
       have hc2 : Calls Tryz.prog 109 #[.string (s1.extract 1 s1.size)] w1 fun e w' => e = .returned (.tuple #[.int .i64 (n : Nat), .string s3]) ∧ Below w1.heap.size w1 w' := by rw [← hs2, hs3]; exact hk2.mono fun e w' ⟨h1, _, h3⟩ => ⟨h1 n d2 hcv2, h3⟩
       have hz3 : s3.size ≤ 4294967280 := by rw [hs3, size_extract]; omega
       have HC2 := Zh hc2
       have HS2 := Zh (Zi hs2 hs3)
       clear hk2 hc2 hl3 hs2 hs3 hz2
       go_upto_region 7 with (go_at_call 109; with_reducible refine HC2.out.mono ?_; rintro e w2 ⟨rfl, hb2⟩; have HB2 := Zh (HB1.out.trans (hb2.mono HB1.out.size)); clear hb2)
       clear HC2
       have zn : ¬ (n : Int) < 0 := by omega
       by_cases he3 : s3.size = 0
       ·have hl0 : toL s3 = [] := List.eq_nil_of_length_eq_zero (by rw [show (toL s3).length = s3.size from Lib.size_eq s3]; exact he3)
        have hs0 : s3 = ⟨#[]⟩ := toL_injS (by rw [hl0])
        have HN := Zh (HST.out.no (sv_nil2 hcv (hl1.trans hl2) hcv2 (hl4.trans hl0)))
        clear hl1 hl0 hcv hcv2 hl2 hl4
        subst hs0
        go_wp2_with fail
        go_ret2
        exact ⟨(fun k h => by rw [HN.out] at h; cases h), (fun _ => ⟨_, rfl⟩), HB2.out⟩
       ·have hp3 : 0 < s3.size := by omega
        have hem3 : s3.toList.isEmpty = false := by
         rw [← decide_eq_emptyBytes]
         exact decide_eq_false (fun h => by rw [h] at he3; exact he3 rfl)
        have y0 : (0 : Int) < (s3.size : Int) := by omega
        obtain ⟨c2, hc2⟩ : ∃ c2, s3[0]'hp3 = c2 := ⟨_, rfl⟩
        have hl5 : toL s3 = c2 :: (toL s3).drop 1 := by
         have := toL_cons (s := s3) (q := 0) hp3
         rw [List.drop_zero] at this
         rw [← hc2]; exact this
        have hlen : ((toL s3).drop 1).length = s3.size - 1 := by rw [List.length_drop, show (toL s3).length = s3.size from Lib.size_eq s3]
        by_cases h58 : c2 = 58
        ·by_cases hsh : s3.size - 1 < n + 1
         ·have HN := Zh (HST.out.no (sv_ne2 hcv (hl1.trans hl2) hcv2 (hl4.trans hl5) (.inr (by rw [hlen]; exact hsh))))
          have y1 : (s3.size : Int) - 1 < (n : Int) + 1 := by omega
          subst h58
          clear hl1 hcv hcv2 hl2 hl4 hl5 hlen
          go_wp2_with fail
          go_ret2
          exact ⟨(fun k h => by rw [HN.out] at h; cases h), (fun _ => ⟨_, rfl⟩), HB2.out⟩
         ·have y1 : ¬ (s3.size : Int) - 1 < (n : Int) + 1 := by omega
          have y2 : (n : Int) + 1 < (s3.size : Int) := by omega
          have y3 : (0 : Int) ≤ (n : Int) + 1 := by omega
          have y4 : (n : Int) + 2 ≤ (s3.size : Int) := by omega
          have y5 : (0 : Int) ≤ (n : Int) + 2 := by omega
          subst h58
          obtain ⟨c3, hc3⟩ : ∃ c3, s3[n + 1]'(by omega) = c3 := ⟨_, rfl⟩
          obtain ⟨s4, hs4⟩ : ∃ s4, s3.extract (n + 2) s3.size = s4 := ⟨_, rfl⟩
          have hl6 : ((toL s3).drop 1).drop n = c3 :: toL s4 := by
           rw [List.drop_drop, Nat.add_comm, toL_cons (q := n + 1) (by omega), hc3, ← hs4, toL_extract]
          have hsv := fun f => sv_step (f := f) (last := last) hcv (Int.not_le.2 ht2) (hl1.trans hl2) hcv2 (hl4.trans hl5) (by rw [hlen]; exact hsh) hl6
          have hsc : s4 = s.extract (k + (d + 1 + d2 + 1 + n + 1)) s.size := by
           have e1 := HS1.out
           obtain ⟨e2, e3⟩ := HS2.out
           rw [← hs4, e3, e2, e1, HST.out.c, ext_ext, ext_ext, ext_ext, ext_ext]
           exact congrArg (fun q => s.extract q s.size) (by omega)
          have hlt4 : s4.size < cur.size := by
           rw [← hs4, size_extract]
           have e1 := congrArg ByteArray.size HS1.out
           have e2 := congrArg ByteArray.size HS2.out.1
           have e3 := congrArg ByteArray.size HS2.out.2
           rw [size_extract] at e1 e2 e3
           omega
          have hle4 : (toL s4).length < (toL cur).length := by rw [show (toL s4).length = s4.size from Lib.size_eq s4, show (toL cur).length = cur.size from Lib.size_eq cur]; exact hlt4
          have HSV := Zh (Zi hsv (Zi hsc (Zi hlt4 hle4)))
          clear hl1 hcv hcv2 hl2 hl4 hl5 hlen hl6 hsv hsc hlt4 hle4
          go_upto_region 12 with fail
          by_cases h59 : c3 = 59
          ·subst h59
           have HN := Zh (HST.out.yes _ ((HSV.out.1 _).trans (if_pos rfl)))
           go_wp2_with fail
           go_ret2
           refine ⟨(fun j h => ?_), (fun h => by rw [HN.out] at h; cases h), HB2.out⟩
           rw [HN.out] at h
           cases h
           rw [← HSV.out.2.1]
           rfl
          ·have n59 : (((c3.toNat : Nat) : Int) == 59) = false := u8_ne (c := 59) h59
           by_cases h43 : c3 = 43
           ·subst h43
            go_wp2_with fail
            have hin := HSV.out.1 (toL cur).length
            rw [if_neg (by decide), if_pos rfl, stepV_more (toL cur).length ((toL s4).length + 1) _ _ HSV.out.2.2.2 (by omega)] at hin
            rw [hs4]
            refine ⟨⟨s4, k + (d + 1 + d2 + 1 + n + 1), t, rfl, rfl, ⟨HSV.out.2.1, by omega, by omega, ?_, ?_⟩, HB2.out⟩, HSV.out.2.2.1⟩
            ·intro j hj
             rw [hj] at hin
             rw [HST.out.yes (j + (d + 1 + d2 + 1 + n + 1)) hin]
             exact congrArg some (by omega)
            ·intro hj
             rw [hj] at hin
             exact HST.out.no hin
           ·have n43 : (((c3.toNat : Nat) : Int) == 43) = false := u8_ne (c := 43) h43
            have HN := Zh (HST.out.no ((HSV.out.1 _).trans ((if_neg h59).trans (if_neg h43))))
            go_wp2_with fail
            go_ret2
            exact ⟨(fun k h => by rw [HN.out] at h; cases h), (fun _ => ⟨_, rfl⟩), HB2.out⟩
        ·have n58 : (((c2.toNat : Nat) : Int) != 58) = true := by have := u8_ne (c := 58) h58; simpa using this
         have HN := Zh (HST.out.no (sv_ne2 hcv (hl1.trans hl2) hcv2 (hl4.trans hl5) (.inl h58)))
         clear hl1 hcv hcv2 hl2 hl4 hl5 hlen
         go_wp2_with fail
         go_ret2
         exact ⟨(fun k h => by rw [HN.out] at h; cases h), (fun _ => ⟨_, rfl⟩), HB2.out⟩
     ·have n61 : (((c.toNat : Nat) : Int) != 61) = true := by have := u8_ne (c := 61) h61; simpa using this
      have HN := Zh (HST.out.no (sv_ne hcv (hl1.trans hl2) h61))
      clear hl1 hl2 hcv
      go_wp2_with fail
      go_ret2
      exact ⟨(fun k h => by rw [HN.out] at h; cases h), (fun _ => ⟨_, rfl⟩), HB1.out⟩
theorem stepV_le : ∀ (f : Nat) (last : Int) (l : Str) (k : Nat), stepV f last l = some k → 1 ≤ k ∧ k ≤ l.length
 | 0, _, _, _, h => by cases h
 | f + 1, last, l, k, h => by
  rw [stepV] at h
  cases hc : countV l with
  | none => rw [hc] at h; cases h
  | some td =>
   obtain ⟨t, d⟩ := td
   rw [hc] at h
   simp only at h
   obtain ⟨hd1, hd2, _⟩ := count_le' hc
   split at h
   ·cases h
   ·cases hd : l.drop d with
    | nil => rw [hd] at h; cases h
    | cons c l2 =>
     rw [hd] at h
     simp only at h
     split at h
     ·cases h
     ·cases hc2 : countV l2 with
      | none => rw [hc2] at h; cases h
      | some nd =>
       obtain ⟨n, d2⟩ := nd
       rw [hc2] at h
       simp only at h
       cases hdd : l2.drop d2 with
       | nil => rw [hdd] at h; cases h
       | cons c2 l3 =>
        rw [hdd] at h
        simp only at h
        split at h
        ·cases h
        ·cases hd3 : l3.drop n with
         | nil => rw [hd3] at h; cases h
         | cons c3 l4 =>
          rw [hd3] at h
          simp only at h
          have e1 := congrArg List.length hd
          have e2 := congrArg List.length hdd
          have e3 := congrArg List.length hd3
          simp only [List.length_drop, List.length_cons] at e1 e2 e3
          split at h
          ·cases h; omega
          ·split at h
           ·cases hs : stepV f t l4 with
            | none => rw [hs] at h; cases h
            | some j =>
             rw [hs] at h
             simp only [Option.map_some, Option.some.injEq] at h
             subst h
             have := stepV_le f t l4 j hs
             omega
           ·cases h
theorem stepsV_more : ∀ (f f' : Nat) (l : Str), l.length ≤ f → l.length ≤ f' → stepsV f l = stepsV f' l
 | 0, 0, _, _, _ => rfl
 | 0, f' + 1, l, h, _ => by
  have : l = [] := List.eq_nil_of_length_eq_zero (by omega)
  subst this
  rfl
 | f + 1, 0, l, _, h => by
  have : l = [] := List.eq_nil_of_length_eq_zero (by omega)
  subst this
  rfl
 | f + 1, f' + 1, l, h1, h2 => by
  rw [stepsV, stepsV]
  split
  ·rfl
  ·cases hs : stepV (l.length + 1) (-1) l with
   | none => rfl
   | some k =>
    simp only
    have := stepV_le _ _ _ _ hs
    rw [stepsV_more f f' (l.drop k) (by rw [List.length_drop]; omega) (by rw [List.length_drop]; omega)]
theorem stepsV_cons {l : Str} {k : Nat} (h0 : l ≠ []) (h : stepV (l.length + 1) (-1) l = some k) : stepsV (l.length + 1) l = (stepsV ((l.drop k).length + 1) (l.drop k)).map (l.take k :: ·) := by
 have := stepV_le _ _ _ _ h
 rw [stepsV, if_neg h0, h]
 simp only
 rw [stepsV_more l.length ((l.drop k).length + 1) (l.drop k) (by rw [List.length_drop]; omega) (by omega)]
theorem stepsV_none {l : Str} (h0 : l ≠ []) (h : stepV (l.length + 1) (-1) l = none) : stepsV (l.length + 1) l = none := by
 rw [stepsV, if_neg h0, h]
theorem toL_take (s : ByteArray) (q : Nat) : toL (s.extract 0 q) = (toL s).take q := by
 have := Lib.extract_eq s 0 q
 unfold toL
 rw [this]
 simp
theorem toL_ne {s : ByteArray} (h : s.size ≠ 0) : toL s ≠ [] := fun e => h (by rw [← show (toL s).length = s.size from Lib.size_eq s, e]; rfl)
structure StepsR (s cur : ByteArray) (k : Nat) (vs : List ByteArray) : Prop where
 c : cur = s.extract k s.size
 le : vs.length ≤ k
 ks : k ≤ s.size
 yes : ∀ r, stepsV ((toL cur).length + 1) (toL cur) = some r → stepsV ((toL s).length + 1) (toL s) = some (vs.map toL ++ r)
 no : stepsV ((toL cur).length + 1) (toL cur) = none → stepsV ((toL s).length + 1) (toL s) = none
def StepsPost (s : ByteArray) (w : World) (e : Ending) (w' : World) : Prop :=
 ∃ (go : Option Nat) (n cap : Nat) (vs : List ByteArray), e = .returned (sv go n cap) ∧ Vec 9 1 w w' go n cap (vs.map Value.string) ∧ vs.map toL = stepsOf (toL s) ∧ n = vs.length
theorem StepsPost.bad {s : ByteArray} {w w' : World} (h : stepsV ((toL s).length + 1) (toL s) = none) (k : Below w.heap.size w w') : StepsPost s w (.returned (.slice none 0 0)) w' :=
 ⟨none, 0, 0, [], rfl, Vec.nil _ _ _ k, by unfold stepsOf; rw [h]; rfl, rfl⟩
set_option maxRecDepth 20000 in
set_option maxHeartbeats 4000000 in
theorem nsteps_any (s : ByteArray) (w : World) (hs : s.size ≤ 4294967280) : Calls Tryz.prog 24 #[.string s] w (StepsPost s w) := by
 go_enter Tryz.func24, Tryz.ntmps24
 go_wp2_with fail
 go_loopw [0, 3] (fun kv lv wr => ∃ (cur : ByteArray) (k : Nat) (go : Option Nat) (m cap : Nat) (vs : List ByteArray), kv = .string cur ∧ lv = sv go m cap ∧ m = vs.length ∧ StepsR s cur k vs ∧ Vec 9 1 w wr go m cap (vs.map Value.string)) (fun kv _ _ => (match kv with | .string c => c.size | _ => 0))
 case atStart => exact ⟨s, 0, none, 0, 0, [], rfl, rfl, rfl, ⟨by simp, Zr _, Nat.zero_le _, (fun j h => h), (fun h => h)⟩, Vec.nil _ _ _ (Zl _ _)⟩
 case round =>
  obtain ⟨cur, k, go, m, cap, vs, rfl, rfl, hm, hst, hv⟩ := hrel
  have hcz : cur.size ≤ 4294967280 := by rw [hst.c, size_extract]; omega
  have hmk : m ≤ s.size := by have := hst.le; have := hst.ks; omega
  have HST := Zh hst
  have HV := Zh hv
  have HM := Zh hm
  clear hst hv hm
  by_cases he : cur.size = 0
  ·have hl0 : toL cur = [] := List.eq_nil_of_length_eq_zero (by rw [show (toL cur).length = cur.size from Lib.size_eq cur]; exact he)
   have hs0 : cur = ⟨#[]⟩ := toL_injS (by rw [hl0])
   have HN := Zh (HST.out.yes [] (by rw [hl0]; rfl))
   have HST2 := Zh HST.out.le
   clear HST hl0
   subst hs0
   go_wp2_with fail
   go_ret
   refine ⟨go, m, cap, vs, rfl, HV.out, ?_, HM.out⟩
   unfold stepsOf
   rw [HN.out, List.append_nil]
   rfl
  ·have hne : decide (cur = { data := #[] }) = false := decide_eq_false (fun h => by rw [h] at he; exact he rfl)
   have hemp : cur.toList.isEmpty = false := by rw [← decide_eq_emptyBytes]; exact hne
   have hc := nstep_any cur wr hcz
   have hln := toL_ne he
   cases hsv : stepV ((toL cur).length + 1) (-1) (toL cur) with
   | none =>
    have HN := Zh (HST.out.no (stepsV_none hln hsv))
    have HC := Zh hc
    have HSV := Zh hsv
    clear hc hsv hln
    go_wp2_with (go_at_call 65; (with_reducible refine HC.out.mono ?_); rintro e w1 ⟨_, h2, hb1⟩; obtain ⟨x, rfl⟩ := h2 HSV.out; have HB1 := Zh hb1; clear h2 hb1)
    go_ret
    exact StepsPost.bad HN.out (HV.out.next HB1.out).below
   | some j =>
    obtain ⟨hj1, hj2⟩ := stepV_le _ _ _ _ hsv
    rw [show (toL cur).length = cur.size from Lib.size_eq cur] at hj2
    obtain ⟨c2, hc2⟩ : ∃ c2, cur.extract j cur.size = c2 := ⟨_, rfl⟩
    have hz2 : c2.size = cur.size - j := by rw [← hc2, size_extract]
    have hl2 : toL c2 = (toL cur).drop j := by rw [← hc2, toL_extract]
    obtain ⟨x, hx⟩ : ∃ x, cur.extract 0 j = x := ⟨_, rfl⟩
    have hxl : toL x = (toL cur).take j := by rw [← hx, toL_take]
    have hcc : Calls Tryz.prog 65 #[.string cur] wr fun e w' => e = .returned (.tuple #[.string c2, .bool true]) ∧ Below wr.heap.size wr w' := hc.mono fun e w' ⟨h1, _, h3⟩ => ⟨by rw [← hc2]; exact h1 j hsv, h3⟩
    have hcons := stepsV_cons hln hsv
    rw [← hl2, ← hxl] at hcons
    have HC := Zh hcc
    have HCO := Zh (Zi hcons (Zi hc2 (Zi hsv hz2)))
    clear hc hcc hsv hcons hl2 hxl hc2 hln
    have j1 : (cur.size : Int) - (c2.size : Int) = (j : Int) := by omega
    have j2 : (j : Int) ≤ (cur.size : Int) := by omega
    have j3 : (0 : Int) ≤ (j : Int) := by omega
    clear hz2
    go_wp2_with (first
     | (go_at_call 65; (with_reducible refine HC.out.mono ?_); rintro e w1 ⟨rfl, hb1⟩; have HV1 := Zh (HV.out.next hb1); clear hb1)
     | (at_builtin; go_loud (refine HV1.out.push eiStr rfl _ _ rfl rfl 1 [.string x] #[.string x] rfl rfl rfl (fun u hu => by simp at hu; subst hu; rfl) (by omega) (m + 1) rfl (by omega) ?_); intro gl cap2 w2 hv2 hg2; have HV2 := Zh hv2; clear hv2 hg2)
     | fail)
    refine ⟨⟨c2, k + j, some gl, m + 1, cap2, vs ++ [x], rfl, rfl, by simp [HM.out], ⟨?_, by have := HST.out.le; simp; omega, ?_, ?_, ?_⟩, by rw [List.map_append]; exact HV2.out⟩, ?_⟩
    ·have := HST.out.c
     rw [← HCO.out.2.1, this, ext_ext]
    ·have e1 := congrArg ByteArray.size HST.out.c
     rw [size_extract] at e1
     omega
    ·intro r hr
     rw [HST.out.yes (toL x :: r) (by rw [HCO.out.1, hr]; rfl)]
     simp
    ·intro hr
     exact HST.out.no (by rw [HCO.out.1, hr]; rfl)
    ·show c2.size < cur.size
     have := HCO.out.2.2.2
     omega
theorem StepsPost.len {s : ByteArray} {w w' : World} {e : Ending} (h : StepsPost s w e w') : ∃ (a : Option Addr) (c : Nat), e = .returned (.slice a (stepsOf (toL s)).length c) ∧ Below w.heap.size w w' := by
 obtain ⟨go, n, cap, vs, rfl, hv, hs, hn⟩ := h
 refine ⟨go.map fun g => (⟨g, 0, none⟩ : Addr), cap, ?_, hv.below⟩
 rw [← hs, List.length_map, ← hn]
 rfl
set_option maxRecDepth 20000 in
set_option maxHeartbeats 4000000 in
theorem nlies_any (s t : ByteArray) (w : World) (hs : s.size ≤ 4294967280) (ht : t.size ≤ 4294967280) : Calls Tryz.prog 26 #[.string s, .string t] w fun e w' => e = .returned (.bool (liesV (toL s) (toL t))) ∧ Below w.heap.size w w' := by
 have hpf := fun w => Tryz.strings_HasPrefix s t w
 have hc := fun w => nsteps_any s w hs
 have hd := fun w => nsteps_any t w ht
 have e1 : (Lib.hasPrefix s.data.toList t.data.toList) = (toL t).isPrefixOf (toL s) := by unfold Lib.hasPrefix toL; rfl
 have hlv : liesV (toL s) (toL t) = (decide (t.size < s.size) && (toL t).isPrefixOf (toL s) && decide (0 < (stepsOf (toL s)).length) && (decide (t.size = 0) || decide (0 < (stepsOf (toL t)).length))) := by
  unfold liesV
  rw [show (toL s).length = s.size from Lib.size_eq s, show (toL t).length = t.size from Lib.size_eq t]
  congr 2
  refine decide_eq_decide.2 ⟨fun h => ?_, fun h => ?_⟩
  ·rw [← show (toL t).length = t.size from Lib.size_eq t, h]; rfl
  ·exact List.eq_nil_of_length_eq_zero (by rw [show (toL t).length = t.size from Lib.size_eq t]; exact h)
 simp only [e1] at hpf
 rw [hlv]
 generalize (toL t).isPrefixOf (toL s) = pf at hpf hlv ⊢
 have hc2 := fun w => (hc w).mono fun e w' h => h.len
 have hd2 := fun w => (hd w).mono fun e w' h => h.len
 generalize (stepsOf (toL s)).length = n1 at hc2 hlv ⊢
 generalize (stepsOf (toL t)).length = n2 at hd2 hlv ⊢
 have HP := Zh hpf; have HC := Zh hc2; have HD := Zh hd2
 clear hpf hc hd e1 hlv hc2 hd2
 go_enter Tryz.func26, Tryz.ntmps26
 by_cases hl : t.size < s.size
 ·have l1 : ¬ (s.size : Int) ≤ (t.size : Int) := by omega
  cases pf with
  | false =>
   go_wp2_with (go_at_call 66; (with_reducible refine (HP.out _).mono ?_); rintro e w1 ⟨rfl, rfl⟩)
   go_ret
   exact ⟨by simp, Zl _ _⟩
  | true =>
   by_cases hn : 0 < n1
   ·have n0 : (0 : Int) < (n1 : Int) := by omega
    by_cases he : t.size = 0
    ·have hs0 : t = ⟨#[]⟩ := toL_injS (List.eq_nil_of_length_eq_zero (by rw [show (toL t).length = t.size from Lib.size_eq t]; exact he))
     subst hs0
     go_wp2_with (first
      | (go_at_call 66; (with_reducible refine (HP.out _).mono ?_); rintro e w1 ⟨rfl, rfl⟩)
      | (go_at_call 24; (with_reducible refine (HC.out _).mono ?_); rintro e w2 ⟨a1, c1, rfl, hb1⟩; have HB1 := Zh hb1; clear hb1)
      | fail)
     ·simp_all
     ·go_ret
      refine ⟨?_, HB1.out⟩
      simp [hn]
      exact ⟨hl, .inl rfl⟩
    ·have hne : t.toList.isEmpty = false := by rw [← decide_eq_emptyBytes]; exact decide_eq_false (fun h => by rw [h] at he; exact he rfl)
     go_wp2_with (first
      | (go_at_call 66; (with_reducible refine (HP.out _).mono ?_); rintro e w1 ⟨rfl, rfl⟩)
      | (go_at_call 24; (with_reducible refine (HC.out _).mono ?_); rintro e w2 ⟨a1, c1, rfl, hb1⟩; have HB1 := Zh hb1; clear hb1)
      | (go_at_call 24; (with_reducible refine (HD.out _).mono ?_); rintro e w3 ⟨a2, c2, rfl, hb2⟩; have HB2 := Zh hb2; clear hb2)
      | fail)
     go_ret
     refine ⟨?_, HB1.out.trans (HB2.out.mono HB1.out.size)⟩
     simp [hn, hl, he]
   ·have n0 : ¬ (0 : Int) < (n1 : Int) := by omega
    go_wp2_with (first
     | (go_at_call 66; (with_reducible refine (HP.out _).mono ?_); rintro e w1 ⟨rfl, rfl⟩)
     | (go_at_call 24; (with_reducible refine (HC.out _).mono ?_); rintro e w2 ⟨a1, c1, rfl, hb1⟩; have HB1 := Zh hb1; clear hb1)
     | fail)
    go_ret
    refine ⟨?_, HB1.out⟩
    simp [hn]
 ·have l1 : (s.size : Int) ≤ (t.size : Int) := by omega
  go_wp2_with fail
  go_ret
  exact ⟨by simp [hl], Zl _ _⟩
def digF (x : Nat) (c : UInt8) : Nat := x * 10 + (c.toNat - 48)
theorem dec_small {n : Nat} (h : n < 10) : decS n = [UInt8.ofNat (48 + n)] := Lib.decDigits_one h
theorem dec_big {n : Nat} (h : ¬ n < 10) : decS n = decS (n / 10) ++ [UInt8.ofNat (48 + n % 10)] := by unfold decS; rw [Lib.decDigits, dif_neg h]
theorem dig_of {n : Nat} (h : n < 10) : dig (UInt8.ofNat (48 + n)) = true ∧ (UInt8.ofNat (48 + n)).toNat = 48 + n := by
 have : ∀ n : Fin 10, dig (UInt8.ofNat (48 + n.val)) = true ∧ (UInt8.ofNat (48 + n.val)).toNat = 48 + n.val := by decide +kernel
 exact this ⟨n, h⟩
theorem dec_facts : ∀ (k n : Nat), n < 10 ^ (k + 1) → (decS n).all dig = true ∧ (decS n).foldl digF 0 = n ∧ (decS n).length ≤ k + 1 ∧ 1 ≤ (decS n).length ∧ ((decS n).head? = some 48 → (decS n).length = 1)
 | 0, n, h => by
  have h : n < 10 := by simpa using h
  rw [dec_small h]
  obtain ⟨h1, h2⟩ := dig_of h
  refine ⟨by rw [List.all_cons, h1]; rfl, ?_, by simp, by simp, fun _ => rfl⟩
  simp only [List.foldl_cons, List.foldl_nil, digF, h2]; omega
 | k + 1, n, h => by
  by_cases hn : n < 10
  ·rw [dec_small hn]
   obtain ⟨h1, h2⟩ := dig_of hn
   refine ⟨by rw [List.all_cons, h1]; rfl, ?_, by simp, by simp, fun _ => rfl⟩
   simp only [List.foldl_cons, List.foldl_nil, digF, h2]; omega
  ·rw [dec_big hn]
   obtain ⟨h1, h2⟩ := dig_of (n := n % 10) (by omega)
   obtain ⟨a1, a2, a3, a4, a5⟩ := dec_facts k (n / 10) (by rw [Nat.pow_succ] at h; omega)
   refine ⟨by rw [List.all_append, a1, List.all_cons, h1]; rfl, ?_, by simp; omega, by simp, fun hh => ?_⟩
   ·rw [List.foldl_append, a2]
    simp only [List.foldl_cons, List.foldl_nil, digF, h2]; omega
   ·exfalso
    cases hd : decS (n / 10) with
    | nil => rw [hd] at a4; simp at a4
    | cons c l =>
     rw [hd] at hh a5 a2
     simp only [List.cons_append, List.head?_cons] at hh a5
     have := a5 hh
     have hl : l = [] := List.eq_nil_of_length_eq_zero (by simpa using this)
     subst hl
     injection hh with hc
     subst hc
     simp only [List.foldl_cons, List.foldl_nil, digF] at a2
     have e : (48 : UInt8).toNat = 48 := rfl
     rw [e] at a2
     omega
theorem count_dec {n : Nat} (h : n < 1000000000) {c : UInt8} (hc : dig c = false) (t : Str) : countV (decS n ++ c :: t) = some (n, (decS n).length) := by
 obtain ⟨a1, a2, a3, a4, a5⟩ := dec_facts 8 n (by omega)
 unfold countV
 have htw : (decS n ++ c :: t).takeWhile dig = decS n := takeWhile_stop t a1 hc
 have hh : (decS n ++ c :: t).head? = (decS n).head? := by
  cases hd : decS n with
  | nil => rw [hd] at a4; simp at a4
  | cons x l => rfl
 simp only [htw, hh]
 rw [if_neg (by
  rintro (e | e | ⟨e1, e2⟩)
  ·omega
  ·omega
  ·have := a5 e1; omega)]
 show some ((decS n).foldl digF 0, _) = _
 rw [a2]
def stepS (m : List KPair) : Str := joinP 43 (m.map pairS) ++ [59]
theorem drop_len (a b : Str) : (a ++ b).drop a.length = b := by simp
def upP (last : Int) (m : List KPair) : Prop := (∀ p ∈ m, last < (p.1 : Int)) ∧ m.Pairwise (fun a b => a.1 < b.1)
def smallP (m : List KPair) : Prop := ∀ p ∈ m, p.1 < 1000000000 ∧ p.2.length < 1000000000
theorem pairS_app (p : KPair) (t : Str) : pairS p ++ t = decS p.1 ++ 61 :: (decS p.2.length ++ 58 :: (p.2 ++ t)) := by unfold pairS; simp
theorem stepV_join : ∀ (m : List KPair) (f : Nat) (last : Int) (rest : Str), m ≠ [] → m.length ≤ f → upP last m → smallP m → stepV f last (stepS m ++ rest) = some (stepS m).length
 | [], _, _, _, h, _, _, _ => absurd rfl h
 | p :: m, 0, _, _, _, h, _, _ => by simp at h
 | p :: m, f + 1, last, rest, _, hf, hu, hs => by
  have hp := hs p (by simp)
  have hl : ¬ (p.1 : Int) ≤ last := by have := hu.1 p (by simp); omega
  obtain ⟨tl, htl⟩ : ∃ tl, stepS (p :: m) ++ rest = pairS p ++ tl ∧ (m = [] → tl = 59 :: rest ∧ (stepS (p :: m)).length = (pairS p).length + 1) ∧ (m ≠ [] → tl = 43 :: (stepS m ++ rest) ∧ (stepS (p :: m)).length = (pairS p).length + 1 + (stepS m).length) := by
   cases m with
   | nil => exact ⟨59 :: rest, by simp [stepS, joinP], fun _ => ⟨rfl, by simp [stepS, joinP]⟩, fun h => absurd rfl h⟩
   | cons q m => exact ⟨43 :: (stepS (q :: m) ++ rest), by simp [stepS, joinP], (fun h => by cases h), fun _ => ⟨rfl, by simp [stepS, joinP]; omega⟩⟩
  obtain ⟨ht, h0, h1⟩ := htl
  rw [ht, pairS_app, stepV, count_dec hp.1 (by decide)]
  simp only [if_neg hl, drop_len]
  rw [if_neg (by decide), count_dec hp.2 (by decide)]
  simp only [drop_len]
  have hpl : (pairS p).length = (decS p.1).length + 1 + (decS p.2.length).length + 1 + p.2.length := by unfold pairS; simp; omega
  by_cases hm : m = []
  ·obtain ⟨e1, e2⟩ := h0 hm
   rw [e1, if_neg (by simp), e2, hpl]
   simp
  ·obtain ⟨e1, e2⟩ := h1 hm
   rw [e1, if_neg (by simp), e2, hpl]
   simp only []
   rw [if_neg (by decide), if_pos trivial]
   rw [stepV_join m f p.1 rest hm (by simp at hf; omega) ⟨fun q hq => by have := (List.pairwise_cons.1 hu.2).1 q hq; omega, (List.pairwise_cons.1 hu.2).2⟩ fun q hq => hs q (by simp [hq])]
   simp only [Option.map_some, Option.some.injEq]
   omega
def GoodP (m : List KPair) : Prop := m ≠ [] ∧ upP (-1) m ∧ smallP m
theorem joinP_cnt (c : UInt8) : ∀ l : List Str, l.length ≤ (joinP c l).length + 1
 | [] => by simp
 | [x] => by simp
 | x :: y :: l => by have := joinP_cnt c (y :: l); simp [joinP] at this ⊢; omega
theorem steps_flat : ∀ ms : List (List KPair), (∀ m ∈ ms, GoodP m) → stepsV ((ms.map stepS).flatten.length + 1) (ms.map stepS).flatten = some (ms.map stepS)
 | [], _ => rfl
 | m :: ms, h => by
  obtain ⟨h1, h2, h3⟩ := h m (by simp)
  have ih := steps_flat ms fun x hx => h x (by simp [hx])
  have hsl : m.length ≤ (stepS m).length := by
   unfold stepS
   have := joinP_cnt 43 (m.map pairS)
   simp at this ⊢; omega
  have hne : stepS m ≠ [] := by unfold stepS; simp
  simp only [List.map_cons, List.flatten_cons]
  have hst := stepV_join m ((stepS m ++ (ms.map stepS).flatten).length + 1) (-1) (ms.map stepS).flatten h1 (by simp; omega) h2 h3
  have hne2 : stepS m ++ (ms.map stepS).flatten ≠ [] := by simp [hne]
  rw [stepsV_cons hne2 hst, drop_len, ih]
  simp
theorem stepsOf_flat {ms : List (List KPair)} (h : ∀ m ∈ ms, GoodP m) : stepsOf (ms.map stepS).flatten = ms.map stepS := by
 unfold stepsOf; rw [steps_flat ms h]; rfl
def tx (s : List UInt8) : ByteArray := ⟨s.toArray⟩
def alT : ByteArray := ⟨#[99, 110, 61, 65, 100, 97, 32, 92, 50, 66, 32, 120, 43, 111, 117, 61, 97, 92, 44, 98, 44, 111, 117, 61]⟩
def alN : PName := [[(⟨#[99, 110]⟩, ⟨#[65, 100, 97, 32, 43, 32, 120]⟩), (⟨#[111, 117]⟩, ⟨#[97, 44, 98]⟩)], [(⟨#[111, 117]⟩, ⟨#[]⟩)]]
def alP : ByteArray := ⟨#[99, 110, 61, 65, 100, 97, 32, 92, 43, 32, 120, 43, 111, 117, 61, 97, 92, 44, 98, 44, 111, 117, 61]⟩
def alK : ByteArray := ⟨#[67, 78, 61, 65, 100, 97, 32, 32, 66, 44, 111, 117, 61, 120]⟩
def alKN : PName := [[(⟨#[67, 78]⟩, ⟨#[65, 100, 97, 32, 32, 66]⟩)], [(⟨#[111, 117]⟩, ⟨#[120]⟩)]]
def alS : ByteArray := ⟨#[50, 61, 49, 58, 120, 59, 49, 61, 53, 58, 97, 100, 97, 32, 98, 59]⟩
theorem al_parse : parseV (toL alT) = .ok alN := by kernel_rfl
theorem al_print : printV alN = (toL alP, 0) := by kernel_rfl
theorem al_kparse : parseV (toL alK) = .ok alKN := by kernel_rfl
theorem al_key : nkeyV plainS alKN = (toL alS, 0) := by kernel_rfl
theorem al_steps : stepsOf (toL alS) = [[50, 61, 49, 58, 120, 59], [49, 61, 53, 58, 97, 100, 97, 32, 98, 59]] := by kernel_rfl
theorem al_lies : liesV (toL alS) [50, 61, 49, 58, 120, 59] = true := by kernel_rfl
set_option maxRecDepth 20000 in
set_option maxHeartbeats 1000000 in
theorem plain_any (S : PSchema) (g : Nat) (w : World) (h : Sch w g S) : Calls Tryz.prog 54 #[.pointer (some ⟨g, 0, none⟩)] w fun e w' =>
  ∃ a c a2 c2, e = .returned (.agg #[.slice a S.types.length c, .slice a2 S.classes.length c2]) ∧ Types w'.heap.size w' a S.types.length c S.types ∧ Classes w'.heap.size w' a2 S.classes.length c2 S.classes ∧ Below w.heap.size w w' := by
 obtain ⟨a, n, c, e0, ht⟩ := h.base.types
 obtain ⟨a2, n2, c2, e1, hc⟩ := h.base.classes
 have hn := ht.len
 have hn2 := hc.len
 subst hn; subst hn2
 obtain ⟨s1, s2⟩ := h.small
 have hlt := h.base.lt
 have hb : Below w.heap.size w (w.alloc (.cells #[.slice none 0 0, .slice none 0 0] 25)) := (Zl _ _).alloc (Zr _) _
 have htw := twin_new S g a a2 S.types.length c S.classes.length c2 (w.alloc (.cells #[.slice none 0 0, .slice none 0 0] 25)) (ht.keep (hb.mono (Nat.le_of_lt hlt)) (Zr _)) (hc.keep (hb.mono (Nat.le_of_lt hlt)) (Zr _)) (by simp; omega) s1 s2
 have HT := Zh htw
 have HB := Zh hb
 clear htw hb h ht hc
 go_enter Tryz.func54, Tryz.ntmps54
 go_wp2_with (go_at_call 43; (refine HT.out.mono ?_); rintro e w1 ⟨a', c', a2', c2', rfl, ht1, hc1, hb1, hf1, hf2⟩; have hh := (hb1.block w.heap.size (by simp)).trans (heap_alloc_new w (.cells #[.slice none 0 0, .slice none 0 0] 25)); have q0 := Lib.cell_of_heap hh 0; have q1 := Lib.cell_of_heap hh 1; have qf0 := Lib.frozen_of_heap hh 0; have qf1 := Lib.frozen_of_heap hh 1; have H1 := Zh (Zi ht1 (Zi hc1 (Zi hb1 (Zi hf1 hf2)))); clear ht1 hc1 hb1 hf1 hf2 hh)
 refine bodyPost_ret (v := .agg #[.slice a' S.types.length c', .slice a2' S.classes.length c2']) (by simp [results, Tryz.results54, go_sem, *]) rfl ?_
 obtain ⟨ht1, hc1, hb1, hf1, hf2⟩ := H1.out
 have i0 : IsSl w1 ⟨w.heap.size, 0, none⟩ := ⟨_, _, _, q0⟩
 have q1' : (w1.setCell ⟨w.heap.size, 0, none⟩ (.slice a' S.types.length c')).cell? ⟨w.heap.size, 1, none⟩ = some (.slice none 0 0) := cell_set_ne q1 (by intro e; injection e with _ e2 _; omega)
 have i1 : IsSl (w1.setCell ⟨w.heap.size, 0, none⟩ (.slice a' S.types.length c')) ⟨w.heap.size, 1, none⟩ := ⟨_, _, _, q1'⟩
 have hr : ∀ ad : Addr, (w.alloc (.cells #[.slice none 0 0, .slice none 0 0] 25)).heap.size ≤ ad.block → ad.block ≠ w.heap.size := fun ad h => by simp at h; omega
 refine ⟨a', c', a2', c2', rfl, ?_, ?_, ?_⟩
 ·rw [size_set, size_set]; exact (ht1.set i0 _ (fun ad e => hr ad (hf1 ad e))).set i1 _ (fun ad e => hr ad (hf1 ad e))
 ·rw [size_set, size_set]; exact (hc1.set i0 _ (fun ad e => hr ad (hf2 ad e))).set i1 _ (fun ad e => hr ad (hf2 ad e))
 ·have hb2 := HB.out.trans (hb1.mono HB.out.size)
  exact (hb2.setCell (Zr _) _).setCell (Zr _) _
end Go.Proofs.YtlmfbjhokkpjhaaGreatDoor
