/- Part 42 of the walks and plain laws, joined: RefT6, Ref6L. -/
import Derived.Test.YtlmfbjhokkpjhaaGreatDoorNB00
import Derived.Test.YtlmfbjhokkpjhaaGreatDoorNB41
import Derived.Test.YtlmfbjhokkpjhaaGreatDoorNB39
import Derived.BigQuiet
set_option linter.unusedVariables false
set_option linter.unusedSimpArgs false
namespace Go.Proofs.YtlmfbjhokkpjhaaGreatDoor
open Go Go.RowKit
structure RefR (s : ByteArray) (p q : Nat) (last : Int) : Prop where
 lo : -1 ≤ last
 hi : last < 1000000000
 pq : p ≤ q
 qs : q ≤ s.size
 yes : ∀ j, stepV (((toL s).drop q).length + 1) last ((toL s).drop q) = some j → stepV (((toL s).drop p).length + 1) (-1) ((toL s).drop p) = some (q - p + j)
 no : stepV (((toL s).drop q).length + 1) last ((toL s).drop q) = none → stepV (((toL s).drop p).length + 1) (-1) ((toL s).drop p) = none
theorem drop_len' (s : ByteArray) (q : Nat) : ((toL s).drop q).length = s.size - q := by rw [List.length_drop, show (toL s).length = s.size from Lib.size_eq s]
theorem drop_all (s : ByteArray) {q : Nat} (h : s.size ≤ q) : (toL s).drop q = [] := List.eq_nil_of_length_eq_zero (by rw [drop_len']; omega)
theorem steps_bad {s : ByteArray} {w w' : World} {p : Nat} {vs : List ByteArray} (h : StepsR s (s.extract p s.size) p vs) (hp : p < s.size) (h2 : stepV (((toL s).drop p).length + 1) (-1) ((toL s).drop p) = none) (k : Below w.heap.size w w') : StepsPost s w (.returned (.slice none 0 0)) w' := by
 refine StepsPost.bad (h.no ?_) k
 rw [toL_extract]
 exact stepsV_none (fun e => by have := congrArg List.length e; rw [drop_len'] at this; simp at this; omega) h2
set_option maxRecDepth 20000 in
set_option maxHeartbeats 8000000 in
theorem rsteps_any (s : ByteArray) (w : World) (hs : s.size ≤ 4294967280) : Calls Tryz.prog 23 #[.string s] w (StepsPost s w) := by
 go_enter Tryz.func23, Tryz.ntmps23
 go_wp2_with fail
 go_loopw [3, 4] (fun lv qv wr => ∃ (p : Nat) (go : Option Nat) (m cap : Nat) (vs : List ByteArray), qv = .int .i64 (p : Nat) ∧ lv = sv go m cap ∧ m = vs.length ∧ StepsR s (s.extract p s.size) p vs ∧ Vec 9 1 w wr go m cap (vs.map Value.string)) (fun _ qv _ => s.size - (intOf qv).toNat)
 case atStart => exact ⟨0, none, 0, 0, [], rfl, rfl, rfl, ⟨rfl, Zr _, Nat.zero_le _, (fun r h => by rw [toL_extract] at h; exact h), (fun h => by rw [toL_extract] at h; exact h)⟩, Vec.nil _ _ _ (Zl _ _)⟩
 case round =>
  obtain ⟨p, go, m, cap, vs, rfl, rfl, hm, hst, hv⟩ := hrel
  have hps := hst.ks
  have hmk : m ≤ s.size := by have := hst.le; omega
  have HST := Zh hst
  have HV := Zh hv
  have HM := Zh hm
  clear hst hv hm
  have p0 : (0 : Int) ≤ (p : Int) := by omega
  by_cases he : p < s.size
  ·have p1 : (p : Int) < (s.size : Int) := by omega
   go_wp2_with fail
   go_loopw [4, 6] (fun qv lv wx => wx = wr ∧ ∃ (q : Nat) (last : Int), qv = .int .i64 (q : Nat) ∧ lv = .int .i64 last ∧ RefR s p q last) (fun qv _ _ => s.size - (intOf qv).toNat)
   case atStart => exact ⟨rfl, p, -1, rfl, rfl, by decide, by decide, Zr _, hps, (fun j h => by rw [Nat.sub_self, Nat.zero_add]; exact h), fun h => h⟩
   case round =>
    obtain ⟨rfl, q, last, rfl, rfl, hr⟩ := hrel
    have hqs := hr.qs
    have hpq := hr.pq
    have l0 := hr.lo
    have l1 := hr.hi
    have HR := Zh hr; clear hr
    have hc1 := rnumber_any s q wr hs hqs
    cases hcv : countV ((toL s).drop q) with
    | none =>
     have hc2 : Calls Tryz.prog 64 #[.string s, .int .i64 (q : Nat)] wr fun e w' => ∃ i : Nat, e = .returned (.tuple #[.int .i64 (-1), .int .i64 (i : Nat)]) ∧ w' = wr := hc1.mono fun e w' ⟨h1, _, h3⟩ => by obtain ⟨i, hi⟩ := h3 hcv; exact ⟨i, hi, h1⟩
     have HN := Zh (HR.out.no (sv_none hcv))
     have HC2 := Zh hc2
     clear hc1 hc2 hcv
     have j1 : (-1 : Int) ≤ last := l0
     go_wp2_with (go_at_call 64; with_reducible refine HC2.out.mono ?_; rintro e w1 ⟨i, rfl, rfl⟩)
     go_ret
     exact steps_bad HST.out he HN.out HV.out.below
    | some td =>
     obtain ⟨t, d⟩ := td
     obtain ⟨hdl, hd1, ht9⟩ := count_le' hcv
     rw [drop_len'] at hdl
     obtain ⟨i, hi⟩ : ∃ i, i = q + d := ⟨_, rfl⟩
     have hc2 : Calls Tryz.prog 64 #[.string s, .int .i64 (q : Nat)] wr fun e w' => e = .returned (.tuple #[.int .i64 (t : Nat), .int .i64 (i : Nat)]) ∧ w' = wr := hc1.mono fun e w' ⟨h1, h2, _⟩ => ⟨by rw [hi]; exact h2 t d hcv, h1⟩
     have hl1 : ((toL s).drop q).drop d = (toL s).drop i := by rw [List.drop_drop, hi]
     have HC2 := Zh hc2
     have hiq : q < i := by omega
     have his : i ≤ s.size := by omega
     have HI := Zh hi
     clear hc1 hc2 hi hdl
     by_cases ht : (t : Int) ≤ last
     ·have HN := Zh (HR.out.no (sv_le hcv ht))
      go_wp2_with (go_at_call 64; with_reducible refine HC2.out.mono ?_; rintro e w1 ⟨rfl, rfl⟩)
      go_ret
      exact steps_bad HST.out he HN.out HV.out.below
     ·by_cases hz : i < s.size
      ·obtain ⟨c, hc⟩ : ∃ c, s[i]'hz = c := ⟨_, rfl⟩
       have hl2 : (toL s).drop i = c :: (toL s).drop (i + 1) := by rw [← hc]; exact toL_cons hz
       have z1 : (i : Int) < (s.size : Int) := by omega
       have z2 : ¬ (s.size : Int) ≤ (i : Int) := by omega
       have z3 : (0 : Int) ≤ (i : Int) := by omega
       by_cases h61 : c = 61
       ·subst h61
        have hk := fun w => rnumber_any s (i + 1) w hs (by omega)
        cases hcv2 : countV ((toL s).drop (i + 1)) with
        | none =>
         have hk2 : ∀ w, Calls Tryz.prog 64 #[.string s, .int .i64 ((i : Int) + 1)] w fun e w' => ∃ j : Nat, e = .returned (.tuple #[.int .i64 (-1), .int .i64 (j : Nat)]) ∧ w' = w := fun w => (hk w).mono fun e w' ⟨h1, _, h3⟩ => by obtain ⟨i, hi⟩ := h3 hcv2; exact ⟨i, hi, h1⟩
         have HK2 := Zh hk2
         have HN := Zh (HR.out.no (sv_none2 hcv (hl1.trans hl2) hcv2))
         clear hk hk2 hcv hcv2 hl1 hl2
         go_wp2_with (first
          | (go_at_call 64; with_reducible refine HC2.out.mono ?_; rintro e w1 ⟨rfl, rfl⟩)
          | (go_at_call 64; with_reducible refine (HK2.out _).mono ?_; rintro e w1 ⟨j, rfl, rfl⟩)
          | fail)
         go_ret
         exact steps_bad HST.out he HN.out HV.out.below
        | some nd =>
         obtain ⟨n, d2⟩ := nd
         obtain ⟨hd2l, hd21, hn9⟩ := count_le' hcv2
         rw [drop_len'] at hd2l
         obtain ⟨k, hkk⟩ : ∃ k, k = i + 1 + d2 := ⟨_, rfl⟩
         have hk2 : ∀ w, Calls Tryz.prog 64 #[.string s, .int .i64 ((i : Int) + 1)] w fun e w' => e = .returned (.tuple #[.int .i64 (n : Nat), .int .i64 (k : Nat)]) ∧ w' = w := fun w => (hk w).mono fun e w' ⟨h1, h2, _⟩ => ⟨by rw [hkk]; exact h2 n d2 hcv2, h1⟩
         have hl4 : ((toL s).drop (i + 1)).drop d2 = (toL s).drop k := by rw [List.drop_drop, hkk]
         have hik : i + 1 < k := by omega
         have hks : k ≤ s.size := by omega
         have HK2 := Zh hk2
         have HKK := Zh hkk
         clear hk hk2 hkk hd2l
         have zn : ¬ (n : Int) < 0 := by omega
         by_cases hzk : k < s.size
         ·obtain ⟨c2, hc2⟩ : ∃ c2, s[k]'hzk = c2 := ⟨_, rfl⟩
          have hl5 : (toL s).drop k = c2 :: (toL s).drop (k + 1) := by rw [← hc2]; exact toL_cons hzk
          have y1 : (k : Int) < (s.size : Int) := by omega
          have y2 : ¬ (s.size : Int) ≤ (k : Int) := by omega
          have y3 : (0 : Int) ≤ (k : Int) := by omega
          have hlen : ((toL s).drop (k + 1)).length = s.size - (k + 1) := drop_len' _ _
          by_cases h58 : c2 = 58
          ·subst h58
           by_cases hsh : s.size - (k + 1) < n + 1
           ·have HN := Zh (HR.out.no (sv_ne2 hcv (hl1.trans hl2) hcv2 (hl4.trans hl5) (.inr (by rw [hlen]; exact hsh))))
            have x1 : (s.size : Int) - (k : Int) - 2 < (n : Int) := by omega
            clear hl1 hcv hcv2 hl2 hl4 hl5 hlen
            go_wp2_with (first
             | (go_at_call 64; with_reducible refine HC2.out.mono ?_; rintro e w1 ⟨rfl, rfl⟩)
             | (go_at_call 64; with_reducible refine (HK2.out _).mono ?_; rintro e w1 ⟨rfl, rfl⟩)
             | fail)
            go_ret
            exact steps_bad HST.out he HN.out HV.out.below
           ·have x1 : ¬ (s.size : Int) - (k : Int) - 2 < (n : Int) := by omega
            have hz3 : k + 1 + n < s.size := by omega
            have x2 : (k : Int) + 1 + (n : Int) < (s.size : Int) := by omega
            have x3 : (0 : Int) ≤ (k : Int) + 1 + (n : Int) := by omega
            obtain ⟨c3, hc3⟩ : ∃ c3, s[k + 1 + n]'hz3 = c3 := ⟨_, rfl⟩
            have hl6 : ((toL s).drop (k + 1)).drop n = c3 :: (toL s).drop (k + 1 + n + 1) := by rw [List.drop_drop, ← hc3]; exact toL_cons hz3
            have hsv := fun f => sv_step (f := f) (last := last) hcv ht (hl1.trans hl2) hcv2 (hl4.trans hl5) (by rw [hlen]; exact hsh) hl6
            have HSV := Zh hsv
            clear hl1 hcv hcv2 hl2 hl4 hl5 hlen hl6 hsv
            by_cases h59 : c3 = 59
            ·subst h59
             have hj := HR.out.yes _ ((HSV.out _).trans (if_pos rfl))
             obtain ⟨j, hjj⟩ : ∃ j, j = q - p + (d + 1 + d2 + 1 + n + 1) := ⟨_, rfl⟩
             rw [← hjj] at hj
             have hje : p + j = k + 1 + n + 1 := by have := HI.out; have := HKK.out; omega
             obtain ⟨x, hx⟩ : ∃ x, s.extract p (k + 1 + n + 1) = x := ⟨_, rfl⟩
             have hxl : toL x = ((toL s).drop p).take j := by
              rw [← hx]
              have := Lib.extract_eq s p (k + 1 + n + 1)
              unfold toL
              have hjk : k + 1 + n + 1 - p = j := by omega
              rw [this, hjk]
             have hcons := stepsV_cons (l := (toL s).drop p) (fun e => by have := congrArg List.length e; rw [drop_len'] at this; simp at this; omega) hj
             rw [← hxl, List.drop_drop, hje] at hcons
             have HCO := Zh hcons
             have HJ := Zh (Zi hj (Zi hjj (Zi hje hxl)))
             clear hj hjj hje hxl hcons
             have g1 : (p : Int) ≤ (k : Int) + 1 + (n : Int) + 1 := by omega
             have g2 : (k : Int) + 1 + (n : Int) + 1 ≤ (s.size : Int) := by omega
             go_wp2_with (first
              | (go_at_call 64; with_reducible refine HC2.out.mono ?_; rintro e w1 ⟨rfl, rfl⟩)
              | (go_at_call 64; with_reducible refine (HK2.out _).mono ?_; rintro e w1 ⟨rfl, rfl⟩)
              | (at_builtin; go_loud (refine HV.out.push eiStr rfl _ _ rfl rfl 1 [.string x] #[.string x] rfl rfl rfl (fun u hu => by simp at hu; subst hu; rfl) (by omega) (m + 1) rfl (by omega) ?_); intro gl cap2 w2 hv2 hg2; have HV2 := Zh hv2; clear hv2 hg2)
              | fail)
             refine ⟨⟨k + 1 + n + 1, some gl, m + 1, cap2, vs ++ [x], by simp, rfl, by simp [HM.out], ⟨rfl, by have := HST.out.le; simp; omega, by omega, ?_, ?_⟩, by rw [List.map_append]; exact HV2.out⟩, by simp [intOf]; omega⟩
             ·intro r hr
              rw [toL_extract] at hr
              rw [HST.out.yes (toL x :: r) (by rw [toL_extract, HCO.out, hr]; rfl)]
              simp
             ·intro hr
              rw [toL_extract] at hr
              exact HST.out.no (by rw [toL_extract, HCO.out, hr]; rfl)
            ·have n59 : (((c3.toNat : Nat) : Int) == 59) = false := u8_ne (c := 59) h59
             by_cases h43 : c3 = 43
             ·subst h43
              have hin := HSV.out ((toL s).drop q).length
              rw [if_neg (by decide), if_pos rfl, stepV_more ((toL s).drop q).length (((toL s).drop (k + 1 + n + 1)).length + 1) _ _ (by rw [drop_len', drop_len']; omega) (by omega)] at hin
              have HIN := Zh hin; clear hin
              go_wp2_with (first
               | (go_at_call 64; with_reducible refine HC2.out.mono ?_; rintro e w1 ⟨rfl, rfl⟩)
               | (go_at_call 64; with_reducible refine (HK2.out _).mono ?_; rintro e w1 ⟨rfl, rfl⟩)
               | fail)
              refine ⟨⟨trivial, k + 1 + n + 1, t, by simp, rfl, ⟨by omega, by omega, by omega, by omega, ?_, ?_⟩⟩, by simp [intOf]; omega⟩
              ·intro j hj
               have h1 := HIN.out
               rw [hj] at h1
               rw [HR.out.yes (j + (d + 1 + d2 + 1 + n + 1)) h1]
               have := HI.out; have := HKK.out
               exact congrArg some (by omega)
              ·intro hj
               have h1 := HIN.out
               rw [hj] at h1
               exact HR.out.no h1
             ·have n43 : (((c3.toNat : Nat) : Int) != 43) = true := by have := u8_ne (c := 43) h43; simpa using this
              have HN := Zh (HR.out.no ((HSV.out _).trans ((if_neg h59).trans (if_neg h43))))
              go_wp2_with (first
               | (go_at_call 64; with_reducible refine HC2.out.mono ?_; rintro e w1 ⟨rfl, rfl⟩)
               | (go_at_call 64; with_reducible refine (HK2.out _).mono ?_; rintro e w1 ⟨rfl, rfl⟩)
               | fail)
              go_ret
              exact steps_bad HST.out he HN.out HV.out.below
          ·have n58 : (((c2.toNat : Nat) : Int) != 58) = true := by have := u8_ne (c := 58) h58; simpa using this
           have HN := Zh (HR.out.no (sv_ne2 hcv (hl1.trans hl2) hcv2 (hl4.trans hl5) (.inl h58)))
           clear hl1 hcv hcv2 hl2 hl4 hl5 hlen
           go_wp2_with (first
            | (go_at_call 64; with_reducible refine HC2.out.mono ?_; rintro e w1 ⟨rfl, rfl⟩)
            | (go_at_call 64; with_reducible refine (HK2.out _).mono ?_; rintro e w1 ⟨rfl, rfl⟩)
            | fail)
           go_ret
           exact steps_bad HST.out he HN.out HV.out.below
         ·have y2 : (s.size : Int) ≤ (k : Int) := by omega
          have HN := Zh (HR.out.no (sv_nil2 hcv (hl1.trans hl2) hcv2 (hl4.trans (drop_all s (by omega)))))
          clear hl1 hcv hcv2 hl2 hl4
          go_wp2_with (first
           | (go_at_call 64; with_reducible refine HC2.out.mono ?_; rintro e w1 ⟨rfl, rfl⟩)
           | (go_at_call 64; with_reducible refine (HK2.out _).mono ?_; rintro e w1 ⟨rfl, rfl⟩)
           | fail)
          go_ret
          exact steps_bad HST.out he HN.out HV.out.below
       ·have n61 : (((c.toNat : Nat) : Int) != 61) = true := by have := u8_ne (c := 61) h61; simpa using this
        have HN := Zh (HR.out.no (sv_ne hcv (hl1.trans hl2) h61))
        clear hl1 hl2 hcv
        go_wp2_with (go_at_call 64; with_reducible refine HC2.out.mono ?_; rintro e w1 ⟨rfl, rfl⟩)
        go_ret
        exact steps_bad HST.out he HN.out HV.out.below
      ·have z2 : (s.size : Int) ≤ (i : Int) := by omega
       have HN := Zh (HR.out.no (sv_nil hcv (hl1.trans (drop_all s (by omega)))))
       clear hl1 hcv
       go_wp2_with (go_at_call 64; with_reducible refine HC2.out.mono ?_; rintro e w1 ⟨rfl, rfl⟩)
       go_ret
       exact steps_bad HST.out he HN.out HV.out.below
  ·have p1 : ¬ (p : Int) < (s.size : Int) := by omega
   have HN := Zh (HST.out.yes [] (by rw [toL_extract, drop_all s (by omega)]; rfl))
   go_wp2_with fail
   go_ret
   refine ⟨go, m, cap, vs, rfl, HV.out, ?_, HM.out⟩
   unfold stepsOf
   rw [HN.out, List.append_nil]
   rfl
end Go.Proofs.YtlmfbjhokkpjhaaGreatDoor
namespace Go.Proofs.YtlmfbjhokkpjhaaGreatDoor
open Go Go.RowKit
set_option maxRecDepth 20000 in
set_option maxHeartbeats 4000000 in
theorem rright_any (s : ByteArray) (w : World) (hs : s.size ≤ 4294967280) : Calls Tryz.prog 67 #[.string s] w fun e w' => e = .returned (.bool (decide (s.size = 0) || decide (0 < (stepsOf (toL s)).length))) ∧ Below w.heap.size w w' := by
 have hc2 := fun w => (rsteps_any s w hs).mono fun e w' h => h.len
 generalize (stepsOf (toL s)).length = n1 at hc2 ⊢
 have HC := Zh hc2
 clear hc2
 go_enter Tryz.func67, Tryz.ntmps67
 by_cases he : s.size = 0
 ·have hs0 : s = ⟨#[]⟩ := toL_injS (List.eq_nil_of_length_eq_zero (by rw [show (toL s).length = s.size from Lib.size_eq s]; exact he))
  subst hs0
  go_wp2_with fail
  go_ret
  exact ⟨rfl, Zl _ _⟩
 ·have hne : s.toList.isEmpty = false := by rw [← decide_eq_emptyBytes]; exact decide_eq_false (fun h => by rw [h] at he; exact he rfl)
  have HE := Zh he
  by_cases hn : 0 < n1
  ·have n0 : (0 : Int) < (n1 : Int) := by omega
   go_wp2_with (go_at_call 23; (with_reducible refine (HC.out _).mono ?_); rintro e w2 ⟨a1, c1, rfl, hb1⟩; have HB1 := Zh hb1; clear hb1)
   go_ret
   exact ⟨by simp [hn], HB1.out⟩
  ·have n0 : ¬ (0 : Int) < (n1 : Int) := by omega
   go_wp2_with (go_at_call 23; (with_reducible refine (HC.out _).mono ?_); rintro e w2 ⟨a1, c1, rfl, hb1⟩; have HB1 := Zh hb1; clear hb1)
   go_ret
   exact ⟨by simp [hn, HE.out], HB1.out⟩
theorem bytes_ne6 {a b : ByteArray} (h : ¬ a = b) : (a.toList == b.toList) = false := by
 rw [Lib.toList_data, Lib.toList_data]
 refine beq_false_of_ne fun e => h ?_
 cases a; cases b
 simp only [ByteArray.mk.injEq]
 exact Array.toList_inj.1 e
theorem liesV_eq (s t : ByteArray) : liesV (toL s) (toL t) = ((decide (s.size = 0) || decide (0 < (stepsOf (toL s)).length)) && (decide (t.size = 0) || decide (0 < (stepsOf (toL t)).length)) && decide (t.size < s.size) && decide (s.extract 0 t.size = t)) := by
 have e1 : (toL t).isPrefixOf (toL s) = decide (s.extract 0 t.size = t) := by
  have h1 : toL (s.extract 0 t.size) = (toL s).take t.size := toL_take s t.size
  have h2 : (toL t).length = t.size := Lib.size_eq t
  refine Bool.eq_iff_iff.2 ⟨fun h => decide_eq_true ?_, fun h => ?_⟩
  ·have := List.prefix_iff_eq_take.1 (List.isPrefixOf_iff_prefix.1 h)
   rw [h2] at this
   exact toL_injS (by rw [h1, ← this])
  ·have h := of_decide_eq_true h
   have h3 : toL t = (toL s).take t.size := by rw [← h1, h]
   exact List.isPrefixOf_iff_prefix.2 (List.prefix_iff_eq_take.2 (by rw [h2]; exact h3))
 unfold liesV
 rw [e1, show (toL s).length = s.size from Lib.size_eq s, show (toL t).length = t.size from Lib.size_eq t]
 have e2 : decide (toL t = []) = decide (t.size = 0) := by
  refine decide_eq_decide.2 ⟨fun h => ?_, fun h => ?_⟩
  ·rw [← show (toL t).length = t.size from Lib.size_eq t, h]; rfl
  ·exact List.eq_nil_of_length_eq_zero (by rw [show (toL t).length = t.size from Lib.size_eq t]; exact h)
 rw [e2]
 by_cases hl : t.size < s.size
 ·have h0 : decide (s.size = 0) = false := decide_eq_false (by omega)
  rw [h0]
  cases decide (t.size < s.size) <;> cases decide (s.extract 0 t.size = t) <;> cases decide (0 < (stepsOf (toL s)).length) <;> cases (decide (t.size = 0) || decide (0 < (stepsOf (toL t)).length)) <;> rfl
 ·rw [decide_eq_false hl]
  simp
set_option maxRecDepth 20000 in
set_option maxHeartbeats 4000000 in
theorem rlies_any (s t : ByteArray) (w : World) (hs : s.size ≤ 4294967280) (ht : t.size ≤ 4294967280) : Calls Tryz.prog 27 #[.string s, .string t] w fun e w' => e = .returned (.bool (liesV (toL s) (toL t))) ∧ Below w.heap.size w w' := by
 have hc := fun w => rright_any s w hs
 have hd := fun w => rright_any t w ht
 rw [liesV_eq]
 generalize (decide (s.size = 0) || decide (0 < (stepsOf (toL s)).length)) = r1 at hc ⊢
 generalize (decide (t.size = 0) || decide (0 < (stepsOf (toL t)).length)) = r2 at hd ⊢
 have HC := Zh hc; have HD := Zh hd
 clear hc hd
 go_enter Tryz.func27, Tryz.ntmps27
 cases r1 with
 | false =>
  go_wp2_with (go_at_call 67; (with_reducible refine (HC.out _).mono ?_); rintro e w1 ⟨rfl, hb1⟩; have HB1 := Zh hb1; clear hb1)
  go_ret
  exact ⟨rfl, HB1.out⟩
 | true =>
  cases r2 with
  | false =>
   go_wp2_with (first
    | (go_at_call 67; (with_reducible refine (HC.out _).mono ?_); rintro e w1 ⟨rfl, hb1⟩; have HB1 := Zh hb1; clear hb1)
    | (go_at_call 67; (with_reducible refine (HD.out _).mono ?_); rintro e w2 ⟨rfl, hb2⟩; have HB2 := Zh hb2; clear hb2)
    | fail)
   go_ret
   exact ⟨rfl, HB1.out.trans (HB2.out.mono HB1.out.size)⟩
  | true =>
   by_cases hl : t.size < s.size
   ·have l1 : ¬ (s.size : Int) ≤ (t.size : Int) := by omega
    have l2 : (t.size : Int) ≤ (s.size : Int) := by omega
    have HL := Zh hl
    go_wp2_with (first
     | (go_at_call 67; (with_reducible refine (HC.out _).mono ?_); rintro e w1 ⟨rfl, hb1⟩; have HB1 := Zh hb1; clear hb1)
     | (go_at_call 67; (with_reducible refine (HD.out _).mono ?_); rintro e w2 ⟨rfl, hb2⟩; have HB2 := Zh hb2; clear hb2)
     | fail)
    go_ret
    refine ⟨?_, HB1.out.trans (HB2.out.mono HB1.out.size)⟩
    simp only [HL.out, decide_true, Bool.true_and]
    by_cases he : s.extract 0 t.size = t
    ·simp [he]
    ·have hb := bytes_ne6 he
     simp [he, hb]
   ·have l1 : (s.size : Int) ≤ (t.size : Int) := by omega
    have HL := Zh hl
    go_wp2_with (first
     | (go_at_call 67; (with_reducible refine (HC.out _).mono ?_); rintro e w1 ⟨rfl, hb1⟩; have HB1 := Zh hb1; clear hb1)
     | (go_at_call 67; (with_reducible refine (HD.out _).mono ?_); rintro e w2 ⟨rfl, hb2⟩; have HB2 := Zh hb2; clear hb2)
     | fail)
    go_ret
    refine ⟨?_, HB1.out.trans (HB2.out.mono HB1.out.size)⟩
    simp [HL.out]
set_option maxRecDepth 20000 in
set_option maxHeartbeats 4000000 in
theorem texts6_eq (a1 a2 : Option Addr) (n c1 c2 : Nat) (l : List ByteArray) (w : World) (hn : n = l.length) (hnb : n ≤ 4294967280) (h1 : SCells6 w a1 n l) (h2 : SCells6 w a2 n l) :
  Calls Tryz.prog 25 #[.slice a1 n c1, .slice a2 n c2] w fun e w' => e = .returned (.bool true) ∧ Below w.heap.size w w' := by
 have HN := Zh hn; have H1 := Zh h1; have H2 := Zh h2
 clear hn h1 h2
 go_enter Tryz.func25, Tryz.ntmps25
 go_wp2_with fail
 go_loopw [5] (fun iv wr => ∃ i : Nat, iv = .int .i64 (i : Nat) ∧ i ≤ n ∧ Below w.heap.size w wr) (fun iv _ => n - (intOf iv).toNat)
 case atStart => exact ⟨0, rfl, Nat.zero_le _, Zl _ _⟩
 case round =>
  obtain ⟨i, rfl, hin, hbl⟩ := hrel
  have HBL := Zh hbl; clear hbl
  by_cases hi : i < n
  ·have i2 : (i : Int) < (n : Int) := by omega
   have i3 : (0 : Int) ≤ (i : Int) := by omega
   obtain ⟨b1, rfl, k1⟩ := H1.out (by omega)
   obtain ⟨b2, rfl, k2⟩ := H2.out (by omega)
   obtain ⟨x, hx⟩ : ∃ x, l[i]? = some x := ⟨_, List.getElem?_eq_getElem (by have := HN.out; omega)⟩
   have q1 := (HBL.out.cell (Zb _ _ (k1 i x hx))).trans (k1 i x hx)
   have q2 := (HBL.out.cell (Zb _ _ (k2 i x hx))).trans (k2 i x hx)
   clear k1 k2 hx
   go_wp2_with fail
   go_quiet (fail)
   go_wp2_with fail
   exact ⟨⟨i + 1, by simp, by omega, bdrewN HBL.out _⟩, by simp [intOf]; omega⟩
  ·have i2 : ¬ (i : Int) < (n : Int) := by omega
   go_wp2_with fail
   go_ret
   exact ⟨rfl, HBL.out⟩
end Go.Proofs.YtlmfbjhokkpjhaaGreatDoor
