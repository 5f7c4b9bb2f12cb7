/- rosterref03.small, letter, code, sound: the code of a row of letters. -/
import Derived.Test.YtpnnbffhdhbonaaGreatDoorCode
import Derived.Test.YtpnnbffhdhbonaaGreatDoorLower
import Derived.Test.YtpnnbffhdhbonaaGreatDoorWords
namespace Go.Proofs.YtpnnbffhdhbonaaGreatDoor
open Go Go.RowKit

theorem lowB_toNat (b : UInt8) : ((lowB b).toNat : Int) = if 65 ≤ b.toNat ∧ b.toNat ≤ 90 then (b.toNat : Int) + 32 else b.toNat := by
  unfold lowB
  split
  · rename_i h; rw [UInt8.toNat_add]; simp; omega
  · rfl
def alpha (b : UInt8) : Bool := decide (65 ≤ b.toNat ∧ b.toNat ≤ 90) || decide (97 ≤ b.toNat ∧ b.toNat ≤ 122)
theorem isL_low (b : UInt8) : isL (lowB b) = alpha b := by
  have h := lowB_toNat b
  unfold isL alpha
  by_cases h1 : 65 ≤ b.toNat ∧ b.toNat ≤ 90
  · rw [if_pos h1] at h
    rw [decide_eq_true (by omega : 97 ≤ (lowB b).toNat), decide_eq_true (by omega : (lowB b).toNat ≤ 122), decide_eq_true h1]; rfl
  · rw [if_neg h1] at h
    have e : (lowB b).toNat = b.toNat := by omega
    rw [e, decide_eq_false h1, Bool.false_or, Bool.decide_and]

theorem rsmall_any (b : UInt8) (w : World) : Calls Tryz.prog 72 #[.int .u8 (b.toNat : Int)] w fun e w' => e = .returned (.int .u8 ((lowB b).toNat : Int)) ∧ w' = w := by
  have hl := b.toNat_lt
  by_cases h1 : (65 : Int) ≤ b.toNat
  · by_cases h2 : (b.toNat : Int) ≤ 90
    · have hn : ((lowB b).toNat : Int) = (b.toNat : Int) + 32 := by rw [lowB_toNat, if_pos (by omega)]
      have v1 : IntKind.u8.wrap ((b.toNat : Int) + 97) = (b.toNat : Int) + 97 := IntWalk.u8_in _ (by omega)
      have v2 : IntKind.u8.wrap ((b.toNat : Int) + 97 - 65) = (b.toNat : Int) + 32 := by rw [IntWalk.u8_in _ (by omega)]; omega
      have HN := Lib.hid hn; clear hn
      go_enter Tryz.func72, Tryz.ntmps72
      go_wp2_with fail
      go_ret
      exact ⟨by rw [HN.out]; rfl, rfl⟩
    · have hn : ((lowB b).toNat : Int) = (b.toNat : Int) := by rw [lowB_toNat, if_neg (by omega)]
      have HN := Lib.hid hn; clear hn
      go_enter Tryz.func72, Tryz.ntmps72
      go_wp2_with fail
      go_ret
      exact ⟨by rw [HN.out]; rfl, rfl⟩
  · have hn : ((lowB b).toNat : Int) = (b.toNat : Int) := by rw [lowB_toNat, if_neg (by omega)]
    have HN := Lib.hid hn; clear hn
    go_enter Tryz.func72, Tryz.ntmps72
    go_wp2_with fail
    go_ret
    exact ⟨by rw [HN.out]; rfl, rfl⟩

theorem rletter_any (b : UInt8) (w : World) : Calls Tryz.prog 60 #[.int .u8 (b.toNat : Int)] w fun e w' => e = .returned (.bool (alpha b)) ∧ w' = w := by
  have ha : ∀ p q : Prop, ∀ _ : Decidable p, ∀ _ : Decidable q, True := fun _ _ _ _ => trivial
  rcases (by omega : (b.toNat : Int) < 65 ∨ (65 ≤ (b.toNat : Int) ∧ (b.toNat : Int) ≤ 90) ∨ (90 < (b.toNat : Int) ∧ (b.toNat : Int) < 97) ∨ (97 ≤ (b.toNat : Int) ∧ (b.toNat : Int) ≤ 122) ∨ 122 < (b.toNat : Int)) with h | ⟨h, h2⟩ | ⟨h, h2⟩ | ⟨h, h2⟩ | h
  · have HA := Lib.hid (show alpha b = false by unfold alpha; rw [decide_eq_false (by omega), decide_eq_false (by omega)]; rfl)
    have q1 : ¬ (65 : Int) ≤ b.toNat := by omega
    have q2 : ¬ (97 : Int) ≤ b.toNat := by omega
    clear ha
    go_enter Tryz.func60, Tryz.ntmps60
    go_wp2_with fail
    go_ret
    exact ⟨by rw [HA.out]; rfl, rfl⟩
  · have HA := Lib.hid (show alpha b = true by unfold alpha; rw [decide_eq_true (by omega)]; rfl)
    clear ha
    go_enter Tryz.func60, Tryz.ntmps60
    go_wp2_with fail
    go_ret
    exact ⟨by rw [HA.out]; rfl, rfl⟩
  · have HA := Lib.hid (show alpha b = false by unfold alpha; rw [decide_eq_false (by omega), decide_eq_false (by omega)]; rfl)
    have q1 : (65 : Int) ≤ b.toNat := by omega
    have q2 : ¬ (b.toNat : Int) ≤ 90 := by omega
    have q3 : ¬ (97 : Int) ≤ b.toNat := by omega
    clear ha
    go_enter Tryz.func60, Tryz.ntmps60
    go_wp2_with fail
    go_ret
    exact ⟨by rw [HA.out]; rfl, rfl⟩
  · have HA := Lib.hid (show alpha b = true by unfold alpha; rw [decide_eq_true (by omega : 97 ≤ b.toNat ∧ b.toNat ≤ 122), Bool.or_true])
    have q1 : (65 : Int) ≤ b.toNat := by omega
    have q2 : ¬ (b.toNat : Int) ≤ 90 := by omega
    clear ha
    go_enter Tryz.func60, Tryz.ntmps60
    go_wp2_with fail
    go_ret
    exact ⟨by rw [HA.out]; rfl, rfl⟩
  · have HA := Lib.hid (show alpha b = false by unfold alpha; rw [decide_eq_false (by omega), decide_eq_false (by omega)]; rfl)
    have q1 : (65 : Int) ≤ b.toNat := by omega
    have q2 : ¬ (b.toNat : Int) ≤ 90 := by omega
    have q3 : (97 : Int) ≤ b.toNat := by omega
    have q4 : ¬ (b.toNat : Int) ≤ 122 := by omega
    clear ha
    go_enter Tryz.func60, Tryz.ntmps60
    go_wp2_with fail
    go_ret
    exact ⟨by rw [HA.out]; rfl, rfl⟩

set_option maxRecDepth 20000 in
set_option maxHeartbeats 4000000 in
theorem rcode_any (b : UInt8) (w : World) : Calls Tryz.prog 96 #[.int .u8 (b.toNat : Int)] w fun e w' => e = .returned (.int .u8 (voiceI (lowB b).toNat)) ∧ w' = w := by
  have hs := fun w => rsmall_any b w
  generalize ((lowB b).toNat : Int) = r at hs ⊢
  have HS := Lib.hid hs; clear hs
  go_enter Tryz.func96, Tryz.ntmps96
  go_wp2_with (first
    | (go_at_call 72; refine (HS.out _).mono ?_; rintro e w1 ⟨rfl, rfl⟩)
    | fail)
  all_goals (
    go_ret
    refine ⟨?_, rfl⟩
    simp only [beq_iff_eq, beq_eq_false_iff_ne, ne_eq] at *
    unfold voiceI
    first
    | (rw [if_pos (by omega)] <;> rfl)
    | (rw [if_neg (by omega), if_pos (by omega)] <;> rfl)
    | (rw [if_neg (by omega), if_neg (by omega), if_pos (by omega)] <;> rfl)
    | (rw [if_neg (by omega), if_neg (by omega), if_neg (by omega), if_pos (by omega)] <;> rfl)
    | (rw [if_neg (by omega), if_neg (by omega), if_neg (by omega), if_neg (by omega), if_pos (by omega)] <;> rfl)
    | (rw [if_neg (by omega), if_neg (by omega), if_neg (by omega), if_neg (by omega), if_neg (by omega), if_pos (by omega)] <;> rfl)
    | (rw [if_neg (by omega), if_neg (by omega), if_neg (by omega), if_neg (by omega), if_neg (by omega), if_neg (by omega)] <;> rfl)
    | trace_state)

theorem foldC_full : ∀ (l : List UInt8) (st : List UInt8 × Int), 4 ≤ st.1.length → (l.foldl stepC st).1 = st.1
  | [], _, _ => rfl
  | b :: l, st, h => by
    have e : (stepC st b).1 = st.1 := by
      unfold stepC
      split
      · rfl
      · show (if _ then _ else st.1) = st.1
        rw [if_neg (by omega)]
    rw [List.foldl_cons, foldC_full l _ (by rw [e]; exact h), e]

theorem low_at (s : ByteArray) {i : Nat} (h : i < s.size) : (low s.data.toList).drop i = lowB s[i] :: (low s.data.toList).drop (i + 1) := by
  unfold low
  rw [← List.map_drop, ← List.map_drop, drop_at s h]; rfl

set_option maxRecDepth 20000 in
set_option maxHeartbeats 1000000 in
theorem rsound_any (s : ByteArray) (w : World) (h0 : 0 < s.size) (hs : s.size ≤ 140737488355327) (hl : ∀ b ∈ s.data.toList, alpha b = true) :
    Calls Tryz.prog 61 #[.string s] w fun e w' => e = .returned (.string ⟨(codeL (low s.data.toList)).toArray⟩) ∧ Below w.heap.size w w' := by
  have hrange : ∀ b, alpha b = true → 97 ≤ (lowB b).toNat ∧ (lowB b).toNat ≤ 122 := fun b h => (isL_iff _).1 (by rw [isL_low, h])
  have hd := low_at s h0
  rw [List.drop_zero] at hd
  have hb0 := hrange s[0] (hl s[0] (List.mem_of_mem_drop (i := 0) (by rw [drop_at s h0]; simp)))
  have HL := Lib.hid (And.intro hl hrange); clear hl hrange
  have HSM := Lib.hid (fun w => rsmall_any s[0] w); have HCD := Lib.hid (fun w => rcode_any s[0] w)
  generalize hsb : s[0]'h0 = b at hd hb0 HSM HCD
  generalize lowB b = c at hd hb0 HSM HCD
  generalize htl : List.drop (0 + 1) (low s.data.toList) = l at hd
  have hC : codeL (low s.data.toList) = padC (l.foldl stepC ([c - 32], voiceI c.toNat)).1 := by rw [hd]; rfl
  have hb1 : ((c - 32).toNat : Int) = c.toNat - 32 := by rw [UInt8.toNat_sub]; simp; omega
  have v1 : IntKind.u8.wrap ((c.toNat : Int) - 97) = c.toNat - 97 := IntWalk.u8_in _ (by omega)
  have v2 : IntKind.u8.wrap ((c.toNat : Int) - 97 + 65) = (c.toNat : Int) - 32 := by rw [IntWalk.u8_in _ (by omega)]; omega
  have i0 : (0 : Int) < s.size := by omega
  have hdl : (low s.data.toList).drop 1 = l := htl
  go_enter Tryz.func61, Tryz.ntmps61
  go_wp2_with (first
    | (go_at_call 72; with_reducible refine (HSM.out _).mono ?_; rintro e w1 ⟨rfl, rfl⟩)
    | (go_at_call 96; with_reducible refine (HCD.out _).mono ?_; rintro e w1 ⟨rfl, rfl⟩)
    | fail)
  have hB : Buf w1 (w1.alloc (.cells #[.int .u8 ((c.toNat : Int) - 32)] 5)) (some w1.heap.size) 1 [c - 32] := by
    have h1 : Row (w1.alloc (.cells #[.int .u8 ((c.toNat : Int) - 32)] 5)) w1.heap.size 5 1 1 (bv [c - 32]) :=
      ⟨[], by rw [heap_alloc_new]; simp [bv, hb1], by simp, by decide⟩
    exact Buf.mk (w0 := w1) (Own.mk h1 rfl (Nat.le_refl _)) (fun g h => by cases h; exact Nat.le_refl _) ((Below.refl _ w1).alloc (Nat.le_refl _) _)
  generalize hgg : w1.heap.size = g0 at hB
  have hB : Buf w1 (w1.alloc (.cells #[.int .u8 ((c.toNat : Int) - 32)] 5)) (some g0) 1 [c - 32] := hB
  generalize w1.alloc (.cells #[.int .u8 ((c.toNat : Int) - 32)] 5) = W0 at hB ⊢
  have HB0 := Lib.hid hB; have HC := Lib.hid hC; have HDL := Lib.hid hdl; clear hB hC hdl hgg hd htl hsb hb0 hb1 v1 v2 HSM HCD
  go_loopw [3, 4, 5] (fun sl la iv wr => ∃ (i cap g : Nat) (out : List UInt8) (last : Int), sl = .slice (some ⟨g, 0, none⟩) out.length cap ∧ la = .int .u8 last ∧ iv = .int .i64 i ∧ i ≤ s.size ∧
      Buf w1 wr (some g) cap out ∧ 1 ≤ out.length ∧ out.length ≤ 4 ∧ (((low s.data.toList).drop i).foldl stepC (out, last)).1 = (l.foldl stepC ([c - 32], voiceI c.toNat)).1) (fun _ _ iv _ => s.size - (intOf iv).toNat)
  case atStart => exact ⟨1, 1, g0, [c - 32], _, rfl, rfl, rfl, by omega, HB0.out, by simp, by simp, by rw [HDL.out]⟩
  case round =>
    clear HB0
    obtain ⟨i, cap, g, out, last, rfl, rfl, rfl, hi, hB, ho1, ho4, hst⟩ := hrel
    have HB := Lib.hid hB; clear hB
    by_cases hgo : i < s.size ∧ out.length < 4
    · obtain ⟨hlt, ho3⟩ := hgo
      have hd := low_at s hlt
      rw [hd, List.foldl_cons] at hst
      have i1 : (i : Int) < s.size := by omega
      have o3 : (out.length : Int) < 4 := by omega
      have hc0 := HL.out.2 s[i] (HL.out.1 s[i] (List.mem_of_mem_drop (i := i) (by rw [drop_at s hlt]; simp)))
      have HSM := Lib.hid (fun w => rsmall_any s[i] w)
      generalize hsb : s[i]'hlt = b2 at hst hc0 HSM
      generalize lowB b2 = d at hst hc0 HSM
      have hld : lowB d = d := by unfold lowB; rw [if_neg (by omega)]
      have hcd := fun w => rcode_any d w
      rw [hld] at hcd
      have HCD := Lib.hid hcd; clear hcd hld hd
      have hd0 := voiceI_range d.toNat
      by_cases hhw : d = 104 ∨ d = 119
      · have hsc : stepC (out, last) d = (out, last) := if_pos hhw
        rw [hsc] at hst
        have HST := Lib.hid hst; clear hst
        rcases hhw with hhw | hhw <;> subst hhw <;> (
          go_wp2_with (first
            | (go_at_call 72; with_reducible refine (HSM.out _).mono ?_; rintro e w2 ⟨rfl, rfl⟩)
            | fail)
          exact ⟨⟨i + 1, cap, g, out, last, rfl, rfl, by simp, by omega, HB.out, ho1, ho4, HST.out⟩, by simp [intOf]; omega⟩)
      · have c1 : ¬ d = 104 := fun e => hhw (.inl e)
        have c2 : ¬ d = 119 := fun e => hhw (.inr e)
        have hsc : stepC (out, last) d = (if voiceI d.toNat ≠ 0 ∧ voiceI d.toNat ≠ last ∧ out.length < 4 then out ++ [UInt8.ofNat (voiceI d.toNat).toNat] else out, voiceI d.toNat) := if_neg hhw
        have c1 : ((d.toNat : Int) == 104) = false := beq_eq_false_iff_ne.2 fun e => c1 (UInt8.toNat_inj.1 (by show d.toNat = 104; omega))
        have c2 : ((d.toNat : Int) == 119) = false := beq_eq_false_iff_ne.2 fun e => c2 (UInt8.toNat_inj.1 (by show d.toNat = 119; omega))
        clear hhw
        generalize voiceI d.toNat = v at *
        by_cases k1 : v = 0
        · rw [if_neg (fun h => h.1 k1)] at hsc
          rw [hsc] at hst
          have HST := Lib.hid hst; clear hst
          subst k1
          go_wp2_with (first
            | (go_at_call 72; with_reducible refine (HSM.out _).mono ?_; rintro e w2 ⟨rfl, rfl⟩)
            | (go_at_call 96; with_reducible refine (HCD.out _).mono ?_; rintro e w2 ⟨rfl, rfl⟩)
            | fail)
          exact ⟨⟨i + 1, cap, g, out, _, rfl, rfl, by simp, by omega, HB.out, ho1, ho4, HST.out⟩, by simp [intOf]; omega⟩
        · have b1 : (v != 0) = true := by simpa using k1
          by_cases k2 : v = last
          · rw [if_neg (fun h => h.2.1 k2)] at hsc
            rw [hsc] at hst
            have HST := Lib.hid hst; clear hst
            subst k2
            go_wp2_with (first
              | (go_at_call 72; with_reducible refine (HSM.out _).mono ?_; rintro e w2 ⟨rfl, rfl⟩)
              | (go_at_call 96; with_reducible refine (HCD.out _).mono ?_; rintro e w2 ⟨rfl, rfl⟩)
              | fail)
            exact ⟨⟨i + 1, cap, g, out, _, rfl, rfl, by simp, by omega, HB.out, ho1, ho4, HST.out⟩, by simp [intOf]; omega⟩
          · rw [if_pos ⟨k1, k2, ho3⟩] at hsc
            rw [hsc] at hst
            have HST := Lib.hid hst; clear hst
            have b2' : (v != last) = true := by simpa using k2
            have hdv : (Value.int .u8 v) = .int .u8 ((UInt8.ofNat v.toNat).toNat : Int) := by
              have : ((UInt8.ofNat v.toNat).toNat : Int) = v := by simp; omega
              rw [this]
            have HDV := Lib.hid hdv; clear hdv
            go_wp2_with (first
              | (go_at_call 72; with_reducible refine (HSM.out _).mono ?_; rintro e w2 ⟨rfl, rfl⟩)
              | (go_at_call 96; with_reducible refine (HCD.out _).mono ?_; rintro e w2 ⟨rfl, rfl⟩)
              | (at_builtin; refine HB.out.push rfl (.tmp 47) (.tmp 49) rfl rfl (UInt8.ofNat v.toNat) HDV.out rfl (by omega) ?_; intro g' cap' w' hB')
              | fail)
            exact ⟨⟨i + 1, cap', g', out ++ [UInt8.ofNat v.toNat], v, by simp, rfl, by simp, by omega, hB', by simp, by simp; omega, HST.out⟩, by simp [intOf]; omega⟩
    · have hF : codeL (low s.data.toList) = padC out := by
        rw [HC.out, ← hst]
        by_cases h4 : out.length < 4
        · have : ¬ i < s.size := fun h => hgo ⟨h, h4⟩
          rw [List.drop_eq_nil_of_le (by rw [low, List.length_map, ← Lib.size_eq]; omega)]; rfl
        · rw [foldC_full _ _ (by show 4 ≤ out.length; omega)]
      have HF := Lib.hid hF; clear hF hst
      have hex : (decide ((i : Int) < s.size) && decide ((out.length : Int) < 4)) = false := by
        rw [Bool.and_eq_false_iff, decide_eq_false_iff_not, decide_eq_false_iff_not]
        by_cases h : i < s.size
        · right; intro h2; exact hgo ⟨h, by omega⟩
        · left; omega
      clear hgo
      by_cases hlt : (i : Int) < s.size
      · have h4 : ¬ (out.length : Int) < 4 := by
          intro h; rw [decide_eq_true hlt, decide_eq_true h] at hex; cases hex
        clear hex
        go_wp2_with fail
        go_loopw [3] (fun sl wx => ∃ (cap g : Nat) (o : List UInt8), sl = .slice (some ⟨g, 0, none⟩) o.length cap ∧ Buf w1 wx (some g) cap o ∧ 1 ≤ o.length ∧ o.length ≤ 4 ∧ padC o = padC out) (fun sl _ => 4 - slLen sl)
        case atStart => exact ⟨cap, g, out, rfl, HB.out, ho1, ho4, rfl⟩
        case round =>
          obtain ⟨cap2, g2, o, rfl, hB2, hn1, hn4, hpd⟩ := hrel
          have HB2 := Lib.hid hB2; clear hB2
          have HPD := Lib.hid hpd; clear hpd
          by_cases h4 : o.length < 4
          · have h5 : (o.length : Int) < 4 := by omega
            go_wp2_with (first
              | (at_builtin; refine HB2.out.push rfl (.tmp 55) (.tmp 56) rfl rfl 48 rfl rfl (by omega) ?_; intro g' cap' w' hB')
              | fail)
            refine ⟨⟨cap', g', o ++ [48], by simp, hB', by simp, by simp; omega, ?_⟩, ?_⟩
            · rw [padC_step o h4]; exact HPD.out
            · show 4 - (o.length + 1) < 4 - o.length
              omega
          · have h5 : ¬ (o.length : Int) < 4 := by omega
            have hbk := HB2.out.back rfl cap2
            go_wp2_with fail
            go_ret
            refine ⟨?_, HB2.out.below⟩
            rw [HF.out, ← HPD.out, show padC o = o from by unfold padC; rw [show 4 - o.length = 0 by omega]; simp]
            rfl
      · clear hex
        go_wp2_with fail
        go_loopw [3] (fun sl wx => ∃ (cap g : Nat) (o : List UInt8), sl = .slice (some ⟨g, 0, none⟩) o.length cap ∧ Buf w1 wx (some g) cap o ∧ 1 ≤ o.length ∧ o.length ≤ 4 ∧ padC o = padC out) (fun sl _ => 4 - slLen sl)
        case atStart => exact ⟨cap, g, out, rfl, HB.out, ho1, ho4, rfl⟩
        case round =>
          obtain ⟨cap2, g2, o, rfl, hB2, hn1, hn4, hpd⟩ := hrel
          have HB2 := Lib.hid hB2; clear hB2
          have HPD := Lib.hid hpd; clear hpd
          by_cases h4 : o.length < 4
          · have h5 : (o.length : Int) < 4 := by omega
            go_wp2_with (first
              | (at_builtin; refine HB2.out.push rfl (.tmp 55) (.tmp 56) rfl rfl 48 rfl rfl (by omega) ?_; intro g' cap' w' hB')
              | fail)
            refine ⟨⟨cap', g', o ++ [48], by simp, hB', by simp, by simp; omega, ?_⟩, ?_⟩
            · rw [padC_step o h4]; exact HPD.out
            · show 4 - (o.length + 1) < 4 - o.length
              omega
          · have h5 : ¬ (o.length : Int) < 4 := by omega
            have hbk := HB2.out.back rfl cap2
            go_wp2_with fail
            go_ret
            refine ⟨?_, HB2.out.below⟩
            rw [HF.out, ← HPD.out, show padC o = o from by unfold padC; rw [show 4 - o.length = 0 by omega]; simp]
            rfl
end Go.Proofs.YtpnnbffhdhbonaaGreatDoor
