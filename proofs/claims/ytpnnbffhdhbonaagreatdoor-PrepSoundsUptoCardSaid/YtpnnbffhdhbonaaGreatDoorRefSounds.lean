/- rosterref03.Sound: the codes of a text's words. -/
import Derived.Test.YtpnnbffhdhbonaaGreatDoorRefSound
import Derived.Test.YtpnnbffhdhbonaaGreatDoorBufStr
import Derived.Test.YtpnnbffhdhbonaaGreatDoorSound
namespace Go.Proofs.YtpnnbffhdhbonaaGreatDoor
open Go Go.RowKit

/-- a word's code behind what is there -/
def addW (out cur : List UInt8) : List UInt8 := (if out.isEmpty then [] else out ++ [32]) ++ codeL (low cur)
def sndL : List UInt8 → List UInt8 → List UInt8 → List UInt8
  | out, cur, [] => if cur.isEmpty then out else addW out cur
  | out, cur, b :: l => if alpha b then sndL out (cur ++ [b]) l else if cur.isEmpty then sndL out [] l else sndL (addW out cur) [] l

theorem codeL_pos (l : List UInt8) (h : l ≠ []) : 0 < (codeL l).length := by
  cases l with
  | nil => exact absurd rfl h
  | cons b l =>
    have : ∀ (l : List UInt8) (st : List UInt8 × Int), 1 ≤ st.1.length → 1 ≤ (l.foldl stepC st).1.length := by
      intro l
      induction l with
      | nil => intro st h; exact h
      | cons c l ih =>
        intro st h
        refine ih _ ?_
        unfold stepC
        split
        · exact h
        · split
          · rw [List.length_append]; omega
          · exact h
    have := this l ([b - 32], voiceI b.toNat) (by simp)
    unfold codeL padC
    rw [List.length_append]; omega

theorem join_snoc (ws : List (List UInt8)) (x : List UInt8) (h : ws ≠ []) : Lib.join (ws ++ [x]) [32] = Lib.join ws [32] ++ [32] ++ x := by
  cases ws with
  | nil => exact absurd rfl h
  | cons y r =>
    rw [List.cons_append, Lib.join_cons, Lib.join_cons]
    simp [Lib.joinTail]
theorem join_ne (ws : List (List UInt8)) (h : ∀ x ∈ ws, x ≠ []) : (Lib.join ws [32]).isEmpty = ws.isEmpty := by
  cases ws with
  | nil => rfl
  | cons y r =>
    have hy := h y (by simp)
    rw [Lib.join_cons]
    cases y with
    | nil => exact absurd rfl hy
    | cons a b => rfl
theorem addW_join (ws : List (List UInt8)) (cur : List UInt8) (h : ∀ x ∈ ws, x ≠ []) : addW (Lib.join (ws.map codeL) [32]) cur = Lib.join ((ws ++ [low cur]).map codeL) [32] := by
  unfold addW
  rw [join_ne _ (fun x hx => by
    obtain ⟨y, hy, rfl⟩ := List.mem_map.1 hx
    intro e; have := codeL_pos y (h y hy); rw [e] at this; simp at this)]
  cases ws with
  | nil => simp [Lib.join_one]
  | cons y r =>
    rw [List.map_append, show List.map codeL [low cur] = [codeL (low cur)] from rfl, join_snoc _ _ (by simp)]
    simp

theorem sndL_eq : ∀ (l : List UInt8) (ws : List (List UInt8)) (cur : List UInt8), (∀ x ∈ ws, x ≠ []) → sndL (Lib.join (ws.map codeL) [32]) cur l = Lib.join ((ws ++ runsOf (low cur) (low l)).map codeL) [32]
  | [], ws, cur, h => by
    have he : (low cur).isEmpty = cur.isEmpty := by unfold low; cases cur <;> rfl
    show (if cur.isEmpty then _ else _) = _
    show _ = Lib.join ((ws ++ runsOf (low cur) []).map codeL) [32]
    rw [runsOf, he]
    cases hc : cur.isEmpty with
    | true => simp
    | false => simp only [Bool.false_eq_true, if_false]; exact addW_join ws cur h
  | b :: l, ws, cur, h => by
    have he : (low cur).isEmpty = cur.isEmpty := by unfold low; cases cur <;> rfl
    show (if alpha b then _ else _) = Lib.join ((ws ++ runsOf (low cur) (lowB b :: low l)).map codeL) [32]
    rw [runsOf, isL_low, he]
    cases ha : alpha b with
    | true =>
      simp only [if_true]
      rw [sndL_eq l ws (cur ++ [b]) h, show low (cur ++ [b]) = low cur ++ [lowB b] by unfold low; simp]
    | false =>
      simp only [Bool.false_eq_true, if_false]
      cases hc : cur.isEmpty with
      | true =>
        simp only [if_true]
        exact sndL_eq l ws [] h
      | false =>
        simp only [Bool.false_eq_true, if_false]
        rw [addW_join ws cur h, sndL_eq l (ws ++ [low cur]) [] (fun x hx => by
          rcases List.mem_append.1 hx with hx | hx
          · exact h x hx
          · simp at hx; subst hx; intro e; unfold low at e; rw [List.map_eq_nil_iff] at e; rw [e] at hc; cases hc)]
        simp [low]
theorem sndL_sound (l : List UInt8) : sndL [] [] l = soundL l := by
  have := sndL_eq l [] [] (by simp)
  simpa [Lib.join_nil, soundL, low] using this
theorem addW_len (out cur : List UInt8) : (addW out cur).length ≤ out.length + 5 := by
  have := codeL_len (low cur)
  unfold addW
  cases out <;> simp <;> omega
theorem addW_ne (out cur : List UInt8) (h : cur ≠ []) : addW out cur ≠ [] := by
  have := codeL_pos (low cur) (fun e => h (by unfold low at e; rwa [List.map_eq_nil_iff] at e))
  unfold addW
  intro e
  rw [List.append_eq_nil_iff] at e
  rw [e.2] at this; simp at this

def fromI (st : Option Nat) : Int := match st with
  | none => -1
  | some a => a

set_option maxRecDepth 20000 in
set_option maxHeartbeats 1000000 in
theorem rsounds_any (s : ByteArray) (w : World) (hs : s.size ≤ 4294967296) :
    Calls Tryz.prog 20 #[.string s] w fun e w' => e = .returned (.string ⟨(soundL s.data.toList).toArray⟩) ∧ Below w.heap.size w w' := by
  have hF := sndL_sound s.data.toList
  have hsz := Lib.size_eq s
  have HSZ := Lib.hid hsz; clear hsz
  generalize hso : soundL s.data.toList = F at hF
  have HF := Lib.hid hF; clear hF hso
  go_enter Tryz.func20, Tryz.ntmps20
  go_wp2_with fail
  go_loopw [3, 4, 5] (fun sl fv iv wr => ∃ (i cap : Nat) (go : Option Nat) (st : Option Nat) (out : List UInt8), sl = sv go out.length cap ∧ fv = .int .i64 (fromI st) ∧ iv = .int .i64 i ∧ i ≤ s.size + 1 ∧ out.length ≤ 5 * i ∧
      Buf w wr go cap out ∧ ((go = none ∧ out = []) ∨ (∃ g, go = some g ∧ out ≠ [])) ∧
      ((i ≤ s.size ∧ (∀ a, st = some a → a < i) ∧ (∀ b ∈ curOf s st i, alpha b = true) ∧ sndL out (curOf s st i) (s.data.toList.drop i) = F) ∨ (i = s.size + 1 ∧ out = F))) (fun _ _ iv _ => s.size + 1 - (intOf iv).toNat)
  case atStart => exact ⟨0, 0, none, none, [], rfl, rfl, rfl, by omega, by simp, Buf.nil w, .inl ⟨rfl, rfl⟩, .inl ⟨Nat.zero_le _, (fun _ h => by cases h), (fun _ h => by cases h), HF.out⟩⟩
  case round =>
    obtain ⟨i, cap, go, st, out, rfl, rfl, rfl, hi, hlen, hB, hgo, hst⟩ := hrel
    have HB := Lib.hid hB; clear hB
    rcases hst with ⟨hi2, hst1, hst2, hst3⟩ | ⟨hi2, hst⟩
    · have hle : (i : Int) ≤ s.size := by omega
      by_cases hlt : i < s.size
      · have hd := drop_at s hlt
        have hcn := curOf_next s st i hlt hst1
        have i1 : (i : Int) < s.size := by omega
        have HLT := Lib.hid (fun w => rletter_any (s[i]'hlt) w)
        rw [hd] at hst3
        generalize hsb : s[i]'hlt = b at hst3 hcn HLT
        cases hab : alpha b with
        | true =>
          rw [sndL, hab, if_pos rfl, ← hcn] at hst3
          have hal : ∀ c ∈ curOf s (some (st.getD i)) (i + 1), alpha c = true := by
            rw [hcn]
            intro c hc
            rcases List.mem_append.1 hc with h | h
            · exact hst2 c h
            · simp at h; subst h; exact hab
          have hlt2 := HLT.out
          rw [hab] at hlt2
          have HL2 := Lib.hid hlt2; have HST := Lib.hid (And.intro hal hst3); clear hlt2 HLT hst2 hst3 hal hcn hab hd
          cases st with
          | none =>
            have hf : fromI none = -1 := rfl
            go_wp2_with (first
              | (go_at_call 60; with_reducible refine (HL2.out _).mono ?_; rintro e w2 ⟨rfl, rfl⟩)
              | fail)
            exact ⟨⟨i + 1, cap, go, some i, out, rfl, rfl, by simp, by omega, by omega, HB.out, hgo, .inl ⟨by omega, (fun a h => by injection h with h; omega), HST.out.1, HST.out.2⟩⟩, by simp [intOf]; omega⟩
          | some a =>
            have ha := hst1 a rfl
            have hf : fromI (some a) = (a : Int) := rfl
            have hf0 : ¬ ((a : Int) < 0) := by omega
            go_wp2_with (first
              | (go_at_call 60; with_reducible refine (HL2.out _).mono ?_; rintro e w2 ⟨rfl, rfl⟩)
              | fail)
            exact ⟨⟨i + 1, cap, go, some a, out, rfl, rfl, by simp, by omega, by omega, HB.out, hgo, .inl ⟨by omega, (fun c h => by injection h with h; omega), HST.out.1, HST.out.2⟩⟩, by simp [intOf]; omega⟩
        | false =>
          rw [sndL, hab, if_neg (by simp)] at hst3
          have hlt2 := HLT.out
          rw [hab] at hlt2
          have HL2 := Lib.hid hlt2; clear hlt2 HLT hcn hab hd
          cases st with
          | none =>
            have hf : fromI none = -1 := rfl
            have HST := Lib.hid hst3; clear hst3 hst2 hst1
            go_wp2_with (first
              | (go_at_call 60; with_reducible refine (HL2.out _).mono ?_; rintro e w2 ⟨rfl, rfl⟩)
              | fail)
            exact ⟨⟨i + 1, cap, go, none, out, rfl, rfl, by simp, by omega, by omega, HB.out, hgo, .inl ⟨by omega, (fun c h => by cases h), (fun c h => by cases h), HST.out⟩⟩, by simp [intOf]; omega⟩
          | some a =>
            rw [if_neg (by
              have := hst1 a rfl
              cases hc : curOf s (some a) i with
              | nil => have e := congrArg List.length hc; simp only [curOf] at e; rw [List.length_take, List.length_drop, ← HSZ.out] at e; simp at e; omega
              | cons x l => simp)] at hst3
            have ha := hst1 a rfl
            have hf : fromI (some a) = (a : Int) := rfl
            have hf0 : ¬ ((a : Int) < 0) := by omega
            have hwx : (s.extract a i).data.toList = curOf s (some a) i := by rw [Lib.extract_eq]; rfl
            have hws : (s.extract a i).size = i - a := by rw [Lib.size_eq, hwx]; simp only [curOf]; rw [List.length_take, List.length_drop, ← HSZ.out]; omega
            have hne : curOf s (some a) i ≠ [] := fun e => by rw [← hwx, ← List.length_eq_zero_iff, ← Lib.size_eq] at e; omega
            have hal : addW out (curOf s (some a) i) = (if out.isEmpty then [] else out ++ [32]) ++ codeL (low (curOf s (some a) i)) := rfl
            have hwn := addW_ne out (curOf s (some a) i) hne
            have hsd := fun w => rsound_any (s.extract a i) w (by omega) (by omega) (by rw [hwx]; exact hst2)
            rw [hwx] at hsd
            have hcp := codeL_pos (low (curOf s (some a) i)) (fun e => hne (by unfold low at e; rwa [List.map_eq_nil_iff] at e))
            have hz4 := codeL_len (low (curOf s (some a) i))
            have a1 : (a : Int) ≤ i := by omega
            have a2 : a ≤ i := by omega
            have a3 : (0 : Int) ≤ a := by omega
            generalize curOf s (some a) i = cur at *
            generalize hzz : codeL (low cur) = z at *
            have HSD := Lib.hid hsd; have HST := Lib.hid hst3; have HW := Lib.hid hwn; have HAL := Lib.hid hal; have HCP := Lib.hid hcp
            clear hsd hst3 hwn hal hcp hwx hws hne hst1 hst2
            rcases hgo with ⟨rfl, rfl⟩ | ⟨g, rfl, hone⟩
            · obtain rfl : cap = 0 := HB.out.own.2.2
              have hsv : sv none ([] : List UInt8).length 0 = .slice none 0 0 := rfl
              rw [hsv]
              have ho : addW [] cur = z := HAL.out
              rw [ho] at HST HW
              have HO := Lib.hid ho; clear ho
              go_wp2_with (first
                | (go_at_call 60; with_reducible refine (HL2.out _).mono ?_; rintro e w2 ⟨rfl, rfl⟩)
                | (go_at_call 61; with_reducible refine (HSD.out _).mono ?_; rintro e w3 ⟨rfl, hb3⟩; have HB3 := Lib.hid (HB.out.next hb3); clear hb3)
                | (at_builtin; refine HB3.out.pushS rfl (.tmp 33) (.tmp 38) rfl rfl ⟨z.toArray⟩ HCP.out rfl (by show 0 + z.length ≤ _; omega) ?_; intro g' cap' w' hB')
                | fail)
              exact ⟨⟨i + 1, cap', some g', none, z, by simp [sv], rfl, by simp, by omega, by omega, hB', .inr ⟨g', rfl, HW.out⟩, .inl ⟨by omega, (fun _ h => by cases h), (fun _ h => by cases h), HST.out⟩⟩, by simp [intOf]; omega⟩
            · have hoe : out.isEmpty = false := by cases out with | nil => exact absurd rfl hone | cons a b => rfl
              have ho : addW out cur = out ++ [32] ++ z := by rw [HAL.out, hoe]; rfl
              rw [ho] at HST
              have HO := Lib.hid ho; clear ho
              have hol : (0 : Int) < out.length := by have := List.length_pos_iff.2 hone; omega
              have hsv : sv (some g) out.length cap = .slice (some ⟨g, 0, none⟩) out.length cap := rfl
              rw [hsv]
              go_wp2_with (first
                | (go_at_call 60; with_reducible refine (HL2.out _).mono ?_; rintro e w2 ⟨rfl, rfl⟩)
                | (at_builtin; refine HB.out.push rfl (.tmp 30) (.tmp 31) rfl rfl 32 rfl rfl (by omega) ?_; intro g2 cap2 w4 hB4; have HB4 := Lib.hid hB4; clear hB4)
                | (go_at_call 61; with_reducible refine (HSD.out _).mono ?_; rintro e w3 ⟨rfl, hb3⟩; have HB3 := Lib.hid (HB4.out.next hb3); clear hb3)
                | (at_builtin; refine HB3.out.pushS rfl (.tmp 33) (.tmp 38) rfl (show _ = sv (some g2) (out ++ [32]).length cap2 from by rw [List.length_append]; rfl) ⟨z.toArray⟩ HCP.out rfl (by rw [List.length_append]; show out.length + 1 + z.length ≤ _; omega) ?_; intro g' cap' w' hB')
                | fail)
              exact ⟨⟨i + 1, cap', some g', none, out ++ [32] ++ z, by rw [show (out ++ [32] ++ z : List UInt8).length = out.length + 1 + z.length by rw [List.length_append, List.length_append]; rfl]; rfl, rfl, by simp, by omega, by simp; omega, hB', .inr ⟨g', rfl, by simp⟩, .inl ⟨by omega, (fun _ h => by cases h), (fun _ h => by cases h), HST.out⟩⟩, by simp [intOf]; omega⟩
      · have hn : ¬ (i : Int) < s.size := by omega
        have hi0 : i = s.size := by omega
        rw [drop_end s hlt, sndL] at hst3
        have HI0 := Lib.hid hi0; clear hi0
        cases st with
        | none =>
          have hf : fromI none = -1 := rfl
          have HST := Lib.hid hst3; clear hst3 hst2 hst1
          go_wp2_with fail
          exact ⟨⟨i + 1, cap, go, none, out, rfl, rfl, by simp, by omega, by omega, HB.out, hgo, .inr ⟨by have := HI0.out; omega, HST.out⟩⟩, by simp [intOf]; omega⟩
        | some a =>
          rw [if_neg (by
            have := hst1 a rfl
            cases hc : curOf s (some a) i with
            | nil => have e := congrArg List.length hc; simp only [curOf] at e; rw [List.length_take, List.length_drop, ← HSZ.out] at e; simp at e; omega
            | cons x l => simp)] at hst3
          have ha := hst1 a rfl
          have hf : fromI (some a) = (a : Int) := rfl
          have hf0 : ¬ ((a : Int) < 0) := by omega
          have hwx : (s.extract a i).data.toList = curOf s (some a) i := by rw [Lib.extract_eq]; rfl
          have hws : (s.extract a i).size = i - a := by rw [Lib.size_eq, hwx]; simp only [curOf]; rw [List.length_take, List.length_drop, ← HSZ.out]; omega
          have hne : curOf s (some a) i ≠ [] := fun e => by rw [← hwx, ← List.length_eq_zero_iff, ← Lib.size_eq] at e; omega
          have hal : addW out (curOf s (some a) i) = (if out.isEmpty then [] else out ++ [32]) ++ codeL (low (curOf s (some a) i)) := rfl
          have hwn := addW_ne out (curOf s (some a) i) hne
          have hsd := fun w => rsound_any (s.extract a i) w (by omega) (by omega) (by rw [hwx]; exact hst2)
          rw [hwx] at hsd
          have hcp := codeL_pos (low (curOf s (some a) i)) (fun e => hne (by unfold low at e; rwa [List.map_eq_nil_iff] at e))
          have hz4 := codeL_len (low (curOf s (some a) i))
          have a1 : (a : Int) ≤ i := by omega
          have a2 : a ≤ i := by omega
          have a3 : (0 : Int) ≤ a := by omega
          generalize curOf s (some a) i = cur at *
          generalize hzz : codeL (low cur) = z at *
          have HSD := Lib.hid hsd; have HST := Lib.hid hst3; have HW := Lib.hid hwn; have HAL := Lib.hid hal; have HCP := Lib.hid hcp
          clear hsd hst3 hwn hal hcp hwx hws hne hst1 hst2
          rcases hgo with ⟨rfl, rfl⟩ | ⟨g, rfl, hone⟩
          · obtain rfl : cap = 0 := HB.out.own.2.2
            have hsv : sv none ([] : List UInt8).length 0 = .slice none 0 0 := rfl
            rw [hsv]
            have ho : addW [] cur = z := HAL.out
            rw [ho] at HST HW
            have HO := Lib.hid ho; clear ho
            go_wp2_with (first
              | (go_at_call 61; with_reducible refine (HSD.out _).mono ?_; rintro e w3 ⟨rfl, hb3⟩; have HB3 := Lib.hid (HB.out.next hb3); clear hb3)
              | (at_builtin; refine HB3.out.pushS rfl (.tmp 33) (.tmp 38) rfl rfl ⟨z.toArray⟩ HCP.out rfl (by show 0 + z.length ≤ _; omega) ?_; intro g' cap' w' hB')
              | fail)
            exact ⟨⟨i + 1, cap', some g', none, z, by simp [sv], rfl, by simp, by omega, by omega, hB', .inr ⟨g', rfl, HW.out⟩, .inr ⟨by have := HI0.out; omega, HST.out⟩⟩, by simp [intOf]; omega⟩
          · have hoe : out.isEmpty = false := by cases out with | nil => exact absurd rfl hone | cons a b => rfl
            have ho : addW out cur = out ++ [32] ++ z := by rw [HAL.out, hoe]; rfl
            rw [ho] at HST
            have HO := Lib.hid ho; clear ho
            have hol : (0 : Int) < out.length := by have := List.length_pos_iff.2 hone; omega
            have hsv : sv (some g) out.length cap = .slice (some ⟨g, 0, none⟩) out.length cap := rfl
            rw [hsv]
            go_wp2_with (first
              | (at_builtin; refine HB.out.push rfl (.tmp 30) (.tmp 31) rfl rfl 32 rfl rfl (by omega) ?_; intro g2 cap2 w4 hB4; have HB4 := Lib.hid hB4; clear hB4)
              | (go_at_call 61; with_reducible refine (HSD.out _).mono ?_; rintro e w3 ⟨rfl, hb3⟩; have HB3 := Lib.hid (HB4.out.next hb3); clear hb3)
              | (at_builtin; refine HB3.out.pushS rfl (.tmp 33) (.tmp 38) rfl (show _ = sv (some g2) (out ++ [32]).length cap2 from by rw [List.length_append]; rfl) ⟨z.toArray⟩ HCP.out rfl (by rw [List.length_append]; show out.length + 1 + z.length ≤ _; omega) ?_; intro g' cap' w' hB')
              | fail)
            exact ⟨⟨i + 1, cap', some g', none, out ++ [32] ++ z, by rw [show (out ++ [32] ++ z : List UInt8).length = out.length + 1 + z.length by rw [List.length_append, List.length_append]; rfl]; rfl, rfl, by simp, by omega, by simp; omega, hB', .inr ⟨g', rfl, by simp⟩, .inr ⟨by have := HI0.out; omega, HST.out⟩⟩, by simp [intOf]; omega⟩
    · have hn : ¬ (i : Int) ≤ s.size := by omega
      subst hst
      rcases hgo with ⟨rfl, rfl⟩ | ⟨g, rfl, hone⟩
      · have hbk : ∀ w, (convert 58 9 (.slice none 0 0)).run Tryz.prog w = .ok (.string ⟨#[]⟩) w := fun w => by kernel_rfl
        obtain rfl : cap = 0 := HB.out.own.2.2
        have hsv : sv none ([] : List UInt8).length 0 = .slice none 0 0 := rfl
        rw [hsv]
        go_wp2_with fail
        go_ret
        exact ⟨rfl, HB.out.below⟩
      · have hbk := HB.out.back rfl cap
        have hsv : sv (some g) out.length cap = .slice (some ⟨g, 0, none⟩) out.length cap := rfl
        rw [hsv]
        go_wp2_with fail
        go_ret
        exact ⟨rfl, HB.out.below⟩
end Go.Proofs.YtpnnbffhdhbonaaGreatDoor
