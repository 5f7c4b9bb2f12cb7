/- The reference's texts: rosterref03.Small, has, without, spaced, phone, runs, trimmed. -/
import Derived.Test.YtpnnbffhdhbonaaGreatDoorRefSound
import Derived.Test.YtpnnbffhdhbonaaGreatDoorRefA
import Derived.Test.YtpnnbffhdhbonaaGreatDoorChars
import Derived.Test.YtpnnbffhdhbonaaGreatDoorPiece
namespace Go.Proofs.YtpnnbffhdhbonaaGreatDoor
open Go Go.RowKit

theorem partL_step (s : ByteArray) {i : Nat} (h : i < s.size) : (low (s.data.toList.take i) ++ List.replicate (s.size - i) 0).set i (lowB s[i]) = low (s.data.toList.take (i + 1)) ++ List.replicate (s.size - (i + 1)) 0 := by
  have hl : i < s.data.toList.length := by simpa using h
  have h1 : (low (s.data.toList.take i)).length = i := by unfold low; rw [List.length_map, List.length_take]; omega
  rw [List.set_append_right _ _ (by omega), h1, Nat.sub_self, show s.size - i = (s.size - (i + 1)) + 1 by omega, List.replicate_succ, List.set_cons_zero, List.take_succ_eq_append_getElem hl, low_append, List.append_assoc]
  rfl
theorem partL_get (s : ByteArray) {i : Nat} (h : i < s.size) : (low (s.data.toList.take i) ++ List.replicate (s.size - i) 0)[i]? = some 0 := by
  have hl : i < s.data.toList.length := by simpa using h
  have h1 : (low (s.data.toList.take i)).length = i := by unfold low; rw [List.length_map, List.length_take]; omega
  rw [List.getElem?_append_right (by omega), h1, Nat.sub_self, show s.size - i = (s.size - (i + 1)) + 1 by omega, List.replicate_succ]; rfl
theorem partL_length (s : ByteArray) {i : Nat} (h : i ≤ s.size) : (low (s.data.toList.take i) ++ List.replicate (s.size - i) 0).length = s.size := by
  have hl : s.data.toList.length = s.size := by simp
  unfold low; rw [List.length_append, List.length_map, List.length_take, List.length_replicate]; omega
theorem partL_end (s : ByteArray) {i : Nat} (h : ¬ i < s.size) : low (s.data.toList.take i) ++ List.replicate (s.size - i) 0 = low s.data.toList := by
  have hl : s.data.toList.length = s.size := by simp
  rw [List.take_of_length_le (by omega), show s.size - i = 0 by omega]; simp

set_option maxRecDepth 20000 in
theorem rlow_any (s : ByteArray) (w : World) (hs : s.size ≤ 140737488355327) :
    Calls Tryz.prog 25 #[.string s] w fun e w' => e = .returned (.string ⟨(low s.data.toList).toArray⟩) ∧ Below w.heap.size w w' := by
  obtain ⟨w1, hr, hB⟩ := makeN w s.size (by omega)
  have HB1 := Lib.hid hB; clear hB
  go_enter Tryz.func25, Tryz.ntmps25
  go_wp2_with fail
  clear hr
  go_loopw [4] (fun iv wr => ∃ i : Nat, iv = .int .i64 i ∧ i ≤ s.size ∧ Buf w wr (some w.heap.size) s.size (low (s.data.toList.take i) ++ List.replicate (s.size - i) 0)) (fun iv _ => s.size - (intOf iv).toNat)
  case atStart => exact ⟨0, rfl, Nat.zero_le _, HB1.out⟩
  case round =>
    clear HB1
    obtain ⟨i, rfl, hi, hb⟩ := hrel
    have HB := Lib.hid hb; clear hb
    by_cases hlt : i < s.size
    · have hcell := HB.out.cell (partL_get s hlt)
      have hfr := HB.out.frozen i
      have hset := HB.out.set (j := i) (by rw [partL_length s hi]; exact hlt) (lowB s[i])
      rw [partL_step s hlt] at hset
      have HS := Lib.hid hset; clear hset
      generalize hsb : s[i]'hlt = b at HS ⊢
      go_wp2_with (first
        | (go_at_call 72; refine (rsmall_any _ _).mono ?_; rintro e w2 ⟨rfl, rfl⟩)
        | fail)
      exact ⟨⟨i + 1, rfl, by omega, HS.out⟩, by simp [intOf]; omega⟩
    · have hX := HB.out
      rw [partL_end s hlt] at hX
      have hbk := hX.back (show s.size = (low s.data.toList).length by rw [low_length]; simp) s.size
      have HX := Lib.hid hX.below; clear hX HB
      go_wp2_with fail
      go_ret
      exact ⟨rfl, HX.out⟩

set_option maxRecDepth 20000 in
theorem rhas_any (s : ByteArray) (b : UInt8) (w : World) (hs : s.size ≤ 140737488355327) :
    Calls Tryz.prog 73 #[.string s, .int .u8 (b.toNat : Int)] w fun e w' => e = .returned (.bool (s.data.toList.contains b)) ∧ w' = w := by
  go_enter Tryz.func73, Tryz.ntmps73
  go_wp2_with fail
  go_loopw [5] (fun iv wr => ∃ i : Nat, iv = .int .i64 i ∧ i ≤ s.size ∧ wr = w ∧ s.data.toList.contains b = (s.data.toList.drop i).contains b) (fun iv _ => s.size - (intOf iv).toNat)
  case atStart => exact ⟨0, rfl, Nat.zero_le _, rfl, rfl⟩
  case round =>
    obtain ⟨i, rfl, hi, rfl, hall⟩ := hrel
    by_cases hlt : i < s.size
    · rw [drop_at s hlt, List.contains_cons] at hall
      have HA := Lib.hid hall; clear hall
      generalize hsb : s[i]'hlt = c at HA
      by_cases hcb : c = b
      · subst hcb
        go_wp2_with fail
        go_ret
        exact ⟨by rw [HA.out]; simp, rfl⟩
      · have h1 : ((c.toNat : Int) == (b.toNat : Int)) = false := by
          rw [beq_eq_false_iff_ne]; exact fun e => hcb (UInt8.toNat_inj.1 (by omega))
        have h2 : ¬ (c.toNat : Int) = (b.toNat : Int) := by simpa using h1
        have hcb2 : (b == c) = false := by simpa using fun e => hcb e.symm
        have HC := Lib.hid hcb2; clear hcb hcb2
        go_wp2_with fail
        exact ⟨⟨i + 1, rfl, by omega, trivial, by rw [HA.out, HC.out, Bool.false_or]⟩, by simp [intOf]; omega⟩
    · rw [drop_end s hlt] at hall
      have HA := Lib.hid hall; clear hall
      go_wp2_with fail
      go_ret
      exact ⟨by rw [HA.out]; rfl, rfl⟩

/-- a text without some bytes -/
def lessB (o l : List UInt8) : List UInt8 := l.filter fun b => !o.contains b
theorem lessB_one (l : List UInt8) : lessB [32] l = zapB 32 l := by
  unfold lessB zapB
  refine List.filter_congr fun b _ => ?_
  show (!(b == 32 || false)) = !(b == 32)
  rw [Bool.or_false]
theorem lessB_two (l : List UInt8) : lessB [32, 45] l = zapB 45 (zapB 32 l) := by
  unfold lessB zapB
  rw [List.filter_filter]
  refine List.filter_congr fun b _ => ?_
  show (!(b == 32 || (b == 45 || false))) = (!(b == 45) && !(b == 32))
  rw [Bool.or_false, Bool.not_or, Bool.and_comm]
theorem lessB_length (o l : List UInt8) : (lessB o l).length ≤ l.length := List.length_filter_le _ _

set_option maxRecDepth 20000 in
theorem rwithout_any (s o : ByteArray) (w : World) (hs : s.size ≤ 140737488355327) (ho : o.size ≤ 100) :
    Calls Tryz.prog 28 #[.string s, .string o] w fun e w' => e = .returned (.string ⟨(lessB o.data.toList s.data.toList).toArray⟩) ∧ Below w.heap.size w w' := by
  go_enter Tryz.func28, Tryz.ntmps28
  go_wp2_with fail
  go_loopw [5, 6] (fun sl iv wr => ∃ (i cap : Nat) (go : Option Nat) (out : List UInt8), sl = sv go out.length cap ∧ iv = .int .i64 i ∧ i ≤ s.size ∧ out.length ≤ i ∧ Buf w wr go cap out ∧ ((go = none ∧ out = []) ∨ (∃ g, go = some g)) ∧
      lessB o.data.toList s.data.toList = out ++ lessB o.data.toList (s.data.toList.drop i)) (fun _ iv _ => s.size - (intOf iv).toNat)
  case atStart => exact ⟨0, 0, none, [], rfl, rfl, Nat.zero_le _, Nat.zero_le _, Buf.nil w, .inl ⟨rfl, rfl⟩, rfl⟩
  case round =>
    obtain ⟨i, cap, go, out, rfl, rfl, hi, hle, hB, hgo, hq⟩ := hrel
    have HB := Lib.hid hB; have HG := Lib.hid hgo; clear hB hgo
    by_cases hlt : i < s.size
    · rw [drop_at s hlt] at hq
      generalize hsb : s[i]'hlt = b at hq
      have hh := fun w => rhas_any o b w (by omega)
      have hstep : lessB o.data.toList (b :: s.data.toList.drop (i + 1)) = if o.data.toList.contains b = true then lessB o.data.toList (s.data.toList.drop (i + 1)) else b :: lessB o.data.toList (s.data.toList.drop (i + 1)) := by
        unfold lessB
        rw [List.filter_cons]
        cases o.data.toList.contains b <;> rfl
      rw [hstep] at hq
      cases hc : o.data.toList.contains b with
      | true =>
        rw [hc, if_pos rfl] at hq; rw [hc] at hh
        have HQ := Lib.hid hq; have HH := Lib.hid hh; clear hq hh hstep hc
        go_wp2_with (first
          | (go_at_call 73; with_reducible refine (HH.out _).mono ?_; rintro e w2 ⟨rfl, rfl⟩)
          | fail)
        exact ⟨⟨i + 1, cap, go, out, rfl, rfl, by omega, by omega, HB.out, HG.out, HQ.out⟩, by simp [intOf]; omega⟩
      | false =>
        rw [hc, if_neg (by simp)] at hq; rw [hc] at hh
        have HQ := Lib.hid hq; have HH := Lib.hid hh; clear hq hh hstep hc
        go_wp2_with (first
          | (go_at_call 73; with_reducible refine (HH.out _).mono ?_; rintro e w2 ⟨rfl, rfl⟩)
          | (at_builtin; refine HB.out.push rfl _ _ rfl rfl b rfl rfl (by omega) ?_; intro g' cap' w' hB'; have HB' := Lib.hid hB'; clear hB')
          | fail)
        exact ⟨⟨i + 1, cap', some g', out ++ [b], by simp [sv], rfl, by omega, by simp; omega, HB'.out, .inr ⟨g', rfl⟩, by rw [HQ.out]; simp⟩, by simp [intOf]; omega⟩
    · rw [drop_end s hlt] at hq
      have hq2 : lessB o.data.toList s.data.toList = out := by rw [hq]; simp [lessB]
      have HQ := Lib.hid hq2; clear hq hq2
      rcases HG.out with ⟨rfl, rfl⟩ | ⟨g, rfl⟩
      · have hbk : ∀ w, (convert 58 9 (.slice none 0 0)).run Tryz.prog w = .ok (.string ⟨#[]⟩) w := fun w => by kernel_rfl
        obtain rfl : cap = 0 := HB.out.own.2.2
        have hsv : sv none ([] : List UInt8).length 0 = .slice none 0 0 := rfl
        rw [hsv]
        go_wp2_with fail
        go_ret
        exact ⟨by rw [HQ.out]; rfl, HB.out.below⟩
      · have hbk := HB.out.back rfl cap
        have hsv : sv (some g) out.length cap = .slice (some ⟨g, 0, none⟩) out.length cap := rfl
        rw [hsv]
        go_wp2_with fail
        go_ret
        exact ⟨by rw [HQ.out]; rfl, HB.out.below⟩

set_option maxRecDepth 20000 in
theorem rspaced_any (s : ByteArray) (w : World) (hs : s.size ≤ 140737488355327) :
    Calls Tryz.prog 29 #[.string s] w fun e w' => e = .returned (.bool (onlyL [32] s.data.toList)) ∧ w' = w := by
  go_enter Tryz.func29, Tryz.ntmps29
  go_wp2_with fail
  go_loopw [3] (fun iv wr => ∃ i : Nat, iv = .int .i64 i ∧ i ≤ s.size ∧ wr = w ∧ onlyL [32] s.data.toList = onlyL [32] (s.data.toList.drop i)) (fun iv _ => s.size - (intOf iv).toNat)
  case atStart => exact ⟨0, rfl, Nat.zero_le _, rfl, rfl⟩
  case round =>
    obtain ⟨i, rfl, hi, rfl, hall⟩ := hrel
    by_cases hlt : i < s.size
    · rw [drop_at s hlt, onlyL_cons] at hall
      have HA := Lib.hid hall; clear hall
      generalize hsb : s[i]'hlt = b at HA
      have HD := Lib.hid (fun w => rdigit_any b w)
      cases hd : dig b with
      | true =>
        rw [hd] at HD HA
        go_wp2_with (first
          | (go_at_call 74; with_reducible refine (HD.out _).mono ?_; rintro e w2 ⟨rfl, rfl⟩)
          | fail)
        exact ⟨⟨i + 1, rfl, by omega, trivial, by rw [HA.out]; rfl⟩, by simp [intOf]; omega⟩
      | false =>
        rw [hd] at HD HA
        by_cases h32 : b = 32
        · have h1 : ((b.toNat : Int) == 32) = true := by subst h32; rfl
          have H2 := Lib.hid (show ([32] : List UInt8).contains b = true by subst h32; rfl); clear h32
          go_wp2_with (first
            | (go_at_call 74; with_reducible refine (HD.out _).mono ?_; rintro e w2 ⟨rfl, rfl⟩)
            | fail)
          exact ⟨⟨i + 1, rfl, by omega, trivial, by rw [HA.out, H2.out]; rfl⟩, by simp [intOf]; omega⟩
        · have h1 : ¬ (b.toNat : Int) = 32 := fun e => h32 (UInt8.toNat_inj.1 (by show b.toNat = 32; omega))
          have h2 : ([32] : List UInt8).contains b = false := by simpa using h32
          have H2 := Lib.hid h2; clear h2 h32
          go_wp2_with (first
            | (go_at_call 74; with_reducible refine (HD.out _).mono ?_; rintro e w2 ⟨rfl, rfl⟩)
            | fail)
          go_ret
          exact ⟨by rw [HA.out, H2.out]; rfl, rfl⟩
    · rw [drop_end s hlt] at hall
      have HA := Lib.hid hall; clear hall
      go_wp2_with fail
      go_ret
      exact ⟨by rw [HA.out]; rfl, rfl⟩

def signsR : List UInt8 := [39, 40, 41, 43, 44, 45, 46, 47, 58, 63, 61, 32]
theorem phone_byte (b : UInt8) : (alpha b || (dig b || signsR.contains b)) = (dig b || signs.contains b) := by
  have h : ∀ n, n < 256 → ((alpha (UInt8.ofNat n) || (dig (UInt8.ofNat n) || signsR.contains (UInt8.ofNat n))) == (dig (UInt8.ofNat n) || signs.contains (UInt8.ofNat n))) = true := by decide +kernel
  have := h b.toNat b.toNat_lt
  rw [UInt8.ofNat_toNat] at this
  simpa using this
set_option maxRecDepth 20000 in
theorem rphone_any (s : ByteArray) (w : World) (hs : s.size ≤ 140737488355327) :
    Calls Tryz.prog 30 #[.string s] w fun e w' => e = .returned (.bool (onlyL signs s.data.toList)) ∧ w' = w := by
  go_enter Tryz.func30, Tryz.ntmps30
  go_wp2_with fail
  go_loopw [3] (fun iv wr => ∃ i : Nat, iv = .int .i64 i ∧ i ≤ s.size ∧ wr = w ∧ onlyL signs s.data.toList = onlyL signs (s.data.toList.drop i)) (fun iv _ => s.size - (intOf iv).toNat)
  case atStart => exact ⟨0, rfl, Nat.zero_le _, rfl, rfl⟩
  case round =>
    obtain ⟨i, rfl, hi, rfl, hall⟩ := hrel
    by_cases hlt : i < s.size
    · rw [drop_at s hlt, onlyL_cons, ← phone_byte] at hall
      have HA := Lib.hid hall; clear hall
      generalize hsb : s[i]'hlt = b at HA
      have HL := Lib.hid (fun w => rletter_any b w)
      have HD := Lib.hid (fun w => rdigit_any b w)
      have HH := Lib.hid (fun w => rhas_any ⟨#[39, 40, 41, 43, 44, 45, 46, 47, 58, 63, 61, 32]⟩ b w (by decide))
      rw [show (ByteArray.mk #[39, 40, 41, 43, 44, 45, 46, 47, 58, 63, 61, 32]).data.toList.contains b = signsR.contains b from rfl] at HH
      cases ha : alpha b with
      | true =>
        rw [ha] at HL HA
        go_wp2_with (first
          | (go_at_call 60; with_reducible refine (HL.out _).mono ?_; rintro e w2 ⟨rfl, rfl⟩)
          | fail)
        exact ⟨⟨i + 1, rfl, by omega, trivial, by rw [HA.out]; rfl⟩, by simp [intOf]; omega⟩
      | false =>
      cases hd : dig b with
      | true =>
        rw [ha] at HL HA; rw [hd] at HD HA
        go_wp2_with (first
          | (go_at_call 60; with_reducible refine (HL.out _).mono ?_; rintro e w2 ⟨rfl, rfl⟩)
          | (go_at_call 74; with_reducible refine (HD.out _).mono ?_; rintro e w2 ⟨rfl, rfl⟩)
          | fail)
        exact ⟨⟨i + 1, rfl, by omega, trivial, by rw [HA.out]; rfl⟩, by simp [intOf]; omega⟩
      | false =>
      cases hc : signsR.contains b with
      | true =>
        rw [ha] at HL HA; rw [hd] at HD HA; rw [hc] at HH HA
        go_wp2_with (first
          | (go_at_call 60; with_reducible refine (HL.out _).mono ?_; rintro e w2 ⟨rfl, rfl⟩)
          | (go_at_call 74; with_reducible refine (HD.out _).mono ?_; rintro e w2 ⟨rfl, rfl⟩)
          | (go_at_call 73; with_reducible refine (HH.out _).mono ?_; rintro e w2 ⟨rfl, rfl⟩)
          | fail)
        exact ⟨⟨i + 1, rfl, by omega, trivial, by rw [HA.out]; rfl⟩, by simp [intOf]; omega⟩
      | false =>
        rw [ha] at HL HA; rw [hd] at HD HA; rw [hc] at HH HA
        go_wp2_with (first
          | (go_at_call 60; with_reducible refine (HL.out _).mono ?_; rintro e w2 ⟨rfl, rfl⟩)
          | (go_at_call 74; with_reducible refine (HD.out _).mono ?_; rintro e w2 ⟨rfl, rfl⟩)
          | (go_at_call 73; with_reducible refine (HH.out _).mono ?_; rintro e w2 ⟨rfl, rfl⟩)
          | fail)
        go_ret
        exact ⟨by rw [HA.out]; rfl, rfl⟩
    · rw [drop_end s hlt] at hall
      have HA := Lib.hid hall; clear hall
      go_wp2_with fail
      go_ret
      exact ⟨by rw [HA.out]; rfl, rfl⟩
end Go.Proofs.YtpnnbffhdhbonaaGreatDoor
