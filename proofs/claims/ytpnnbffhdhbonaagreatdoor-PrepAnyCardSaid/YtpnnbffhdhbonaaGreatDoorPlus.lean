/- prep.plus: two rows of digits added, or taken away. -/
import Derived.Test.YtpnnbffhdhbonaaGreatDoorForms
import Derived.Lib.TrimByte
namespace Go.Proofs.YtpnnbffhdhbonaaGreatDoor
open Go Go.RowKit

/-- the digit at a place counted from the end -/
def dgt (l : List UInt8) (i : Nat) : Int := ((l.reverse.getD i 48).toNat : Int) - 48
/-- what is carried to place i -/
def car (a b : List UInt8) (less : Bool) : Nat → Int
  | 0 => 0
  | i + 1 => let x := dgt a i + ((if less then - dgt b i else dgt b i) + car a b less i)
    if 9 < x then 1 else if x < 0 then -1 else 0
def raw (a b : List UInt8) (less : Bool) (i : Nat) : Int := dgt a i + ((if less then - dgt b i else dgt b i) + car a b less i)
/-- the sum's digit at place i -/
def sdg (a b : List UInt8) (less : Bool) (i : Nat) : Int := if 9 < raw a b less i then raw a b less i - 10 else if raw a b less i < 0 then raw a b less i + 10 else raw a b less i
def sby (a b : List UInt8) (less : Bool) (i : Nat) : UInt8 := (48 + sdg a b less i).toNat.toUInt8
/-- n digits, the lowest last -/
def sumL (a b : List UInt8) (less : Bool) (n : Nat) : List UInt8 := (List.range n).reverse.map (sby a b less)

/-- the sum without noughts ahead -/
def plusL (a b : List UInt8) (less : Bool) : List UInt8 := if Lib.trimLeftB (sumL a b less (max a.length b.length + 1)) 48 = [] then [48] else Lib.trimLeftB (sumL a b less (max a.length b.length + 1)) 48

theorem car_succ (a b : List UInt8) (less : Bool) (i : Nat) : car a b less (i + 1) = if 9 < raw a b less i then 1 else if raw a b less i < 0 then -1 else 0 := rfl

/-- all digits -/
def digsL (l : List UInt8) : Prop := ∀ b ∈ l, 48 ≤ b.toNat ∧ b.toNat ≤ 57
theorem dgt_range {l : List UInt8} (h : digsL l) (i : Nat) : 0 ≤ dgt l i ∧ dgt l i ≤ 9 := by
  unfold dgt
  rcases Nat.lt_or_ge i l.reverse.length with hi | hi
  · have := h (l.reverse[i]) (List.mem_reverse.1 (List.getElem_mem hi))
    rw [List.getD_eq_getElem?_getD, List.getElem?_eq_getElem hi]; simp only [Option.getD_some]; omega
  · rw [List.getD_eq_getElem?_getD, List.getElem?_eq_none hi]; decide

theorem car_range {a b : List UInt8} (ha : digsL a) (hb : digsL b) (less : Bool) (i : Nat) : (less = false → 0 ≤ car a b less i ∧ car a b less i ≤ 1) ∧ (less = true → -1 ≤ car a b less i ∧ car a b less i ≤ 0) := by
  induction i with
  | zero => simp [car]
  | succ i ih =>
    have h1 := dgt_range ha i
    have h2 := dgt_range hb i
    rw [car_succ]
    unfold raw
    cases less
    · have := ih.1 rfl
      simp only [Bool.false_eq_true, if_false]
      refine And.intro (fun _ => ?_) (fun h => nomatch h)
      split
      · omega
      · split <;> omega
    · have := ih.2 rfl
      simp only [if_true]
      refine And.intro (fun h => nomatch h) (fun _ => ?_)
      split
      · omega
      · split <;> omega

theorem sdg_range {a b : List UInt8} (ha : digsL a) (hb : digsL b) (less : Bool) (i : Nat) : 0 ≤ sdg a b less i ∧ sdg a b less i ≤ 9 := by
  have h1 := dgt_range ha i
  have h2 := dgt_range hb i
  have h3 := car_range ha hb less i
  unfold sdg raw
  cases less
  · have := h3.1 rfl
    simp only [Bool.false_eq_true, if_false]
    split
    · omega
    · split <;> omega
  · have := h3.2 rfl
    simp only [if_true]
    split
    · omega
    · split <;> omega

theorem sby_nat {a b : List UInt8} (ha : digsL a) (hb : digsL b) (less : Bool) (i : Nat) : ((sby a b less i).toNat : Int) = 48 + sdg a b less i := by
  have := sdg_range ha hb less i
  unfold sby
  rw [Nat.toUInt8_eq, UInt8.toNat_ofNat']; omega

/-- the row while it is filled from its end -/
def outAt (N : Nat) (D : Nat → UInt8) (i : Nat) : List UInt8 := List.replicate (N - i) 0 ++ (List.range i).reverse.map D
@[simp] theorem outAt_length {N i : Nat} (D : Nat → UInt8) (h : i ≤ N) : (outAt N D i).length = N := by simp [outAt]; omega
theorem outAt_step {N i : Nat} (D : Nat → UInt8) (h : i < N) : (outAt N D i).set (N - 1 - i) (D i) = outAt N D (i + 1) := by
  unfold outAt
  rw [List.set_append_left _ _ (by simp; omega), List.range_succ, List.reverse_append, List.map_append]
  have h1 : (List.replicate (N - i) (0 : UInt8)).set (N - 1 - i) (D i) = List.replicate (N - (i + 1)) 0 ++ [D i] := by
    rw [show N - i = (N - (i + 1)) + 1 by omega, List.replicate_succ', List.set_append_right _ _ (by simp; omega), List.length_replicate, show N - 1 - i - (N - (i + 1)) = 0 by omega]; rfl
  rw [h1]; simp

theorem Buf.setv {w0 w : World} {A : Addr} {U V : Int} {go : Option Nat} {cap : Nat} {l : List UInt8} (h : Buf w0 (w.setCell A (.int .u8 U)) go cap l) (e : V = U) : Buf w0 (w.setCell A (.int .u8 V)) go cap l := e ▸ h

theorem dgt_in (a : ByteArray) {i : Nat} (h : i < a.size) : dgt a.data.toList i = ((a[a.size - 1 - i]'(by omega)).toNat : Int) - 48 := by
  have hl : a.data.toList.length = a.size := by simp
  unfold dgt
  rw [List.getD_eq_getElem?_getD, List.getElem?_reverse (by omega), hl, List.getElem?_eq_getElem (by omega)]; rfl
theorem dgt_out (a : ByteArray) {i : Nat} (h : ¬ i < a.size) : dgt a.data.toList i = 0 := by
  have hl : a.data.toList.length = a.size := by simp
  unfold dgt
  rw [List.getD_eq_getElem?_getD, List.getElem?_eq_none (by simp; omega)]; rfl
/-- the digit at a place: a byte, or none is there -/
theorem dgt_cases (a : ByteArray) (i : Nat) (ha : digsL a.data.toList) :
    (∃ h : i < a.size, ∃ p : UInt8, a[a.size - 1 - i]'(by omega) = p ∧ dgt a.data.toList i = (p.toNat : Int) - 48 ∧ (48 : Int) ≤ p.toNat ∧ (p.toNat : Int) ≤ 57) ∨ (¬ i < a.size ∧ dgt a.data.toList i = 0) := by
  by_cases h : i < a.size
  · have h1 := dgt_in a h
    have h2 := dgt_range ha i
    exact .inl ⟨h, _, rfl, h1, by omega, by omega⟩
  · exact .inr ⟨h, dgt_out a h⟩

theorem outAt_get {N i : Nat} (D : Nat → UInt8) (h : i < N) : (outAt N D i)[N - 1 - i]? = some 0 := by
  unfold outAt
  rw [List.getElem?_append_left (by rw [List.length_replicate]; omega), List.getElem?_replicate, if_pos (by omega)]

set_option maxRecDepth 20000 in
set_option maxHeartbeats 1000000 in
theorem plus_any (a b : ByteArray) (less : Bool) (w : World) (ha : digsL a.data.toList) (hb : digsL b.data.toList) (hsa : a.size ≤ 65536) (hsb : b.size ≤ 65536) :
    Calls Tryz.prog 41 #[.string a, .string b, .bool less] w fun e w' => e = .returned (.string ⟨(plusL a.data.toList b.data.toList less).toArray⟩) ∧ Below w.heap.size w w' := by
  obtain ⟨w1, hr, hB⟩ := makeN w (max a.size b.size + 1) (by omega)
  have HB := Lib.hid hB; clear hB
  obtain ⟨N, hN⟩ : ∃ N, N = max a.size b.size + 1 := ⟨_, rfl⟩
  rw [← hN] at hr HB
  have hmx : max (a.size : Int) (b.size : Int) + 1 = (N : Int) := by omega
  have hla : a.data.toList.length = a.size := by simp
  have hlb : b.data.toList.length = b.size := by simp
  have HL := Lib.hid (And.intro hN (And.intro hla hlb))
  have HD := Lib.hid (And.intro ha hb)
  have hNs : N ≤ 65537 := by omega
  clear hN hla hlb ha hb
  go_enter Tryz.func41, Tryz.ntmps41
  go_wp2_with fail
  clear hr hmx
  go_loopw [8, 22] (fun cv iv wr => ∃ i : Nat, iv = .int .i64 i ∧ i ≤ N ∧ cv = .int .i64 (car a.data.toList b.data.toList less i) ∧ Buf w wr (some w.heap.size) N (outAt N (sby a.data.toList b.data.toList less) i)) (fun _ iv _ => N - (intOf iv).toNat)
  case atStart => exact ⟨0, rfl, Nat.zero_le _, rfl, by rw [show outAt N (sby a.data.toList b.data.toList less) 0 = List.replicate N 0 by unfold outAt; simp]; exact HB.out⟩
  case round =>
    clear HB
    obtain ⟨i, rfl, hi, rfl, hb⟩ := hrel
    have HB := Lib.hid hb; clear hb
    by_cases hlt : i < N
    · have hset := HB.out.set (j := N - 1 - i) (by rw [outAt_length _ hi]; omega) (sby a.data.toList b.data.toList less i)
      rw [outAt_step _ hlt, sby_nat HD.out.1 HD.out.2] at hset
      have hcs := car_succ a.data.toList b.data.toList less i
      have hsd : sdg a.data.toList b.data.toList less i = if 9 < raw a.data.toList b.data.toList less i then raw a.data.toList b.data.toList less i - 10 else if raw a.data.toList b.data.toList less i < 0 then raw a.data.toList b.data.toList less i + 10 else raw a.data.toList b.data.toList less i := rfl
      have hcr := car_range HD.out.1 HD.out.2 less i
      have HS := Lib.hid hset; have HC := Lib.hid (And.intro hcs hsd); clear hset hcs hsd
      have hcell := HB.out.cell (outAt_get _ hlt)
      have hfr := HB.out.frozen (N - 1 - i)
      rcases dgt_cases a i HD.out.1 with ⟨hia, p, hp, hA, hp1, hp2⟩ | ⟨hia, hA⟩
      · rcases dgt_cases b i HD.out.2 with ⟨hib, q, hq, hB, hq1, hq2⟩ | ⟨hib, hB⟩
        · cases less with
          | false =>
            obtain ⟨c1, c2⟩ := hcr.1 rfl
            clear hcr
            generalize hc : car a.data.toList b.data.toList false i = c at c1 c2 ⊢
            have hra : raw a.data.toList b.data.toList false i = ((p.toNat : Int) - 48) + (((q.toNat : Int) - 48) + c) := by unfold raw; rw [hc, hA, hB]; rfl
            have HR := Lib.hid hra; clear hra hA hB hc
            go_wp2_with fail
            all_goals first
              | exact ⟨⟨i + 1, by simp, by omega, by rw [HC.out.1, HR.out, if_pos (by omega)], HS.out.setv (by have e := HC.out.2; rw [HR.out, if_pos (by omega)] at e; omega)⟩, by simp [intOf]; omega⟩
              | exact ⟨⟨i + 1, by simp, by omega, by rw [HC.out.1, HR.out, if_neg (by omega), if_pos (by omega)], HS.out.setv (by have e := HC.out.2; rw [HR.out, if_neg (by omega), if_pos (by omega)] at e; omega)⟩, by simp [intOf]; omega⟩
              | exact ⟨⟨i + 1, by simp, by omega, by rw [HC.out.1, HR.out, if_neg (by omega), if_neg (by omega)], HS.out.setv (by have e := HC.out.2; rw [HR.out, if_neg (by omega), if_neg (by omega)] at e; omega)⟩, by simp [intOf]; omega⟩
              | (exfalso; omega)
              | fail
          | true =>
            obtain ⟨c1, c2⟩ := hcr.2 rfl
            clear hcr
            generalize hc : car a.data.toList b.data.toList true i = c at c1 c2 ⊢
            have hra : raw a.data.toList b.data.toList true i = ((p.toNat : Int) - 48) + (- ((q.toNat : Int) - 48) + c) := by unfold raw; rw [hc, hA, hB]; rfl
            have HR := Lib.hid hra; clear hra hA hB hc
            go_wp2_with fail
            all_goals first
              | exact ⟨⟨i + 1, by simp, by omega, by rw [HC.out.1, HR.out, if_pos (by omega)], HS.out.setv (by have e := HC.out.2; rw [HR.out, if_pos (by omega)] at e; omega)⟩, by simp [intOf]; omega⟩
              | exact ⟨⟨i + 1, by simp, by omega, by rw [HC.out.1, HR.out, if_neg (by omega), if_pos (by omega)], HS.out.setv (by have e := HC.out.2; rw [HR.out, if_neg (by omega), if_pos (by omega)] at e; omega)⟩, by simp [intOf]; omega⟩
              | exact ⟨⟨i + 1, by simp, by omega, by rw [HC.out.1, HR.out, if_neg (by omega), if_neg (by omega)], HS.out.setv (by have e := HC.out.2; rw [HR.out, if_neg (by omega), if_neg (by omega)] at e; omega)⟩, by simp [intOf]; omega⟩
              | (exfalso; omega)
              | fail
        · cases less with
          | false =>
            obtain ⟨c1, c2⟩ := hcr.1 rfl
            clear hcr
            generalize hc : car a.data.toList b.data.toList false i = c at c1 c2 ⊢
            have hra : raw a.data.toList b.data.toList false i = ((p.toNat : Int) - 48) + (0 + c) := by unfold raw; rw [hc, hA, hB]; rfl
            have HR := Lib.hid hra; clear hra hA hB hc
            go_wp2_with fail
            all_goals first
              | exact ⟨⟨i + 1, by simp, by omega, by rw [HC.out.1, HR.out, if_pos (by omega)], HS.out.setv (by have e := HC.out.2; rw [HR.out, if_pos (by omega)] at e; omega)⟩, by simp [intOf]; omega⟩
              | exact ⟨⟨i + 1, by simp, by omega, by rw [HC.out.1, HR.out, if_neg (by omega), if_pos (by omega)], HS.out.setv (by have e := HC.out.2; rw [HR.out, if_neg (by omega), if_pos (by omega)] at e; omega)⟩, by simp [intOf]; omega⟩
              | exact ⟨⟨i + 1, by simp, by omega, by rw [HC.out.1, HR.out, if_neg (by omega), if_neg (by omega)], HS.out.setv (by have e := HC.out.2; rw [HR.out, if_neg (by omega), if_neg (by omega)] at e; omega)⟩, by simp [intOf]; omega⟩
              | (exfalso; omega)
              | fail
          | true =>
            obtain ⟨c1, c2⟩ := hcr.2 rfl
            clear hcr
            generalize hc : car a.data.toList b.data.toList true i = c at c1 c2 ⊢
            have hra : raw a.data.toList b.data.toList true i = ((p.toNat : Int) - 48) + (- 0 + c) := by unfold raw; rw [hc, hA, hB]; rfl
            have HR := Lib.hid hra; clear hra hA hB hc
            go_wp2_with fail
            all_goals first
              | exact ⟨⟨i + 1, by simp, by omega, by rw [HC.out.1, HR.out, if_pos (by omega)], HS.out.setv (by have e := HC.out.2; rw [HR.out, if_pos (by omega)] at e; omega)⟩, by simp [intOf]; omega⟩
              | exact ⟨⟨i + 1, by simp, by omega, by rw [HC.out.1, HR.out, if_neg (by omega), if_pos (by omega)], HS.out.setv (by have e := HC.out.2; rw [HR.out, if_neg (by omega), if_pos (by omega)] at e; omega)⟩, by simp [intOf]; omega⟩
              | exact ⟨⟨i + 1, by simp, by omega, by rw [HC.out.1, HR.out, if_neg (by omega), if_neg (by omega)], HS.out.setv (by have e := HC.out.2; rw [HR.out, if_neg (by omega), if_neg (by omega)] at e; omega)⟩, by simp [intOf]; omega⟩
              | (exfalso; omega)
              | fail
      · rcases dgt_cases b i HD.out.2 with ⟨hib, q, hq, hB, hq1, hq2⟩ | ⟨hib, hB⟩
        · cases less with
          | false =>
            obtain ⟨c1, c2⟩ := hcr.1 rfl
            clear hcr
            generalize hc : car a.data.toList b.data.toList false i = c at c1 c2 ⊢
            have hra : raw a.data.toList b.data.toList false i = 0 + (((q.toNat : Int) - 48) + c) := by unfold raw; rw [hc, hA, hB]; rfl
            have HR := Lib.hid hra; clear hra hA hB hc
            go_wp2_with fail
            all_goals first
              | exact ⟨⟨i + 1, by simp, by omega, by rw [HC.out.1, HR.out, if_pos (by omega)], HS.out.setv (by have e := HC.out.2; rw [HR.out, if_pos (by omega)] at e; omega)⟩, by simp [intOf]; omega⟩
              | exact ⟨⟨i + 1, by simp, by omega, by rw [HC.out.1, HR.out, if_neg (by omega), if_pos (by omega)], HS.out.setv (by have e := HC.out.2; rw [HR.out, if_neg (by omega), if_pos (by omega)] at e; omega)⟩, by simp [intOf]; omega⟩
              | exact ⟨⟨i + 1, by simp, by omega, by rw [HC.out.1, HR.out, if_neg (by omega), if_neg (by omega)], HS.out.setv (by have e := HC.out.2; rw [HR.out, if_neg (by omega), if_neg (by omega)] at e; omega)⟩, by simp [intOf]; omega⟩
              | (exfalso; omega)
              | fail
          | true =>
            obtain ⟨c1, c2⟩ := hcr.2 rfl
            clear hcr
            generalize hc : car a.data.toList b.data.toList true i = c at c1 c2 ⊢
            have hra : raw a.data.toList b.data.toList true i = 0 + (- ((q.toNat : Int) - 48) + c) := by unfold raw; rw [hc, hA, hB]; rfl
            have HR := Lib.hid hra; clear hra hA hB hc
            go_wp2_with fail
            all_goals first
              | exact ⟨⟨i + 1, by simp, by omega, by rw [HC.out.1, HR.out, if_pos (by omega)], HS.out.setv (by have e := HC.out.2; rw [HR.out, if_pos (by omega)] at e; omega)⟩, by simp [intOf]; omega⟩
              | exact ⟨⟨i + 1, by simp, by omega, by rw [HC.out.1, HR.out, if_neg (by omega), if_pos (by omega)], HS.out.setv (by have e := HC.out.2; rw [HR.out, if_neg (by omega), if_pos (by omega)] at e; omega)⟩, by simp [intOf]; omega⟩
              | exact ⟨⟨i + 1, by simp, by omega, by rw [HC.out.1, HR.out, if_neg (by omega), if_neg (by omega)], HS.out.setv (by have e := HC.out.2; rw [HR.out, if_neg (by omega), if_neg (by omega)] at e; omega)⟩, by simp [intOf]; omega⟩
              | (exfalso; omega)
              | fail
        · cases less with
          | false =>
            obtain ⟨c1, c2⟩ := hcr.1 rfl
            clear hcr
            generalize hc : car a.data.toList b.data.toList false i = c at c1 c2 ⊢
            have hra : raw a.data.toList b.data.toList false i = 0 + (0 + c) := by unfold raw; rw [hc, hA, hB]; rfl
            have HR := Lib.hid hra; clear hra hA hB hc
            go_wp2_with fail
            all_goals first
              | exact ⟨⟨i + 1, by simp, by omega, by rw [HC.out.1, HR.out, if_pos (by omega)], HS.out.setv (by have e := HC.out.2; rw [HR.out, if_pos (by omega)] at e; omega)⟩, by simp [intOf]; omega⟩
              | exact ⟨⟨i + 1, by simp, by omega, by rw [HC.out.1, HR.out, if_neg (by omega), if_pos (by omega)], HS.out.setv (by have e := HC.out.2; rw [HR.out, if_neg (by omega), if_pos (by omega)] at e; omega)⟩, by simp [intOf]; omega⟩
              | exact ⟨⟨i + 1, by simp, by omega, by rw [HC.out.1, HR.out, if_neg (by omega), if_neg (by omega)], HS.out.setv (by have e := HC.out.2; rw [HR.out, if_neg (by omega), if_neg (by omega)] at e; omega)⟩, by simp [intOf]; omega⟩
              | (exfalso; omega)
              | fail
          | true =>
            obtain ⟨c1, c2⟩ := hcr.2 rfl
            clear hcr
            generalize hc : car a.data.toList b.data.toList true i = c at c1 c2 ⊢
            have hra : raw a.data.toList b.data.toList true i = 0 + (- 0 + c) := by unfold raw; rw [hc, hA, hB]; rfl
            have HR := Lib.hid hra; clear hra hA hB hc
            go_wp2_with fail
            all_goals first
              | exact ⟨⟨i + 1, by simp, by omega, by rw [HC.out.1, HR.out, if_pos (by omega)], HS.out.setv (by have e := HC.out.2; rw [HR.out, if_pos (by omega)] at e; omega)⟩, by simp [intOf]; omega⟩
              | exact ⟨⟨i + 1, by simp, by omega, by rw [HC.out.1, HR.out, if_neg (by omega), if_pos (by omega)], HS.out.setv (by have e := HC.out.2; rw [HR.out, if_neg (by omega), if_pos (by omega)] at e; omega)⟩, by simp [intOf]; omega⟩
              | exact ⟨⟨i + 1, by simp, by omega, by rw [HC.out.1, HR.out, if_neg (by omega), if_neg (by omega)], HS.out.setv (by have e := HC.out.2; rw [HR.out, if_neg (by omega), if_neg (by omega)] at e; omega)⟩, by simp [intOf]; omega⟩
              | (exfalso; omega)
              | fail
    · have hfin := HB.out
      rw [show i = N by omega] at hfin
      have ho : outAt N (sby a.data.toList b.data.toList less) N = sumL a.data.toList b.data.toList less N := by unfold outAt sumL; simp
      have hlen : N = (outAt N (sby a.data.toList b.data.toList less) N).length := by rw [outAt_length _ (Nat.le_refl _)]
      have hbk := hfin.back hlen N
      rw [ho] at hbk
      clear hlen
      have hpl : plusL a.data.toList b.data.toList less = if Lib.trimLeftB (sumL a.data.toList b.data.toList less N) 48 = [] then [48] else Lib.trimLeftB (sumL a.data.toList b.data.toList less N) 48 := by
        unfold plusL; rw [HL.out.2.1, HL.out.2.2, ← HL.out.1]
      have HF := Lib.hid hfin; have HP := Lib.hid hpl; clear hfin ho hpl
      generalize sumL a.data.toList b.data.toList less N = z at hbk HP
      go_wp2_with (first
        | (go_at_call 49; refine (Tryz.strings_TrimLeft_one _ 48 (by decide) _).mono ?_; rintro e w2 ⟨rfl, rfl⟩)
        | fail)
      · rename_i h
        go_ret
        exact ⟨by rw [HP.out, if_pos (List.isEmpty_iff.1 h)]; rfl, HF.out.below⟩
      · rename_i h
        go_ret
        exact ⟨by rw [HP.out, if_neg (fun e => by rw [e] at h; cases h)]; rfl, HF.out.below⟩
end Go.Proofs.YtpnnbffhdhbonaaGreatDoor
