/- rosterref03.number, padded: a number's key; a number in so many digits. -/
import Derived.Test.YtpnnbffhdhbonaaGreatDoorRefA
import Derived.Test.YtpnnbffhdhbonaaGreatDoorWide
namespace Go.Proofs.YtpnnbffhdhbonaaGreatDoor
open Go Go.RowKit

/-- a block of bytes that is made out of letters -/
theorem Buf.lit (w : World) (l : List UInt8) (n : Nat) (hn : n = l.length) (hn2 : n ≤ 140737488355328) : Buf w (w.alloc (.cells (bv l).toArray 5)) (some w.heap.size) n l := by
  subst hn
  have h1 : Row (w.alloc (.cells (bv l).toArray 5)) w.heap.size 5 1 l.length (bv l) :=
    ⟨[], by rw [heap_alloc_new]; simp, by simp, by unfold maxLen; omega⟩
  exact Buf.mk (w0 := w) (Own.mk h1 (by simp) (Nat.le_refl _)) (fun g h => by cases h; exact Nat.le_refl _) ((Below.refl _ w).alloc (Nat.le_refl _) _)
theorem Buf.lit4 (w : World) {p x y z : Int} {d a b c : UInt8} (hp : p = (d.toNat : Int)) (hx : x = (a.toNat : Int)) (hy : y = (b.toNat : Int)) (hz : z = (c.toNat : Int)) :
    Buf w (w.alloc (.cells #[.int .u8 p, .int .u8 x, .int .u8 y, .int .u8 z] 5)) (some w.heap.size) 4 [d, a, b, c] := by
  subst hp hx hy hz; exact Buf.lit w [d, a, b, c] 4 rfl (by decide)
theorem Buf.lit1 (w : World) {p : Int} {d : UInt8} (hp : p = (d.toNat : Int)) :
    Buf w (w.alloc (.cells #[.int .u8 p] 5)) (some w.heap.size) 1 [d] := by
  subst hp; exact Buf.lit w [d] 1 rfl (by decide)

/-! ### in so many digits -/
def lowD (n : Nat) : Nat → List UInt8
  | 0 => []
  | i + 1 => UInt8.ofNat (48 + n / 10 ^ i % 10) :: lowD n i
theorem lowD_length (n : Nat) : ∀ k, (lowD n k).length = k
  | 0 => rfl
  | k + 1 => by show (lowD n k).length + 1 = _; rw [lowD_length n k]
theorem lowD_end (n : Nat) : ∀ k, lowD n (k + 1) = lowD (n / 10) k ++ [UInt8.ofNat (48 + n % 10)]
  | 0 => by show [UInt8.ofNat (48 + n / 10 ^ 0 % 10)] = _; rw [Nat.pow_zero, Nat.div_one]; rfl
  | k + 1 => by
    show UInt8.ofNat (48 + n / 10 ^ (k + 1) % 10) :: lowD n (k + 1) = _
    rw [lowD_end n k, Nat.pow_succ, Nat.mul_comm, ← Nat.div_div_eq_div_mul]; rfl
theorem wideL_end (n k : Nat) (hk : 1 ≤ k) : wideL n (k + 1) = wideL (n / 10) k ++ [UInt8.ofNat (48 + n % 10)] := by
  unfold wideL
  by_cases h : n < 10
  · rw [Lib.decDigits_one h, show n / 10 = 0 by omega, Lib.decDigits_one (show 0 < 10 by decide), show n % 10 = n by omega]
    obtain ⟨j, rfl⟩ : ∃ j, k = j + 1 := ⟨k - 1, by omega⟩
    show List.replicate (j + 1) 48 ++ [UInt8.ofNat (48 + n)] = List.replicate j 48 ++ [48] ++ _
    rw [List.replicate_succ', List.append_assoc]
  · have e : Lib.decDigits n = Lib.decDigits (n / 10) ++ [UInt8.ofNat (48 + n % 10)] := by
      conv => lhs; rw [Lib.decDigits, dif_neg h]
    rw [e, List.length_append, List.length_singleton, Nat.add_sub_add_right, List.append_assoc]
theorem lowD_wide : ∀ (k n : Nat), n < 10 ^ (k + 1) → lowD n (k + 1) = wideL n (k + 1)
  | 0, n, h => by
    have h' : n < 10 := by simpa using h
    unfold wideL
    rw [Lib.decDigits_one h', lowD_end, show n % 10 = n by omega]; rfl
  | k + 1, n, h => by
    rw [lowD_end, wideL_end n (k + 1) (by omega), lowD_wide k (n / 10) (by rw [Nat.pow_succ] at h; omega)]

set_option maxRecDepth 20000 in
theorem rpadded_low (n k : Nat) (w : World) (hk : k ≤ 4) (hn : n < 10000) :
    Calls Tryz.prog 102 #[.int .i64 n, .int .i64 k] w fun e w' => e = .returned (.string ⟨(lowD n k).toArray⟩) ∧ Below w.heap.size w w' := by
  go_enter Tryz.func102, Tryz.ntmps102
  go_wp2_with fail
  go_loopw [0, 5, 6] (fun nv sv iv wr => ∃ i m : Nat, nv = .int .i64 m ∧ sv = .string ⟨(lowD n i).toArray⟩ ∧ iv = .int .i64 i ∧ i ≤ k ∧ m = n / 10 ^ i ∧ Below w.heap.size w wr) (fun _ _ iv _ => k - (intOf iv).toNat)
  case atStart => exact ⟨0, n, rfl, rfl, rfl, Nat.zero_le _, by simp, Below.refl _ _⟩
  case round =>
    obtain ⟨i, m, rfl, rfl, rfl, hi, hm, hb⟩ := hrel
    have HB := Lib.hid hb; clear hb
    by_cases hlt : i < k
    · have i1 : (i : Int) < k := by omega
      have hll := lowD_length n i
      have hnx : lowD n (i + 1) = UInt8.ofNat (48 + m % 10) :: lowD n i := by rw [hm]; rfl
      have hmx : m / 10 = n / 10 ^ (i + 1) := by rw [hm, Nat.pow_succ, Nat.div_div_eq_div_mul]
      have hmn : m ≤ 9999 := by rw [hm]; have := Nat.div_le_self n (10 ^ i); omega
      obtain ⟨d, hd⟩ : ∃ d : Nat, d = m % 10 := ⟨_, rfl⟩
      have hd9 : d ≤ 9 := by omega
      obtain ⟨q, hq⟩ : ∃ q : Nat, q = m / 10 := ⟨_, rfl⟩
      rw [← hd] at hnx
      rw [← hq] at hmx
      have e1 : (m : Int) % 10 = d := by omega
      have e2 : (m : Int) / 10 = q := by omega
      have e3 : (m : Int).tmod 10 = d := by rw [Int.tmod_eq_emod_of_nonneg (by omega)]; exact e1
      have e4 : (m : Int).tdiv 10 = q := by rw [Int.tdiv_eq_ediv_of_nonneg (by omega)]; exact e2
      generalize hL : lowD n i = L at *
      have HNX := Lib.hid hnx; have HMX := Lib.hid hmx
      have hdd : ((UInt8.ofNat (48 + d)).toNat : Int) = 48 + d := by rw [UInt8.toNat_ofNat']; omega
      have kb := (Buf.lit1 wr (p := 48 + (d : Int)) (d := UInt8.ofNat (48 + d)) hdd.symm).back (n := 1) rfl 1
      have hcat : (ByteArray.mk [UInt8.ofNat (48 + d)].toArray) ++ (ByteArray.mk L.toArray) = ⟨(UInt8.ofNat (48 + d) :: L).toArray⟩ := bapp [UInt8.ofNat (48 + d)] L
      have hsz : (ByteArray.mk L.toArray).size = i := hll
      clear hnx hmx hm hd hq hL hll hdd
      generalize UInt8.ofNat (48 + d) = c at *
      have hi2 : ¬ 9223372036854775807 < 1 + i := by omega
      go_wp2_with fail
      exact ⟨⟨i + 1, q, rfl, by rw [HNX.out], rfl, by omega, HMX.out, HB.out.alloc HB.out.size _⟩, by simp [intOf]; omega⟩
    · have i1 : ¬ (i : Int) < k := by omega
      have hik : i = k := by omega
      have HI := Lib.hid hik; clear hik hm
      go_wp2_with fail
      go_ret
      exact ⟨by rw [HI.out]; rfl, HB.out⟩
theorem rpadded_any (n k : Nat) (w : World) (hk : k ≤ 4) (hn : n < 10 ^ k) (hk0 : 1 ≤ k) :
    Calls Tryz.prog 102 #[.int .i64 n, .int .i64 k] w fun e w' => e = .returned (.string ⟨(wideL n k).toArray⟩) ∧ Below w.heap.size w w' := by
  obtain ⟨j, rfl⟩ : ∃ j, k = j + 1 := ⟨k - 1, by omega⟩
  rw [← lowD_wide j n hn]
  refine rpadded_low n (j + 1) w hk (Nat.lt_of_lt_of_le hn ?_)
  have : 10 ^ (j + 1) ≤ 10 ^ 4 := Nat.pow_le_pow_right (by decide) hk
  exact this

/-! ### a number's key -/
set_option maxRecDepth 20000 in
set_option maxHeartbeats 1000000 in
theorem rnumber_any (v : ByteArray) (w : World) (hs : v.size ≤ 65536) (hn : numeralL v.data.toList = true) :
    Calls Tryz.prog 75 #[.string v] w fun e w' => e = .returned (.string ⟨(numberL v.data.toList).1.toArray⟩) ∧ Below w.heap.size w w' := by
  obtain ⟨b, l, hv⟩ : ∃ b l, v.data.toList = b :: l := by
    cases hl : v.data.toList with
    | nil => rw [hl] at hn; cases hn
    | cons b l => exact ⟨b, l, rfl⟩
  obtain rfl : v = ⟨(b :: l).toArray⟩ := by rw [← bmk v, hv]
  clear hv
  have hb : ∀ h, (ByteArray.mk (b :: l).toArray)[0]'h = b := fun _ => rfl
  have hsz : (ByteArray.mk (b :: l).toArray).size = l.length + 1 := rfl
  have hl2 : l.length + 1 ≤ 65536 := hs
  by_cases h45 : b = 45
  · subst h45
    have hd : ∀ (i : Nat) (h : i < l.length), 48 ≤ l[i].toNat ∧ l[i].toNat ≤ 57 := by
      have h1 : numeralL (45 :: l) = true := hn
      unfold numeralL at h1
      rw [show ((45 :: l : List UInt8) == [48]) = false from by simp, Bool.false_or] at h1
      have h2 : l.all dig = true := by
        cases l with
        | nil => rfl
        | cons c m => exact (Bool.and_eq_true _ _ ▸ h1 : _ ∧ _).2
      intro i h
      have := List.all_eq_true.1 h2 l[i] (List.getElem_mem h)
      simpa [dig] using this
    have hx : (ByteArray.mk (45 :: l).toArray).extract 1 (l.length + 1) = ⟨l.toArray⟩ := by
      rw [Lib.extract_eq]; simp
    have hz : (ByteArray.mk l.toArray).size = l.length := rfl
    have hNL : (numberL (45 :: l)).1 = [110] ++ n3 (16777215 - l.length) ++ l.map nine := by
      unfold numberL; rw [if_neg (by rw [show numeralL (45 :: l) = true from hn]; simp)]; rfl
    obtain ⟨S, hS⟩ : ∃ S : ByteArray, S = ⟨l.toArray⟩ := ⟨_, rfl⟩
    rw [← hS] at hx hz
    have hSi : ∀ (i : Nat) (h : i < l.length) h', S[i]'h' = l[i] := by subst hS; intro i h h'; rfl
    have HNL := Lib.hid hNL; have HD := Lib.hid hd; have HSI := Lib.hid hSi; clear hNL hd hn hs hS hSi
    go_enter Tryz.func75, Tryz.ntmps75
    go_wp2_with fail
    have hB := Buf.lit4 w (p := 110) (x := (16777215 - (l.length : Int)) / 65536) (y := (16777215 - (l.length : Int)) / 256 % 256) (z := (16777215 - (l.length : Int)) % 256) (d := 110) (a := ((16777215 - l.length) / 65536 % 256).toUInt8) (b := ((16777215 - l.length) / 256 % 256).toUInt8) (c := ((16777215 - l.length) % 256).toUInt8) rfl (by rw [u8_mod]; omega) (by rw [u8_mod]; omega) (by rw [u8_mod]; omega)
    generalize hgg : w.heap.size = g0 at hB
    generalize w.alloc (.cells #[.int .u8 110, .int .u8 ((16777215 - (l.length : Int)) / 65536), .int .u8 ((16777215 - (l.length : Int)) / 256 % 256), .int .u8 ((16777215 - (l.length : Int)) % 256)] 5) = W0 at hB ⊢
    have HB0 := Lib.hid hB; clear hB hgg hx hb hsz
    go_loopw [5, 6] (fun sl iv wr => ∃ (i cap g : Nat) (out : List UInt8), sl = .slice (some ⟨g, 0, none⟩) out.length cap ∧ iv = .int .i64 i ∧ i ≤ l.length ∧ Buf w wr (some g) cap out ∧ out = [110] ++ n3 (16777215 - l.length) ++ (l.take i).map nine) (fun _ iv _ => l.length - (intOf iv).toNat)
    case atStart => exact ⟨0, 4, g0, _, rfl, rfl, Nat.zero_le _, HB0.out, rfl⟩
    case round =>
      obtain ⟨i, cap, g, out, rfl, rfl, hi, hB, ho⟩ := hrel
      have hol : out.length = 4 + i := by rw [ho]; simp [n3]; omega
      have HB := Lib.hid hB; have HO := Lib.hid ho; clear hB ho
      by_cases hlt : i < l.length
      · have i1 : (i : Int) < l.length := by omega
        have hdb := HD.out i hlt
        have hnn := nine_nat hdb
        have hsi := HSI.out i hlt
        have htk : (l.take (i + 1)).map nine = (l.take i).map nine ++ [nine l[i]] := by rw [List.take_succ_eq_append_getElem hlt, List.map_append]; rfl
        generalize l[i] = c at *
        have c1 : (48 : Int) ≤ c.toNat := by omega
        have c2 : (c.toNat : Int) ≤ 57 := by omega
        have HNN := Lib.hid (show Value.int .u8 (105 - (c.toNat : Int)) = .int .u8 ((nine c).toNat : Int) by rw [hnn])
        have HTK := Lib.hid htk; have HOL := Lib.hid hol; clear hnn htk hdb hol
        have hsl : ∀ x, Value.slice (some ⟨g, 0, none⟩) out.length x = sv (some g) out.length x := fun _ => rfl
        clear hsl
        go_wp2_with (first
          | (at_builtin; refine HB.out.push rfl _ _ rfl rfl (nine c) HNN.out rfl (by have := HOL.out; omega) ?_; intro g' cap' w' hB'; have HB' := Lib.hid hB'; clear hB')
          | fail)
        exact ⟨⟨i + 1, cap', g', out ++ [nine c], by simp, rfl, by omega, HB'.out, by rw [HO.out, HTK.out]; simp⟩, by simp [intOf]; omega⟩
      · have i1 : ¬ (i : Int) < l.length := by omega
        have hbk := HB.out.back rfl cap
        have hfin : out = (numberL (45 :: l)).1 := by rw [HO.out, HNL.out, List.take_of_length_le (by omega)]
        have HF := Lib.hid hfin; clear hfin hol
        go_wp2_with fail
        go_ret
        exact ⟨by rw [← HF.out]; rfl, HB.out.below⟩
  · have hb2 : ((b.toNat : Int) != 45) = true := by rw [bne_iff_ne]; exact fun e => h45 (UInt8.toNat_inj.1 (by show b.toNat = 45; omega))
    obtain ⟨n, hnn⟩ : ∃ n, n = l.length + 1 := ⟨_, rfl⟩
    have hn2 : n ≤ 65536 := by omega
    have hn0 : 0 < n := by omega
    rw [← hnn] at hsz
    have kc := (Buf.lit4 w (p := 112) (x := (n : Int) / 65536) (y := (n : Int) / 256 % 256) (z := (n : Int) % 256) (d := 112) (a := (n / 65536 % 256).toUInt8) (b := (n / 256 % 256).toUInt8) (c := (n % 256).toUInt8) rfl (by rw [u8_mod]; omega) (by rw [u8_mod]; omega) (by rw [u8_mod])).back (n := 4) rfl 4
    have hNL : (numberL (b :: l)).1 = [112] ++ n3 n ++ (b :: l) := by
      unfold numberL; rw [if_neg (by rw [show numeralL (b :: l) = true from hn]; simp)]
      split
      · rename_i e; injection e with e1 e2; exact absurd e1 h45
      · rw [hnn]; rfl
    have HNL := Lib.hid hNL; clear hNL hn hs hnn hl2
    go_enter Tryz.func75, Tryz.ntmps75
    go_wp2_with fail
    go_ret
    refine ⟨?_, (Below.refl _ w).alloc (Nat.le_refl _) _⟩
    show Ending.returned (.string ((⟨([112] ++ n3 n).toArray⟩ : ByteArray) ++ ⟨(b :: l).toArray⟩)) = _
    rw [bapp, HNL.out]
end Go.Proofs.YtpnnbffhdhbonaaGreatDoor
