/- Part 8 of the walks and plain laws, joined: NameVP, PuC. -/
import Derived.Test.YtlmfbjhokkpjhaaGreatDoorNM00
import Derived.Test.YtlmfbjhokkpjhaaGreatDoorNM07
import Derived.Test.YtlmfbjhokkpjhaaGreatDoorShelfS
import Derived.Lib.ConvBytes
import Derived.Lib.AtoiErrMem
import Derived.Lib.Hide
import Derived.Laws.Strings3
import Derived.Laws.Closers25
import Derived.Laws.Closers25b
import Derived.WalkKit
import Derived.BigCall
import Derived.BigGuard
import Derived.Below
import Derived.Maps.StringElems
set_option linter.unusedVariables false
set_option linter.unusedSimpArgs false
namespace Go.Proofs.YtlmfbjhokkpjhaaGreatDoor
open Go Go.RowKit
theorem all_bytesN {p : UInt8 → Bool} (h : ∀ n, n < 256 → p (UInt8.ofNat n) = true) (b : UInt8) : p b = true := by
 have := h b.toNat b.toNat_lt
 rwa [UInt8.ofNat_toNat] at this
theorem showK_copy : ∀ (k : Nat) (l : Str) (fst : Bool), 1 ≤ k → showK fst l k = l.take k ++ showK false (l.drop k) 0
 | 0, _, _, h => absurd h (by omega)
 | k + 1, [], fst, _ => by simp [showK]
 | k + 1, c :: l, fst, _ => by
  rw [showK]
  by_cases h0 : k = 0
  ·subst h0; simp
  ·rw [showK_copy k l false (by omega)]; simp
theorem chN_spec (l : Str) : (chN l = 0 ∧ ∀ n, 1 ≤ n → n ≤ 4 → n ≤ l.length → Lib.validD (l.take n) = false) ∨
  (1 ≤ chN l ∧ chN l ≤ 4 ∧ chN l ≤ l.length ∧ Lib.validD (l.take (chN l)) = true ∧ ∀ m, 1 ≤ m → m < chN l → Lib.validD (l.take m) = false) := by
 have hq : ∀ n, (decide (n ≤ l.length) && Lib.validD (l.take n)) = false ∨ (n ≤ l.length ∧ Lib.validD (l.take n) = true) := fun n => by
  cases h : (decide (n ≤ l.length) && Lib.validD (l.take n)) with
  | false => exact .inl rfl
  | true => simp at h; exact .inr h
 have no : ∀ n, (decide (n ≤ l.length) && Lib.validD (l.take n)) = false → n ≤ l.length → Lib.validD (l.take n) = false := fun n h hn => by simpa [hn] using h
 unfold chN
 rcases hq 1 with h1 | h1
 ·rcases hq 2 with h2 | h2
  ·rcases hq 3 with h3 | h3
   ·rcases hq 4 with h4 | h4
    ·left
     simp only [List.find?, h1, h2, h3, h4]
     refine ⟨rfl, fun n n1 n4 hn => ?_⟩
     match n, n1, n4 with
     | 1, _, _ => exact no 1 h1 hn
     | 2, _, _ => exact no 2 h2 hn
     | 3, _, _ => exact no 3 h3 hn
     | 4, _, _ => exact no 4 h4 hn
    ·right
     have e : (decide (4 ≤ l.length) && Lib.validD (l.take 4)) = true := by simp [h4.1, h4.2]
     simp only [List.find?, h1, h2, h3, e, Option.getD_some]
     refine ⟨by omega, by omega, h4.1, h4.2, fun m m1 m4 => ?_⟩
     match m, m1, m4 with
     | 1, _, _ => exact no 1 h1 (by omega)
     | 2, _, _ => exact no 2 h2 (by omega)
     | 3, _, _ => exact no 3 h3 (by omega)
   ·right
    have e : (decide (3 ≤ l.length) && Lib.validD (l.take 3)) = true := by simp [h3.1, h3.2]
    simp only [List.find?, h1, h2, e, Option.getD_some]
    refine ⟨by omega, by omega, h3.1, h3.2, fun m m1 m4 => ?_⟩
    match m, m1, m4 with
    | 1, _, _ => exact no 1 h1 (by omega)
    | 2, _, _ => exact no 2 h2 (by omega)
  ·right
   have e : (decide (2 ≤ l.length) && Lib.validD (l.take 2)) = true := by simp [h2.1, h2.2]
   simp only [List.find?, h1, e, Option.getD_some]
   refine ⟨by omega, by omega, h2.1, h2.2, fun m m1 m4 => ?_⟩
   match m, m1, m4 with
   | 1, _, _ => exact no 1 h1 (by omega)
 ·right
  have e : (decide (1 ≤ l.length) && Lib.validD (l.take 1)) = true := by simp [h1.1, h1.2]
  simp only [List.find?, e, Option.getD_some]
  exact ⟨by omega, by omega, h1.1, h1.2, fun m m1 m4 => by omega⟩
theorem valid_one {c : UInt8} (h : c.toNat < 128) : Lib.validD [c] = true := by rw [Lib.validD_cons c [] h]; rfl
theorem chN_low {c : UInt8} (l : Str) (h : c.toNat < 128) : chN (c :: l) = 1 := by
 have e : (decide (1 ≤ (c :: l).length) && Lib.validD ((c :: l).take 1)) = true := by simp [valid_one h]
 unfold chN
 simp only [List.find?, e, Option.getD_some]
theorem lo_fin : ∀ n : Fin 256, (Lib.firstT n.val % 8 = 2 ∨ Lib.firstT n.val % 8 = 3 ∨ Lib.firstT n.val % 8 = 4) → 128 ≤ Lib.accLo (Lib.firstT n.val / 16) := by decide +kernel
theorem lo_ge {b0 : Nat} (hb : b0 < 256) (h : Lib.firstT b0 % 8 = 2 ∨ Lib.firstT b0 % 8 = 3 ∨ Lib.firstT b0 % 8 = 4) : 128 ≤ Lib.accLo (Lib.firstT b0 / 16) := lo_fin ⟨b0, hb⟩ h
theorem check_facts {n b1 b2 b3 sz lo hi k : Nat} (h : Lib.checkN n b1 b2 b3 sz lo hi = some k) (hlo : sz = 2 ∨ sz = 3 ∨ sz = 4 → 128 ≤ lo) :
  (k = 2 ∧ sz = 2 ∧ 2 ≤ n ∧ 128 ≤ b1 ∧ ¬ (b1 < lo ∨ hi < b1)) ∨ (k = 3 ∧ sz = 3 ∧ 3 ≤ n ∧ 128 ≤ b1 ∧ 128 ≤ b2 ∧ ¬ (b1 < lo ∨ hi < b1 ∨ b2 < 128 ∨ 191 < b2)) ∨
  (k = 4 ∧ sz = 4 ∧ 4 ≤ n ∧ 128 ≤ b1 ∧ 128 ≤ b2 ∧ 128 ≤ b3 ∧ ¬ (b1 < lo ∨ hi < b1 ∨ b2 < 128 ∨ 191 < b2 ∨ b3 < 128 ∨ 191 < b3)) := by
 unfold Lib.checkN at h
 by_cases h2 : sz = 2
 ·rw [if_pos h2] at h
  have := hlo (.inl h2)
  split at h
  ·cases h
  ·injection h with h; left; omega
 ·rw [if_neg h2] at h
  by_cases h3 : sz = 3
  ·rw [if_pos h3] at h
   have := hlo (.inr (.inl h3))
   split at h
   ·cases h
   ·injection h with h; right; left; omega
  ·rw [if_neg h3] at h
   by_cases h4 : sz = 4
   ·rw [if_pos h4] at h
    have := hlo (.inr (.inr h4))
    split at h
    ·cases h
    ·injection h with h; right; right; omega
   ·rw [if_neg h4] at h; cases h
theorem check_take {b1 b2 b3 sz lo hi k n c2 c3 : Nat} (h : Lib.checkN n b1 b2 b3 sz lo hi = some k) (hlo : sz = 2 ∨ sz = 3 ∨ sz = 4 → 128 ≤ lo) (h2 : 3 ≤ k → c2 = b2) (h3 : 4 ≤ k → c3 = b3) : Lib.checkN k b1 c2 c3 sz lo hi = some k := by
 unfold Lib.checkN
 rcases check_facts h hlo with ⟨rfl, e, q⟩ | ⟨rfl, e, q⟩ | ⟨rfl, e, q⟩
 ·rw [if_pos e, if_neg (by omega)]
 ·rw [if_neg (by omega), if_pos e, h2 (by omega), if_neg (by omega)]
 ·rw [if_neg (by omega), if_neg (by omega), if_pos e, h2 (by omega), h3 (by omega), if_neg (by omega)]
theorem valid_hi {l : Str} (hl : l.length ≤ 4) (h0 : 128 ≤ (l.getD 0 0).toNat) (hv : Lib.validD l = true) (hmin : ∀ m, 1 ≤ m → m < l.length → Lib.validD (l.take m) = false) : ∀ x ∈ l, 128 ≤ x.toNat := by
 by_cases hne : l = []
 ·subst hne; intro x hx; cases hx
 have hlen : 0 < l.length := List.length_pos_iff.2 hne
 have hL := Lib.validD_lead l hne h0
 rw [hv] at hL
 obtain ⟨k, hk⟩ : ∃ k, Lib.checkN l.length (l.getD 1 0).toNat (l.getD 2 0).toNat (l.getD 3 0).toNat (Lib.firstT (l.getD 0 0).toNat % 8) (Lib.accLo (Lib.firstT (l.getD 0 0).toNat / 16)) (Lib.accHi (Lib.firstT (l.getD 0 0).toNat / 16)) = some k := by
  cases hc : Lib.checkN l.length (l.getD 1 0).toNat (l.getD 2 0).toNat (l.getD 3 0).toNat (Lib.firstT (l.getD 0 0).toNat % 8) (Lib.accLo (Lib.firstT (l.getD 0 0).toNat / 16)) (Lib.accHi (Lib.firstT (l.getD 0 0).toNat / 16)) with
  | none => rw [hc] at hL; cases hL
  | some k => exact ⟨k, rfl⟩
 have hlo := @lo_ge (l.getD 0 0).toNat (UInt8.toNat_lt _)
 obtain ⟨b0, e0⟩ : ∃ b0, (l.getD 0 0).toNat = b0 := ⟨_, rfl⟩
 obtain ⟨b1, e1⟩ : ∃ b1, (l.getD 1 0).toNat = b1 := ⟨_, rfl⟩
 obtain ⟨b2, e2⟩ : ∃ b2, (l.getD 2 0).toNat = b2 := ⟨_, rfl⟩
 obtain ⟨b3, e3⟩ : ∃ b3, (l.getD 3 0).toNat = b3 := ⟨_, rfl⟩
 rw [e0, e1, e2, e3] at hk
 rw [e0] at hlo h0
 have facts := check_facts hk hlo
 have hkl : k = l.length := by
  by_cases hlt : k < l.length
  ·exfalso
   have hk1 : 1 ≤ k := by omega
   have hm := hmin k hk1 hlt
   have g : ∀ j, j < k → (l.take k).getD j 0 = l.getD j 0 := fun j hj => by simp [List.getD_eq_getElem?_getD, hj]
   have hlk : (l.take k).length = k := by rw [List.length_take]; omega
   have hL2 := Lib.validD_lead (l.take k) (by intro e; have := congrArg List.length e; rw [hlk] at this; simp at this; omega) (by rw [g 0 (by omega), e0]; exact h0)
   rw [g 0 (by omega), e0, hm] at hL2
   have hkk : Lib.checkN (l.take k).length ((l.take k).getD 1 0).toNat ((l.take k).getD 2 0).toNat ((l.take k).getD 3 0).toNat (Lib.firstT b0 % 8) (Lib.accLo (Lib.firstT b0 / 16)) (Lib.accHi (Lib.firstT b0 / 16)) = some k := by
    rw [hlk, g 1 (by omega), e1]
    exact check_take hk hlo (fun h => by rw [g 2 (by omega), e2]) (fun h => by rw [g 3 (by omega), e3])
   rw [hkk] at hL2
   simp only [List.drop_take_self] at hL2
   rw [Lib.validD_nil] at hL2
   cases hL2
  ·omega
 intro x hx
 obtain ⟨j, hj, rfl⟩ := List.getElem_of_mem hx
 have hg : (l.getD j 0) = l[j] := by simp [List.getD_eq_getElem?_getD, hj]
 rw [← hg]
 have hj4 : j < 4 := by omega
 match j, hj4 with
 | 0, _ => omega
 | 1, _ => rw [e1]; omega
 | 2, _ => rw [e2]; omega
 | 3, _ => rw [e3]; omega
theorem chN_hi {c : UInt8} {l : Str} (h : 2 ≤ chN (c :: l)) : chN (c :: l) - 1 ≤ l.length ∧ ∀ x ∈ l.take (chN (c :: l) - 1), 128 ≤ x.toNat := by
 rcases chN_spec (c :: l) with ⟨h0, _⟩ | ⟨h1, h4, hl, hv, hm⟩
 ·omega
 ·simp only [List.length_cons] at hl
  refine ⟨by omega, ?_⟩
  have hc : 128 ≤ c.toNat := by
   by_cases hc : c.toNat < 128
   ·rw [chN_low l hc] at h; omega
   ·omega
  have := valid_hi (l := (c :: l).take (chN (c :: l))) (by simp; omega) (by obtain ⟨n, hn⟩ : ∃ n, chN (c :: l) = n + 1 := ⟨chN (c :: l) - 1, by omega⟩; rw [hn]; simpa using hc) hv (fun m m1 m2 => by
   rw [List.take_take]
   have : m < chN (c :: l) := by simp at m2; omega
   rw [Nat.min_eq_left (by omega)]
   exact hm m m1 this)
  obtain ⟨n, hn⟩ : ∃ n, chN (c :: l) = n + 1 := ⟨chN (c :: l) - 1, by omega⟩
  rw [hn] at this ⊢
  intro x hx
  exact this x (by simp at hx ⊢; exact .inr hx)
theorem valR_nil (st off : Nat) (b : Str) (bare : Option Nat) : valR st [] off b bare = (b, off, bare.map fun p => (50, p)) := by rw [valR]
theorem valR_end {c : UInt8} (h : c = 44 ∨ c = 43) (st : Nat) (l : Str) (off : Nat) (b : Str) (bare : Option Nat) : valR st (c :: l) off b bare = (b, off, bare.map fun p => (50, p)) := by
 rw [valR.eq_def]; simp only; rw [if_pos h]
theorem valR_esc {x : UInt8} (h : escs.contains x = true) (st : Nat) (l : Str) (off : Nat) (b : Str) (bare : Option Nat) : valR st (92 :: x :: l) off b bare = valR st l (off + 2) (b ++ [x]) none := by
 rw [valR.eq_def]; simp only; rw [if_neg (by decide), if_pos trivial, if_pos h]
theorem valR_hex {x y : UInt8} (h : escs.contains x = false) (h2 : (hexd x && hexd y) = true) (st : Nat) (l : Str) (off : Nat) (b : Str) (bare : Option Nat) : valR st (92 :: x :: y :: l) off b bare = valR st l (off + 3) (b ++ [UInt8.ofNat (hexv x * 16 + hexv y)]) none := by
 rw [valR.eq_def]; simp only; rw [if_neg (by decide), if_pos trivial, if_neg (by rw [h]; simp), if_pos h2]
theorem valR_put {c : UInt8} {st off : Nat} (h1 : c ≠ 44) (h2 : c ≠ 43) (h3 : c ≠ 92) (h4 : bads.contains c = false) (h5 : ¬ (off = st ∧ (c = 32 ∨ c = 35))) (l : Str) (b : Str) (bare : Option Nat) :
  valR st (c :: l) off b bare = valR st l (off + 1) (b ++ [c]) (if c = 32 then some off else none) := by
 rw [valR.eq_def]; simp only; rw [if_neg (by rintro (e | e); exact h1 e; exact h2 e), if_neg h3, if_neg (by rintro (e | e); rw [h4] at e; cases e; exact h5 e)]
theorem hex_back (c : UInt8) : escs.contains (hexC (c.toNat / 16)) = false ∧ (hexd (hexC (c.toNat / 16)) && hexd (hexC (c.toNat % 16))) = true ∧ UInt8.ofNat (hexv (hexC (c.toNat / 16)) * 16 + hexv (hexC (c.toNat % 16))) = c := by
 have := all_bytesN (p := fun c => !escs.contains (hexC (c.toNat / 16)) && (hexd (hexC (c.toNat / 16)) && hexd (hexC (c.toNat % 16))) && (UInt8.ofNat (hexv (hexC (c.toNat / 16)) * 16 + hexv (hexC (c.toNat % 16))) == c)) (by decide +kernel) c
 simp only [Bool.and_eq_true, Bool.not_eq_true', beq_iff_eq] at this
 exact ⟨this.1.1, by simp only [Bool.and_eq_true]; exact this.1.2, this.2⟩
theorem hi_plain {c : UInt8} (h : 128 ≤ c.toNat) : c ≠ 44 ∧ c ≠ 43 ∧ c ≠ 92 ∧ bads.contains c = false ∧ c ≠ 32 ∧ c ≠ 35 := by
 have := all_bytesN (p := fun c => !decide (128 ≤ c.toNat) || (c != 44 && c != 43 && c != 92 && !bads.contains c && c != 32 && c != 35)) (by decide +kernel) c
 simp only [h, decide_true, Bool.not_true, Bool.false_or, Bool.and_eq_true, bne_iff_ne, Bool.not_eq_true'] at this
 exact ⟨this.1.1.1.1.1, this.1.1.1.1.2, this.1.1.1.2, this.1.1.2, this.1.2, this.2⟩
theorem esc_in {c : UInt8} (h : [34, 43, 44, 59, 60, 62, 92].contains c = true ∨ c = 32 ∨ c = 35) : escs.contains c = true := by
 have := all_bytesN (p := fun c => !([34, 43, 44, 59, 60, 62, 92].contains c || c == 32 || c == 35) || escs.contains c) (by decide +kernel) c
 have h2 : ([34, 43, 44, 59, 60, 62, 92].contains c || c == 32 || c == 35) = true := by
  rcases h with h | rfl | rfl
  ·rw [h]; simp
  ·decide
  ·decide
 rw [h2] at this
 simpa using this
theorem plain_in {c : UInt8} (h1 : ¬ (c.toNat < 32 ∨ c = 127)) (h2 : [34, 43, 44, 59, 60, 62, 92].contains c = false) : c ≠ 44 ∧ c ≠ 43 ∧ c ≠ 92 ∧ bads.contains c = false := by
 have := all_bytesN (p := fun c => (decide (c.toNat < 32) || c == 127) || [34, 43, 44, 59, 60, 62, 92].contains c || (c != 44 && c != 43 && c != 92 && !bads.contains c)) (by decide +kernel) c
 have h3 : (decide (c.toNat < 32) || c == 127) = false := by
  rw [Bool.or_eq_false_iff]; exact ⟨by simpa using fun e => h1 (.inl e), by simpa using fun e => h1 (.inr e)⟩
 rw [h3, h2] at this
 simp only [Bool.false_or, Bool.and_eq_true, bne_iff_ne, Bool.not_eq_true'] at this
 exact ⟨this.1.1.1, this.1.1.2, this.1.2, this.2⟩
def Ends (tl : Str) : Prop := tl = [] ∨ ∃ d t, tl = d :: t ∧ (d = 44 ∨ d = 43)
theorem valR_stop {tl : Str} (h : Ends tl) (st off : Nat) (b : Str) : valR st tl off b none = (b, off, none) := by
 rcases h with rfl | ⟨d, t, rfl, h⟩
 ·rw [valR_nil]; rfl
 ·rw [valR_end h]; rfl
theorem valR_show (st : Nat) {tl : Str} (htl : Ends tl) : ∀ (v : Str) (fst : Bool) (k off : Nat) (b : Str) (bare : Option Nat), st ≤ off → (fst = false → st < off) → k ≤ v.length → (∀ x ∈ v.take k, 128 ≤ x.toNat) → (v = [] → bare = none) → (fst = true → k = 0) →
  valR st (showK fst v k ++ tl) off b bare = (b ++ v, off + (showK fst v k).length, none)
 | [], fst, k, off, b, bare, _, _, _, _, hb, _ => by
  rw [hb rfl]
  cases k <;> simp [showK, valR_stop htl]
 | c :: v, fst, k + 1, off, b, bare, h1, h2, hk, hx, _, hf => by
  have hc := hi_plain (hx c (by simp))
  have hfs : fst = false := by cases fst with | false => rfl | true => exact absurd (hf rfl) (by omega)
  rw [showK, List.cons_append, valR_put hc.1 hc.2.1 hc.2.2.1 hc.2.2.2.1 (by rintro ⟨_, e | e⟩; exact hc.2.2.2.2.1 e; exact hc.2.2.2.2.2 e), if_neg hc.2.2.2.2.1,
   valR_show st htl v false k (off + 1) (b ++ [c]) none (by omega) (fun _ => by omega) (by simpa using hk) (fun x hx2 => hx x (by simp; exact .inr (by simpa using hx2))) (fun _ => rfl) (fun e => by cases e)]
  simp; omega
 | c :: v, fst, 0, off, b, bare, h1, h2, _, _, _, hf => by
  rw [showK]
  by_cases c0 : chN (c :: v) = 0
  ·rw [if_pos c0]
   obtain ⟨g1, g2, g3⟩ := hex_back c
   unfold hexB
   simp only [List.cons_append, List.nil_append]
   rw [valR_hex g1 g2, g3, valR_show st htl v false 0 (off + 3) (b ++ [c]) none (by omega) (fun _ => by omega) (Nat.zero_le _) (fun x hx => by simp at hx) (fun _ => rfl) (fun e => by cases e)]
   simp; omega
  ·rw [if_neg c0]
   by_cases c1 : c.toNat < 32 ∨ c = 127
   ·have hlow : c.toNat < 128 := by rcases c1 with h | rfl; omega; decide
    rw [if_pos c1, chN_low v hlow]
    obtain ⟨g1, g2, g3⟩ := hex_back c
    unfold hexB
    simp only [List.cons_append, List.nil_append]
    rw [valR_hex g1 g2, g3, valR_show st htl v false 0 (off + 3) (b ++ [c]) none (by omega) (fun _ => by omega) (Nat.zero_le _) (fun x hx => by simp at hx) (fun _ => rfl) (fun e => by cases e)]
    simp; omega
   ·rw [if_neg c1]
    by_cases c2 : [34, 43, 44, 59, 60, 62, 92].contains c = true ∨ (c = 32 ∧ (fst = true ∨ v = [])) ∨ (c = 35 ∧ fst = true)
    ·have hlow : c.toNat < 128 := by
      have := all_bytesN (p := fun c => !escs.contains c || decide (c.toNat < 128)) (by decide +kernel) c
      rw [esc_in (by rcases c2 with h | ⟨h, _⟩ | ⟨h, _⟩; exact .inl h; exact .inr (.inl h); exact .inr (.inr h))] at this
      simpa using this
     rw [if_pos c2, chN_low v hlow]
     simp only [List.cons_append, List.nil_append]
     rw [valR_esc (esc_in (by rcases c2 with h | ⟨h, _⟩ | ⟨h, _⟩; exact .inl h; exact .inr (.inl h); exact .inr (.inr h))),
      valR_show st htl v false 0 (off + 2) (b ++ [c]) none (by omega) (fun _ => by omega) (Nat.zero_le _) (fun x hx => by simp at hx) (fun _ => rfl) (fun e => by cases e)]
     simp; omega
    ·rw [if_neg c2]
     have c3 : [34, 43, 44, 59, 60, 62, 92].contains c = false := by
      cases h : [34, 43, 44, 59, 60, 62, 92].contains c with
      | false => rfl
      | true => exact absurd (.inl h) c2
     obtain ⟨p1, p2, p3, p4⟩ := plain_in c1 c3
     have hn : chN (c :: v) - 1 ≤ v.length ∧ ∀ x ∈ v.take (chN (c :: v) - 1), 128 ≤ x.toNat := by
      by_cases h2 : 2 ≤ chN (c :: v)
      ·exact chN_hi h2
      ·have : chN (c :: v) - 1 = 0 := by omega
       rw [this]; exact ⟨Nat.zero_le _, fun x hx => by simp at hx⟩
     rw [List.cons_append, valR_put p1 p2 p3 p4 (by
      rintro ⟨e1, e2⟩
      cases fst with
      | false => have := h2 rfl; omega
      | true => rcases e2 with e2 | e2; exact c2 (.inr (.inl ⟨e2, .inl rfl⟩)); exact c2 (.inr (.inr ⟨e2, rfl⟩))),
      valR_show st htl v false (chN (c :: v) - 1) (off + 1) (b ++ [c]) (if c = 32 then some off else none) (by omega) (fun _ => by omega) hn.1 hn.2 (fun hv => by
       by_cases e : c = 32
       ·exact absurd (.inr (.inl ⟨e, .inr hv⟩)) c2
       ·rw [if_neg e]) (fun e => by cases e)]
     simp; omega
theorem letters_let (b : UInt8) : letters.contains b = isLet b := by
 have := all_bytesN (p := fun b => letters.contains b == isLet b) (by decide +kernel) b
 simpa using this
theorem tail_only (l : Str) : onlyL (letters ++ [45]) l = tailB l := by
 unfold onlyL tailB
 congr 1
 funext b
 have := all_bytesN (p := fun b => (dig b || (letters ++ [45]).contains b) == tailC b) (by decide +kernel) b
 simpa using this
theorem takeWhile_stop {p : UInt8 → Bool} {l : Str} {d : UInt8} (t : Str) (h : l.all p = true) (hd : p d = false) : (l ++ d :: t).takeWhile p = l := by
 induction l with
 | nil => simp [hd]
 | cons a l ih =>
  simp only [List.all_cons, Bool.and_eq_true] at h
  simp only [List.cons_append, List.takeWhile_cons, h.1, if_true]
  rw [ih h.2]
theorem joinP_cut (c : UInt8) : ∀ l : Str, joinP c (cutAt c l) = l
 | [] => rfl
 | b :: l => by
  have ih := joinP_cut c l
  obtain ⟨r, rs, hc⟩ := cutAt_ne c l
  unfold cutAt
  by_cases h : b = c
  ·rw [if_pos h]
   rw [hc] at ih ⊢
   show [] ++ c :: joinP c (r :: rs) = _
   rw [ih, h]; rfl
  ·rw [if_neg h, hc]
   rw [hc] at ih
   cases rs with
   | nil => simp only [joinP] at ih ⊢; rw [ih]
   | cons r2 rs =>
    simp only [joinP] at ih ⊢
    rw [← ih]; rfl
theorem row_len {x : Str} (h : rowOk x = true) {d : UInt8} (t : Str) (hd : dig d = false) : (if (x ++ d :: t).head? = some 48 then 1 else ((x ++ d :: t).takeWhile dig).length) = x.length ∧ x ≠ [] := by
 cases x with
 | nil => simp [rowOk] at h
 | cons b l =>
  simp only [rowOk, Bool.and_eq_true, Bool.not_eq_true', Bool.and_eq_false_iff] at h
  refine ⟨?_, by simp⟩
  by_cases e : b = 48
  ·subst e
   have : l = [] := by
    rcases h.2 with h2 | h2
    ·simp at h2
    ·simpa using h2
   subst this
   rfl
  ·rw [if_neg (by simpa using e), takeWhile_stop (l := b :: l) t (by simpa using h.1) hd]
theorem oidN_join {t : Str} : ∀ (rows : List Str) (f off : Nat) (one : Bool), rows ≠ [] → rows.all rowOk = true → rows.length ≤ f → (one = true → 2 ≤ rows.length) →
  oidN f (joinP 46 rows ++ 61 :: t) off one = (off + (joinP 46 rows).length, true)
 | [], _, _, _, h, _, _, _ => absurd rfl h
 | x :: rows, 0, _, _, _, _, h, _ => absurd h (by simp)
 | [x], f + 1, off, one, _, hr, _, h1 => by
  have hx : rowOk x = true := by simpa using hr
  obtain ⟨g1, g2⟩ := row_len hx t (d := 61) (by decide)
  have hxl : x.length ≠ 0 := by cases x with | nil => exact absurd rfl g2 | cons => simp
  show oidN (f + 1) (x ++ 61 :: t) off one = (off + x.length, true)
  unfold oidN
  simp only
  rw [g1, if_neg hxl]
  have hg : (x ++ 61 :: t)[x.length]? = some 61 := by simp
  rw [hg, if_neg (by decide)]
  cases one with
  | true => have := h1 rfl; simp at this
  | false => simp
 | x :: y :: rows, f + 1, off, one, _, hr, hf, _ => by
  have hx : rowOk x = true := by simp at hr; exact hr.1
  have hr2 : (y :: rows).all rowOk = true := by simp at hr ⊢; exact hr.2
  have hj : joinP 46 (x :: y :: rows) ++ 61 :: t = x ++ 46 :: (joinP 46 (y :: rows) ++ 61 :: t) := by simp [joinP]
  obtain ⟨g1, g2⟩ := row_len hx (joinP 46 (y :: rows) ++ 61 :: t) (d := 46) (by decide)
  have hxl : x.length ≠ 0 := by cases x with | nil => exact absurd rfl g2 | cons => simp
  rw [hj]
  unfold oidN
  simp only
  rw [g1, if_neg hxl]
  have hg : (x ++ 46 :: (joinP 46 (y :: rows) ++ 61 :: t))[x.length]? = some 46 := by simp
  have hd : (x ++ 46 :: (joinP 46 (y :: rows) ++ 61 :: t)).drop (x.length + 1) = joinP 46 (y :: rows) ++ 61 :: t := by
   rw [← List.drop_drop, List.drop_left]; rfl
  rw [hg, if_pos rfl, hd, oidN_join (y :: rows) f (off + x.length + 1) false (by simp) hr2 (by simpa using hf) (fun e => by cases e)]
  simp [joinP]; omega
theorem cut_len_le (c : UInt8) : ∀ l : Str, (cutAt c l).length ≤ l.length + 1
 | [] => by simp [cutAt]
 | b :: l => by
  have ih := cut_len_le c l
  obtain ⟨r, rs, hc⟩ := cutAt_ne c l
  unfold cutAt
  rw [hc] at ih ⊢
  split <;> simp at ih ⊢ <;> omega
theorem kind_word {s : Str} (h : wordOk s = true) (t : Str) : kindN (s ++ 61 :: t) = (s.length, true) := by
 have h2 : (oidL s).2 = true := by
  unfold wordOk keyL at h
  split at h
  ·cases h
  ·have e : ruleL 8 s = oidL s := by unfold ruleL; simp
   rw [e] at h
   by_cases e2 : (oidL s).2 = true
   ·exact e2
   ·rw [if_neg e2] at h; cases h
 cases s with
 | nil => simp [oidL] at h2
 | cons b l =>
  unfold oidL at h2
  simp only at h2
  rw [letters_let] at h2
  unfold kindN
  simp only [List.cons_append]
  by_cases hb : isLet b = true
  ·rw [if_pos hb] at h2 ⊢
   simp only at h2
   rw [tail_only] at h2
   have ht : (b :: (l ++ 61 :: t)).takeWhile tailC = b :: l := takeWhile_stop (l := b :: l) t h2 (by decide)
   rw [ht]
   simp
  ·rw [if_neg hb] at h2 ⊢
   by_cases hr : (cutAt 46 (b :: l)).all rowOk = true
   ·rw [if_pos hr] at h2
    simp only [decide_eq_true_eq] at h2
    have hne : cutAt 46 (b :: l) ≠ [] := fun e => by rw [e] at h2; simp at h2
    have := oidN_join (t := t) (cutAt 46 (b :: l)) ((b :: (l ++ 61 :: t)).length + 1) 0 true hne hr (by have := cut_len_le 46 (b :: l); simp at this ⊢; omega) (fun _ => by omega)
    rw [joinP_cut] at this
    simpa using this
   ·rw [if_neg hr] at h2; cases h2
def restP (ps : PRdn) (rs : PName) : Str := rdnP ps ++ rs.flatMap fun r => 44 :: rdnP r
theorem joinP_cons (c : UInt8) (x : Str) (l : List Str) : joinP c (x :: l) = x ++ l.flatMap fun y => c :: y := by
 induction l generalizing x with
 | nil => simp [joinP]
 | cons y l ih => rw [joinP, ih]; simp
theorem nameP_cons (r : PRdn) (l : PName) : nameP (r :: l) = restP r l := by
 unfold nameP restP
 rw [List.map_cons, joinP_cons]
 simp [List.flatMap_map]
theorem restP_one (a : PAva) (rs : PName) : restP [a] rs = avaP a ++ rs.flatMap fun r => 44 :: rdnP r := by unfold restP rdnP; simp [joinP]
theorem restP_more (a b : PAva) (ps : PRdn) (rs : PName) : restP (a :: b :: ps) rs = avaP a ++ 43 :: restP (b :: ps) rs := by
 unfold restP rdnP; simp [joinP]
theorem restP_next (r : PRdn) (rs : PName) : ((r :: rs).flatMap fun r => 44 :: rdnP r) = 44 :: restP r rs := by
 unfold restP; simp
def PairsOk (r : PRdn) : Prop := ∀ a ∈ r, wordOk (toL a.1) = true
def count2 (ps : PRdn) (rs : PName) : Nat := ps.length + (rs.map List.length).sum
theorem baOf_toL (s : ByteArray) : baOf (toL s) = s := by unfold baOf toL; simp
theorem parse_rest (s : Str) : ∀ (f p : Nat) (done : PName) (part ps : PRdn) (rs : PName), s.drop p = restP ps rs → p ≤ s.length → ps ≠ [] → count2 ps rs ≤ f → PairsOk ps → (∀ r ∈ rs, r ≠ [] ∧ r.length ≤ 8 ∧ PairsOk r) →
  part.length + ps.length ≤ 8 → done.length + 1 + rs.length ≤ 64 → parseR s f p done part = .ok (done ++ (part ++ ps) :: rs)
 | f, p, done, part, [], rs, _, _, h, _, _, _, _, _ => absurd rfl h
 | 0, p, done, part, a :: ps, rs, _, _, _, h, _, _, _, _ => by unfold count2 at h; simp at h
 | f + 1, p, done, part, a :: ps, rs, hs, hp, _, hf, ho, hr, h8, h64 => by
  obtain ⟨tl, htl, hsp⟩ : ∃ tl, restP (a :: ps) rs = avaP a ++ tl ∧ Ends tl := by
   cases ps with
   | nil =>
    refine ⟨_, restP_one a rs, ?_⟩
    cases rs with
    | nil => exact .inl rfl
    | cons r rs => exact .inr ⟨44, restP r rs, restP_next r rs, .inl rfl⟩
   | cons b ps => exact ⟨_, restP_more a b ps rs, .inr ⟨43, _, rfl, .inr rfl⟩⟩
  have hw := ho a (by simp)
  have hs1 : s.drop p = toL a.1 ++ 61 :: (showV (toL a.2) ++ tl) := by rw [hs, htl]; unfold avaP; simp
  have hk : kindN (s.drop p) = ((toL a.1).length, true) := by rw [hs1]; exact kind_word hw _
  have hs2 : s.drop (p + (toL a.1).length + 1) = showV (toL a.2) ++ tl := by
   rw [show p + (toL a.1).length + 1 = p + ((toL a.1).length + 1) by omega, ← List.drop_drop, hs1, ← List.drop_drop, List.drop_left]; rfl
  have hv : valR (p + (toL a.1).length + 1) (s.drop (p + (toL a.1).length + 1)) (p + (toL a.1).length + 1) [] none = (toL a.2, p + (toL a.1).length + 1 + (showV (toL a.2)).length, none) := by
   rw [hs2]
   have := valR_show (p + (toL a.1).length + 1) hsp (toL a.2) true 0 (p + (toL a.1).length + 1) [] none (Zr _) (fun e => by cases e) (Nat.zero_le _) (fun x hx => by simp at hx) (fun _ => rfl) (fun _ => rfl)
   simpa [showV] using this
  have hword : (s.drop p).take (toL a.1).length = toL a.1 := by rw [hs1]; simp
  obtain ⟨q, hq⟩ : ∃ q, p + (toL a.1).length + 1 + (showV (toL a.2)).length = q := ⟨_, rfl⟩
  have hsq : s.drop q = tl := by rw [← hq, ← List.drop_drop, hs2, List.drop_left]
  unfold parseR
  simp only [hk, hv, hq, hword, baOf_toL, Bool.true_eq_false, if_false]
  have hps : part.length + 1 ≤ 8 := by simp at h8; omega
  cases ps with
  | nil =>
   have e1 := restP_one a rs
   rw [e1] at htl
   have htl2 := List.append_cancel_left htl
   cases rs with
   | nil =>
    simp at htl2
    subst htl2
    have : s.length ≤ q := by have := congrArg List.length hsq; simp at this; omega
    rw [if_pos this]
   | cons r rs =>
    rw [restP_next] at htl2
    rw [← htl2] at hsq
    have hlt : q < s.length := by have := congrArg List.length hsq; simp at this; omega
    have hc : s[q]? = some 44 := by
     have := congrArg (·[0]?) hsq; simpa using this
    rw [if_neg (by omega), if_pos hc, if_neg (by simp at h64; omega)]
    have hsn : s.drop (q + 1) = restP r rs := by rw [← List.drop_drop, hsq]; rfl
    obtain ⟨r1, r2, r3⟩ := hr r (by simp)
    rw [parse_rest s f (q + 1) (done ++ [part ++ [a]]) [] r rs hsn (by omega) r1 (by unfold count2 at hf ⊢; simp at hf ⊢; omega) r3 (fun x hx => hr x (by simp [hx])) (by simpa using r2) (by simp at h64 ⊢; omega)]
    simp
  | cons b ps =>
   rw [restP_more] at htl
   have htl2 := List.append_cancel_left htl
   rw [← htl2] at hsq
   have hlt : q < s.length := by have := congrArg List.length hsq; simp at this; omega
   have hc : s[q]? = some 43 := by
    have := congrArg (·[0]?) hsq; simpa using this
   rw [if_neg (by omega), if_neg (by rw [hc]; decide), if_neg (by rintro (e | e); omega; simp at e h8; omega)]
   have hsn : s.drop (q + 1) = restP (b :: ps) rs := by rw [← List.drop_drop, hsq]; rfl
   rw [parse_rest s f (q + 1) done (part ++ [a]) (b :: ps) rs hsn (by omega) (by simp) (by unfold count2 at hf ⊢; simp at hf ⊢; omega) (fun x hx => ho x (by simp at hx ⊢; exact .inr hx)) hr (by simp at h8 ⊢; omega) h64]
   simp
theorem print_ok {n : PName} {t : Str} (h : printV n = (t, 0)) : t = nameP n ∧ t.length ≤ 65536 ∧ n.length ≤ 64 ∧ ∀ r ∈ n, r ≠ [] ∧ r.length ≤ 8 ∧ PairsOk r := by
 unfold printV at h
 split at h
 ·cases h
 ·rename_i h1
  split at h
  ·cases h
  ·rename_i h2
   split at h
   ·cases h
   ·rename_i h3
    injection h with h4 _
    have h1a : n.length ≤ 64 := by
     by_cases e : 64 < n.length
     ·exact absurd (.inl e) h1
     ·omega
    have h1b : ∀ r ∈ n, r.length ≤ 8 := fun r hr => by
     by_cases e : 8 < r.length
     ·exact absurd (.inr (List.any_eq_true.2 ⟨r, hr, by simpa using e⟩)) h1
     ·omega
    have h3b : ∀ r ∈ n, ∀ a ∈ r, a.1.size ≤ 65536 := fun r hr a ha => by
     by_cases e : 65536 < a.1.size
     ·exact absurd (.inl (List.any_eq_true.2 ⟨r, hr, List.any_eq_true.2 ⟨a, ha, by simp [e]⟩⟩)) h3
     ·omega
    refine ⟨h4.symm, ?_, h1a, fun r hr => ⟨?_, h1b r hr, fun a ha => ?_⟩⟩
    ·by_cases e : 65536 < (nameP n).length
     ·exact absurd (.inr e) h3
     ·rw [← h4]; omega
    ·rintro rfl
     exact h2 (List.any_eq_true.2 ⟨[], hr, rfl⟩)
    ·by_cases e : typedV (toL a.1) = true
     ·unfold typedV at e
      rw [if_pos (by have := h3b r hr a ha; simpa using this)] at e
      exact e
     ·exact absurd (List.any_eq_true.2 ⟨r, hr, by rw [Bool.or_eq_true]; exact .inr (List.any_eq_true.2 ⟨a, ha, by simpa using e⟩)⟩) h2
theorem count_le (ps : PRdn) (rs : PName) : count2 ps rs ≤ (restP ps rs).length := by
 have hA : ∀ ps : PRdn, ps.length ≤ (rdnP ps).length := fun ps => by
  induction ps with
  | nil => simp
  | cons a ps ih =>
   cases ps with
   | nil => unfold rdnP; simp [joinP, avaP]; omega
   | cons b ps =>
    unfold rdnP at ih ⊢
    simp only [List.map_cons, joinP, List.length_append, List.length_cons] at ih ⊢
    have : 1 ≤ (avaP a).length := by unfold avaP; simp; omega
    omega
 unfold count2 restP
 induction rs with
 | nil => simpa using hA ps
 | cons r rs ih =>
  have := hA r
  simp only [List.map_cons, List.sum_cons, List.flatMap_cons, List.length_append, List.length_cons] at ih ⊢
  omega
theorem parse_print {n : PName} {t : Str} (h : printV n = (t, 0)) : parseV t = .ok n := by
 obtain ⟨ht, hl, hn, hr⟩ := print_ok h
 unfold parseV
 rw [if_neg (by omega)]
 cases n with
 | nil =>
  have : t = [] := by rw [ht]; rfl
  rw [if_pos this]
 | cons r rs =>
  obtain ⟨r1, r2, r3⟩ := hr r (by simp)
  have hc := count_le r rs
  rw [nameP_cons] at ht
  have hne : t ≠ [] := by
   rintro rfl
   rw [← ht] at hc
   unfold count2 at hc
   have : 0 < r.length := List.length_pos_iff.2 r1
   have hc2 : r.length + (rs.map List.length).sum ≤ 0 := hc
   omega
  rw [if_neg hne, parse_rest t (t.length + 1) 0 [] [] r rs (by rw [← ht]; rfl) (Nat.zero_le _) r1 (by rw [ht]; omega) r3 (fun x hx => hr x (by simp [hx])) (by simpa using r2) (by simp at hn ⊢; omega)]
  rfl
def puV : Nat → Str → Option Nat
 | acc, [] => some acc
 | acc, c :: l => if hexd c then puV (acc * 16 + hexv c) l else none
theorem hexd_facts (c : UInt8) : (hexd c = true → hexv c ≤ 15) ∧ (48 ≤ c.toNat → c.toNat ≤ 57 → hexd c = true ∧ hexv c = c.toNat - 48) ∧
  (¬ (48 ≤ c.toNat ∧ c.toNat ≤ 57) → 97 ≤ (c.toNat ||| 32) → (c.toNat ||| 32) ≤ 102 → hexd c = true ∧ hexv c = (c.toNat ||| 32) - 87) ∧
  (¬ (48 ≤ c.toNat ∧ c.toNat ≤ 57) → ¬ (97 ≤ (c.toNat ||| 32) ∧ (c.toNat ||| 32) ≤ 102) → hexd c = false) ∧ (c.toNat ||| 32) < 256 ∧ 32 ≤ (c.toNat ||| 32) := by
 have h := all_bytesN (p := fun c => (!hexd c || decide (hexv c ≤ 15)) && (!(decide (48 ≤ c.toNat) && decide (c.toNat ≤ 57)) || (hexd c && decide (hexv c = c.toNat - 48))) &&
  ((decide (48 ≤ c.toNat) && decide (c.toNat ≤ 57)) || !(decide (97 ≤ (c.toNat ||| 32)) && decide ((c.toNat ||| 32) ≤ 102)) || (hexd c && decide (hexv c = (c.toNat ||| 32) - 87))) &&
  ((decide (48 ≤ c.toNat) && decide (c.toNat ≤ 57)) || (decide (97 ≤ (c.toNat ||| 32)) && decide ((c.toNat ||| 32) ≤ 102)) || !hexd c) && decide ((c.toNat ||| 32) < 256) && decide (32 ≤ (c.toNat ||| 32))) (by decide +kernel) c
 simp only [Bool.and_eq_true, Bool.or_eq_true, Bool.not_eq_true', decide_eq_true_eq, Bool.and_eq_false_iff, decide_eq_false_iff_not] at h
 obtain ⟨⟨⟨⟨⟨h1, h2⟩, h3⟩, h4⟩, h5⟩, h6⟩ := h
 refine ⟨fun h => ?_, fun a b => ?_, fun a b d => ?_, fun a b => ?_, h5, h6⟩
 ·rcases h1 with h1 | h1
  ·rw [h] at h1; cases h1
  ·exact h1
 ·rcases h2 with (h2 | h2) | h2
  ·exact absurd a h2
  ·exact absurd b h2
  ·exact h2
 ·rcases h3 with (h3 | h3 | h3) | h3
  ·exact absurd h3 a
  ·exact absurd b h3
  ·exact absurd d h3
  ·exact h3
 ·rcases h4 with (h4 | h4) | h4
  ·exact absurd h4 a
  ·exact absurd h4 b
  ·exact h4
theorem lowOr (c : UInt8) : bits .or .u8 (c.toNat : Int) 32 = ((c.toNat ||| 32 : Nat) : Int) := by
 have h := all_bytesN (p := fun c => decide (bits .or .u8 (c.toNat : Int) 32 = ((c.toNat ||| 32 : Nat) : Int))) (by decide +kernel) c
 exact of_decide_eq_true h
def puE (r : Option Nat) : Value := match r with
 | some x => .tuple #[.int .u64 (x : Nat), .nilIface]
 | none => .tuple #[.int .u64 0, .iface 243 (.int .i64 2)]
set_option maxRecDepth 100000 in
set_option maxHeartbeats 16000000 in
theorem ipu_any (t : ByteArray) (ht : t.size = 2) (w : World) :
  Calls Tryz.prog 159 #[.string t, .int .i64 16, .int .i64 8] w fun e w' => e = .returned (puE (puV 0 (toL t))) ∧ w' = Lib.bytesWorld w 5 t := by
 have hemp : t.toList.isEmpty = false := by
  rw [← decide_eq_emptyBytes]
  exact decide_eq_false (fun h => by rw [h] at ht; simp at ht)
 have hcv := Lib.run_convert_string_bytes (P := Tryz.prog) w 9 115 5 t (u := .string) Tryz.underlying9 Tryz.underlying115 Tryz.underlying5
 have hB : ∀ j, j < t.size → (Lib.bytesWorld w 5 t).cell? ⟨w.heap.size, j, none⟩ = some (.int .u8 (t.data.toList.getD j 0).toNat) := fun j hj => Lib.bytesWorld_cell w 5 t j hj
 obtain ⟨W1, hW1⟩ : ∃ W1, W1 = Lib.bytesWorld w 5 t := ⟨_, rfl⟩
 rw [← hW1] at hcv hB ⊢
 clear hW1
 obtain ⟨bs, hL⟩ : ∃ bs, bs = toL t := ⟨_, rfl⟩
 have hLn : bs.length = t.size := by rw [hL]; exact Lib.size_eq t
 have hL2 : bs = t.data.toList := hL
 rw [← hL2] at hB
 rw [← hL]
 clear hL hL2
 obtain ⟨R, hR⟩ : ∃ R, R = puE (puV 0 bs) := ⟨_, rfl⟩
 rw [← hR]
 have HR := Zh hR
 clear hR
 have hmv : IntKind.u64.wrap (IntKind.u64.wrap 256 - 1) = 255 := by decide
 go_enter Tryz.func159, Tryz.ntmps159
 go_wp2
 go_loop [12, 13, 101] (fun vu vn vi => ∃ (k acc : Nat) (a : Int), vu = .bool false ∧ vn = .int .u64 a ∧ vi = .int .i64 k ∧ k ≤ t.size ∧ Hid (a = (acc : Int) ∧ (k = 0 → acc = 0) ∧ (k ≤ 1 → acc ≤ 15) ∧ acc ≤ 255 ∧ puV 0 bs = puV acc (bs.drop k)))
  (fun _ _ vi => t.size - (intOf vi).toNat)
 case atStart => exact ⟨0, 0, 0, rfl, rfl, rfl, by omega, rfl, fun _ => rfl, fun _ => by omega, by omega, rfl⟩
 case round =>
  obtain ⟨k, acc, a, rfl, rfl, rfl, hk, hh⟩ := hrel
  obtain ⟨ha, hz0, hz1, hz2, hdec⟩ := hh.out
  clear hh
  have a0 : 0 ≤ a := by omega
  have a1 : a ≤ 255 := by omega
  by_cases hkn : k < t.size
  ·have hc := hB k hkn
   have hdrop : bs.drop k = bs[k]'(by omega) :: bs.drop (k + 1) := List.drop_eq_getElem_cons (by omega)
   have hget : bs.getD k 0 = bs[k]'(by omega) := by simp [List.getD, List.getElem?_eq_getElem (show k < bs.length by omega)]
   rw [hdrop] at hdec
   rw [hget] at hc
   generalize bs[k]'(by omega) = c at hc hdec
   have hc256 : c.toNat < 256 := c.toNat_lt
   have a2 : a ≤ 15 := by omega
   clear hB hdrop hget
   obtain ⟨hx0, hx1, hx2, hx3, hx4, hx5⟩ := hexd_facts c
   have hlow := lowOr c
   by_cases hdig : 48 ≤ c.toNat ∧ c.toNat ≤ 57
   ·obtain ⟨hd0, hd1⟩ := hdig
    obtain ⟨hd, hv⟩ := hx1 hd0 hd1
    have hF : puV acc (c :: bs.drop (k + 1)) = puV (acc * 16 + hexv c) (bs.drop (k + 1)) := by rw [puV, if_pos hd]
    rw [hF] at hdec
    have HN : Hid (a * 16 + ((c.toNat : Int) - 48) = ((acc * 16 + hexv c : Nat) : Int) ∧ (k + 1 = 0 → acc * 16 + hexv c = 0) ∧ (k + 1 ≤ 1 → acc * 16 + hexv c ≤ 15) ∧ acc * 16 + hexv c ≤ 255 ∧ puV 0 bs = puV (acc * 16 + hexv c) (bs.drop (k + 1))) := ⟨by omega, by omega, fun h => by have := hz0 (by omega); omega, by omega, hdec⟩
    have iov : a * 16 + ((c.toNat : Int) - 48) ≤ 255 := by omega
    clear hdec hF ha hz0 hz1 hz2 hx0 hx1 hx2 hx3 hx4 hx5 hlow hd hv
    go_wp2
    refine ⟨⟨k + 1, acc * 16 + hexv c, a * 16 + ((c.toNat : Int) - 48), rfl, (by first | rfl | (congr 1; omega)), (by first | rfl | (congr 1; omega)), by omega, HN⟩, by simp [intOf]; omega⟩
   ·by_cases hlt : 97 ≤ (c.toNat ||| 32) ∧ (c.toNat ||| 32) ≤ 102
    ·obtain ⟨hd, hv⟩ := hx2 hdig hlt.1 hlt.2
     have hF : puV acc (c :: bs.drop (k + 1)) = puV (acc * 16 + hexv c) (bs.drop (k + 1)) := by rw [puV, if_pos hd]
     rw [hF] at hdec
     generalize (c.toNat ||| 32) = l at hlt hv hlow hx4 hx5
     have HN : Hid (a * 16 + ((l : Int) - 97 + 10) = ((acc * 16 + hexv c : Nat) : Int) ∧ (k + 1 = 0 → acc * 16 + hexv c = 0) ∧ (k + 1 ≤ 1 → acc * 16 + hexv c ≤ 15) ∧ acc * 16 + hexv c ≤ 255 ∧ puV 0 bs = puV (acc * 16 + hexv c) (bs.drop (k + 1))) := ⟨by omega, by omega, fun h => by have := hz0 (by omega); omega, by omega, hdec⟩
     have iov : a * 16 + ((l : Int) - 97 + 10) ≤ 255 := by omega
     have hl1 : 97 ≤ l := hlt.1
     have hl2 : l ≤ 102 := hlt.2
     have hne : (c.toNat : Int) ≠ 95 := fun h => by
      have h95 : c.toNat = 95 := by omega
      rw [h95] at hlow
      have h2 : bits .or .u8 ((95 : Nat) : Int) 32 = 127 := by decide
      rw [h2] at hlow; omega
     clear hdec hF ha hz0 hz1 hz2 hx0 hx1 hx2 hx3 hx4 hx5 hd hv hlt
     have hdig2 : (c.toNat : Int) < 48 ∨ 57 < (c.toNat : Int) := by omega
     have hL : ∀ wq, Calls Tryz.prog 200 #[.int .u8 (c.toNat : Int)] wq fun e w' => e = .returned (.int .u8 (l : Int)) ∧ w' = wq := fun wq => by rw [← hlow]; exact Tryz.internal_strconv_lower _ _
     have HL := Zh hL
     clear hL hlow
     rcases hdig2 with hdig2 | hdig2
     ·go_wp2_with (go_at_call 200; refine (HL.out _).mono ?_; rintro e w' ⟨rfl, rfl⟩)
      refine ⟨⟨k + 1, acc * 16 + hexv c, a * 16 + ((l : Int) - 97 + 10), rfl, (by first | rfl | (congr 1; omega)), (by first | rfl | (congr 1; omega)), by omega, HN⟩, by simp [intOf]; omega⟩
     ·go_wp2_with (go_at_call 200; refine (HL.out _).mono ?_; rintro e w' ⟨rfl, rfl⟩)
      refine ⟨⟨k + 1, acc * 16 + hexv c, a * 16 + ((l : Int) - 97 + 10), rfl, (by first | rfl | (congr 1; omega)), (by first | rfl | (congr 1; omega)), by omega, HN⟩, by simp [intOf]; omega⟩
    ·have hd := hx3 hdig hlt
     have hF : puV acc (c :: bs.drop (k + 1)) = none := by rw [puV, if_neg (by rw [hd]; decide)]
     rw [hF] at hdec
     clear hF ha hz0 hz1 hz2 hx0 hx1 hx2 hx3 hd
     have HD := Zh hdec
     clear hdec
     have hL : ∀ wq, Calls Tryz.prog 200 #[.int .u8 (c.toNat : Int)] wq fun e w' => e = .returned (.int .u8 ((c.toNat ||| 32 : Nat) : Int)) ∧ w' = wq := fun wq => by rw [← hlow]; exact Tryz.internal_strconv_lower _ _
     have HL := Zh hL
     generalize (c.toNat ||| 32) = l at hlt hx4 hx5 HL
     clear hL hlow
     have hdig2 : (c.toNat : Int) < 48 ∨ 57 < (c.toNat : Int) := by omega
     have hlt2 : (l : Int) < 97 ∨ (102 < (l : Int) ∧ (l : Int) ≤ 122) ∨ 122 < (l : Int) := by omega
     have hL95 : ∀ wq, Calls Tryz.prog 200 #[.int .u8 95] wq fun e w' => e = .returned (.int .u8 127) ∧ w' = wq := fun wq => by
      have h := Tryz.internal_strconv_lower 95 wq
      rw [show bits .or .u8 95 32 = 127 by decide] at h; exact h
     have HL95 := Zh hL95
     clear hL95
     rcases hdig2 with hdig2 | hdig2 <;> rcases hlt2 with hlt2 | hlt2 | hlt2
     all_goals go_wp2_with (first | (go_at_call 200; refine (HL.out _).mono ?_; rintro e w' ⟨rfl, rfl⟩) | (go_at_call 200; refine (HL95.out _).mono ?_; rintro e w' ⟨rfl, rfl⟩))
     all_goals go_ret2
     all_goals exact ⟨by rw [HR.out, HD.out]; rfl, rfl⟩
  ·have hkk : k = t.size := by omega
   subst hkk
   have hF : puV acc (bs.drop t.size) = some acc := by rw [List.drop_eq_nil_of_le (by omega)]; rfl
   rw [hF] at hdec
   subst ha
   clear hF a0 a1 hz0 hz1 hz2
   go_wp2
   go_ret2
   exact ⟨by rw [HR.out, hdec]; rfl, rfl⟩
end Go.Proofs.YtlmfbjhokkpjhaaGreatDoor
