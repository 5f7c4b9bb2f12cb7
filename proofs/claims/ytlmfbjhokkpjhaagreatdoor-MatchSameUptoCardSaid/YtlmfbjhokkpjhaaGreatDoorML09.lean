/- Part 9 of the walks and plain laws, joined: NameVP, PuC. -/
import Derived.Test.YtlmfbjhokkpjhaaGreatDoorML00
import Derived.Test.YtlmfbjhokkpjhaaGreatDoorML08
import Derived.Test.YtlmfbjhokkpjhaaGreatDoorShelfM
import Derived.Lib.ConvBytes
import Derived.Lib.AtoiErrMem
import Derived.Lib.Hide
import Derived.Laws.Strings3
import Derived.Laws.Closers25
import Derived.Laws.Closers25b
import Derived.WalkKit
import Derived.BigCall
import Derived.BigGuard
import Derived.Below
import Derived.Maps.StringElems
namespace Go.Proofs.YtlmfbjhokkpjhaaGreatDoor
open Go Go.RowKit
theorem all_bytesN {p : UInt8 → Bool} (h : ∀ n, n < 256 → p (UInt8.ofNat n) = true) (b : UInt8) : p b = true := by
 have := h b.toNat b.toNat_lt
 rwa [UInt8.ofNat_toNat] at this
theorem showK_copy : ∀ (k : Nat) (l : Str) (fst : Bool), 1 ≤ k → showK fst l k = l.take k ++ showK false (l.drop k) 0
 | 0, _, _, h => absurd h (by omega)
 | k + 1, [], fst, _ => by simp [showK]
 | k + 1, c :: l, fst, _ => by
  rw [showK]
  by_cases h0 : k = 0
  ·subst h0; simp
  ·rw [showK_copy k l false (by omega)]; simp
theorem chN_spec (l : Str) : (chN l = 0 ∧ ∀ n, 1 ≤ n → n ≤ 4 → n ≤ l.length → Lib.validD (l.take n) = false) ∨
  (1 ≤ chN l ∧ chN l ≤ 4 ∧ chN l ≤ l.length ∧ Lib.validD (l.take (chN l)) = true ∧ ∀ m, 1 ≤ m → m < chN l → Lib.validD (l.take m) = false) := by
 have hq : ∀ n, (decide (n ≤ l.length) && Lib.validD (l.take n)) = false ∨ (n ≤ l.length ∧ Lib.validD (l.take n) = true) := fun n => by
  cases h : (decide (n ≤ l.length) && Lib.validD (l.take n)) with
  | false => exact .inl rfl
  | true => simp at h; exact .inr h
 have no : ∀ n, (decide (n ≤ l.length) && Lib.validD (l.take n)) = false → n ≤ l.length → Lib.validD (l.take n) = false := fun n h hn => by simpa [hn] using h
 unfold chN
 rcases hq 1 with h1 | h1
 ·rcases hq 2 with h2 | h2
  ·rcases hq 3 with h3 | h3
   ·rcases hq 4 with h4 | h4
    ·left
     simp only [List.find?, h1, h2, h3, h4]
     refine ⟨rfl, fun n n1 n4 hn => ?_⟩
     match n, n1, n4 with
     | 1, _, _ => exact no 1 h1 hn
     | 2, _, _ => exact no 2 h2 hn
     | 3, _, _ => exact no 3 h3 hn
     | 4, _, _ => exact no 4 h4 hn
    ·right
     have e : (decide (4 ≤ l.length) && Lib.validD (l.take 4)) = true := by simp [h4.1, h4.2]
     simp only [List.find?, h1, h2, h3, e, Option.getD_some]
     refine ⟨by omega, by omega, h4.1, h4.2, fun m m1 m4 => ?_⟩
     match m, m1, m4 with
     | 1, _, _ => exact no 1 h1 (by omega)
     | 2, _, _ => exact no 2 h2 (by omega)
     | 3, _, _ => exact no 3 h3 (by omega)
   ·right
    have e : (decide (3 ≤ l.length) && Lib.validD (l.take 3)) = true := by simp [h3.1, h3.2]
    simp only [List.find?, h1, h2, e, Option.getD_some]
    refine ⟨by omega, by omega, h3.1, h3.2, fun m m1 m4 => ?_⟩
    match m, m1, m4 with
    | 1, _, _ => exact no 1 h1 (by omega)
    | 2, _, _ => exact no 2 h2 (by omega)
  ·right
   have e : (decide (2 ≤ l.length) && Lib.validD (l.take 2)) = true := by simp [h2.1, h2.2]
   simp only [List.find?, h1, e, Option.getD_some]
   refine ⟨by omega, by omega, h2.1, h2.2, fun m m1 m4 => ?_⟩
   match m, m1, m4 with
   | 1, _, _ => exact no 1 h1 (by omega)
 ·right
  have e : (decide (1 ≤ l.length) && Lib.validD (l.take 1)) = true := by simp [h1.1, h1.2]
  simp only [List.find?, e, Option.getD_some]
  exact ⟨by omega, by omega, h1.1, h1.2, fun m m1 m4 => by omega⟩
theorem valid_one {c : UInt8} (h : c.toNat < 128) : Lib.validD [c] = true := by rw [Lib.validD_cons c [] h]; rfl
theorem chN_low {c : UInt8} (l : Str) (h : c.toNat < 128) : chN (c :: l) = 1 := by
 have e : (decide (1 ≤ (c :: l).length) && Lib.validD ((c :: l).take 1)) = true := by simp [valid_one h]
 unfold chN
 simp only [List.find?, e, Option.getD_some]
theorem valR_nil (st off : Nat) (b : Str) (bare : Option Nat) : valR st [] off b bare = (b, off, bare.map fun p => (50, p)) := by rw [valR]
theorem valR_end {c : UInt8} (h : c = 44 ∨ c = 43) (st : Nat) (l : Str) (off : Nat) (b : Str) (bare : Option Nat) : valR st (c :: l) off b bare = (b, off, bare.map fun p => (50, p)) := by
 rw [valR.eq_def]; simp only; rw [if_pos h]
theorem valR_esc {x : UInt8} (h : escs.contains x = true) (st : Nat) (l : Str) (off : Nat) (b : Str) (bare : Option Nat) : valR st (92 :: x :: l) off b bare = valR st l (off + 2) (b ++ [x]) none := by
 rw [valR.eq_def]; simp only; rw [if_neg (by decide), if_pos trivial, if_pos h]
theorem valR_hex {x y : UInt8} (h : escs.contains x = false) (h2 : (hexd x && hexd y) = true) (st : Nat) (l : Str) (off : Nat) (b : Str) (bare : Option Nat) : valR st (92 :: x :: y :: l) off b bare = valR st l (off + 3) (b ++ [UInt8.ofNat (hexv x * 16 + hexv y)]) none := by
 rw [valR.eq_def]; simp only; rw [if_neg (by decide), if_pos trivial, if_neg (by rw [h]; simp), if_pos h2]
theorem valR_put {c : UInt8} {st off : Nat} (h1 : c ≠ 44) (h2 : c ≠ 43) (h3 : c ≠ 92) (h4 : bads.contains c = false) (h5 : ¬ (off = st ∧ (c = 32 ∨ c = 35))) (l : Str) (b : Str) (bare : Option Nat) :
  valR st (c :: l) off b bare = valR st l (off + 1) (b ++ [c]) (if c = 32 then some off else none) := by
 rw [valR.eq_def]; simp only; rw [if_neg (by rintro (e | e); exact h1 e; exact h2 e), if_neg h3, if_neg (by rintro (e | e); rw [h4] at e; cases e; exact h5 e)]
def Ends (tl : Str) : Prop := tl = [] ∨ ∃ d t, tl = d :: t ∧ (d = 44 ∨ d = 43)
theorem letters_let (b : UInt8) : letters.contains b = isLet b := by
 have := all_bytesN (p := fun b => letters.contains b == isLet b) (by decide +kernel) b
 simpa using this
theorem tail_only (l : Str) : onlyL (letters ++ [45]) l = tailB l := by
 unfold onlyL tailB
 congr 1
 funext b
 have := all_bytesN (p := fun b => (dig b || (letters ++ [45]).contains b) == tailC b) (by decide +kernel) b
 simpa using this
def PairsOk (r : PRdn) : Prop := ∀ a ∈ r, wordOk (toL a.1) = true
theorem baOf_toL (s : ByteArray) : baOf (toL s) = s := by unfold baOf toL; simp
theorem print_ok {n : PName} {t : Str} (h : printV n = (t, 0)) : t = nameP n ∧ t.length ≤ 65536 ∧ n.length ≤ 64 ∧ ∀ r ∈ n, r ≠ [] ∧ r.length ≤ 8 ∧ PairsOk r := by
 unfold printV at h
 split at h
 ·cases h
 ·rename_i h1
  split at h
  ·cases h
  ·rename_i h2
   split at h
   ·cases h
   ·rename_i h3
    injection h with h4 _
    have h1a : n.length ≤ 64 := by
     by_cases e : 64 < n.length
     ·exact absurd (.inl e) h1
     ·omega
    have h1b : ∀ r ∈ n, r.length ≤ 8 := fun r hr => by
     by_cases e : 8 < r.length
     ·exact absurd (.inr (List.any_eq_true.2 ⟨r, hr, by simpa using e⟩)) h1
     ·omega
    have h3b : ∀ r ∈ n, ∀ a ∈ r, a.1.size ≤ 65536 := fun r hr a ha => by
     by_cases e : 65536 < a.1.size
     ·exact absurd (.inl (List.any_eq_true.2 ⟨r, hr, List.any_eq_true.2 ⟨a, ha, by simp [e]⟩⟩)) h3
     ·omega
    refine ⟨h4.symm, ?_, h1a, fun r hr => ⟨?_, h1b r hr, fun a ha => ?_⟩⟩
    ·by_cases e : 65536 < (nameP n).length
     ·exact absurd (.inr e) h3
     ·rw [← h4]; omega
    ·rintro rfl
     exact h2 (List.any_eq_true.2 ⟨[], hr, rfl⟩)
    ·by_cases e : typedV (toL a.1) = true
     ·unfold typedV at e
      rw [if_pos (by have := h3b r hr a ha; simpa using this)] at e
      exact e
     ·exact absurd (List.any_eq_true.2 ⟨r, hr, by rw [Bool.or_eq_true]; exact .inr (List.any_eq_true.2 ⟨a, ha, by simpa using e⟩)⟩) h2
end Go.Proofs.YtlmfbjhokkpjhaaGreatDoor
namespace Go.Proofs.YtlmfbjhokkpjhaaGreatDoor
open Go Go.RowKit
def puV : Nat → Str → Option Nat
 | acc, [] => some acc
 | acc, c :: l => if hexd c then puV (acc * 16 + hexv c) l else none
theorem hexd_facts (c : UInt8) : (hexd c = true → hexv c ≤ 15) ∧ (48 ≤ c.toNat → c.toNat ≤ 57 → hexd c = true ∧ hexv c = c.toNat - 48) ∧
  (¬ (48 ≤ c.toNat ∧ c.toNat ≤ 57) → 97 ≤ (c.toNat ||| 32) → (c.toNat ||| 32) ≤ 102 → hexd c = true ∧ hexv c = (c.toNat ||| 32) - 87) ∧
  (¬ (48 ≤ c.toNat ∧ c.toNat ≤ 57) → ¬ (97 ≤ (c.toNat ||| 32) ∧ (c.toNat ||| 32) ≤ 102) → hexd c = false) ∧ (c.toNat ||| 32) < 256 ∧ 32 ≤ (c.toNat ||| 32) := by
 have h := all_bytesN (p := fun c => (!hexd c || decide (hexv c ≤ 15)) && (!(decide (48 ≤ c.toNat) && decide (c.toNat ≤ 57)) || (hexd c && decide (hexv c = c.toNat - 48))) &&
  ((decide (48 ≤ c.toNat) && decide (c.toNat ≤ 57)) || !(decide (97 ≤ (c.toNat ||| 32)) && decide ((c.toNat ||| 32) ≤ 102)) || (hexd c && decide (hexv c = (c.toNat ||| 32) - 87))) &&
  ((decide (48 ≤ c.toNat) && decide (c.toNat ≤ 57)) || (decide (97 ≤ (c.toNat ||| 32)) && decide ((c.toNat ||| 32) ≤ 102)) || !hexd c) && decide ((c.toNat ||| 32) < 256) && decide (32 ≤ (c.toNat ||| 32))) (by decide +kernel) c
 simp only [Bool.and_eq_true, Bool.or_eq_true, Bool.not_eq_true', decide_eq_true_eq, Bool.and_eq_false_iff, decide_eq_false_iff_not] at h
 obtain ⟨⟨⟨⟨⟨h1, h2⟩, h3⟩, h4⟩, h5⟩, h6⟩ := h
 refine ⟨fun h => ?_, fun a b => ?_, fun a b d => ?_, fun a b => ?_, h5, h6⟩
 ·rcases h1 with h1 | h1
  ·rw [h] at h1; cases h1
  ·exact h1
 ·rcases h2 with (h2 | h2) | h2
  ·exact absurd a h2
  ·exact absurd b h2
  ·exact h2
 ·rcases h3 with (h3 | h3 | h3) | h3
  ·exact absurd h3 a
  ·exact absurd b h3
  ·exact absurd d h3
  ·exact h3
 ·rcases h4 with (h4 | h4) | h4
  ·exact absurd h4 a
  ·exact absurd h4 b
  ·exact h4
theorem lowOr (c : UInt8) : bits .or .u8 (c.toNat : Int) 32 = ((c.toNat ||| 32 : Nat) : Int) := by
 have h := all_bytesN (p := fun c => decide (bits .or .u8 (c.toNat : Int) 32 = ((c.toNat ||| 32 : Nat) : Int))) (by decide +kernel) c
 exact of_decide_eq_true h
def puE (r : Option Nat) : Value := match r with
 | some x => .tuple #[.int .u64 (x : Nat), .nilIface]
 | none => .tuple #[.int .u64 0, .iface 243 (.int .i64 2)]
set_option maxRecDepth 100000 in
set_option maxHeartbeats 16000000 in
theorem ipu_any (t : ByteArray) (ht : t.size = 2) (w : World) :
  Calls Tryz.prog 159 #[.string t, .int .i64 16, .int .i64 8] w fun e w' => e = .returned (puE (puV 0 (toL t))) ∧ w' = Lib.bytesWorld w 5 t := by
 have hemp : t.toList.isEmpty = false := by
  rw [← decide_eq_emptyBytes]
  exact decide_eq_false (fun h => by rw [h] at ht; simp at ht)
 have hcv := Lib.run_convert_string_bytes (P := Tryz.prog) w 9 115 5 t (u := .string) Tryz.underlying9 Tryz.underlying115 Tryz.underlying5
 have hB : ∀ j, j < t.size → (Lib.bytesWorld w 5 t).cell? ⟨w.heap.size, j, none⟩ = some (.int .u8 (t.data.toList.getD j 0).toNat) := fun j hj => Lib.bytesWorld_cell w 5 t j hj
 obtain ⟨W1, hW1⟩ : ∃ W1, W1 = Lib.bytesWorld w 5 t := ⟨_, rfl⟩
 rw [← hW1] at hcv hB ⊢
 clear hW1
 obtain ⟨bs, hL⟩ : ∃ bs, bs = toL t := ⟨_, rfl⟩
 have hLn : bs.length = t.size := by rw [hL]; exact Lib.size_eq t
 have hL2 : bs = t.data.toList := hL
 rw [← hL2] at hB
 rw [← hL]
 clear hL hL2
 obtain ⟨R, hR⟩ : ∃ R, R = puE (puV 0 bs) := ⟨_, rfl⟩
 rw [← hR]
 have HR := Zh hR
 clear hR
 have hmv : IntKind.u64.wrap (IntKind.u64.wrap 256 - 1) = 255 := by decide
 go_enter Tryz.func159, Tryz.ntmps159
 go_wp2
 go_loop [12, 13, 101] (fun vu vn vi => ∃ (k acc : Nat) (a : Int), vu = .bool false ∧ vn = .int .u64 a ∧ vi = .int .i64 k ∧ k ≤ t.size ∧ Hid (a = (acc : Int) ∧ (k = 0 → acc = 0) ∧ (k ≤ 1 → acc ≤ 15) ∧ acc ≤ 255 ∧ puV 0 bs = puV acc (bs.drop k)))
  (fun _ _ vi => t.size - (intOf vi).toNat)
 case atStart => exact ⟨0, 0, 0, rfl, rfl, rfl, by omega, rfl, fun _ => rfl, fun _ => by omega, by omega, rfl⟩
 case round =>
  obtain ⟨k, acc, a, rfl, rfl, rfl, hk, hh⟩ := hrel
  obtain ⟨ha, hz0, hz1, hz2, hdec⟩ := hh.out
  clear hh
  have a0 : 0 ≤ a := by omega
  have a1 : a ≤ 255 := by omega
  by_cases hkn : k < t.size
  ·have hc := hB k hkn
   have hdrop : bs.drop k = bs[k]'(by omega) :: bs.drop (k + 1) := List.drop_eq_getElem_cons (by omega)
   have hget : bs.getD k 0 = bs[k]'(by omega) := by simp [List.getD, List.getElem?_eq_getElem (show k < bs.length by omega)]
   rw [hdrop] at hdec
   rw [hget] at hc
   generalize bs[k]'(by omega) = c at hc hdec
   have hc256 : c.toNat < 256 := c.toNat_lt
   have a2 : a ≤ 15 := by omega
   clear hB hdrop hget
   obtain ⟨hx0, hx1, hx2, hx3, hx4, hx5⟩ := hexd_facts c
   have hlow := lowOr c
   by_cases hdig : 48 ≤ c.toNat ∧ c.toNat ≤ 57
   ·obtain ⟨hd0, hd1⟩ := hdig
    obtain ⟨hd, hv⟩ := hx1 hd0 hd1
    have hF : puV acc (c :: bs.drop (k + 1)) = puV (acc * 16 + hexv c) (bs.drop (k + 1)) := by rw [puV, if_pos hd]
    rw [hF] at hdec
    have HN : Hid (a * 16 + ((c.toNat : Int) - 48) = ((acc * 16 + hexv c : Nat) : Int) ∧ (k + 1 = 0 → acc * 16 + hexv c = 0) ∧ (k + 1 ≤ 1 → acc * 16 + hexv c ≤ 15) ∧ acc * 16 + hexv c ≤ 255 ∧ puV 0 bs = puV (acc * 16 + hexv c) (bs.drop (k + 1))) := ⟨by omega, by omega, fun h => by have := hz0 (by omega); omega, by omega, hdec⟩
    have iov : a * 16 + ((c.toNat : Int) - 48) ≤ 255 := by omega
    clear hdec hF ha hz0 hz1 hz2 hx0 hx1 hx2 hx3 hx4 hx5 hlow hd hv
    go_wp2
    refine ⟨⟨k + 1, acc * 16 + hexv c, a * 16 + ((c.toNat : Int) - 48), rfl, (by first | rfl | (congr 1; omega)), (by first | rfl | (congr 1; omega)), by omega, HN⟩, by simp [intOf]; omega⟩
   ·by_cases hlt : 97 ≤ (c.toNat ||| 32) ∧ (c.toNat ||| 32) ≤ 102
    ·obtain ⟨hd, hv⟩ := hx2 hdig hlt.1 hlt.2
     have hF : puV acc (c :: bs.drop (k + 1)) = puV (acc * 16 + hexv c) (bs.drop (k + 1)) := by rw [puV, if_pos hd]
     rw [hF] at hdec
     generalize (c.toNat ||| 32) = l at hlt hv hlow hx4 hx5
     have HN : Hid (a * 16 + ((l : Int) - 97 + 10) = ((acc * 16 + hexv c : Nat) : Int) ∧ (k + 1 = 0 → acc * 16 + hexv c = 0) ∧ (k + 1 ≤ 1 → acc * 16 + hexv c ≤ 15) ∧ acc * 16 + hexv c ≤ 255 ∧ puV 0 bs = puV (acc * 16 + hexv c) (bs.drop (k + 1))) := ⟨by omega, by omega, fun h => by have := hz0 (by omega); omega, by omega, hdec⟩
     have iov : a * 16 + ((l : Int) - 97 + 10) ≤ 255 := by omega
     have hl1 : 97 ≤ l := hlt.1
     have hl2 : l ≤ 102 := hlt.2
     have hne : (c.toNat : Int) ≠ 95 := fun h => by
      have h95 : c.toNat = 95 := by omega
      rw [h95] at hlow
      have h2 : bits .or .u8 ((95 : Nat) : Int) 32 = 127 := by decide
      rw [h2] at hlow; omega
     clear hdec hF ha hz0 hz1 hz2 hx0 hx1 hx2 hx3 hx4 hx5 hd hv hlt
     have hdig2 : (c.toNat : Int) < 48 ∨ 57 < (c.toNat : Int) := by omega
     have hL : ∀ wq, Calls Tryz.prog 200 #[.int .u8 (c.toNat : Int)] wq fun e w' => e = .returned (.int .u8 (l : Int)) ∧ w' = wq := fun wq => by rw [← hlow]; exact Tryz.internal_strconv_lower _ _
     have HL := Zh hL
     clear hL hlow
     rcases hdig2 with hdig2 | hdig2
     ·go_wp2_with (go_at_call 200; refine (HL.out _).mono ?_; rintro e w' ⟨rfl, rfl⟩)
      refine ⟨⟨k + 1, acc * 16 + hexv c, a * 16 + ((l : Int) - 97 + 10), rfl, (by first | rfl | (congr 1; omega)), (by first | rfl | (congr 1; omega)), by omega, HN⟩, by simp [intOf]; omega⟩
     ·go_wp2_with (go_at_call 200; refine (HL.out _).mono ?_; rintro e w' ⟨rfl, rfl⟩)
      refine ⟨⟨k + 1, acc * 16 + hexv c, a * 16 + ((l : Int) - 97 + 10), rfl, (by first | rfl | (congr 1; omega)), (by first | rfl | (congr 1; omega)), by omega, HN⟩, by simp [intOf]; omega⟩
    ·have hd := hx3 hdig hlt
     have hF : puV acc (c :: bs.drop (k + 1)) = none := by rw [puV, if_neg (by rw [hd]; decide)]
     rw [hF] at hdec
     clear hF ha hz0 hz1 hz2 hx0 hx1 hx2 hx3 hd
     have HD := Zh hdec
     clear hdec
     have hL : ∀ wq, Calls Tryz.prog 200 #[.int .u8 (c.toNat : Int)] wq fun e w' => e = .returned (.int .u8 ((c.toNat ||| 32 : Nat) : Int)) ∧ w' = wq := fun wq => by rw [← hlow]; exact Tryz.internal_strconv_lower _ _
     have HL := Zh hL
     generalize (c.toNat ||| 32) = l at hlt hx4 hx5 HL
     clear hL hlow
     have hdig2 : (c.toNat : Int) < 48 ∨ 57 < (c.toNat : Int) := by omega
     have hlt2 : (l : Int) < 97 ∨ (102 < (l : Int) ∧ (l : Int) ≤ 122) ∨ 122 < (l : Int) := by omega
     have hL95 : ∀ wq, Calls Tryz.prog 200 #[.int .u8 95] wq fun e w' => e = .returned (.int .u8 127) ∧ w' = wq := fun wq => by
      have h := Tryz.internal_strconv_lower 95 wq
      rw [show bits .or .u8 95 32 = 127 by decide] at h; exact h
     have HL95 := Zh hL95
     clear hL95
     rcases hdig2 with hdig2 | hdig2 <;> rcases hlt2 with hlt2 | hlt2 | hlt2
     all_goals go_wp2_with (first | (go_at_call 200; refine (HL.out _).mono ?_; rintro e w' ⟨rfl, rfl⟩) | (go_at_call 200; refine (HL95.out _).mono ?_; rintro e w' ⟨rfl, rfl⟩))
     all_goals go_ret2
     all_goals exact ⟨by rw [HR.out, HD.out]; rfl, rfl⟩
  ·have hkk : k = t.size := by omega
   subst hkk
   have hF : puV acc (bs.drop t.size) = some acc := by rw [List.drop_eq_nil_of_le (by omega)]; rfl
   rw [hF] at hdec
   subst ha
   clear hF a0 a1 hz0 hz1 hz2
   go_wp2
   go_ret2
   exact ⟨by rw [HR.out, hdec]; rfl, rfl⟩
end Go.Proofs.YtlmfbjhokkpjhaaGreatDoor
