/- rosterref01.within, tail, First, Valid: characters and valid texts. -/
import Derived.Test.YtpnnbffhdhbonaaGreatDoorChars
import Derived.Test.YtpnnbffhdhbonaaGreatDoorProg
import Derived.Test.YtpnnbffhdhbonaaGreatDoorShelf
import Derived.Deep.CutRange
import Derived.Deep.DeepCutAuto
namespace Go.Proofs.YtpnnbffhdhbonaaGreatDoor
open Go Go.RowKit

/-- the row of cases by which the reference tells a character's width -/
def widthR (n b0 b1 b2 b3 : Nat) : Nat :=
  if b0 ≤ 127 then 1
  else if (194 ≤ b0 ∧ b0 ≤ 223) ∧ (1 < n ∧ 128 ≤ b1 ∧ b1 ≤ 191) then 2
  else if (b0 = 224 ∧ (160 ≤ b1 ∧ b1 ≤ 191)) ∧ (2 < n ∧ 128 ≤ b2 ∧ b2 ≤ 191) then 3
  else if ((225 ≤ b0 ∧ b0 ≤ 236) ∨ b0 = 238 ∨ b0 = 239) ∧ (2 < n ∧ 128 ≤ b1 ∧ b1 ≤ 191 ∧ 128 ≤ b2 ∧ b2 ≤ 191) then 3
  else if (b0 = 237 ∧ (128 ≤ b1 ∧ b1 ≤ 159)) ∧ (2 < n ∧ 128 ≤ b2 ∧ b2 ≤ 191) then 3
  else if (b0 = 240 ∧ (144 ≤ b1 ∧ b1 ≤ 191)) ∧ (3 < n ∧ 128 ≤ b2 ∧ b2 ≤ 191 ∧ 128 ≤ b3 ∧ b3 ≤ 191) then 4
  else if (241 ≤ b0 ∧ b0 ≤ 243) ∧ (3 < n ∧ 128 ≤ b1 ∧ b1 ≤ 191 ∧ 128 ≤ b2 ∧ b2 ≤ 191 ∧ 128 ≤ b3 ∧ b3 ≤ 191) then 4
  else if (b0 = 244 ∧ (128 ≤ b1 ∧ b1 ≤ 143)) ∧ (3 < n ∧ 128 ≤ b2 ∧ b2 ≤ 191 ∧ 128 ≤ b3 ∧ b3 ≤ 191) then 4
  else 0

theorem widthR_eq (n b0 b1 b2 b3 : Nat) (h0 : b0 < 256) (h1 : b1 < 256) (h2 : b2 < 256) (h3 : b3 < 256) :
    widthR n b0 b1 b2 b3 = if b0 < 128 then 1 else if Lib.decodeN n b0 b1 b2 b3 = (65533, 1) then 0 else (Lib.decodeN n b0 b1 b2 b3).2 := by
  by_cases c : b0 < 128
  · rw [if_pos c]; unfold widthR; rw [if_pos (by omega)]
  rw [if_neg c]
  by_cases w2 : b0 / 32 = 6 ∧ 1 < n ∧ b1 / 64 = 2 ∧ 128 ≤ b0 % 32 * 64 + b1 % 64
  · rw [decodeN_2 _ _ _ _ _ w2, if_neg (by simp)]
    unfold widthR
    rw [if_neg (by omega), if_pos (by omega)]
  by_cases w3 : b0 / 16 = 14 ∧ 2 < n ∧ b1 / 64 = 2 ∧ b2 / 64 = 2 ∧ 2048 ≤ b0 % 16 * 4096 + b1 % 64 * 64 + b2 % 64 ∧ (b0 % 16 * 4096 + b1 % 64 * 64 + b2 % 64 < 55296 ∨ 57344 ≤ b0 % 16 * 4096 + b1 % 64 * 64 + b2 % 64)
  · rw [decodeN_3 _ _ _ _ _ w3, if_neg (by simp)]
    clear w2
    unfold widthR
    rw [if_neg (by omega), if_neg (by omega)]
    by_cases e0 : b0 = 224
    · rw [if_pos (by omega)]
    · rw [if_neg (by omega)]
      by_cases ed : b0 = 237
      · rw [if_neg (by omega), if_pos (by omega)]
      · rw [if_pos (by omega)]
  by_cases w4 : b0 / 8 = 30 ∧ 3 < n ∧ b1 / 64 = 2 ∧ b2 / 64 = 2 ∧ b3 / 64 = 2 ∧ 65536 ≤ b0 % 8 * 262144 + b1 % 64 * 4096 + b2 % 64 * 64 + b3 % 64 ∧ b0 % 8 * 262144 + b1 % 64 * 4096 + b2 % 64 * 64 + b3 % 64 ≤ 1114111
  · rw [decodeN_4 _ _ _ _ _ w4, if_neg (by simp)]
    clear w2 w3
    unfold widthR
    rw [if_neg (by omega), if_neg (by omega), if_neg (by omega), if_neg (by omega), if_neg (by omega)]
    by_cases f0 : b0 = 240
    · rw [if_pos (by omega)]
    · rw [if_neg (by omega)]
      by_cases f4 : b0 = 244
      · rw [if_neg (by omega), if_pos (by omega)]
      · rw [if_pos (by omega)]
  · have hbad : Lib.decodeN n b0 b1 b2 b3 = (65533, 1) := by
      rcases Lib.decodeN_shape n b0 b1 b2 b3 with ⟨a, _⟩ | ⟨a1, a2, a3, a4, _⟩ | ⟨a1, a2, a3, a4, a5, a6, _⟩ | ⟨a1, a2, a3, a4, a5, a6, a7, _⟩ | e
      · omega
      · exact absurd ⟨a1, a2, a3, a4⟩ w2
      · exact absurd ⟨a1, a2, a3, a4, a5, a6⟩ w3
      · exact absurd ⟨a1, a2, a3, a4, a5, a6, a7⟩ w4
      · exact e
    rw [if_pos hbad]
    unfold widthR
    rw [if_neg (by omega), if_neg (by clear w3 w4; omega), if_neg (by clear w2 w4; omega), if_neg (by clear w2 w4; omega), if_neg (by clear w2 w4; omega), if_neg (by clear w2 w3; omega), if_neg (by clear w2 w3; omega), if_neg (by clear w2 w3; omega)]

/-- the width of the character with which a text begins; 0: none -/
def firstL (l : List UInt8) : Nat := if l = [] then 0 else widthR l.length (l.getD 0 0).toNat (l.getD 1 0).toNat (l.getD 2 0).toNat (l.getD 3 0).toNat
theorem firstL_cases (l : List UInt8) (hne : l ≠ []) : (firstL l = 0 ∧ Lib.validD l = false) ∨ (1 ≤ firstL l ∧ firstL l ≤ l.length ∧ Lib.validD l = Lib.validD (l.drop (firstL l))) := by
  have hN := Lib.decodeL_N l
  have hw : firstL l = if (l.getD 0 0).toNat < 128 then 1 else if Lib.decodeL l = (65533, 1) then 0 else (Lib.decodeL l).2 := by
    unfold firstL
    rw [if_neg hne, hN]
    refine widthR_eq _ _ _ _ _ (l.getD 0 0).toNat_lt (l.getD 1 0).toNat_lt (l.getD 2 0).toNat_lt (l.getD 3 0).toNat_lt
  have hl : 0 < l.length := List.length_pos_iff.2 hne
  rcases first_cases l hne with ⟨b, t, rfl, hb, hd⟩ | ⟨c, t, rfl, hc, hd, h2⟩ | ⟨hd, hv⟩
  · right
    rw [if_pos (show ((b :: t).getD 0 0).toNat < 128 from hb)] at hw
    rw [hw]
    exact ⟨Nat.le_refl _, by simp, by rw [Lib.validD_cons b t hb]; rfl⟩
  · right
    have h0 : ¬ ((c ++ t).getD 0 0).toNat < 128 := by
      rw [get_app _ _ 0 (by omega)]
      cases c with
      | nil => simp at h2
      | cons x c => have := hc.high x (by simp); show ¬ x.toNat < 128; omega
    rw [if_neg h0, if_neg (fun e => by rw [e] at hd; show False; simp at hd; omega), hd] at hw
    rw [hw]
    refine ⟨by omega, by simp, ?_⟩
    rw [hc.valid, List.drop_append_of_le_length (by omega), List.drop_of_length_le (by omega)]; rfl
  · left
    by_cases hb : (l.getD 0 0).toNat < 128
    · exfalso
      cases l with
      | nil => exact hne rfl
      | cons b t =>
        have : Lib.decodeL (b :: t) = (b.toNat, 1) := by
          rw [hN]
          rcases Lib.decodeN_shape (b :: t).length b.toNat ((b :: t).getD 1 0).toNat ((b :: t).getD 2 0).toNat ((b :: t).getD 3 0).toNat with ⟨_, e⟩ | ⟨a1, _⟩ | ⟨a1, _⟩ | ⟨a1, _⟩ | e
          · exact e
          · have : b.toNat < 128 := hb; omega
          · have : b.toNat < 128 := hb; omega
          · have : b.toNat < 128 := hb; omega
          · have h128 : b.toNat < 128 := hb
            unfold Lib.decodeN
            rw [if_pos hb]; rfl
        rw [this] at hd
        injection hd with h1 _
        have : b.toNat < 128 := hb
        omega
    · rw [if_neg hb, if_pos hd] at hw
      exact ⟨hw, hv⟩

theorem rwithin_any (c a b : Int) (w : World) : Calls Tryz.prog 100 #[.int .u8 c, .int .u8 a, .int .u8 b] w fun e w' => e = .returned (.bool (decide (a ≤ c ∧ c ≤ b))) ∧ w' = w := by
  by_cases h1 : a ≤ c
  · by_cases h2 : c ≤ b
    · go_enter Tryz.func100, Tryz.ntmps100
      go_wp2_with fail
      go_ret
      exact ⟨by rw [decide_eq_true ⟨h1, h2⟩]; rfl, rfl⟩
    · go_enter Tryz.func100, Tryz.ntmps100
      go_wp2_with fail
      go_ret
      exact ⟨by rw [show decide (c ≤ b) = false from decide_eq_false (by omega)]; rfl, rfl⟩
  · go_enter Tryz.func100, Tryz.ntmps100
    go_wp2_with fail
    go_ret
    exact ⟨by rw [show decide (a ≤ c) = false from decide_eq_false (by omega)]; rfl, rfl⟩

/-- does a byte go on a character? -/
def goesOn (l : List UInt8) (k : Nat) : Bool := decide (k < l.length) && decide (128 ≤ ((l.getD k 0).toNat : Int) ∧ ((l.getD k 0).toNat : Int) ≤ 191)
def tailB (l : List UInt8) (a : Nat) : Nat → Bool
  | 0 => true
  | n + 1 => tailB l a n && goesOn l (a + n)
theorem tailB_false {l : List UInt8} {a i : Nat} : ∀ {n : Nat}, i < n → goesOn l (a + i) = false → tailB l a n = false
  | 0, h, _ => by omega
  | n + 1, h, hf => by
    by_cases e : i = n
    · subst e; show (_ && _) = _; rw [hf, Bool.and_false]
    · show (_ && _) = _; rw [tailB_false (n := n) (by omega) hf, Bool.false_and]

set_option maxRecDepth 20000 in
theorem rtail_any (s : ByteArray) (a n : Nat) (w : World) (hs : s.size ≤ 140737488355327) (ha : a ≤ 4) (hn : n ≤ 4) :
    Calls Tryz.prog 101 #[.string s, .int .i64 a, .int .i64 n] w fun e w' => e = .returned (.bool (tailB s.data.toList a n)) ∧ w' = w := by
  have hsz : s.data.toList.length = s.size := by simp
  have HL := Lib.hid hsz; clear hsz
  go_enter Tryz.func101, Tryz.ntmps101
  go_wp2_with fail
  go_loopw [7] (fun iv wr => ∃ i : Nat, iv = .int .i64 i ∧ i ≤ n ∧ wr = w ∧ tailB s.data.toList a i = true) (fun iv _ => n - (intOf iv).toNat)
  case atStart => exact ⟨0, rfl, Nat.zero_le _, rfl, rfl⟩
  case round =>
    obtain ⟨i, rfl, hi, rfl, ht⟩ := hrel
    have HT := Lib.hid ht; clear ht
    by_cases hin : i < n
    · have i1 : (i : Int) < n := by omega
      by_cases hk : a + i < s.size
      · have k1 : ¬ (s.size : Int) ≤ (a : Int) + i := by omega
        have k2 : (a : Int) + i < s.size := by omega
        have hg : s.data.toList.getD (a + i) 0 = s[a + i] := by rw [List.getD_eq_getElem?_getD, List.getElem?_eq_getElem (by rw [HL.out]; exact hk)]; rfl
        have hgo : goesOn s.data.toList (a + i) = decide (128 ≤ (s[a + i].toNat : Int) ∧ (s[a + i].toNat : Int) ≤ 191) := by
          unfold goesOn; rw [hg, decide_eq_true (show a + i < s.data.toList.length by rw [HL.out]; exact hk), Bool.true_and]
        have HG := Lib.hid hgo; clear hgo hg
        generalize hsb : s[a + i]'hk = b at HG ⊢
        have HW := Lib.hid (fun w => rwithin_any (b.toNat : Int) 128 191 w)
        cases hd : decide (128 ≤ (b.toNat : Int) ∧ (b.toNat : Int) ≤ 191) with
        | true =>
          rw [hd] at HG HW
          clear hd
          go_wp2_with (first
            | (go_at_call 100; with_reducible refine (HW.out _).mono ?_; rintro e w2 ⟨rfl, rfl⟩)
            | fail)
          exact ⟨⟨i + 1, rfl, by omega, trivial, by show (_ && _) = true; rw [HT.out, HG.out]; rfl⟩, by simp [intOf]; omega⟩
        | false =>
          rw [hd] at HG HW
          clear hd
          go_wp2_with (first
            | (go_at_call 100; with_reducible refine (HW.out _).mono ?_; rintro e w2 ⟨rfl, rfl⟩)
            | fail)
          go_ret
          exact ⟨by rw [tailB_false hin HG.out]; rfl, rfl⟩
      · have k1 : (s.size : Int) ≤ (a : Int) + i := by omega
        have hgo : goesOn s.data.toList (a + i) = false := by
          unfold goesOn; rw [decide_eq_false (show ¬ a + i < s.data.toList.length by rw [HL.out]; exact hk), Bool.false_and]
        have HG := Lib.hid hgo; clear hgo
        go_wp2_with fail
        go_ret
        exact ⟨by rw [tailB_false hin HG.out]; rfl, rfl⟩
    · have i1 : ¬ (i : Int) < n := by omega
      have hin2 : i = n := by omega
      have HI := Lib.hid hin2; clear hin2
      go_wp2_with fail
      go_ret
      exact ⟨by rw [← HI.out, HT.out]; rfl, rfl⟩

theorem rwithin_yes {c a b : Int} (w : World) (h : a ≤ c ∧ c ≤ b) : Calls Tryz.prog 100 #[.int .u8 c, .int .u8 a, .int .u8 b] w fun e w' => e = .returned (.bool true) ∧ w' = w := by
  have := rwithin_any c a b w
  rw [decide_eq_true h] at this; exact this
theorem rwithin_no {c a b : Int} (w : World) (h : ¬ (a ≤ c ∧ c ≤ b)) : Calls Tryz.prog 100 #[.int .u8 c, .int .u8 a, .int .u8 b] w fun e w' => e = .returned (.bool false) ∧ w' = w := by
  have := rwithin_any c a b w
  rw [decide_eq_false h] at this; exact this

def widthT (c x : Nat) (t11 t21 t12 t22 t13 : Bool) : Nat :=
  if c ≤ 127 then 1
  else if (194 ≤ c ∧ c ≤ 223) ∧ t11 = true then 2
  else if (c = 224 ∧ (160 ≤ x ∧ x ≤ 191)) ∧ t21 = true then 3
  else if ((225 ≤ c ∧ c ≤ 236) ∨ c = 238 ∨ c = 239) ∧ t12 = true then 3
  else if (c = 237 ∧ (128 ≤ x ∧ x ≤ 159)) ∧ t21 = true then 3
  else if (c = 240 ∧ (144 ≤ x ∧ x ≤ 191)) ∧ t22 = true then 4
  else if (241 ≤ c ∧ c ≤ 243) ∧ t13 = true then 4
  else if (c = 244 ∧ (128 ≤ x ∧ x ≤ 143)) ∧ t22 = true then 4
  else 0

theorem goesOn_iff (l : List UInt8) (k : Nat) : goesOn l k = true ↔ k < l.length ∧ 128 ≤ (l.getD k 0).toNat ∧ (l.getD k 0).toNat ≤ 191 := by
  unfold goesOn
  rw [Bool.and_eq_true, decide_eq_true_iff, decide_eq_true_iff]
  omega
theorem firstL_T (l : List UInt8) (hne : l ≠ []) : firstL l = widthT (l.getD 0 0).toNat (l.getD 1 0).toNat (tailB l 1 1) (tailB l 2 1) (tailB l 1 2) (tailB l 2 2) (tailB l 1 3) := by
  have t11 : tailB l 1 1 = true ↔ goesOn l 1 = true := by show (true && goesOn l 1) = true ↔ _; rw [Bool.true_and]
  have t21 : tailB l 2 1 = true ↔ goesOn l 2 = true := by show (true && goesOn l 2) = true ↔ _; rw [Bool.true_and]
  have t12 : tailB l 1 2 = true ↔ goesOn l 1 = true ∧ goesOn l 2 = true := by show ((true && goesOn l 1) && goesOn l 2) = true ↔ _; rw [Bool.true_and, Bool.and_eq_true]
  have t22 : tailB l 2 2 = true ↔ goesOn l 2 = true ∧ goesOn l 3 = true := by show ((true && goesOn l 2) && goesOn l 3) = true ↔ _; rw [Bool.true_and, Bool.and_eq_true]
  have t13 : tailB l 1 3 = true ↔ (goesOn l 1 = true ∧ goesOn l 2 = true) ∧ goesOn l 3 = true := by show (((true && goesOn l 1) && goesOn l 2) && goesOn l 3) = true ↔ _; rw [Bool.true_and, Bool.and_eq_true, Bool.and_eq_true]
  rw [goesOn_iff] at t11 t21
  rw [goesOn_iff, goesOn_iff] at t12 t22
  rw [goesOn_iff, goesOn_iff, goesOn_iff] at t13
  unfold firstL
  rw [if_neg hne]
  unfold widthR widthT
  generalize tailB l 1 1 = p11 at *
  generalize tailB l 2 1 = p21 at *
  generalize tailB l 1 2 = p12 at *
  generalize tailB l 2 2 = p22 at *
  generalize tailB l 1 3 = p13 at *
  generalize (l.getD 0 0).toNat = c at *
  generalize (l.getD 1 0).toNat = x at *
  generalize (l.getD 2 0).toNat = y at *
  generalize (l.getD 3 0).toNat = z at *
  generalize l.length = n at *
  have e1 : ((225 ≤ c ∧ c ≤ 236 ∨ c = 238 ∨ c = 239) ∧ 2 < n ∧ 128 ≤ x ∧ x ≤ 191 ∧ 128 ≤ y ∧ y ≤ 191) ↔ ((225 ≤ c ∧ c ≤ 236 ∨ c = 238 ∨ c = 239) ∧ (1 < n ∧ 128 ≤ x ∧ x ≤ 191) ∧ 2 < n ∧ 128 ≤ y ∧ y ≤ 191) := by omega
  have e2 : ((c = 240 ∧ 144 ≤ x ∧ x ≤ 191) ∧ 3 < n ∧ 128 ≤ y ∧ y ≤ 191 ∧ 128 ≤ z ∧ z ≤ 191) ↔ ((c = 240 ∧ 144 ≤ x ∧ x ≤ 191) ∧ (2 < n ∧ 128 ≤ y ∧ y ≤ 191) ∧ 3 < n ∧ 128 ≤ z ∧ z ≤ 191) := by omega
  have e3 : ((241 ≤ c ∧ c ≤ 243) ∧ 3 < n ∧ 128 ≤ x ∧ x ≤ 191 ∧ 128 ≤ y ∧ y ≤ 191 ∧ 128 ≤ z ∧ z ≤ 191) ↔ ((241 ≤ c ∧ c ≤ 243) ∧ ((1 < n ∧ 128 ≤ x ∧ x ≤ 191) ∧ 2 < n ∧ 128 ≤ y ∧ y ≤ 191) ∧ 3 < n ∧ 128 ≤ z ∧ z ≤ 191) := by omega
  have e4 : ((c = 244 ∧ 128 ≤ x ∧ x ≤ 143) ∧ 3 < n ∧ 128 ≤ y ∧ y ≤ 191 ∧ 128 ≤ z ∧ z ≤ 191) ↔ ((c = 244 ∧ 128 ≤ x ∧ x ≤ 143) ∧ (2 < n ∧ 128 ≤ y ∧ y ≤ 191) ∧ 3 < n ∧ 128 ≤ z ∧ z ≤ 191) := by omega
  simp only [t11, t21, t12, t22, t13, e1, e2, e3, e4]

set_option maxRecDepth 100000 in
set_option maxHeartbeats 8000000 in
theorem rfirst_any (s : ByteArray) (w : World) (hs : s.size ≤ 140737488355327) :
    Calls Tryz.prog 71 #[.string s] w fun e w' => e = .returned (.int .i64 (firstL s.data.toList)) ∧ w' = w := by
  by_cases hne : s.data.toList = []
  · obtain rfl := empty_of s hne
    go_enter Tryz.func71, Tryz.ntmps71
    go_wp2_with fail
    go_ret
    exact ⟨rfl, rfl⟩
  · have hT := firstL_T s.data.toList hne
    have hp := nonempty_of s hne
    have t11 : ∀ w, Calls Tryz.prog 101 #[.string s, .int .i64 1, .int .i64 1] w fun e w' => e = .returned (.bool (tailB s.data.toList 1 1)) ∧ w' = w := fun w => rtail_any s 1 1 w hs (by decide) (by decide)
    have t21 : ∀ w, Calls Tryz.prog 101 #[.string s, .int .i64 2, .int .i64 1] w fun e w' => e = .returned (.bool (tailB s.data.toList 2 1)) ∧ w' = w := fun w => rtail_any s 2 1 w hs (by decide) (by decide)
    have t12 : ∀ w, Calls Tryz.prog 101 #[.string s, .int .i64 1, .int .i64 2] w fun e w' => e = .returned (.bool (tailB s.data.toList 1 2)) ∧ w' = w := fun w => rtail_any s 1 2 w hs (by decide) (by decide)
    have t22 : ∀ w, Calls Tryz.prog 101 #[.string s, .int .i64 2, .int .i64 2] w fun e w' => e = .returned (.bool (tailB s.data.toList 2 2)) ∧ w' = w := fun w => rtail_any s 2 2 w hs (by decide) (by decide)
    have t13 : ∀ w, Calls Tryz.prog 101 #[.string s, .int .i64 1, .int .i64 3] w fun e w' => e = .returned (.bool (tailB s.data.toList 1 3)) ∧ w' = w := fun w => rtail_any s 1 3 w hs (by decide) (by decide)
    generalize firstL s.data.toList = F at *
    generalize tailB s.data.toList 1 1 = p11 at *
    generalize tailB s.data.toList 2 1 = p21 at *
    generalize tailB s.data.toList 1 2 = p12 at *
    generalize tailB s.data.toList 2 2 = p22 at *
    generalize tailB s.data.toList 1 3 = p13 at *
    have hl : s.data.toList.length = s.size := by simp
    have hg0 : s.data.toList.getD 0 0 = s[0]'hp.2.2 := by rw [List.getD_eq_getElem?_getD, List.getElem?_eq_getElem (by rw [hl]; exact hp.2.2)]; rfl
    have hg1 : ∀ h : 1 < s.size, s.data.toList.getD 1 0 = s[1] := fun h => by rw [List.getD_eq_getElem?_getD, List.getElem?_eq_getElem (by rw [hl]; exact h)]; rfl
    have hg2 : ¬ 1 < s.size → s.data.toList.getD 1 0 = 0 := fun h => by rw [List.getD_eq_getElem?_getD, List.getElem?_eq_none (by rw [hl]; omega)]; rfl
    rw [hg0] at hT
    obtain ⟨b, hb⟩ : ∃ b, s[0]'hp.2.2 = b := ⟨_, rfl⟩
    obtain ⟨x, hx⟩ : ∃ x, s.data.toList.getD 1 0 = x := ⟨_, rfl⟩
    rw [hb, hx] at hT
    rw [hx] at hg1 hg2
    obtain ⟨hp1, hp2, hp3⟩ := hp
    have h0 : (0 : Int) < s.size := by omega
    have HT := Lib.hid hT; have H11 := Lib.hid t11; have H21 := Lib.hid t21; have H12 := Lib.hid t12; have H22 := Lib.hid t22; have H13 := Lib.hid t13
    have HG1 := Lib.hid hg1; have HG2 := Lib.hid hg2
    clear hT t11 t21 t12 t22 t13 hg0 hx hne hl hg1 hg2
    have hbn := b.toNat_lt
    have hxn := x.toNat_lt
    go_enter Tryz.func71, Tryz.ntmps71
    go_upto_if 11 with (fail)
    go_cut [3, 4] (fun u v wx => u = .int .u8 (b.toNat : Int) ∧ v = .int .u8 (x.toNat : Int) ∧ w = wx)
    case first =>
      by_cases h1 : 1 < s.size
      · have h1i : (1 : Int) < s.size := by omega
        have hx1 : s[1] = x := (HG1.out h1).symm
        go_wp2_with fail
        go_meet
        exact ⟨rfl, rfl, rfl⟩
      · have h1i : ¬ (1 : Int) < s.size := by omega
        have hx0 := HG2.out h1
        subst hx0
        go_wp2_with fail
        go_meet
        exact ⟨rfl, rfl, rfl⟩
    case rest =>
      obtain ⟨rfl, rfl, rfl⟩ := hcut
      clear HG1 HG2 hp1 hp2 hp3 h0 hb
      rcases (show b.toNat ≤ 127 ∨ (128 ≤ b.toNat ∧ b.toNat ≤ 193) ∨ (194 ≤ b.toNat ∧ b.toNat ≤ 223) ∨ b.toNat = 224 ∨ (225 ≤ b.toNat ∧ b.toNat ≤ 236) ∨ b.toNat = 237 ∨ b.toNat = 238 ∨ b.toNat = 239 ∨ b.toNat = 240 ∨ (241 ≤ b.toNat ∧ b.toNat ≤ 243) ∨ b.toNat = 244 ∨ 245 ≤ b.toNat by omega) with h | h | h | h | h | h | h | h | h | h | h | h
      · have e224 : ((b.toNat : Int) == 224) = false := beq_eq_false_iff_ne.2 (by omega)
        have e237 : ((b.toNat : Int) == 237) = false := beq_eq_false_iff_ne.2 (by omega)
        have e238 : ((b.toNat : Int) == 238) = false := beq_eq_false_iff_ne.2 (by omega)
        have e239 : ((b.toNat : Int) == 239) = false := beq_eq_false_iff_ne.2 (by omega)
        have e240 : ((b.toNat : Int) == 240) = false := beq_eq_false_iff_ne.2 (by omega)
        have e244 : ((b.toNat : Int) == 244) = false := beq_eq_false_iff_ne.2 (by omega)
        have e127 :  (b.toNat : Int) ≤ 127 := by omega
        have HF := Lib.hid (show F = 1 by rw [HT.out]; unfold widthT; (repeat' split) <;> first | rfl | omega | (exfalso; simp_all; done) | (exfalso; simp_all; omega)); clear HT
        go_wp2_with (first
                  | (go_at_call 100; with_reducible refine (rwithin_yes _ (by omega)).mono ?_; rintro e w2 ⟨rfl, rfl⟩)
                  | (go_at_call 100; with_reducible refine (rwithin_no _ (by omega)).mono ?_; rintro e w2 ⟨rfl, rfl⟩)
                  | (go_at_call 101; with_reducible refine (H11.out _).mono ?_; rintro e w2 ⟨rfl, rfl⟩)
                  | (go_at_call 101; with_reducible refine (H21.out _).mono ?_; rintro e w2 ⟨rfl, rfl⟩)
                  | (go_at_call 101; with_reducible refine (H12.out _).mono ?_; rintro e w2 ⟨rfl, rfl⟩)
                  | (go_at_call 101; with_reducible refine (H22.out _).mono ?_; rintro e w2 ⟨rfl, rfl⟩)
                  | (go_at_call 101; with_reducible refine (H13.out _).mono ?_; rintro e w2 ⟨rfl, rfl⟩)
                  | fail)
        go_ret
        exact ⟨by rw [HF.out]; rfl, rfl⟩
      · have e224 : ((b.toNat : Int) == 224) = false := beq_eq_false_iff_ne.2 (by omega)
        have e237 : ((b.toNat : Int) == 237) = false := beq_eq_false_iff_ne.2 (by omega)
        have e238 : ((b.toNat : Int) == 238) = false := beq_eq_false_iff_ne.2 (by omega)
        have e239 : ((b.toNat : Int) == 239) = false := beq_eq_false_iff_ne.2 (by omega)
        have e240 : ((b.toNat : Int) == 240) = false := beq_eq_false_iff_ne.2 (by omega)
        have e244 : ((b.toNat : Int) == 244) = false := beq_eq_false_iff_ne.2 (by omega)
        have e127 : ¬ (b.toNat : Int) ≤ 127 := by omega
        have HF := Lib.hid (show F = 0 by rw [HT.out]; unfold widthT; (repeat' split) <;> first | rfl | omega | (exfalso; simp_all; done) | (exfalso; simp_all; omega)); clear HT
        go_wp2_with (first
                  | (go_at_call 100; with_reducible refine (rwithin_yes _ (by omega)).mono ?_; rintro e w2 ⟨rfl, rfl⟩)
                  | (go_at_call 100; with_reducible refine (rwithin_no _ (by omega)).mono ?_; rintro e w2 ⟨rfl, rfl⟩)
                  | (go_at_call 101; with_reducible refine (H11.out _).mono ?_; rintro e w2 ⟨rfl, rfl⟩)
                  | (go_at_call 101; with_reducible refine (H21.out _).mono ?_; rintro e w2 ⟨rfl, rfl⟩)
                  | (go_at_call 101; with_reducible refine (H12.out _).mono ?_; rintro e w2 ⟨rfl, rfl⟩)
                  | (go_at_call 101; with_reducible refine (H22.out _).mono ?_; rintro e w2 ⟨rfl, rfl⟩)
                  | (go_at_call 101; with_reducible refine (H13.out _).mono ?_; rintro e w2 ⟨rfl, rfl⟩)
                  | fail)
        go_ret
        exact ⟨by rw [HF.out]; rfl, rfl⟩
      · have h2 := h; clear h
        cases p11
        · have e224 : ((b.toNat : Int) == 224) = false := beq_eq_false_iff_ne.2 (by omega)
          have e237 : ((b.toNat : Int) == 237) = false := beq_eq_false_iff_ne.2 (by omega)
          have e238 : ((b.toNat : Int) == 238) = false := beq_eq_false_iff_ne.2 (by omega)
          have e239 : ((b.toNat : Int) == 239) = false := beq_eq_false_iff_ne.2 (by omega)
          have e240 : ((b.toNat : Int) == 240) = false := beq_eq_false_iff_ne.2 (by omega)
          have e244 : ((b.toNat : Int) == 244) = false := beq_eq_false_iff_ne.2 (by omega)
          have e127 : ¬ (b.toNat : Int) ≤ 127 := by omega
          have HF := Lib.hid (show F = 0 by rw [HT.out]; unfold widthT; (repeat' split) <;> first | rfl | omega | (exfalso; simp_all; done) | (exfalso; simp_all; omega)); clear HT
          go_wp2_with (first
                    | (go_at_call 100; with_reducible refine (rwithin_yes _ (by omega)).mono ?_; rintro e w2 ⟨rfl, rfl⟩)
                    | (go_at_call 100; with_reducible refine (rwithin_no _ (by omega)).mono ?_; rintro e w2 ⟨rfl, rfl⟩)
                    | (go_at_call 101; with_reducible refine (H11.out _).mono ?_; rintro e w2 ⟨rfl, rfl⟩)
                    | (go_at_call 101; with_reducible refine (H21.out _).mono ?_; rintro e w2 ⟨rfl, rfl⟩)
                    | (go_at_call 101; with_reducible refine (H12.out _).mono ?_; rintro e w2 ⟨rfl, rfl⟩)
                    | (go_at_call 101; with_reducible refine (H22.out _).mono ?_; rintro e w2 ⟨rfl, rfl⟩)
                    | (go_at_call 101; with_reducible refine (H13.out _).mono ?_; rintro e w2 ⟨rfl, rfl⟩)
                    | fail)
          go_ret
          exact ⟨by rw [HF.out]; rfl, rfl⟩
        · have e224 : ((b.toNat : Int) == 224) = false := beq_eq_false_iff_ne.2 (by omega)
          have e237 : ((b.toNat : Int) == 237) = false := beq_eq_false_iff_ne.2 (by omega)
          have e238 : ((b.toNat : Int) == 238) = false := beq_eq_false_iff_ne.2 (by omega)
          have e239 : ((b.toNat : Int) == 239) = false := beq_eq_false_iff_ne.2 (by omega)
          have e240 : ((b.toNat : Int) == 240) = false := beq_eq_false_iff_ne.2 (by omega)
          have e244 : ((b.toNat : Int) == 244) = false := beq_eq_false_iff_ne.2 (by omega)
          have e127 : ¬ (b.toNat : Int) ≤ 127 := by omega
          have HF := Lib.hid (show F = 2 by rw [HT.out]; unfold widthT; (repeat' split) <;> first | rfl | omega | (exfalso; simp_all; done) | (exfalso; simp_all; omega)); clear HT
          go_wp2_with (first
                    | (go_at_call 100; with_reducible refine (rwithin_yes _ (by omega)).mono ?_; rintro e w2 ⟨rfl, rfl⟩)
                    | (go_at_call 100; with_reducible refine (rwithin_no _ (by omega)).mono ?_; rintro e w2 ⟨rfl, rfl⟩)
                    | (go_at_call 101; with_reducible refine (H11.out _).mono ?_; rintro e w2 ⟨rfl, rfl⟩)
                    | (go_at_call 101; with_reducible refine (H21.out _).mono ?_; rintro e w2 ⟨rfl, rfl⟩)
                    | (go_at_call 101; with_reducible refine (H12.out _).mono ?_; rintro e w2 ⟨rfl, rfl⟩)
                    | (go_at_call 101; with_reducible refine (H22.out _).mono ?_; rintro e w2 ⟨rfl, rfl⟩)
                    | (go_at_call 101; with_reducible refine (H13.out _).mono ?_; rintro e w2 ⟨rfl, rfl⟩)
                    | fail)
          go_ret
          exact ⟨by rw [HF.out]; rfl, rfl⟩
      · have h2 := And.intro (Nat.le_of_eq h) (Nat.le_of_eq h.symm); clear h
        by_cases hx : 160 ≤ x.toNat ∧ x.toNat ≤ 191
        · cases p21
          · have e224 : ((b.toNat : Int) == 224) = true := beq_iff_eq.2 (by omega)
            have e237 : ((b.toNat : Int) == 237) = false := beq_eq_false_iff_ne.2 (by omega)
            have e238 : ((b.toNat : Int) == 238) = false := beq_eq_false_iff_ne.2 (by omega)
            have e239 : ((b.toNat : Int) == 239) = false := beq_eq_false_iff_ne.2 (by omega)
            have e240 : ((b.toNat : Int) == 240) = false := beq_eq_false_iff_ne.2 (by omega)
            have e244 : ((b.toNat : Int) == 244) = false := beq_eq_false_iff_ne.2 (by omega)
            have e127 : ¬ (b.toNat : Int) ≤ 127 := by omega
            have HF := Lib.hid (show F = 0 by rw [HT.out]; unfold widthT; (repeat' split) <;> first | rfl | omega | (exfalso; simp_all; done) | (exfalso; simp_all; omega)); clear HT
            go_wp2_with (first
                      | (go_at_call 100; with_reducible refine (rwithin_yes _ (by omega)).mono ?_; rintro e w2 ⟨rfl, rfl⟩)
                      | (go_at_call 100; with_reducible refine (rwithin_no _ (by omega)).mono ?_; rintro e w2 ⟨rfl, rfl⟩)
                      | (go_at_call 101; with_reducible refine (H11.out _).mono ?_; rintro e w2 ⟨rfl, rfl⟩)
                      | (go_at_call 101; with_reducible refine (H21.out _).mono ?_; rintro e w2 ⟨rfl, rfl⟩)
                      | (go_at_call 101; with_reducible refine (H12.out _).mono ?_; rintro e w2 ⟨rfl, rfl⟩)
                      | (go_at_call 101; with_reducible refine (H22.out _).mono ?_; rintro e w2 ⟨rfl, rfl⟩)
                      | (go_at_call 101; with_reducible refine (H13.out _).mono ?_; rintro e w2 ⟨rfl, rfl⟩)
                      | fail)
            go_ret
            exact ⟨by rw [HF.out]; rfl, rfl⟩
          · have e224 : ((b.toNat : Int) == 224) = true := beq_iff_eq.2 (by omega)
            have e237 : ((b.toNat : Int) == 237) = false := beq_eq_false_iff_ne.2 (by omega)
            have e238 : ((b.toNat : Int) == 238) = false := beq_eq_false_iff_ne.2 (by omega)
            have e239 : ((b.toNat : Int) == 239) = false := beq_eq_false_iff_ne.2 (by omega)
            have e240 : ((b.toNat : Int) == 240) = false := beq_eq_false_iff_ne.2 (by omega)
            have e244 : ((b.toNat : Int) == 244) = false := beq_eq_false_iff_ne.2 (by omega)
            have e127 : ¬ (b.toNat : Int) ≤ 127 := by omega
            have HF := Lib.hid (show F = 3 by rw [HT.out]; unfold widthT; (repeat' split) <;> first | rfl | omega | (exfalso; simp_all; done) | (exfalso; simp_all; omega)); clear HT
            go_wp2_with (first
                      | (go_at_call 100; with_reducible refine (rwithin_yes _ (by omega)).mono ?_; rintro e w2 ⟨rfl, rfl⟩)
                      | (go_at_call 100; with_reducible refine (rwithin_no _ (by omega)).mono ?_; rintro e w2 ⟨rfl, rfl⟩)
                      | (go_at_call 101; with_reducible refine (H11.out _).mono ?_; rintro e w2 ⟨rfl, rfl⟩)
                      | (go_at_call 101; with_reducible refine (H21.out _).mono ?_; rintro e w2 ⟨rfl, rfl⟩)
                      | (go_at_call 101; with_reducible refine (H12.out _).mono ?_; rintro e w2 ⟨rfl, rfl⟩)
                      | (go_at_call 101; with_reducible refine (H22.out _).mono ?_; rintro e w2 ⟨rfl, rfl⟩)
                      | (go_at_call 101; with_reducible refine (H13.out _).mono ?_; rintro e w2 ⟨rfl, rfl⟩)
                      | fail)
            go_ret
            exact ⟨by rw [HF.out]; rfl, rfl⟩
        · have e224 : ((b.toNat : Int) == 224) = true := beq_iff_eq.2 (by omega)
          have e237 : ((b.toNat : Int) == 237) = false := beq_eq_false_iff_ne.2 (by omega)
          have e238 : ((b.toNat : Int) == 238) = false := beq_eq_false_iff_ne.2 (by omega)
          have e239 : ((b.toNat : Int) == 239) = false := beq_eq_false_iff_ne.2 (by omega)
          have e240 : ((b.toNat : Int) == 240) = false := beq_eq_false_iff_ne.2 (by omega)
          have e244 : ((b.toNat : Int) == 244) = false := beq_eq_false_iff_ne.2 (by omega)
          have e127 : ¬ (b.toNat : Int) ≤ 127 := by omega
          have HF := Lib.hid (show F = 0 by rw [HT.out]; unfold widthT; (repeat' split) <;> first | rfl | omega | (exfalso; simp_all; done) | (exfalso; simp_all; omega)); clear HT
          go_wp2_with (first
                    | (go_at_call 100; with_reducible refine (rwithin_yes _ (by omega)).mono ?_; rintro e w2 ⟨rfl, rfl⟩)
                    | (go_at_call 100; with_reducible refine (rwithin_no _ (by omega)).mono ?_; rintro e w2 ⟨rfl, rfl⟩)
                    | (go_at_call 101; with_reducible refine (H11.out _).mono ?_; rintro e w2 ⟨rfl, rfl⟩)
                    | (go_at_call 101; with_reducible refine (H21.out _).mono ?_; rintro e w2 ⟨rfl, rfl⟩)
                    | (go_at_call 101; with_reducible refine (H12.out _).mono ?_; rintro e w2 ⟨rfl, rfl⟩)
                    | (go_at_call 101; with_reducible refine (H22.out _).mono ?_; rintro e w2 ⟨rfl, rfl⟩)
                    | (go_at_call 101; with_reducible refine (H13.out _).mono ?_; rintro e w2 ⟨rfl, rfl⟩)
                    | fail)
          go_ret
          exact ⟨by rw [HF.out]; rfl, rfl⟩
      · have h2 := h; clear h
        cases p12
        · have e224 : ((b.toNat : Int) == 224) = false := beq_eq_false_iff_ne.2 (by omega)
          have e237 : ((b.toNat : Int) == 237) = false := beq_eq_false_iff_ne.2 (by omega)
          have e238 : ((b.toNat : Int) == 238) = false := beq_eq_false_iff_ne.2 (by omega)
          have e239 : ((b.toNat : Int) == 239) = false := beq_eq_false_iff_ne.2 (by omega)
          have e240 : ((b.toNat : Int) == 240) = false := beq_eq_false_iff_ne.2 (by omega)
          have e244 : ((b.toNat : Int) == 244) = false := beq_eq_false_iff_ne.2 (by omega)
          have e127 : ¬ (b.toNat : Int) ≤ 127 := by omega
          have HF := Lib.hid (show F = 0 by rw [HT.out]; unfold widthT; (repeat' split) <;> first | rfl | omega | (exfalso; simp_all; done) | (exfalso; simp_all; omega)); clear HT
          go_wp2_with (first
                    | (go_at_call 100; with_reducible refine (rwithin_yes _ (by omega)).mono ?_; rintro e w2 ⟨rfl, rfl⟩)
                    | (go_at_call 100; with_reducible refine (rwithin_no _ (by omega)).mono ?_; rintro e w2 ⟨rfl, rfl⟩)
                    | (go_at_call 101; with_reducible refine (H11.out _).mono ?_; rintro e w2 ⟨rfl, rfl⟩)
                    | (go_at_call 101; with_reducible refine (H21.out _).mono ?_; rintro e w2 ⟨rfl, rfl⟩)
                    | (go_at_call 101; with_reducible refine (H12.out _).mono ?_; rintro e w2 ⟨rfl, rfl⟩)
                    | (go_at_call 101; with_reducible refine (H22.out _).mono ?_; rintro e w2 ⟨rfl, rfl⟩)
                    | (go_at_call 101; with_reducible refine (H13.out _).mono ?_; rintro e w2 ⟨rfl, rfl⟩)
                    | fail)
          go_ret
          exact ⟨by rw [HF.out]; rfl, rfl⟩
        · have e224 : ((b.toNat : Int) == 224) = false := beq_eq_false_iff_ne.2 (by omega)
          have e237 : ((b.toNat : Int) == 237) = false := beq_eq_false_iff_ne.2 (by omega)
          have e238 : ((b.toNat : Int) == 238) = false := beq_eq_false_iff_ne.2 (by omega)
          have e239 : ((b.toNat : Int) == 239) = false := beq_eq_false_iff_ne.2 (by omega)
          have e240 : ((b.toNat : Int) == 240) = false := beq_eq_false_iff_ne.2 (by omega)
          have e244 : ((b.toNat : Int) == 244) = false := beq_eq_false_iff_ne.2 (by omega)
          have e127 : ¬ (b.toNat : Int) ≤ 127 := by omega
          have HF := Lib.hid (show F = 3 by rw [HT.out]; unfold widthT; (repeat' split) <;> first | rfl | omega | (exfalso; simp_all; done) | (exfalso; simp_all; omega)); clear HT
          go_wp2_with (first
                    | (go_at_call 100; with_reducible refine (rwithin_yes _ (by omega)).mono ?_; rintro e w2 ⟨rfl, rfl⟩)
                    | (go_at_call 100; with_reducible refine (rwithin_no _ (by omega)).mono ?_; rintro e w2 ⟨rfl, rfl⟩)
                    | (go_at_call 101; with_reducible refine (H11.out _).mono ?_; rintro e w2 ⟨rfl, rfl⟩)
                    | (go_at_call 101; with_reducible refine (H21.out _).mono ?_; rintro e w2 ⟨rfl, rfl⟩)
                    | (go_at_call 101; with_reducible refine (H12.out _).mono ?_; rintro e w2 ⟨rfl, rfl⟩)
                    | (go_at_call 101; with_reducible refine (H22.out _).mono ?_; rintro e w2 ⟨rfl, rfl⟩)
                    | (go_at_call 101; with_reducible refine (H13.out _).mono ?_; rintro e w2 ⟨rfl, rfl⟩)
                    | fail)
          go_ret
          exact ⟨by rw [HF.out]; rfl, rfl⟩
      · have h2 := And.intro (Nat.le_of_eq h) (Nat.le_of_eq h.symm); clear h
        by_cases hx : 128 ≤ x.toNat ∧ x.toNat ≤ 159
        · cases p21
          · have e224 : ((b.toNat : Int) == 224) = false := beq_eq_false_iff_ne.2 (by omega)
            have e237 : ((b.toNat : Int) == 237) = true := beq_iff_eq.2 (by omega)
            have e238 : ((b.toNat : Int) == 238) = false := beq_eq_false_iff_ne.2 (by omega)
            have e239 : ((b.toNat : Int) == 239) = false := beq_eq_false_iff_ne.2 (by omega)
            have e240 : ((b.toNat : Int) == 240) = false := beq_eq_false_iff_ne.2 (by omega)
            have e244 : ((b.toNat : Int) == 244) = false := beq_eq_false_iff_ne.2 (by omega)
            have e127 : ¬ (b.toNat : Int) ≤ 127 := by omega
            have HF := Lib.hid (show F = 0 by rw [HT.out]; unfold widthT; (repeat' split) <;> first | rfl | omega | (exfalso; simp_all; done) | (exfalso; simp_all; omega)); clear HT
            go_wp2_with (first
                      | (go_at_call 100; with_reducible refine (rwithin_yes _ (by omega)).mono ?_; rintro e w2 ⟨rfl, rfl⟩)
                      | (go_at_call 100; with_reducible refine (rwithin_no _ (by omega)).mono ?_; rintro e w2 ⟨rfl, rfl⟩)
                      | (go_at_call 101; with_reducible refine (H11.out _).mono ?_; rintro e w2 ⟨rfl, rfl⟩)
                      | (go_at_call 101; with_reducible refine (H21.out _).mono ?_; rintro e w2 ⟨rfl, rfl⟩)
                      | (go_at_call 101; with_reducible refine (H12.out _).mono ?_; rintro e w2 ⟨rfl, rfl⟩)
                      | (go_at_call 101; with_reducible refine (H22.out _).mono ?_; rintro e w2 ⟨rfl, rfl⟩)
                      | (go_at_call 101; with_reducible refine (H13.out _).mono ?_; rintro e w2 ⟨rfl, rfl⟩)
                      | fail)
            go_ret
            exact ⟨by rw [HF.out]; rfl, rfl⟩
          · have e224 : ((b.toNat : Int) == 224) = false := beq_eq_false_iff_ne.2 (by omega)
            have e237 : ((b.toNat : Int) == 237) = true := beq_iff_eq.2 (by omega)
            have e238 : ((b.toNat : Int) == 238) = false := beq_eq_false_iff_ne.2 (by omega)
            have e239 : ((b.toNat : Int) == 239) = false := beq_eq_false_iff_ne.2 (by omega)
            have e240 : ((b.toNat : Int) == 240) = false := beq_eq_false_iff_ne.2 (by omega)
            have e244 : ((b.toNat : Int) == 244) = false := beq_eq_false_iff_ne.2 (by omega)
            have e127 : ¬ (b.toNat : Int) ≤ 127 := by omega
            have HF := Lib.hid (show F = 3 by rw [HT.out]; unfold widthT; (repeat' split) <;> first | rfl | omega | (exfalso; simp_all; done) | (exfalso; simp_all; omega)); clear HT
            go_wp2_with (first
                      | (go_at_call 100; with_reducible refine (rwithin_yes _ (by omega)).mono ?_; rintro e w2 ⟨rfl, rfl⟩)
                      | (go_at_call 100; with_reducible refine (rwithin_no _ (by omega)).mono ?_; rintro e w2 ⟨rfl, rfl⟩)
                      | (go_at_call 101; with_reducible refine (H11.out _).mono ?_; rintro e w2 ⟨rfl, rfl⟩)
                      | (go_at_call 101; with_reducible refine (H21.out _).mono ?_; rintro e w2 ⟨rfl, rfl⟩)
                      | (go_at_call 101; with_reducible refine (H12.out _).mono ?_; rintro e w2 ⟨rfl, rfl⟩)
                      | (go_at_call 101; with_reducible refine (H22.out _).mono ?_; rintro e w2 ⟨rfl, rfl⟩)
                      | (go_at_call 101; with_reducible refine (H13.out _).mono ?_; rintro e w2 ⟨rfl, rfl⟩)
                      | fail)
            go_ret
            exact ⟨by rw [HF.out]; rfl, rfl⟩
        · have e224 : ((b.toNat : Int) == 224) = false := beq_eq_false_iff_ne.2 (by omega)
          have e237 : ((b.toNat : Int) == 237) = true := beq_iff_eq.2 (by omega)
          have e238 : ((b.toNat : Int) == 238) = false := beq_eq_false_iff_ne.2 (by omega)
          have e239 : ((b.toNat : Int) == 239) = false := beq_eq_false_iff_ne.2 (by omega)
          have e240 : ((b.toNat : Int) == 240) = false := beq_eq_false_iff_ne.2 (by omega)
          have e244 : ((b.toNat : Int) == 244) = false := beq_eq_false_iff_ne.2 (by omega)
          have e127 : ¬ (b.toNat : Int) ≤ 127 := by omega
          have HF := Lib.hid (show F = 0 by rw [HT.out]; unfold widthT; (repeat' split) <;> first | rfl | omega | (exfalso; simp_all; done) | (exfalso; simp_all; omega)); clear HT
          go_wp2_with (first
                    | (go_at_call 100; with_reducible refine (rwithin_yes _ (by omega)).mono ?_; rintro e w2 ⟨rfl, rfl⟩)
                    | (go_at_call 100; with_reducible refine (rwithin_no _ (by omega)).mono ?_; rintro e w2 ⟨rfl, rfl⟩)
                    | (go_at_call 101; with_reducible refine (H11.out _).mono ?_; rintro e w2 ⟨rfl, rfl⟩)
                    | (go_at_call 101; with_reducible refine (H21.out _).mono ?_; rintro e w2 ⟨rfl, rfl⟩)
                    | (go_at_call 101; with_reducible refine (H12.out _).mono ?_; rintro e w2 ⟨rfl, rfl⟩)
                    | (go_at_call 101; with_reducible refine (H22.out _).mono ?_; rintro e w2 ⟨rfl, rfl⟩)
                    | (go_at_call 101; with_reducible refine (H13.out _).mono ?_; rintro e w2 ⟨rfl, rfl⟩)
                    | fail)
          go_ret
          exact ⟨by rw [HF.out]; rfl, rfl⟩
      · have h2 := And.intro (Nat.le_of_eq h) (Nat.le_of_eq h.symm); clear h
        cases p12
        · have e224 : ((b.toNat : Int) == 224) = false := beq_eq_false_iff_ne.2 (by omega)
          have e237 : ((b.toNat : Int) == 237) = false := beq_eq_false_iff_ne.2 (by omega)
          have e238 : ((b.toNat : Int) == 238) = true := beq_iff_eq.2 (by omega)
          have e239 : ((b.toNat : Int) == 239) = false := beq_eq_false_iff_ne.2 (by omega)
          have e240 : ((b.toNat : Int) == 240) = false := beq_eq_false_iff_ne.2 (by omega)
          have e244 : ((b.toNat : Int) == 244) = false := beq_eq_false_iff_ne.2 (by omega)
          have e127 : ¬ (b.toNat : Int) ≤ 127 := by omega
          have HF := Lib.hid (show F = 0 by rw [HT.out]; unfold widthT; (repeat' split) <;> first | rfl | omega | (exfalso; simp_all; done) | (exfalso; simp_all; omega)); clear HT
          go_wp2_with (first
                    | (go_at_call 100; with_reducible refine (rwithin_yes _ (by omega)).mono ?_; rintro e w2 ⟨rfl, rfl⟩)
                    | (go_at_call 100; with_reducible refine (rwithin_no _ (by omega)).mono ?_; rintro e w2 ⟨rfl, rfl⟩)
                    | (go_at_call 101; with_reducible refine (H11.out _).mono ?_; rintro e w2 ⟨rfl, rfl⟩)
                    | (go_at_call 101; with_reducible refine (H21.out _).mono ?_; rintro e w2 ⟨rfl, rfl⟩)
                    | (go_at_call 101; with_reducible refine (H12.out _).mono ?_; rintro e w2 ⟨rfl, rfl⟩)
                    | (go_at_call 101; with_reducible refine (H22.out _).mono ?_; rintro e w2 ⟨rfl, rfl⟩)
                    | (go_at_call 101; with_reducible refine (H13.out _).mono ?_; rintro e w2 ⟨rfl, rfl⟩)
                    | fail)
          go_ret
          exact ⟨by rw [HF.out]; rfl, rfl⟩
        · have e224 : ((b.toNat : Int) == 224) = false := beq_eq_false_iff_ne.2 (by omega)
          have e237 : ((b.toNat : Int) == 237) = false := beq_eq_false_iff_ne.2 (by omega)
          have e238 : ((b.toNat : Int) == 238) = true := beq_iff_eq.2 (by omega)
          have e239 : ((b.toNat : Int) == 239) = false := beq_eq_false_iff_ne.2 (by omega)
          have e240 : ((b.toNat : Int) == 240) = false := beq_eq_false_iff_ne.2 (by omega)
          have e244 : ((b.toNat : Int) == 244) = false := beq_eq_false_iff_ne.2 (by omega)
          have e127 : ¬ (b.toNat : Int) ≤ 127 := by omega
          have HF := Lib.hid (show F = 3 by rw [HT.out]; unfold widthT; (repeat' split) <;> first | rfl | omega | (exfalso; simp_all; done) | (exfalso; simp_all; omega)); clear HT
          go_wp2_with (first
                    | (go_at_call 100; with_reducible refine (rwithin_yes _ (by omega)).mono ?_; rintro e w2 ⟨rfl, rfl⟩)
                    | (go_at_call 100; with_reducible refine (rwithin_no _ (by omega)).mono ?_; rintro e w2 ⟨rfl, rfl⟩)
                    | (go_at_call 101; with_reducible refine (H11.out _).mono ?_; rintro e w2 ⟨rfl, rfl⟩)
                    | (go_at_call 101; with_reducible refine (H21.out _).mono ?_; rintro e w2 ⟨rfl, rfl⟩)
                    | (go_at_call 101; with_reducible refine (H12.out _).mono ?_; rintro e w2 ⟨rfl, rfl⟩)
                    | (go_at_call 101; with_reducible refine (H22.out _).mono ?_; rintro e w2 ⟨rfl, rfl⟩)
                    | (go_at_call 101; with_reducible refine (H13.out _).mono ?_; rintro e w2 ⟨rfl, rfl⟩)
                    | fail)
          go_ret
          exact ⟨by rw [HF.out]; rfl, rfl⟩
      · have h2 := And.intro (Nat.le_of_eq h) (Nat.le_of_eq h.symm); clear h
        cases p12
        · have e224 : ((b.toNat : Int) == 224) = false := beq_eq_false_iff_ne.2 (by omega)
          have e237 : ((b.toNat : Int) == 237) = false := beq_eq_false_iff_ne.2 (by omega)
          have e238 : ((b.toNat : Int) == 238) = false := beq_eq_false_iff_ne.2 (by omega)
          have e239 : ((b.toNat : Int) == 239) = true := beq_iff_eq.2 (by omega)
          have e240 : ((b.toNat : Int) == 240) = false := beq_eq_false_iff_ne.2 (by omega)
          have e244 : ((b.toNat : Int) == 244) = false := beq_eq_false_iff_ne.2 (by omega)
          have e127 : ¬ (b.toNat : Int) ≤ 127 := by omega
          have HF := Lib.hid (show F = 0 by rw [HT.out]; unfold widthT; (repeat' split) <;> first | rfl | omega | (exfalso; simp_all; done) | (exfalso; simp_all; omega)); clear HT
          go_wp2_with (first
                    | (go_at_call 100; with_reducible refine (rwithin_yes _ (by omega)).mono ?_; rintro e w2 ⟨rfl, rfl⟩)
                    | (go_at_call 100; with_reducible refine (rwithin_no _ (by omega)).mono ?_; rintro e w2 ⟨rfl, rfl⟩)
                    | (go_at_call 101; with_reducible refine (H11.out _).mono ?_; rintro e w2 ⟨rfl, rfl⟩)
                    | (go_at_call 101; with_reducible refine (H21.out _).mono ?_; rintro e w2 ⟨rfl, rfl⟩)
                    | (go_at_call 101; with_reducible refine (H12.out _).mono ?_; rintro e w2 ⟨rfl, rfl⟩)
                    | (go_at_call 101; with_reducible refine (H22.out _).mono ?_; rintro e w2 ⟨rfl, rfl⟩)
                    | (go_at_call 101; with_reducible refine (H13.out _).mono ?_; rintro e w2 ⟨rfl, rfl⟩)
                    | fail)
          go_ret
          exact ⟨by rw [HF.out]; rfl, rfl⟩
        · have e224 : ((b.toNat : Int) == 224) = false := beq_eq_false_iff_ne.2 (by omega)
          have e237 : ((b.toNat : Int) == 237) = false := beq_eq_false_iff_ne.2 (by omega)
          have e238 : ((b.toNat : Int) == 238) = false := beq_eq_false_iff_ne.2 (by omega)
          have e239 : ((b.toNat : Int) == 239) = true := beq_iff_eq.2 (by omega)
          have e240 : ((b.toNat : Int) == 240) = false := beq_eq_false_iff_ne.2 (by omega)
          have e244 : ((b.toNat : Int) == 244) = false := beq_eq_false_iff_ne.2 (by omega)
          have e127 : ¬ (b.toNat : Int) ≤ 127 := by omega
          have HF := Lib.hid (show F = 3 by rw [HT.out]; unfold widthT; (repeat' split) <;> first | rfl | omega | (exfalso; simp_all; done) | (exfalso; simp_all; omega)); clear HT
          go_wp2_with (first
                    | (go_at_call 100; with_reducible refine (rwithin_yes _ (by omega)).mono ?_; rintro e w2 ⟨rfl, rfl⟩)
                    | (go_at_call 100; with_reducible refine (rwithin_no _ (by omega)).mono ?_; rintro e w2 ⟨rfl, rfl⟩)
                    | (go_at_call 101; with_reducible refine (H11.out _).mono ?_; rintro e w2 ⟨rfl, rfl⟩)
                    | (go_at_call 101; with_reducible refine (H21.out _).mono ?_; rintro e w2 ⟨rfl, rfl⟩)
                    | (go_at_call 101; with_reducible refine (H12.out _).mono ?_; rintro e w2 ⟨rfl, rfl⟩)
                    | (go_at_call 101; with_reducible refine (H22.out _).mono ?_; rintro e w2 ⟨rfl, rfl⟩)
                    | (go_at_call 101; with_reducible refine (H13.out _).mono ?_; rintro e w2 ⟨rfl, rfl⟩)
                    | fail)
          go_ret
          exact ⟨by rw [HF.out]; rfl, rfl⟩
      · have h2 := And.intro (Nat.le_of_eq h) (Nat.le_of_eq h.symm); clear h
        by_cases hx : 144 ≤ x.toNat ∧ x.toNat ≤ 191
        · cases p22
          · have e224 : ((b.toNat : Int) == 224) = false := beq_eq_false_iff_ne.2 (by omega)
            have e237 : ((b.toNat : Int) == 237) = false := beq_eq_false_iff_ne.2 (by omega)
            have e238 : ((b.toNat : Int) == 238) = false := beq_eq_false_iff_ne.2 (by omega)
            have e239 : ((b.toNat : Int) == 239) = false := beq_eq_false_iff_ne.2 (by omega)
            have e240 : ((b.toNat : Int) == 240) = true := beq_iff_eq.2 (by omega)
            have e244 : ((b.toNat : Int) == 244) = false := beq_eq_false_iff_ne.2 (by omega)
            have e127 : ¬ (b.toNat : Int) ≤ 127 := by omega
            have HF := Lib.hid (show F = 0 by rw [HT.out]; unfold widthT; (repeat' split) <;> first | rfl | omega | (exfalso; simp_all; done) | (exfalso; simp_all; omega)); clear HT
            go_wp2_with (first
                      | (go_at_call 100; with_reducible refine (rwithin_yes _ (by omega)).mono ?_; rintro e w2 ⟨rfl, rfl⟩)
                      | (go_at_call 100; with_reducible refine (rwithin_no _ (by omega)).mono ?_; rintro e w2 ⟨rfl, rfl⟩)
                      | (go_at_call 101; with_reducible refine (H11.out _).mono ?_; rintro e w2 ⟨rfl, rfl⟩)
                      | (go_at_call 101; with_reducible refine (H21.out _).mono ?_; rintro e w2 ⟨rfl, rfl⟩)
                      | (go_at_call 101; with_reducible refine (H12.out _).mono ?_; rintro e w2 ⟨rfl, rfl⟩)
                      | (go_at_call 101; with_reducible refine (H22.out _).mono ?_; rintro e w2 ⟨rfl, rfl⟩)
                      | (go_at_call 101; with_reducible refine (H13.out _).mono ?_; rintro e w2 ⟨rfl, rfl⟩)
                      | fail)
            go_ret
            exact ⟨by rw [HF.out]; rfl, rfl⟩
          · have e224 : ((b.toNat : Int) == 224) = false := beq_eq_false_iff_ne.2 (by omega)
            have e237 : ((b.toNat : Int) == 237) = false := beq_eq_false_iff_ne.2 (by omega)
            have e238 : ((b.toNat : Int) == 238) = false := beq_eq_false_iff_ne.2 (by omega)
            have e239 : ((b.toNat : Int) == 239) = false := beq_eq_false_iff_ne.2 (by omega)
            have e240 : ((b.toNat : Int) == 240) = true := beq_iff_eq.2 (by omega)
            have e244 : ((b.toNat : Int) == 244) = false := beq_eq_false_iff_ne.2 (by omega)
            have e127 : ¬ (b.toNat : Int) ≤ 127 := by omega
            have HF := Lib.hid (show F = 4 by rw [HT.out]; unfold widthT; (repeat' split) <;> first | rfl | omega | (exfalso; simp_all; done) | (exfalso; simp_all; omega)); clear HT
            go_wp2_with (first
                      | (go_at_call 100; with_reducible refine (rwithin_yes _ (by omega)).mono ?_; rintro e w2 ⟨rfl, rfl⟩)
                      | (go_at_call 100; with_reducible refine (rwithin_no _ (by omega)).mono ?_; rintro e w2 ⟨rfl, rfl⟩)
                      | (go_at_call 101; with_reducible refine (H11.out _).mono ?_; rintro e w2 ⟨rfl, rfl⟩)
                      | (go_at_call 101; with_reducible refine (H21.out _).mono ?_; rintro e w2 ⟨rfl, rfl⟩)
                      | (go_at_call 101; with_reducible refine (H12.out _).mono ?_; rintro e w2 ⟨rfl, rfl⟩)
                      | (go_at_call 101; with_reducible refine (H22.out _).mono ?_; rintro e w2 ⟨rfl, rfl⟩)
                      | (go_at_call 101; with_reducible refine (H13.out _).mono ?_; rintro e w2 ⟨rfl, rfl⟩)
                      | fail)
            go_ret
            exact ⟨by rw [HF.out]; rfl, rfl⟩
        · have e224 : ((b.toNat : Int) == 224) = false := beq_eq_false_iff_ne.2 (by omega)
          have e237 : ((b.toNat : Int) == 237) = false := beq_eq_false_iff_ne.2 (by omega)
          have e238 : ((b.toNat : Int) == 238) = false := beq_eq_false_iff_ne.2 (by omega)
          have e239 : ((b.toNat : Int) == 239) = false := beq_eq_false_iff_ne.2 (by omega)
          have e240 : ((b.toNat : Int) == 240) = true := beq_iff_eq.2 (by omega)
          have e244 : ((b.toNat : Int) == 244) = false := beq_eq_false_iff_ne.2 (by omega)
          have e127 : ¬ (b.toNat : Int) ≤ 127 := by omega
          have HF := Lib.hid (show F = 0 by rw [HT.out]; unfold widthT; (repeat' split) <;> first | rfl | omega | (exfalso; simp_all; done) | (exfalso; simp_all; omega)); clear HT
          go_wp2_with (first
                    | (go_at_call 100; with_reducible refine (rwithin_yes _ (by omega)).mono ?_; rintro e w2 ⟨rfl, rfl⟩)
                    | (go_at_call 100; with_reducible refine (rwithin_no _ (by omega)).mono ?_; rintro e w2 ⟨rfl, rfl⟩)
                    | (go_at_call 101; with_reducible refine (H11.out _).mono ?_; rintro e w2 ⟨rfl, rfl⟩)
                    | (go_at_call 101; with_reducible refine (H21.out _).mono ?_; rintro e w2 ⟨rfl, rfl⟩)
                    | (go_at_call 101; with_reducible refine (H12.out _).mono ?_; rintro e w2 ⟨rfl, rfl⟩)
                    | (go_at_call 101; with_reducible refine (H22.out _).mono ?_; rintro e w2 ⟨rfl, rfl⟩)
                    | (go_at_call 101; with_reducible refine (H13.out _).mono ?_; rintro e w2 ⟨rfl, rfl⟩)
                    | fail)
          go_ret
          exact ⟨by rw [HF.out]; rfl, rfl⟩
      · have h2 := h; clear h
        cases p13
        · have e224 : ((b.toNat : Int) == 224) = false := beq_eq_false_iff_ne.2 (by omega)
          have e237 : ((b.toNat : Int) == 237) = false := beq_eq_false_iff_ne.2 (by omega)
          have e238 : ((b.toNat : Int) == 238) = false := beq_eq_false_iff_ne.2 (by omega)
          have e239 : ((b.toNat : Int) == 239) = false := beq_eq_false_iff_ne.2 (by omega)
          have e240 : ((b.toNat : Int) == 240) = false := beq_eq_false_iff_ne.2 (by omega)
          have e244 : ((b.toNat : Int) == 244) = false := beq_eq_false_iff_ne.2 (by omega)
          have e127 : ¬ (b.toNat : Int) ≤ 127 := by omega
          have HF := Lib.hid (show F = 0 by rw [HT.out]; unfold widthT; (repeat' split) <;> first | rfl | omega | (exfalso; simp_all; done) | (exfalso; simp_all; omega)); clear HT
          go_wp2_with (first
                    | (go_at_call 100; with_reducible refine (rwithin_yes _ (by omega)).mono ?_; rintro e w2 ⟨rfl, rfl⟩)
                    | (go_at_call 100; with_reducible refine (rwithin_no _ (by omega)).mono ?_; rintro e w2 ⟨rfl, rfl⟩)
                    | (go_at_call 101; with_reducible refine (H11.out _).mono ?_; rintro e w2 ⟨rfl, rfl⟩)
                    | (go_at_call 101; with_reducible refine (H21.out _).mono ?_; rintro e w2 ⟨rfl, rfl⟩)
                    | (go_at_call 101; with_reducible refine (H12.out _).mono ?_; rintro e w2 ⟨rfl, rfl⟩)
                    | (go_at_call 101; with_reducible refine (H22.out _).mono ?_; rintro e w2 ⟨rfl, rfl⟩)
                    | (go_at_call 101; with_reducible refine (H13.out _).mono ?_; rintro e w2 ⟨rfl, rfl⟩)
                    | fail)
          go_ret
          exact ⟨by rw [HF.out]; rfl, rfl⟩
        · have e224 : ((b.toNat : Int) == 224) = false := beq_eq_false_iff_ne.2 (by omega)
          have e237 : ((b.toNat : Int) == 237) = false := beq_eq_false_iff_ne.2 (by omega)
          have e238 : ((b.toNat : Int) == 238) = false := beq_eq_false_iff_ne.2 (by omega)
          have e239 : ((b.toNat : Int) == 239) = false := beq_eq_false_iff_ne.2 (by omega)
          have e240 : ((b.toNat : Int) == 240) = false := beq_eq_false_iff_ne.2 (by omega)
          have e244 : ((b.toNat : Int) == 244) = false := beq_eq_false_iff_ne.2 (by omega)
          have e127 : ¬ (b.toNat : Int) ≤ 127 := by omega
          have HF := Lib.hid (show F = 4 by rw [HT.out]; unfold widthT; (repeat' split) <;> first | rfl | omega | (exfalso; simp_all; done) | (exfalso; simp_all; omega)); clear HT
          go_wp2_with (first
                    | (go_at_call 100; with_reducible refine (rwithin_yes _ (by omega)).mono ?_; rintro e w2 ⟨rfl, rfl⟩)
                    | (go_at_call 100; with_reducible refine (rwithin_no _ (by omega)).mono ?_; rintro e w2 ⟨rfl, rfl⟩)
                    | (go_at_call 101; with_reducible refine (H11.out _).mono ?_; rintro e w2 ⟨rfl, rfl⟩)
                    | (go_at_call 101; with_reducible refine (H21.out _).mono ?_; rintro e w2 ⟨rfl, rfl⟩)
                    | (go_at_call 101; with_reducible refine (H12.out _).mono ?_; rintro e w2 ⟨rfl, rfl⟩)
                    | (go_at_call 101; with_reducible refine (H22.out _).mono ?_; rintro e w2 ⟨rfl, rfl⟩)
                    | (go_at_call 101; with_reducible refine (H13.out _).mono ?_; rintro e w2 ⟨rfl, rfl⟩)
                    | fail)
          go_ret
          exact ⟨by rw [HF.out]; rfl, rfl⟩
      · have h2 := And.intro (Nat.le_of_eq h) (Nat.le_of_eq h.symm); clear h
        by_cases hx : 128 ≤ x.toNat ∧ x.toNat ≤ 143
        · cases p22
          · have e224 : ((b.toNat : Int) == 224) = false := beq_eq_false_iff_ne.2 (by omega)
            have e237 : ((b.toNat : Int) == 237) = false := beq_eq_false_iff_ne.2 (by omega)
            have e238 : ((b.toNat : Int) == 238) = false := beq_eq_false_iff_ne.2 (by omega)
            have e239 : ((b.toNat : Int) == 239) = false := beq_eq_false_iff_ne.2 (by omega)
            have e240 : ((b.toNat : Int) == 240) = false := beq_eq_false_iff_ne.2 (by omega)
            have e244 : ((b.toNat : Int) == 244) = true := beq_iff_eq.2 (by omega)
            have e127 : ¬ (b.toNat : Int) ≤ 127 := by omega
            have HF := Lib.hid (show F = 0 by rw [HT.out]; unfold widthT; (repeat' split) <;> first | rfl | omega | (exfalso; simp_all; done) | (exfalso; simp_all; omega)); clear HT
            go_wp2_with (first
                      | (go_at_call 100; with_reducible refine (rwithin_yes _ (by omega)).mono ?_; rintro e w2 ⟨rfl, rfl⟩)
                      | (go_at_call 100; with_reducible refine (rwithin_no _ (by omega)).mono ?_; rintro e w2 ⟨rfl, rfl⟩)
                      | (go_at_call 101; with_reducible refine (H11.out _).mono ?_; rintro e w2 ⟨rfl, rfl⟩)
                      | (go_at_call 101; with_reducible refine (H21.out _).mono ?_; rintro e w2 ⟨rfl, rfl⟩)
                      | (go_at_call 101; with_reducible refine (H12.out _).mono ?_; rintro e w2 ⟨rfl, rfl⟩)
                      | (go_at_call 101; with_reducible refine (H22.out _).mono ?_; rintro e w2 ⟨rfl, rfl⟩)
                      | (go_at_call 101; with_reducible refine (H13.out _).mono ?_; rintro e w2 ⟨rfl, rfl⟩)
                      | fail)
            go_ret
            exact ⟨by rw [HF.out]; rfl, rfl⟩
          · have e224 : ((b.toNat : Int) == 224) = false := beq_eq_false_iff_ne.2 (by omega)
            have e237 : ((b.toNat : Int) == 237) = false := beq_eq_false_iff_ne.2 (by omega)
            have e238 : ((b.toNat : Int) == 238) = false := beq_eq_false_iff_ne.2 (by omega)
            have e239 : ((b.toNat : Int) == 239) = false := beq_eq_false_iff_ne.2 (by omega)
            have e240 : ((b.toNat : Int) == 240) = false := beq_eq_false_iff_ne.2 (by omega)
            have e244 : ((b.toNat : Int) == 244) = true := beq_iff_eq.2 (by omega)
            have e127 : ¬ (b.toNat : Int) ≤ 127 := by omega
            have HF := Lib.hid (show F = 4 by rw [HT.out]; unfold widthT; (repeat' split) <;> first | rfl | omega | (exfalso; simp_all; done) | (exfalso; simp_all; omega)); clear HT
            go_wp2_with (first
                      | (go_at_call 100; with_reducible refine (rwithin_yes _ (by omega)).mono ?_; rintro e w2 ⟨rfl, rfl⟩)
                      | (go_at_call 100; with_reducible refine (rwithin_no _ (by omega)).mono ?_; rintro e w2 ⟨rfl, rfl⟩)
                      | (go_at_call 101; with_reducible refine (H11.out _).mono ?_; rintro e w2 ⟨rfl, rfl⟩)
                      | (go_at_call 101; with_reducible refine (H21.out _).mono ?_; rintro e w2 ⟨rfl, rfl⟩)
                      | (go_at_call 101; with_reducible refine (H12.out _).mono ?_; rintro e w2 ⟨rfl, rfl⟩)
                      | (go_at_call 101; with_reducible refine (H22.out _).mono ?_; rintro e w2 ⟨rfl, rfl⟩)
                      | (go_at_call 101; with_reducible refine (H13.out _).mono ?_; rintro e w2 ⟨rfl, rfl⟩)
                      | fail)
            go_ret
            exact ⟨by rw [HF.out]; rfl, rfl⟩
        · have e224 : ((b.toNat : Int) == 224) = false := beq_eq_false_iff_ne.2 (by omega)
          have e237 : ((b.toNat : Int) == 237) = false := beq_eq_false_iff_ne.2 (by omega)
          have e238 : ((b.toNat : Int) == 238) = false := beq_eq_false_iff_ne.2 (by omega)
          have e239 : ((b.toNat : Int) == 239) = false := beq_eq_false_iff_ne.2 (by omega)
          have e240 : ((b.toNat : Int) == 240) = false := beq_eq_false_iff_ne.2 (by omega)
          have e244 : ((b.toNat : Int) == 244) = true := beq_iff_eq.2 (by omega)
          have e127 : ¬ (b.toNat : Int) ≤ 127 := by omega
          have HF := Lib.hid (show F = 0 by rw [HT.out]; unfold widthT; (repeat' split) <;> first | rfl | omega | (exfalso; simp_all; done) | (exfalso; simp_all; omega)); clear HT
          go_wp2_with (first
                    | (go_at_call 100; with_reducible refine (rwithin_yes _ (by omega)).mono ?_; rintro e w2 ⟨rfl, rfl⟩)
                    | (go_at_call 100; with_reducible refine (rwithin_no _ (by omega)).mono ?_; rintro e w2 ⟨rfl, rfl⟩)
                    | (go_at_call 101; with_reducible refine (H11.out _).mono ?_; rintro e w2 ⟨rfl, rfl⟩)
                    | (go_at_call 101; with_reducible refine (H21.out _).mono ?_; rintro e w2 ⟨rfl, rfl⟩)
                    | (go_at_call 101; with_reducible refine (H12.out _).mono ?_; rintro e w2 ⟨rfl, rfl⟩)
                    | (go_at_call 101; with_reducible refine (H22.out _).mono ?_; rintro e w2 ⟨rfl, rfl⟩)
                    | (go_at_call 101; with_reducible refine (H13.out _).mono ?_; rintro e w2 ⟨rfl, rfl⟩)
                    | fail)
          go_ret
          exact ⟨by rw [HF.out]; rfl, rfl⟩
      · have e224 : ((b.toNat : Int) == 224) = false := beq_eq_false_iff_ne.2 (by omega)
        have e237 : ((b.toNat : Int) == 237) = false := beq_eq_false_iff_ne.2 (by omega)
        have e238 : ((b.toNat : Int) == 238) = false := beq_eq_false_iff_ne.2 (by omega)
        have e239 : ((b.toNat : Int) == 239) = false := beq_eq_false_iff_ne.2 (by omega)
        have e240 : ((b.toNat : Int) == 240) = false := beq_eq_false_iff_ne.2 (by omega)
        have e244 : ((b.toNat : Int) == 244) = false := beq_eq_false_iff_ne.2 (by omega)
        have e127 : ¬ (b.toNat : Int) ≤ 127 := by omega
        have HF := Lib.hid (show F = 0 by rw [HT.out]; unfold widthT; (repeat' split) <;> first | rfl | omega | (exfalso; simp_all; done) | (exfalso; simp_all; omega)); clear HT
        go_wp2_with (first
                  | (go_at_call 100; with_reducible refine (rwithin_yes _ (by omega)).mono ?_; rintro e w2 ⟨rfl, rfl⟩)
                  | (go_at_call 100; with_reducible refine (rwithin_no _ (by omega)).mono ?_; rintro e w2 ⟨rfl, rfl⟩)
                  | (go_at_call 101; with_reducible refine (H11.out _).mono ?_; rintro e w2 ⟨rfl, rfl⟩)
                  | (go_at_call 101; with_reducible refine (H21.out _).mono ?_; rintro e w2 ⟨rfl, rfl⟩)
                  | (go_at_call 101; with_reducible refine (H12.out _).mono ?_; rintro e w2 ⟨rfl, rfl⟩)
                  | (go_at_call 101; with_reducible refine (H22.out _).mono ?_; rintro e w2 ⟨rfl, rfl⟩)
                  | (go_at_call 101; with_reducible refine (H13.out _).mono ?_; rintro e w2 ⟨rfl, rfl⟩)
                  | fail)
        go_ret
        exact ⟨by rw [HF.out]; rfl, rfl⟩
end Go.Proofs.YtpnnbffhdhbonaaGreatDoor
