/- Valid texts, character by character (plain: no program in it). -/
import Derived.Test.YtpnnbffhdhbonaaGreatDoorTxt
import Derived.Lib.MapLaws
import Derived.Lib.TrimByte
import Derived.Lib.ValidLaws
namespace Go.Proofs.YtpnnbffhdhbonaaGreatDoor
open Go Go.RowKit

/-- a character of more than one byte -/
structure Hi (c : List UInt8) : Prop where
  high : ∀ b ∈ c, 128 ≤ b.toNat
  ne : c ≠ []
  valid : ∀ t, Lib.validD (c ++ t) = Lib.validD t

theorem get_app (c t : List UInt8) (i : Nat) (h : i < c.length) : (c ++ t).getD i 0 = c.getD i 0 := by
  rw [List.getD_eq_getElem?_getD, List.getD_eq_getElem?_getD, List.getElem?_append_left h]
theorem get_take (l : List UInt8) (k i : Nat) (h : i < k) : (l.take k).getD i 0 = l.getD i 0 := by
  rw [List.getD_eq_getElem?_getD, List.getD_eq_getElem?_getD, List.getElem?_take, if_pos h]

theorem decodeN_2 (n b0 b1 b2 b3 : Nat) (h : b0 / 32 = 6 ∧ 1 < n ∧ b1 / 64 = 2 ∧ 128 ≤ b0 % 32 * 64 + b1 % 64) : Lib.decodeN n b0 b1 b2 b3 = (b0 % 32 * 64 + b1 % 64, 2) := by
  unfold Lib.decodeN
  rw [if_neg (by omega), if_pos (by omega), if_pos (by omega)]
theorem decodeN_3 (n b0 b1 b2 b3 : Nat) (h : b0 / 16 = 14 ∧ 2 < n ∧ b1 / 64 = 2 ∧ b2 / 64 = 2 ∧ 2048 ≤ b0 % 16 * 4096 + b1 % 64 * 64 + b2 % 64 ∧ (b0 % 16 * 4096 + b1 % 64 * 64 + b2 % 64 < 55296 ∨ 57344 ≤ b0 % 16 * 4096 + b1 % 64 * 64 + b2 % 64)) :
    Lib.decodeN n b0 b1 b2 b3 = (b0 % 16 * 4096 + b1 % 64 * 64 + b2 % 64, 3) := by
  unfold Lib.decodeN
  rw [if_neg (by omega), if_neg (by omega), if_pos (by omega), if_pos (by omega)]
theorem decodeN_4 (n b0 b1 b2 b3 : Nat) (h : b0 / 8 = 30 ∧ 3 < n ∧ b1 / 64 = 2 ∧ b2 / 64 = 2 ∧ b3 / 64 = 2 ∧ 65536 ≤ b0 % 8 * 262144 + b1 % 64 * 4096 + b2 % 64 * 64 + b3 % 64 ∧ b0 % 8 * 262144 + b1 % 64 * 4096 + b2 % 64 * 64 + b3 % 64 ≤ 1114111) :
    Lib.decodeN n b0 b1 b2 b3 = (b0 % 8 * 262144 + b1 % 64 * 4096 + b2 % 64 * 64 + b3 % 64, 4) := by
  unfold Lib.decodeN
  rw [if_neg (by omega), if_neg (by omega), if_neg (by omega), if_pos (by omega), if_pos (by omega)]

/-- what a text begins with: a byte below 128, a character, or nothing valid -/
theorem first_cases (l : List UInt8) (hne : l ≠ []) :
    (∃ b t, l = b :: t ∧ b.toNat < 128 ∧ Lib.decodeL l = (b.toNat, 1)) ∨ (∃ c t, l = c ++ t ∧ Hi c ∧ (Lib.decodeL l).2 = c.length ∧ 2 ≤ c.length) ∨ (Lib.decodeL l = (65533, 1) ∧ Lib.validD l = false) := by
  have hl : 0 < l.length := List.length_pos_iff.2 hne
  have k0 := (l.getD 0 0).toNat_lt
  have k1 := (l.getD 1 0).toNat_lt
  have k2 := (l.getD 2 0).toNat_lt
  have k3 := (l.getD 3 0).toNat_lt
  have hN := Lib.decodeL_N l
  rcases Lib.decodeN_shape l.length (l.getD 0 0).toNat (l.getD 1 0).toNat (l.getD 2 0).toNat (l.getD 3 0).toNat with ⟨c, e⟩ | ⟨c1, c2, c3, cv, e⟩ | ⟨c1, c2, c3, c4, cv, cs, e⟩ | ⟨c1, c2, c3, c4, c5, cv, cw, e⟩ | e
  · left
    cases l with
    | nil => exact absurd rfl hne
    | cons b t => exact ⟨b, t, rfl, c, hN.trans e⟩
  · right; left
    refine ⟨l.take 2, l.drop 2, (List.take_append_drop 2 l).symm, ⟨?_, ?_, fun t => ?_⟩, ?_, ?_⟩
    · rw [Lib.takeB l c2]; intro b hb
      simp only [List.mem_cons, List.not_mem_nil, or_false] at hb
      rcases hb with rfl | rfl <;> omega
    · rw [Lib.takeB l c2]; simp
    · have hlen : (l.take 2).length = 2 := by rw [List.length_take]; omega
      rw [Lib.validD_step _ (by rw [Lib.takeB l c2]; simp), Lib.decodeL_N, get_app _ _ 0 (by omega), get_app _ _ 1 (by omega), get_take l 2 0 (by omega), get_take l 2 1 (by omega)]
      rw [decodeN_2 _ _ _ _ _ ⟨c1, by rw [List.length_append]; omega, c3, cv⟩, if_neg (by simp)]
      rw [show (l.take 2 ++ t).drop 2 = t by rw [List.drop_append_of_le_length (by omega), List.drop_of_length_le (by omega)]; rfl]
    · rw [hN, e, List.length_take]; show 2 = _; omega
    · rw [List.length_take]; omega
  · right; left
    refine ⟨l.take 3, l.drop 3, (List.take_append_drop 3 l).symm, ⟨?_, ?_, fun t => ?_⟩, ?_, ?_⟩
    · rw [Lib.takeC l c2]; intro b hb
      simp only [List.mem_cons, List.not_mem_nil, or_false] at hb
      rcases hb with rfl | rfl | rfl <;> omega
    · rw [Lib.takeC l c2]; simp
    · have hlen : (l.take 3).length = 3 := by rw [List.length_take]; omega
      rw [Lib.validD_step _ (by rw [Lib.takeC l c2]; simp), Lib.decodeL_N, get_app _ _ 0 (by omega), get_app _ _ 1 (by omega), get_app _ _ 2 (by omega), get_take l 3 0 (by omega), get_take l 3 1 (by omega), get_take l 3 2 (by omega)]
      rw [decodeN_3 _ _ _ _ _ ⟨c1, by rw [List.length_append]; omega, c3, c4, cv, cs⟩, if_neg (by simp)]
      rw [show (l.take 3 ++ t).drop 3 = t by rw [List.drop_append_of_le_length (by omega), List.drop_of_length_le (by omega)]; rfl]
    · rw [hN, e, List.length_take]; show 3 = _; omega
    · rw [List.length_take]; omega
  · right; left
    refine ⟨l.take 4, l.drop 4, (List.take_append_drop 4 l).symm, ⟨?_, ?_, fun t => ?_⟩, ?_, ?_⟩
    · rw [Lib.takeD l c2]; intro b hb
      simp only [List.mem_cons, List.not_mem_nil, or_false] at hb
      rcases hb with rfl | rfl | rfl | rfl <;> omega
    · rw [Lib.takeD l c2]; simp
    · have hlen : (l.take 4).length = 4 := by rw [List.length_take]; omega
      rw [Lib.validD_step _ (by rw [Lib.takeD l c2]; simp), Lib.decodeL_N, get_app _ _ 0 (by omega), get_app _ _ 1 (by omega), get_app _ _ 2 (by omega), get_app _ _ 3 (by omega), get_take l 4 0 (by omega), get_take l 4 1 (by omega), get_take l 4 2 (by omega), get_take l 4 3 (by omega)]
      rw [decodeN_4 _ _ _ _ _ ⟨c1, by rw [List.length_append]; omega, c3, c4, c5, cv, cw⟩, if_neg (by simp)]
      rw [show (l.take 4 ++ t).drop 4 = t by rw [List.drop_append_of_le_length (by omega), List.drop_of_length_le (by omega)]; rfl]
    · rw [hN, e, List.length_take]; show 4 = _; omega
    · rw [List.length_take]; omega
  · right; right
    refine ⟨hN.trans e, ?_⟩
    rw [Lib.validD_step l hne, hN, e, if_pos ⟨rfl, rfl⟩]

/-- valid texts: the empty one, a byte below 128 ahead of one, a character ahead of one -/
theorem valid_ind {P : List UInt8 → Prop} (h0 : P []) (h1 : ∀ b t, b.toNat < 128 → Lib.validD t = true → P t → P (b :: t)) (h2 : ∀ c t, Hi c → Lib.validD t = true → P t → P (c ++ t)) :
    ∀ l, Lib.validD l = true → P l := by
  have h : ∀ (n : Nat) (l : List UInt8), l.length ≤ n → Lib.validD l = true → P l := by
    intro n
    induction n with
    | zero => intro l hl _; obtain rfl := List.eq_nil_of_length_eq_zero (by omega : l.length = 0); exact h0
    | succ n ih =>
      intro l hl hv
      by_cases hne : l = []
      · rw [hne]; exact h0
      rcases first_cases l hne with ⟨b, t, rfl, hb, _⟩ | ⟨c, t, rfl, hc, _, _⟩ | ⟨_, hf⟩
      · rw [Lib.validD_cons b t hb] at hv
        exact h1 b t hb hv (ih t (by simp at hl; omega) hv)
      · rw [hc.valid] at hv
        have := List.length_pos_iff.2 hc.ne
        exact h2 c t hc hv (ih t (by simp at hl; omega) hv)
      · rw [hf] at hv; cases hv
  exact fun l => h l.length l (Nat.le_refl _)

theorem valid_append : ∀ a : List UInt8, Lib.validD a = true → ∀ b, Lib.validD (a ++ b) = Lib.validD b := by
  refine valid_ind (fun b => rfl) (fun c t hc _ ih b => ?_) (fun c t hc _ ih b => ?_)
  · rw [List.cons_append, Lib.validD_cons c _ hc, ih]
  · rw [List.append_assoc, hc.valid, ih]
/-- what stands ahead of a byte below 128 -/
theorem valid_ahead : ∀ l : List UInt8, Lib.validD l = true → ∀ (r : List UInt8) (b : UInt8) (t : List UInt8), b.toNat < 128 → l = r ++ b :: t → Lib.validD r = true := by
  refine valid_ind (fun r b t _ e => ?_) (fun c u hc _ ih r b t hb e => ?_) (fun c u hc _ ih r b t hb e => ?_)
  · simp at e
  · cases r with
    | nil => rfl
    | cons x r =>
      rw [List.cons_append] at e; injection e with e1 e2; subst e1
      rw [Lib.validD_cons _ r hc]; exact ih r b t hb e2
  · rcases List.append_eq_append_iff.1 e with ⟨m, hm, hm2⟩ | ⟨m, hm, hm2⟩
    · rw [hm, hc.valid]
      exact ih m b t hb hm2
    · cases m with
      | nil =>
        rw [List.append_nil] at hm; subst hm
        have := hc.valid []
        rw [List.append_nil] at this; rw [this]; rfl
      | cons y m =>
        rw [List.cons_append] at hm2; injection hm2 with e1 _
        have := hc.high y (by rw [hm]; simp)
        subst e1; omega

theorem lowB_high {b : UInt8} (h : 128 ≤ b.toNat) : lowB b = b := if_neg (by omega)
theorem lowB_lt {b : UInt8} (h : b.toNat < 128) : (lowB b).toNat < 128 := by
  unfold lowB; split
  · rw [UInt8.toNat_add]; show (b.toNat + 32) % 256 < 128; omega
  · exact h
theorem low_hi {c : List UInt8} (h : Hi c) : low c = c := by
  unfold low
  have e : c.map lowB = c.map id := List.map_congr_left fun b hb => lowB_high (h.high b hb)
  rw [e, List.map_id]
theorem low_append (a b : List UInt8) : low (a ++ b) = low a ++ low b := by unfold low; simp
theorem valid_low : ∀ l : List UInt8, Lib.validD l = true → Lib.validD (low l) = true := by
  refine valid_ind rfl (fun b t hb _ ih => ?_) (fun c t hc _ ih => ?_)
  · show Lib.validD (lowB b :: low t) = true
    rw [Lib.validD_cons _ _ (lowB_lt hb)]; exact ih
  · rw [low_append, low_hi hc, hc.valid]; exact ih

theorem sqz_nil (p : Bool) : sqz p [] = [] := by cases p <;> rfl
theorem sqz_step (p : Bool) (b : UInt8) (l : List UInt8) : sqz p (b :: l) = if b = 32 ∧ p = true then sqz true l else b :: sqz (b == 32) l := rfl
theorem sqz_no32 : ∀ (c : List UInt8), c ≠ [] → (∀ b ∈ c, b ≠ 32) → ∀ p t, sqz p (c ++ t) = c ++ sqz false t
  | [], h, _, _, _ => absurd rfl h
  | b :: c, _, hb, p, t => by
    have h1 := hb b (by simp)
    rw [List.cons_append, sqz_step, if_neg (fun e => h1 e.1), show (b == 32) = false from by simpa using h1]
    by_cases hc : c = []
    · subst hc; rfl
    · rw [sqz_no32 c hc (fun x hx => hb x (List.mem_cons_of_mem _ hx))]; rfl
theorem hi_no32 {c : List UInt8} (h : Hi c) : ∀ b ∈ c, b ≠ 32 := fun b hb e => by have := h.high b hb; rw [e] at this; simp at this
theorem valid_sqz : ∀ l : List UInt8, Lib.validD l = true → ∀ p, Lib.validD (sqz p l) = true := by
  refine valid_ind (fun p => by rw [sqz_nil]; rfl) (fun b t hb _ ih p => ?_) (fun c t hc _ ih p => ?_)
  · rw [sqz_step]; split
    · exact ih true
    · rw [Lib.validD_cons _ _ hb]; exact ih _
  · rw [sqz_no32 c hc.ne (hi_no32 hc), hc.valid]; exact ih false

theorem trimB_split (c : UInt8) (l : List UInt8) : ∃ k, l = List.replicate k c ++ Lib.trimLeftB l c ∧ (Lib.trimLeftB l c).head? ≠ some c := by
  induction l with
  | nil => exact ⟨0, rfl, by simp [Lib.trimLeftB]⟩
  | cons b l ih =>
    unfold Lib.trimLeftB at ih ⊢
    rw [List.dropWhile_cons]
    by_cases h : b = c
    · subst h
      rw [if_pos (by simp)]
      obtain ⟨k, h1, h2⟩ := ih
      exact ⟨k + 1, by rw [List.replicate_succ, List.cons_append]; congr 1, h2⟩
    · rw [if_neg (by simpa using h)]
      exact ⟨0, rfl, by simp; exact h⟩
theorem trimR_split (c : UInt8) (l : List UInt8) : ∃ k, l = Lib.trimRightB l c ++ List.replicate k c ∧ (Lib.trimRightB l c).getLast? ≠ some c := by
  obtain ⟨k, h1, h2⟩ := trimB_split c l.reverse
  refine ⟨k, ?_, ?_⟩
  · have := congrArg List.reverse h1
    rw [List.reverse_reverse, List.reverse_append, List.reverse_replicate] at this
    exact this
  · show (Lib.trimLeftB l.reverse c).reverse.getLast? ≠ _
    rw [List.getLast?_reverse]; exact h2
theorem valid_repl (k : Nat) (t : List UInt8) : Lib.validD (List.replicate k 32 ++ t) = Lib.validD t := by
  induction k with
  | zero => rfl
  | succ k ih => rw [List.replicate_succ, List.cons_append, Lib.validD_cons _ _ (by decide), ih]
theorem valid_trimR (l : List UInt8) (h : Lib.validD l = true) : Lib.validD (Lib.trimRightB l 32) = true := by
  obtain ⟨k, h1, _⟩ := trimR_split 32 l
  cases k with
  | zero => rw [List.replicate_zero, List.append_nil] at h1; rw [← h1]; exact h
  | succ k => exact valid_ahead l h _ 32 (List.replicate k 32) (by decide) h1
theorem valid_trimL (l : List UInt8) (h : Lib.validD l = true) : Lib.validD (Lib.trimLeftB l 32) = true := by
  obtain ⟨k, h1, _⟩ := trimB_split 32 l
  rw [h1, valid_repl] at h; exact h
theorem valid_trim (l : List UInt8) (h : Lib.validD l = true) : Lib.validD (Lib.trimB l 32) = true := valid_trimL _ (valid_trimR _ h)
end Go.Proofs.YtpnnbffhdhbonaaGreatDoor
