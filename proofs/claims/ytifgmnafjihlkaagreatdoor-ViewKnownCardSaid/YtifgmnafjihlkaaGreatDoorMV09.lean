/- Part 9 of the walks and plain laws, joined: Chars, Piece, AgainV. -/
import Derived.Test.YtifgmnafjihlkaaGreatDoorMV00
import Derived.Test.YtifgmnafjihlkaaGreatDoorMV02
import Derived.Test.YtifgmnafjihlkaaGreatDoorMV06
import Derived.Lib.MapLaws
import Derived.Lib.TrimByte
import Derived.Lib.ValidLaws
/- Valid texts, character by character (plain: no program in it). -/
namespace Go.Proofs.YtifgmnafjihlkaaGreatDoor
open Go Go.RowKit

/-- a character of more than one byte -/
structure Hi (c : List UInt8) : Prop where
  high : ∀ b ∈ c, 128 ≤ b.toNat
  ne : c ≠ []
  valid : ∀ t, Lib.validD (c ++ t) = Lib.validD t

theorem get_app (c t : List UInt8) (i : Nat) (h : i < c.length) : (c ++ t).getD i 0 = c.getD i 0 := by
  rw [List.getD_eq_getElem?_getD, List.getD_eq_getElem?_getD, List.getElem?_append_left h]
theorem get_take (l : List UInt8) (k i : Nat) (h : i < k) : (l.take k).getD i 0 = l.getD i 0 := by
  rw [List.getD_eq_getElem?_getD, List.getD_eq_getElem?_getD, List.getElem?_take, if_pos h]

theorem decodeN_2 (n b0 b1 b2 b3 : Nat) (h : b0 / 32 = 6 ∧ 1 < n ∧ b1 / 64 = 2 ∧ 128 ≤ b0 % 32 * 64 + b1 % 64) : Lib.decodeN n b0 b1 b2 b3 = (b0 % 32 * 64 + b1 % 64, 2) := by
  unfold Lib.decodeN
  rw [if_neg (by omega), if_pos (by omega), if_pos (by omega)]
theorem decodeN_3 (n b0 b1 b2 b3 : Nat) (h : b0 / 16 = 14 ∧ 2 < n ∧ b1 / 64 = 2 ∧ b2 / 64 = 2 ∧ 2048 ≤ b0 % 16 * 4096 + b1 % 64 * 64 + b2 % 64 ∧ (b0 % 16 * 4096 + b1 % 64 * 64 + b2 % 64 < 55296 ∨ 57344 ≤ b0 % 16 * 4096 + b1 % 64 * 64 + b2 % 64)) :
    Lib.decodeN n b0 b1 b2 b3 = (b0 % 16 * 4096 + b1 % 64 * 64 + b2 % 64, 3) := by
  unfold Lib.decodeN
  rw [if_neg (by omega), if_neg (by omega), if_pos (by omega), if_pos (by omega)]
theorem decodeN_4 (n b0 b1 b2 b3 : Nat) (h : b0 / 8 = 30 ∧ 3 < n ∧ b1 / 64 = 2 ∧ b2 / 64 = 2 ∧ b3 / 64 = 2 ∧ 65536 ≤ b0 % 8 * 262144 + b1 % 64 * 4096 + b2 % 64 * 64 + b3 % 64 ∧ b0 % 8 * 262144 + b1 % 64 * 4096 + b2 % 64 * 64 + b3 % 64 ≤ 1114111) :
    Lib.decodeN n b0 b1 b2 b3 = (b0 % 8 * 262144 + b1 % 64 * 4096 + b2 % 64 * 64 + b3 % 64, 4) := by
  unfold Lib.decodeN
  rw [if_neg (by omega), if_neg (by omega), if_neg (by omega), if_pos (by omega), if_pos (by omega)]

/-- what a text begins with: a byte below 128, a character, or nothing valid -/
theorem first_cases (l : List UInt8) (hne : l ≠ []) :
    (∃ b t, l = b :: t ∧ b.toNat < 128 ∧ Lib.decodeL l = (b.toNat, 1)) ∨ (∃ c t, l = c ++ t ∧ Hi c ∧ (Lib.decodeL l).2 = c.length ∧ 2 ≤ c.length) ∨ (Lib.decodeL l = (65533, 1) ∧ Lib.validD l = false) := by
  have hl : 0 < l.length := List.length_pos_iff.2 hne
  have k0 := (l.getD 0 0).toNat_lt
  have k1 := (l.getD 1 0).toNat_lt
  have k2 := (l.getD 2 0).toNat_lt
  have k3 := (l.getD 3 0).toNat_lt
  have hN := Lib.decodeL_N l
  rcases Lib.decodeN_shape l.length (l.getD 0 0).toNat (l.getD 1 0).toNat (l.getD 2 0).toNat (l.getD 3 0).toNat with ⟨c, e⟩ | ⟨c1, c2, c3, cv, e⟩ | ⟨c1, c2, c3, c4, cv, cs, e⟩ | ⟨c1, c2, c3, c4, c5, cv, cw, e⟩ | e
  · left
    cases l with
    | nil => exact absurd rfl hne
    | cons b t => exact ⟨b, t, rfl, c, hN.trans e⟩
  · right; left
    refine ⟨l.take 2, l.drop 2, (List.take_append_drop 2 l).symm, ⟨?_, ?_, fun t => ?_⟩, ?_, ?_⟩
    · rw [Lib.takeB l c2]; intro b hb
      simp only [List.mem_cons, List.not_mem_nil, or_false] at hb
      rcases hb with rfl | rfl <;> omega
    · rw [Lib.takeB l c2]; simp
    · have hlen : (l.take 2).length = 2 := by rw [List.length_take]; omega
      rw [Lib.validD_step _ (by rw [Lib.takeB l c2]; simp), Lib.decodeL_N, get_app _ _ 0 (by omega), get_app _ _ 1 (by omega), get_take l 2 0 (by omega), get_take l 2 1 (by omega)]
      rw [decodeN_2 _ _ _ _ _ ⟨c1, by rw [List.length_append]; omega, c3, cv⟩, if_neg (by simp)]
      rw [show (l.take 2 ++ t).drop 2 = t by rw [List.drop_append_of_le_length (by omega), List.drop_of_length_le (by omega)]; rfl]
    · rw [hN, e, List.length_take]; show 2 = _; omega
    · rw [List.length_take]; omega
  · right; left
    refine ⟨l.take 3, l.drop 3, (List.take_append_drop 3 l).symm, ⟨?_, ?_, fun t => ?_⟩, ?_, ?_⟩
    · rw [Lib.takeC l c2]; intro b hb
      simp only [List.mem_cons, List.not_mem_nil, or_false] at hb
      rcases hb with rfl | rfl | rfl <;> omega
    · rw [Lib.takeC l c2]; simp
    · have hlen : (l.take 3).length = 3 := by rw [List.length_take]; omega
      rw [Lib.validD_step _ (by rw [Lib.takeC l c2]; simp), Lib.decodeL_N, get_app _ _ 0 (by omega), get_app _ _ 1 (by omega), get_app _ _ 2 (by omega), get_take l 3 0 (by omega), get_take l 3 1 (by omega), get_take l 3 2 (by omega)]
      rw [decodeN_3 _ _ _ _ _ ⟨c1, by rw [List.length_append]; omega, c3, c4, cv, cs⟩, if_neg (by simp)]
      rw [show (l.take 3 ++ t).drop 3 = t by rw [List.drop_append_of_le_length (by omega), List.drop_of_length_le (by omega)]; rfl]
    · rw [hN, e, List.length_take]; show 3 = _; omega
    · rw [List.length_take]; omega
  · right; left
    refine ⟨l.take 4, l.drop 4, (List.take_append_drop 4 l).symm, ⟨?_, ?_, fun t => ?_⟩, ?_, ?_⟩
    · rw [Lib.takeD l c2]; intro b hb
      simp only [List.mem_cons, List.not_mem_nil, or_false] at hb
      rcases hb with rfl | rfl | rfl | rfl <;> omega
    · rw [Lib.takeD l c2]; simp
    · have hlen : (l.take 4).length = 4 := by rw [List.length_take]; omega
      rw [Lib.validD_step _ (by rw [Lib.takeD l c2]; simp), Lib.decodeL_N, get_app _ _ 0 (by omega), get_app _ _ 1 (by omega), get_app _ _ 2 (by omega), get_app _ _ 3 (by omega), get_take l 4 0 (by omega), get_take l 4 1 (by omega), get_take l 4 2 (by omega), get_take l 4 3 (by omega)]
      rw [decodeN_4 _ _ _ _ _ ⟨c1, by rw [List.length_append]; omega, c3, c4, c5, cv, cw⟩, if_neg (by simp)]
      rw [show (l.take 4 ++ t).drop 4 = t by rw [List.drop_append_of_le_length (by omega), List.drop_of_length_le (by omega)]; rfl]
    · rw [hN, e, List.length_take]; show 4 = _; omega
    · rw [List.length_take]; omega
  · right; right
    refine ⟨hN.trans e, ?_⟩
    rw [Lib.validD_step l hne, hN, e, if_pos ⟨rfl, rfl⟩]

/-- valid texts: the empty one, a byte below 128 ahead of one, a character ahead of one -/
theorem valid_ind {P : List UInt8 → Prop} (h0 : P []) (h1 : ∀ b t, b.toNat < 128 → Lib.validD t = true → P t → P (b :: t)) (h2 : ∀ c t, Hi c → Lib.validD t = true → P t → P (c ++ t)) :
    ∀ l, Lib.validD l = true → P l := by
  have h : ∀ (n : Nat) (l : List UInt8), l.length ≤ n → Lib.validD l = true → P l := by
    intro n
    induction n with
    | zero => intro l hl _; obtain rfl := List.eq_nil_of_length_eq_zero (by omega : l.length = 0); exact h0
    | succ n ih =>
      intro l hl hv
      by_cases hne : l = []
      · rw [hne]; exact h0
      rcases first_cases l hne with ⟨b, t, rfl, hb, _⟩ | ⟨c, t, rfl, hc, _, _⟩ | ⟨_, hf⟩
      · rw [Lib.validD_cons b t hb] at hv
        exact h1 b t hb hv (ih t (by simp at hl; omega) hv)
      · rw [hc.valid] at hv
        have := List.length_pos_iff.2 hc.ne
        exact h2 c t hc hv (ih t (by simp at hl; omega) hv)
      · rw [hf] at hv; cases hv
  exact fun l => h l.length l (Nat.le_refl _)

theorem valid_append : ∀ a : List UInt8, Lib.validD a = true → ∀ b, Lib.validD (a ++ b) = Lib.validD b := by
  refine valid_ind (fun b => rfl) (fun c t hc _ ih b => ?_) (fun c t hc _ ih b => ?_)
  · rw [List.cons_append, Lib.validD_cons c _ hc, ih]
  · rw [List.append_assoc, hc.valid, ih]
/-- what stands ahead of a byte below 128 -/
theorem valid_ahead : ∀ l : List UInt8, Lib.validD l = true → ∀ (r : List UInt8) (b : UInt8) (t : List UInt8), b.toNat < 128 → l = r ++ b :: t → Lib.validD r = true := by
  refine valid_ind (fun r b t _ e => ?_) (fun c u hc _ ih r b t hb e => ?_) (fun c u hc _ ih r b t hb e => ?_)
  · simp at e
  · cases r with
    | nil => rfl
    | cons x r =>
      rw [List.cons_append] at e; injection e with e1 e2; subst e1
      rw [Lib.validD_cons _ r hc]; exact ih r b t hb e2
  · rcases List.append_eq_append_iff.1 e with ⟨m, hm, hm2⟩ | ⟨m, hm, hm2⟩
    · rw [hm, hc.valid]
      exact ih m b t hb hm2
    · cases m with
      | nil =>
        rw [List.append_nil] at hm; subst hm
        have := hc.valid []
        rw [List.append_nil] at this; rw [this]; rfl
      | cons y m =>
        rw [List.cons_append] at hm2; injection hm2 with e1 _
        have := hc.high y (by rw [hm]; simp)
        subst e1; omega

theorem lowB_high {b : UInt8} (h : 128 ≤ b.toNat) : lowB b = b := if_neg (by omega)
theorem lowB_lt {b : UInt8} (h : b.toNat < 128) : (lowB b).toNat < 128 := by
  unfold lowB; split
  · rw [UInt8.toNat_add]; show (b.toNat + 32) % 256 < 128; omega
  · exact h
theorem low_hi {c : List UInt8} (h : Hi c) : low c = c := by
  unfold low
  have e : c.map lowB = c.map id := List.map_congr_left fun b hb => lowB_high (h.high b hb)
  rw [e, List.map_id]
theorem low_append (a b : List UInt8) : low (a ++ b) = low a ++ low b := by unfold low; simp
theorem valid_low : ∀ l : List UInt8, Lib.validD l = true → Lib.validD (low l) = true := by
  refine valid_ind rfl (fun b t hb _ ih => ?_) (fun c t hc _ ih => ?_)
  · show Lib.validD (lowB b :: low t) = true
    rw [Lib.validD_cons _ _ (lowB_lt hb)]; exact ih
  · rw [low_append, low_hi hc, hc.valid]; exact ih

theorem sqz_nil (p : Bool) : sqz p [] = [] := by cases p <;> rfl
theorem sqz_step (p : Bool) (b : UInt8) (l : List UInt8) : sqz p (b :: l) = if b = 32 ∧ p = true then sqz true l else b :: sqz (b == 32) l := rfl
theorem sqz_no32 : ∀ (c : List UInt8), c ≠ [] → (∀ b ∈ c, b ≠ 32) → ∀ p t, sqz p (c ++ t) = c ++ sqz false t
  | [], h, _, _, _ => absurd rfl h
  | b :: c, _, hb, p, t => by
    have h1 := hb b (by simp)
    rw [List.cons_append, sqz_step, if_neg (fun e => h1 e.1), show (b == 32) = false from by simpa using h1]
    by_cases hc : c = []
    · subst hc; rfl
    · rw [sqz_no32 c hc (fun x hx => hb x (List.mem_cons_of_mem _ hx))]; rfl
theorem hi_no32 {c : List UInt8} (h : Hi c) : ∀ b ∈ c, b ≠ 32 := fun b hb e => by have := h.high b hb; rw [e] at this; simp at this
theorem valid_sqz : ∀ l : List UInt8, Lib.validD l = true → ∀ p, Lib.validD (sqz p l) = true := by
  refine valid_ind (fun p => by rw [sqz_nil]; rfl) (fun b t hb _ ih p => ?_) (fun c t hc _ ih p => ?_)
  · rw [sqz_step]; split
    · exact ih true
    · rw [Lib.validD_cons _ _ hb]; exact ih _
  · rw [sqz_no32 c hc.ne (hi_no32 hc), hc.valid]; exact ih false

theorem trimB_split (c : UInt8) (l : List UInt8) : ∃ k, l = List.replicate k c ++ Lib.trimLeftB l c ∧ (Lib.trimLeftB l c).head? ≠ some c := by
  induction l with
  | nil => exact ⟨0, rfl, by simp [Lib.trimLeftB]⟩
  | cons b l ih =>
    unfold Lib.trimLeftB at ih ⊢
    rw [List.dropWhile_cons]
    by_cases h : b = c
    · subst h
      rw [if_pos (by simp)]
      obtain ⟨k, h1, h2⟩ := ih
      exact ⟨k + 1, by rw [List.replicate_succ, List.cons_append]; congr 1, h2⟩
    · rw [if_neg (by simpa using h)]
      exact ⟨0, rfl, by simp; exact h⟩
theorem trimR_split (c : UInt8) (l : List UInt8) : ∃ k, l = Lib.trimRightB l c ++ List.replicate k c ∧ (Lib.trimRightB l c).getLast? ≠ some c := by
  obtain ⟨k, h1, h2⟩ := trimB_split c l.reverse
  refine ⟨k, ?_, ?_⟩
  · have := congrArg List.reverse h1
    rw [List.reverse_reverse, List.reverse_append, List.reverse_replicate] at this
    exact this
  · show (Lib.trimLeftB l.reverse c).reverse.getLast? ≠ _
    rw [List.getLast?_reverse]; exact h2
theorem valid_repl (k : Nat) (t : List UInt8) : Lib.validD (List.replicate k 32 ++ t) = Lib.validD t := by
  induction k with
  | zero => rfl
  | succ k ih => rw [List.replicate_succ, List.cons_append, Lib.validD_cons _ _ (by decide), ih]
theorem valid_trimR (l : List UInt8) (h : Lib.validD l = true) : Lib.validD (Lib.trimRightB l 32) = true := by
  obtain ⟨k, h1, _⟩ := trimR_split 32 l
  cases k with
  | zero => rw [List.replicate_zero, List.append_nil] at h1; rw [← h1]; exact h
  | succ k => exact valid_ahead l h _ 32 (List.replicate k 32) (by decide) h1
theorem valid_trimL (l : List UInt8) (h : Lib.validD l = true) : Lib.validD (Lib.trimLeftB l 32) = true := by
  obtain ⟨k, h1, _⟩ := trimB_split 32 l
  rw [h1, valid_repl] at h; exact h
theorem valid_trim (l : List UInt8) (h : Lib.validD l = true) : Lib.validD (Lib.trimB l 32) = true := valid_trimL _ (valid_trimR _ h)
end Go.Proofs.YtifgmnafjihlkaaGreatDoor
/- prep.Piece: what a piece of a value becomes. -/
namespace Go.Proofs.YtifgmnafjihlkaaGreatDoor
open Go Go.RowKit

def placeL (wh : Int) (t : List UInt8) : List UInt8 := if wh = 0 then Lib.trimPrefix t [32] else if wh = 2 then Lib.trimSuffix t [32] else t
def pieceL (f wh : Int) (s : List UInt8) : List UInt8 × Bool :=
  if 65536 < s.length ∨ wh < 0 ∨ 2 < wh then ([], false)
  else if f = 0 ∨ f = 1 then (if Lib.validD s = false then ([], false) else (placeL wh (sqz false (if f = 0 then low s else s)), true))
  else if f = 2 then (if onlyL [32] s = true then (zapB 32 s, true) else ([], false))
  else if f = 3 then (if onlyL signs s = true then (dialL s, true) else ([], false))
  else ([], false)

theorem low_length (l : List UInt8) : (low l).length = l.length := by unfold low; simp

set_option maxRecDepth 20000 in
theorem piece_any (f wh : Int) (s : ByteArray) (w : World) (E : Env w) (hs : s.size ≤ 9223372036854775807) :
    Calls Tryz.prog 70 #[.int .i8 f, .int .i8 wh, .string s] w fun e w' => e = .returned (ret2 (pieceL f wh s.data.toList)) ∧ Below w.heap.size w w' := by
  have hls := Lib.size_eq s
  have HL0 := Lib.hid hls; clear hls
  by_cases h1 : 65536 < s.size
  · have HE := Lib.hid E; clear E
    go_enter Tryz.func70, Tryz.ntmps70
    go_wp2_with fail
    go_ret2
    exact ⟨by rw [pieceL, if_pos (.inl (by have := HL0.out; omega))]; rfl, Below.refl _ _⟩
  have g1 : ¬ (65536 : Int) < s.size := by omega
  by_cases h2 : wh < 0
  · have HE := Lib.hid E; clear E
    go_enter Tryz.func70, Tryz.ntmps70
    go_wp2_with fail
    go_ret2
    exact ⟨by rw [pieceL, if_pos (.inr (.inl h2))]; rfl, Below.refl _ _⟩
  by_cases h3 : 2 < wh
  · have HE := Lib.hid E; clear E
    go_enter Tryz.func70, Tryz.ntmps70
    go_wp2_with fail
    go_ret2
    exact ⟨by rw [pieceL, if_pos (.inr (.inr h3))]; rfl, Below.refl _ _⟩
  have hP : pieceL f wh s.data.toList = if f = 0 ∨ f = 1 then (if Lib.validD s.data.toList = false then ([], false) else (placeL wh (sqz false (if f = 0 then low s.data.toList else s.data.toList)), true))
      else if f = 2 then (if onlyL [32] s.data.toList = true then (zapB 32 s.data.toList, true) else ([], false))
      else if f = 3 then (if onlyL signs s.data.toList = true then (dialL s.data.toList, true) else ([], false))
      else ([], false) := by
    have := HL0.out
    unfold pieceL; rw [if_neg (by omega)]
  have HP := Lib.hid hP; have HE := Lib.hid E; clear hP E
  have l1 := sqz_length false (low s.data.toList)
  have l2 := sqz_length false s.data.toList
  rw [low_length, ← HL0.out] at l1
  rw [← HL0.out] at l2
  have HL := Lib.hid (And.intro (show (sqz false (low s.data.toList)).length ≤ 65536 by omega) (show (sqz false s.data.toList).length ≤ 65536 by omega)); clear l1 l2
  have hw : wh = 0 ∨ wh = 1 ∨ wh = 2 := by omega
  clear h2 h3
  by_cases f0 : f = 0
  · subst f0
    cases hv : Lib.validD s.data.toList with
    | false =>
      have HV := Lib.hid (show pieceL 0 wh s.data.toList = ([], false) by rw [HP.out, if_pos (.inl rfl), if_pos hv])
      clear HP
      go_enter Tryz.func70, Tryz.ntmps70
      go_wp2_with (first
        | (go_at_call 117; refine (valid_any _ _ (by omega)).mono ?_; rintro e w1 ⟨rfl, hb1⟩; have HB1 := Lib.hid hb1; clear hb1)
        | fail)
      go_ret2
      exact ⟨by rw [HV.out]; rfl, HB1.out⟩
    | true =>
      have HV := Lib.hid (show pieceL 0 wh s.data.toList = (placeL wh (sqz false (low s.data.toList)), true) by rw [HP.out, if_pos (.inl rfl), if_neg (by rw [hv]; simp), if_pos rfl])
      rcases hw with rfl | rfl | rfl
      · skip
        go_enter Tryz.func70, Tryz.ntmps70
        go_wp2_with (first
          | (go_at_call 117; refine (valid_any _ _ (by omega)).mono ?_; rintro e w1 ⟨rfl, hb1⟩; have HB1 := Lib.hid hb1; clear hb1)
          | (go_at_call 118; refine (lower_any _ _ (by omega)).mono ?_; rintro e w2 ⟨rfl, hb2⟩; have HB2 := Lib.hid (bnext HB1.out hb2); clear hb2)
          | (go_at_call 119; refine (squeeze_any _ _ (by show (low s.data.toList).length ≤ _; rw [low_length, ← HL0.out]; omega)).mono ?_; rintro e w3 ⟨rfl, hb3⟩; have HB3 := Lib.hid (bnext HB2.out hb3); clear hb3)
          | (go_at_call 120; refine (Tryz.strings_TrimPrefix _ _ _).mono ?_; rintro e w4 ⟨rfl, rfl⟩)
          | fail)
        go_ret2
        exact ⟨by rw [HV.out]; rfl, HB3.out⟩
      · skip
        go_enter Tryz.func70, Tryz.ntmps70
        go_wp2_with (first
          | (go_at_call 117; refine (valid_any _ _ (by omega)).mono ?_; rintro e w1 ⟨rfl, hb1⟩; have HB1 := Lib.hid hb1; clear hb1)
          | (go_at_call 118; refine (lower_any _ _ (by omega)).mono ?_; rintro e w2 ⟨rfl, hb2⟩; have HB2 := Lib.hid (bnext HB1.out hb2); clear hb2)
          | (go_at_call 119; refine (squeeze_any _ _ (by show (low s.data.toList).length ≤ _; rw [low_length, ← HL0.out]; omega)).mono ?_; rintro e w3 ⟨rfl, hb3⟩; have HB3 := Lib.hid (bnext HB2.out hb3); clear hb3)
          | fail)
        go_ret2
        exact ⟨by rw [HV.out]; rfl, HB3.out⟩
      · skip
        go_enter Tryz.func70, Tryz.ntmps70
        go_wp2_with (first
          | (go_at_call 117; refine (valid_any _ _ (by omega)).mono ?_; rintro e w1 ⟨rfl, hb1⟩; have HB1 := Lib.hid hb1; clear hb1)
          | (go_at_call 118; refine (lower_any _ _ (by omega)).mono ?_; rintro e w2 ⟨rfl, hb2⟩; have HB2 := Lib.hid (bnext HB1.out hb2); clear hb2)
          | (go_at_call 119; refine (squeeze_any _ _ (by show (low s.data.toList).length ≤ _; rw [low_length, ← HL0.out]; omega)).mono ?_; rintro e w3 ⟨rfl, hb3⟩; have HB3 := Lib.hid (bnext HB2.out hb3); clear hb3)
          | (go_at_call 121; refine (Tryz.strings_TrimSuffix _ _ _ (by have := HL.out; show (sqz false (low s.data.toList)).length ≤ _; omega)).mono ?_; rintro e w4 ⟨rfl, rfl⟩)
          | fail)
        go_ret2
        exact ⟨by rw [HV.out]; rfl, HB3.out⟩
  by_cases f1 : f = 1
  · subst f1
    cases hv : Lib.validD s.data.toList with
    | false =>
      have HV := Lib.hid (show pieceL 1 wh s.data.toList = ([], false) by rw [HP.out, if_pos (.inr rfl), if_pos hv])
      clear HP
      go_enter Tryz.func70, Tryz.ntmps70
      go_wp2_with (first
        | (go_at_call 117; refine (valid_any _ _ (by omega)).mono ?_; rintro e w1 ⟨rfl, hb1⟩; have HB1 := Lib.hid hb1; clear hb1)
        | fail)
      go_ret2
      exact ⟨by rw [HV.out]; rfl, HB1.out⟩
    | true =>
      have HV := Lib.hid (show pieceL 1 wh s.data.toList = (placeL wh (sqz false s.data.toList), true) by rw [HP.out, if_pos (.inr rfl), if_neg (by rw [hv]; simp), if_neg (by decide)])
      rcases hw with rfl | rfl | rfl
      · skip
        go_enter Tryz.func70, Tryz.ntmps70
        go_wp2_with (first
          | (go_at_call 117; refine (valid_any _ _ (by omega)).mono ?_; rintro e w1 ⟨rfl, hb1⟩; have HB1 := Lib.hid hb1; clear hb1)
          | (go_at_call 119; refine (squeeze_any _ _ (by omega)).mono ?_; rintro e w3 ⟨rfl, hb3⟩; have HB3 := Lib.hid (bnext HB1.out hb3); clear hb3)
          | (go_at_call 120; refine (Tryz.strings_TrimPrefix _ _ _).mono ?_; rintro e w4 ⟨rfl, rfl⟩)
          | fail)
        go_ret2
        exact ⟨by rw [HV.out]; rfl, HB3.out⟩
      · skip
        go_enter Tryz.func70, Tryz.ntmps70
        go_wp2_with (first
          | (go_at_call 117; refine (valid_any _ _ (by omega)).mono ?_; rintro e w1 ⟨rfl, hb1⟩; have HB1 := Lib.hid hb1; clear hb1)
          | (go_at_call 119; refine (squeeze_any _ _ (by omega)).mono ?_; rintro e w3 ⟨rfl, hb3⟩; have HB3 := Lib.hid (bnext HB1.out hb3); clear hb3)
          | fail)
        go_ret2
        exact ⟨by rw [HV.out]; rfl, HB3.out⟩
      · skip
        go_enter Tryz.func70, Tryz.ntmps70
        go_wp2_with (first
          | (go_at_call 117; refine (valid_any _ _ (by omega)).mono ?_; rintro e w1 ⟨rfl, hb1⟩; have HB1 := Lib.hid hb1; clear hb1)
          | (go_at_call 119; refine (squeeze_any _ _ (by omega)).mono ?_; rintro e w3 ⟨rfl, hb3⟩; have HB3 := Lib.hid (bnext HB1.out hb3); clear hb3)
          | (go_at_call 121; refine (Tryz.strings_TrimSuffix _ _ _ (by have := HL.out; show (sqz false s.data.toList).length ≤ _; omega)).mono ?_; rintro e w4 ⟨rfl, rfl⟩)
          | fail)
        go_ret2
        exact ⟨by rw [HV.out]; rfl, HB3.out⟩
  by_cases f2 : f = 2
  · subst f2
    cases hv : onlyL [32] s.data.toList with
    | false =>
      have HV := Lib.hid (show pieceL 2 wh s.data.toList = ([], false) by rw [HP.out, if_neg (by decide), if_pos rfl, if_neg (by rw [hv]; simp)])
      clear HP
      go_enter Tryz.func70, Tryz.ntmps70
      go_wp2_with (first
        | (go_at_call 122; refine (only_any _ _ _ (by omega)).mono ?_; rintro e w1 ⟨rfl, rfl⟩; rw [show onlyL (ByteArray.mk #[32]).data.toList s.data.toList = false from hv])
        | fail)
      go_ret2
      exact ⟨by rw [HV.out]; rfl, Below.refl _ _⟩
    | true =>
      have HV := Lib.hid (show pieceL 2 wh s.data.toList = (zapB 32 s.data.toList, true) by rw [HP.out, if_neg (by decide), if_pos rfl, if_pos hv])
      clear HP
      obtain ⟨m, hm⟩ := HE.out.max
      have HM := Lib.hid hm; clear hm
      go_enter Tryz.func70, Tryz.ntmps70
      go_wp2_with (first
        | (go_at_call 122; refine (only_any _ _ _ (by omega)).mono ?_; rintro e w1 ⟨rfl, rfl⟩; rw [show onlyL (ByteArray.mk #[32]).data.toList s.data.toList = true from hv])
        | (go_at_call 123; refine (Tryz.strings_ReplaceAll s _ _ m _ (by omega) HM.out (by decide) (by show _ + _ * 0 ≤ _; omega)).mono ?_; rintro e w2 ⟨rfl, hb2⟩; have HB2 := Lib.hid hb2; clear hb2; rw [show Lib.replaceAll s.data.toList (ByteArray.mk #[32]).data.toList (ByteArray.mk #[]).data.toList = zapB 32 s.data.toList from replaceAll_zap 32 _])
        | fail)
      go_ret2
      exact ⟨by rw [HV.out]; rfl, HB2.out⟩
  by_cases f3 : f = 3
  · subst f3
    cases hv : onlyL signs s.data.toList with
    | false =>
      have HV := Lib.hid (show pieceL 3 wh s.data.toList = ([], false) by rw [HP.out, if_neg (by decide), if_neg (by decide), if_pos rfl, if_neg (by rw [hv]; simp)])
      clear HP
      go_enter Tryz.func70, Tryz.ntmps70
      go_wp2_with (first
        | (go_at_call 122; refine (only_any _ _ _ (by omega)).mono ?_; rintro e w1 ⟨rfl, rfl⟩; rw [show onlyL (ByteArray.mk #[97, 98, 99, 100, 101, 102, 103, 104, 105, 106, 107, 108, 109, 110, 111, 112, 113, 114, 115, 116, 117, 118, 119, 120, 121, 122, 65, 66, 67, 68, 69, 70, 71, 72, 73, 74, 75, 76, 77, 78, 79, 80, 81, 82, 83, 84, 85, 86, 87, 88, 89, 90, 39, 40, 41, 43, 44, 45, 46, 47, 58, 63, 61, 32]).data.toList s.data.toList = false from hv])
        | fail)
      go_ret2
      exact ⟨by rw [HV.out]; rfl, Below.refl _ _⟩
    | true =>
      have HV := Lib.hid (show pieceL 3 wh s.data.toList = (dialL s.data.toList, true) by rw [HP.out, if_neg (by decide), if_neg (by decide), if_pos rfl, if_pos hv])
      clear HP
      obtain ⟨m, hm⟩ := HE.out.max
      have HM := Lib.hid hm; clear hm
      go_enter Tryz.func70, Tryz.ntmps70
      go_wp2_with (first
        | (go_at_call 122; refine (only_any _ _ _ (by omega)).mono ?_; rintro e w1 ⟨rfl, rfl⟩; rw [show onlyL (ByteArray.mk #[97, 98, 99, 100, 101, 102, 103, 104, 105, 106, 107, 108, 109, 110, 111, 112, 113, 114, 115, 116, 117, 118, 119, 120, 121, 122, 65, 66, 67, 68, 69, 70, 71, 72, 73, 74, 75, 76, 77, 78, 79, 80, 81, 82, 83, 84, 85, 86, 87, 88, 89, 90, 39, 40, 41, 43, 44, 45, 46, 47, 58, 63, 61, 32]).data.toList s.data.toList = true from hv])
        | (go_at_call 124; refine (dialled_any s _ HE.out (by omega)).mono ?_; rintro e w2 ⟨rfl, hb2⟩; have HB2 := Lib.hid hb2; clear hb2)
        | fail)
      go_ret2
      exact ⟨by rw [HV.out]; rfl, HB2.out⟩
  have HV := Lib.hid (show pieceL f wh s.data.toList = ([], false) by rw [HP.out, if_neg (by rintro (h | h); exact f0 h; exact f1 h), if_neg f2, if_neg f3])
  clear HP
  go_enter Tryz.func70, Tryz.ntmps70
  go_wp2_with (first
    | fail)
  go_ret2
  exact ⟨by rw [HV.out]; rfl, Below.refl _ _⟩
end Go.Proofs.YtifgmnafjihlkaaGreatDoor
/- A key has itself as its key; what is cut out of a key is itself as a piece (plain: no program in it). -/
namespace Go.Proofs.YtifgmnafjihlkaaGreatDoor
open Go Go.RowKit

theorem all_bytes {p : UInt8 → Bool} (h : ∀ n, n < 256 → p (UInt8.ofNat n) = true) (b : UInt8) : p b = true := by
  have := h b.toNat b.toNat_lt
  rwa [UInt8.ofNat_toNat] at this
theorem low_low (l : List UInt8) : low (low l) = low l := by
  unfold low
  rw [List.map_map]
  exact List.map_congr_left fun b _ => by
    have := all_bytes (p := fun b => lowB (lowB b) == lowB b) (by decide +kernel) b
    simpa using this
theorem lowB_32 (b : UInt8) : (lowB b == 32) = (b == 32) := by
  have := all_bytes (p := fun b => (lowB b == 32) == (b == 32)) (by decide +kernel) b
  simpa using this
theorem lowB_45 (b : UInt8) : (lowB b == 45) = (b == 45) := by
  have := all_bytes (p := fun b => (lowB b == 45) == (b == 45)) (by decide +kernel) b
  simpa using this

/-! ### runs of blanks -/
theorem low_sqz (l : List UInt8) (p : Bool) : sqz p (low l) = low (sqz p l) := by
  induction l generalizing p with
  | nil => cases p <;> rfl
  | cons b l ih =>
    show sqz p (lowB b :: low l) = low (sqz p (b :: l))
    have h := lowB_32 b
    rw [sqz_step, sqz_step, h, ih, ih]
    by_cases hb : b = 32 ∧ p = true
    · rw [if_pos hb, if_pos ⟨by rw [hb.1]; rfl, hb.2⟩]
    · rw [if_neg hb, if_neg (fun e => hb ⟨by rw [← beq_iff_eq, ← h, e.1]; rfl, e.2⟩)]; rfl
/-- no run of blanks; p: a blank stands ahead -/
def NoRun : Bool → List UInt8 → Prop
  | _, [] => True
  | p, b :: l => ¬ (b = 32 ∧ p = true) ∧ NoRun (b == 32) l
theorem noRun_sqz (l : List UInt8) (p : Bool) : NoRun p (sqz p l) := by
  induction l generalizing p with
  | nil => cases p <;> trivial
  | cons b l ih =>
    rw [sqz_step]
    split
    · rename_i h; rw [h.2]; exact ih true
    · rename_i h; exact ⟨h, ih _⟩
theorem sqz_noRun (l : List UInt8) (p : Bool) (h : NoRun p l) : sqz p l = l := by
  induction l generalizing p with
  | nil => cases p <;> rfl
  | cons b l ih => rw [sqz_step, if_neg h.1, ih _ h.2]
theorem noRun_weak (l : List UInt8) (p : Bool) (h : NoRun p l) : NoRun false l := by
  cases l with
  | nil => trivial
  | cons b l => exact ⟨by simp, h.2⟩
theorem noRun_right (a b : List UInt8) (p : Bool) (h : NoRun p (a ++ b)) : NoRun false b := by
  induction a generalizing p with
  | nil => exact noRun_weak _ _ h
  | cons x a ih => exact ih _ h.2
theorem noRun_left (a b : List UInt8) (p : Bool) (h : NoRun p (a ++ b)) : NoRun p a := by
  induction a generalizing p with
  | nil => trivial
  | cons x a ih => exact ⟨h.1, ih _ h.2⟩

/-! ### blanks at the ends -/
theorem trimL_id {l : List UInt8} (h : l.head? ≠ some 32) : Lib.trimLeftB l 32 = l := by
  cases l with
  | nil => rfl
  | cons b l =>
    unfold Lib.trimLeftB
    rw [List.dropWhile_cons, if_neg (by simp at h ⊢; exact h)]
theorem trimR_id {l : List UInt8} (h : l.getLast? ≠ some 32) : Lib.trimRightB l 32 = l := by
  show (Lib.trimLeftB l.reverse 32).reverse = l
  rw [trimL_id (by rw [List.head?_reverse]; exact h), List.reverse_reverse]
theorem trim_id {l : List UInt8} (h1 : l.head? ≠ some 32) (h2 : l.getLast? ≠ some 32) : trimS l = l := by
  unfold trimS Lib.trimB
  rw [trimR_id h2, trimL_id h1]
theorem getLast_drop {a b : List UInt8} (h : b ≠ []) : (a ++ b).getLast? = b.getLast? := by
  rw [List.getLast?_append]
  cases hb : b.getLast? with
  | none => exact absurd (List.getLast?_eq_none_iff.1 hb) h
  | some x => rfl
theorem trim_ends (l : List UInt8) : (trimS l).head? ≠ some 32 ∧ (trimS l).getLast? ≠ some 32 ∧ ∃ k m, l = List.replicate k 32 ++ trimS l ++ List.replicate m 32 := by
  obtain ⟨m, h1, h2⟩ := trimR_split 32 l
  obtain ⟨k, h3, h4⟩ := trimB_split 32 (Lib.trimRightB l 32)
  refine ⟨h4, ?_, k, m, by unfold trimS Lib.trimB; rw [← h3]; exact h1⟩
  show (Lib.trimLeftB (Lib.trimRightB l 32) 32).getLast? ≠ _
  by_cases hn : Lib.trimLeftB (Lib.trimRightB l 32) 32 = []
  · rw [hn]; simp
  · rw [h3, getLast_drop hn] at h2; exact h2
theorem low_head (l : List UInt8) : (low l).head? = some 32 ↔ l.head? = some 32 := by
  cases l with
  | nil => exact Iff.rfl
  | cons b l =>
    show some (lowB b) = some 32 ↔ some b = some 32
    have := lowB_32 b
    constructor
    · intro h; injection h with h; rw [h] at this; simp at this; rw [this]
    · intro h; injection h with h; subst h; rfl
theorem low_rev (l : List UInt8) : (low l).reverse = low l.reverse := by unfold low; rw [List.map_reverse]
theorem low_last (l : List UInt8) : (low l).getLast? = some 32 ↔ l.getLast? = some 32 := by
  rw [← List.head?_reverse, ← List.head?_reverse, low_rev]; exact low_head _
theorem low_ne (l : List UInt8) : low l = [] ↔ l = [] := by unfold low; exact List.map_eq_nil_iff

/-- a text as FormExact's keys are -/
structure Neat (k : List UInt8) : Prop where
  valid : Lib.validD k = true
  run : NoRun false k
  head : k.head? ≠ some 32
  last : k.getLast? ≠ some 32
  ne : k ≠ []
theorem exact_neat {v k : List UInt8} (h : exactL v = (k, true)) : (k = [32] ∨ Neat k) ∧ k.length ≤ v.length := by
  have hlen := exactL_length v
  rw [h] at hlen
  refine ⟨?_, hlen⟩
  unfold exactL at h
  split at h
  · injection h with _ h; cases h
  · rename_i hv
    injection h with h _
    by_cases he : trimS (sqz false v) = []
    · rw [if_pos he] at h; exact .inl h.symm
    · rw [if_neg he] at h
      subst h
      have hv2 : Lib.validD v = true := by cases e : Lib.validD v with
        | true => rfl
        | false => exact absurd (.inr e) hv
      obtain ⟨e1, e2, kk, m, e3⟩ := trim_ends (sqz false v)
      have hr := noRun_sqz v false
      rw [e3] at hr
      exact .inr ⟨valid_trim _ (valid_sqz v hv2 false), noRun_right _ _ _ (noRun_left _ _ _ hr), e1, e2, he⟩
theorem exact_self {k : List UInt8} (h : Neat k) : exactL k = (k, true) := by
  unfold exactL
  rw [if_neg (by rintro (e | e); · exact h.ne e
                 · rw [h.valid] at e; cases e), sqz_noRun k false h.run, trim_id h.head h.last, if_neg h.ne]
theorem neat_low {k : List UInt8} (h : Neat k) : Neat (low k) where
  valid := valid_low k h.valid
  run := by
    have := noRun_sqz (low k) false
    rwa [low_sqz, sqz_noRun k false h.run] at this
  head e := h.head ((low_head k).1 e)
  last e := h.last ((low_last k).1 e)
  ne e := h.ne ((low_ne k).1 e)
theorem exact_again {v k : List UInt8} (h : exactL v = (k, true)) : exactL k = (k, true) := by
  rcases (exact_neat h).1 with rfl | hn
  · decide +kernel
  · exact exact_self hn
theorem fold_neat {v k : List UInt8} (h : foldL v = (k, true)) : (k = [32] ∨ Neat k) ∧ low k = k ∧ k.length ≤ v.length := by
  unfold foldL at h
  injection h with h1 h2
  have he : exactL v = ((exactL v).1, true) := by rw [← h2]
  have hn := exact_neat he
  subst h1
  refine ⟨?_, low_low _, by rw [low_length]; exact hn.2⟩
  rcases hn.1 with e | e
  · rw [e]; exact .inl rfl
  · exact .inr (neat_low e)
theorem fold_again {v k : List UInt8} (h : foldL v = (k, true)) : foldL k = (k, true) := by
  have hn := fold_neat h
  unfold foldL
  have he : exactL k = (k, true) := by
    rcases hn.1 with rfl | e
    · decide +kernel
    · exact exact_self e
  rw [he, hn.2.1]

theorem zap_zap (c : UInt8) (l : List UInt8) : zapB c (zapB c l) = zapB c l := by unfold zapB; rw [List.filter_filter]; simp
theorem zap_none {c : UInt8} {l : List UInt8} (h : c ∉ l) : zapB c l = l := by
  unfold zapB
  rw [List.filter_eq_self]
  intro b hb
  have : b ≠ c := fun e => h (e ▸ hb)
  simpa using this
theorem zap_mem {c b : UInt8} {l : List UInt8} (h : b ∈ zapB c l) : b ∈ l ∧ b ≠ c := by
  unfold zapB at h
  have := List.mem_filter.1 h
  exact ⟨this.1, by simpa using this.2⟩
theorem only_sub {o l m : List UInt8} (h : onlyL o l = true) (hs : ∀ b ∈ m, b ∈ l) : onlyL o m = true := by
  unfold onlyL at *
  rw [List.all_eq_true] at *
  exact fun b hb => h b (hs b hb)
theorem only_low {o : List UInt8} (ho : ∀ n, n < 256 → (!(dig (UInt8.ofNat n) || o.contains (UInt8.ofNat n)) || (dig (lowB (UInt8.ofNat n)) || o.contains (lowB (UInt8.ofNat n)))) = true) {l : List UInt8} (h : onlyL o l = true) : onlyL o (low l) = true := by
  unfold onlyL at *
  rw [List.all_eq_true] at *
  intro b hb
  obtain ⟨c, hc, rfl⟩ := List.mem_map.1 hb
  have h1 := all_bytes (p := fun b => !(dig b || o.contains b) || (dig (lowB b) || o.contains (lowB b))) ho c
  have h2 := h c hc
  simp only [h2, Bool.not_true, Bool.false_or] at h1
  exact h1
theorem digits_key {v k : List UInt8} (h : digitsL v = (k, true)) : (32 : UInt8) ∉ k ∧ onlyL [32] k = true ∧ k ≠ [] ∧ k.length ≤ v.length := by
  unfold digitsL at h
  injection h with h1 h2
  rw [Bool.and_eq_true] at h2
  subst h1
  refine ⟨fun e => (zap_mem e).2 rfl, only_sub h2.1 fun b hb => (zap_mem hb).1, fun e => ?_, zapB_length _ _⟩
  rw [e] at h2; simp at h2
theorem digits_again {v k : List UInt8} (h : digitsL v = (k, true)) : digitsL k = (k, true) := by
  obtain ⟨h1, h2, h3, _⟩ := digits_key h
  unfold digitsL
  rw [zap_none h1, h2]
  cases k with
  | nil => exact absurd rfl h3
  | cons a l => rfl
theorem phone_key {v k : List UInt8} (h : phoneL v = (k, true)) : (32 : UInt8) ∉ k ∧ (45 : UInt8) ∉ k ∧ low k = k ∧ onlyL signs k = true ∧ k ≠ [] ∧ k.length ≤ v.length := by
  unfold phoneL at h
  injection h with h1 h2
  rw [Bool.and_eq_true] at h2
  subst h1
  have hm : ∀ b ∈ dialL v, b ≠ 32 ∧ b ≠ 45 := by
    intro b hb
    obtain ⟨c, hc, rfl⟩ := List.mem_map.1 hb
    have h1 := zap_mem hc
    have h2 := zap_mem h1.1
    have k1 := lowB_32 c
    have k2 := lowB_45 c
    rw [show (c == 32) = false from by simpa using h2.2] at k1
    rw [show (c == 45) = false from by simpa using h1.2] at k2
    exact ⟨by simpa using k1, by simpa using k2⟩
  refine ⟨fun e => (hm _ e).1 rfl, fun e => (hm _ e).2 rfl, low_low _, only_low (by decide +kernel) (only_sub h2.1 fun b hb => (zap_mem (zap_mem hb).1).1), fun e => ?_, dialL_length v⟩
  rw [e] at h2; simp at h2
theorem dial_self {k : List UInt8} (h1 : (32 : UInt8) ∉ k) (h2 : (45 : UInt8) ∉ k) (h3 : low k = k) : dialL k = k := by
  unfold dialL; rw [zap_none h1, zap_none h2, h3]
theorem phone_again {v k : List UInt8} (h : phoneL v = (k, true)) : phoneL k = (k, true) := by
  obtain ⟨h1, h2, h3, h4, h5, _⟩ := phone_key h
  unfold phoneL
  rw [dial_self h1 h2 h3, h4]
  cases k with
  | nil => exact absurd rfl h5
  | cons a l => rfl
theorem oid_again {v k : List UInt8} (h : oidL v = (k, true)) : oidL k = (k, true) ∧ k.length ≤ v.length := by
  cases v with
  | nil => injection h with _ h; cases h
  | cons b l =>
    by_cases hb : letters.contains b = true
    · have e : oidL (b :: l) = (low (b :: l), onlyL (letters ++ [45]) (b :: l)) := if_pos hb
      rw [e] at h
      injection h with h1 h2
      have hlb : letters.contains (lowB b) = true := by
        have := all_bytes (p := fun b => !(letters.contains b) || letters.contains (lowB b)) (by decide +kernel) b
        simp only [hb, Bool.not_true, Bool.false_or] at this; exact this
      subst h1
      have e2 : oidL (low (b :: l)) = (low (low (b :: l)), onlyL (letters ++ [45]) (low (b :: l))) := by
        show oidL (lowB b :: low l) = _
        exact if_pos hlb
      rw [e2, low_low, only_low (by decide +kernel) h2]
      exact ⟨rfl, by rw [low_length]; exact Nat.le_refl _⟩
    · have hk : k = b :: l := by
        have e : oidL (b :: l) = _ := if_neg hb
        rw [e] at h
        split at h
        · injection h with h _; exact h.symm
        · injection h with _ h; cases h
      rw [hk] at h ⊢
      exact ⟨h, Nat.le_refl _⟩

/-- the forms whose keys are values -/
theorem key_again (f : Int) (hf : f = 0 ∨ f = 1 ∨ f = 2 ∨ f = 3 ∨ f = 5 ∨ f = 7 ∨ f = 8) {v k : List UInt8} (h : keyL f v = (k, true)) : keyL f k = (k, true) ∧ k.length ≤ v.length := by
  unfold keyL at h
  split at h
  · injection h with _ h; cases h
  · rename_i hv
    split at h
    · rename_i h2
      injection h with h1 _
      have hr : ruleL f v = (k, true) := by rw [← h1, ← h2]
      have hk : ruleL f k = (k, true) ∧ k.length ≤ v.length := by
        rcases hf with rfl | rfl | rfl | rfl | rfl | rfl | rfl
        · exact ⟨fold_again hr, (fold_neat hr).2.2⟩
        · exact ⟨exact_again hr, (exact_neat hr).2⟩
        · exact ⟨digits_again hr, (digits_key hr).2.2.2⟩
        · exact ⟨phone_again hr, (phone_key hr).2.2.2.2.2⟩
        · have e : v = k := congrArg Prod.fst hr
          rw [e] at hr ⊢
          exact ⟨hr, Nat.le_refl _⟩
        · have e : v = k := congrArg Prod.fst hr
          rw [e] at hr ⊢
          exact ⟨hr, Nat.le_refl _⟩
        · exact oid_again hr
      refine ⟨?_, hk.2⟩
      unfold keyL
      rw [if_neg (by omega), hk.1]; rfl
    · injection h with _ h; cases h
theorem key_len {f : Int} {v k : List UInt8} (h : keyL f v = (k, true)) (hf : f = 0 ∨ f = 1 ∨ f = 2 ∨ f = 3) : k.length ≤ 65536 := by
  have h2 := (key_again f (by omega) h).2
  have h3 : ¬ 65536 < v.length := fun e => by unfold keyL at h; rw [if_pos e] at h; injection h with _ h; cases h
  omega
theorem key_none_nil {f : Int} {v k : List UInt8} (h : keyL f v = (k, false)) : k = [] := by
  unfold keyL at h
  split at h
  · injection h with h _; exact h.symm
  · split at h
    · injection h with _ h; cases h
    · injection h with h _; exact h.symm

/-! ### what is cut out of a key -/
theorem prefix_none {t : List UInt8} (h : t.head? ≠ some 32) : Lib.trimPrefix t [32] = t := by
  unfold Lib.trimPrefix
  rw [if_neg]
  intro e
  unfold Lib.hasPrefix at e
  cases t with
  | nil => simp at e
  | cons a t =>
    simp [List.isPrefixOf] at e
    exact h (by rw [e]; rfl)
theorem suffix_none {t : List UInt8} (h : t.getLast? ≠ some 32) : Lib.trimSuffix t [32] = t := by
  unfold Lib.trimSuffix
  rw [if_neg]
  intro e
  unfold Lib.hasSuffix at e
  rw [List.isSuffixOf_iff_suffix] at e
  obtain ⟨m, rfl⟩ := e
  exact h (by simp)

theorem piece_text {f wh : Int} (hf : f = 0 ∨ f = 1) {s : List UInt8} (hw : 0 ≤ wh ∧ wh ≤ 2) (hl : s.length ≤ 65536) (hv : Lib.validD s = true) (hr : NoRun false s) (hlow : f = 0 → low s = s)
    (h0 : wh = 0 → s.head? ≠ some 32) (h2 : wh = 2 → s.getLast? ≠ some 32) : pieceL f wh s = (s, true) := by
  have e : (if f = 0 then low s else s) = s := by
    split
    · rename_i h; exact hlow h
    · rfl
  unfold pieceL
  rw [if_neg (by omega), if_pos hf, e, sqz_noRun s false hr, if_neg (by rw [hv]; simp)]
  unfold placeL
  split
  · rename_i h; rw [prefix_none (h0 h)]
  · split
    · rename_i h; rw [suffix_none (h2 h)]
    · rfl
theorem piece_digits {wh : Int} (hw : 0 ≤ wh ∧ wh ≤ 2) {s : List UInt8} (hl : s.length ≤ 65536) (h1 : (32 : UInt8) ∉ s) (h2 : onlyL [32] s = true) : pieceL 2 wh s = (s, true) := by
  unfold pieceL
  rw [if_neg (by omega), if_neg (by decide), if_pos rfl, if_pos h2, zap_none h1]
theorem piece_phone {wh : Int} (hw : 0 ≤ wh ∧ wh ≤ 2) {s : List UInt8} (hl : s.length ≤ 65536) (h1 : (32 : UInt8) ∉ s) (h2 : (45 : UInt8) ∉ s) (h3 : low s = s) (h4 : onlyL signs s = true) : pieceL 3 wh s = (s, true) := by
  unfold pieceL
  rw [if_neg (by omega), if_neg (by decide), if_neg (by decide), if_pos rfl, if_pos h4, dial_self h1 h2 h3]

theorem low_part {a b c : List UInt8} (h : low (a ++ b ++ c) = a ++ b ++ c) : low a = a ∧ low b = b ∧ low c = c := by
  rw [low_append, low_append] at h
  have h1 := List.append_inj h (by simp [low_length])
  have h2 := List.append_inj h1.1 (low_length a)
  exact ⟨h2.1, h2.2, h1.2⟩

/-- a key in three parts, the first two valid: each is itself as a piece at its place -/
theorem key_cuts {f : Int} (hf : f = 0 ∨ f = 1 ∨ f = 2 ∨ f = 3) {v a b c : List UInt8} (h : keyL f v = (a ++ b ++ c, true)) (hn : a ++ b ++ c ≠ [32]) (ha : Lib.validD a = true) (hb : Lib.validD b = true) :
    pieceL f 1 b = (b, true) ∧ pieceL f 0 a = (a, true) ∧ pieceL f 2 (b ++ c) = (b ++ c, true) := by
  unfold keyL at h
  split at h
  · injection h with _ h; cases h
  rename_i hv
  split at h
  case isFalse => injection h with _ h; cases h
  rename_i h2
  injection h with h1 _
  have hr : ruleL f v = (a ++ b ++ c, true) := by rw [← h1, ← h2]
  have text : ∀ k, k = a ++ b ++ c → Neat k → k.length ≤ v.length → (f = 0 → low k = k) → (f = 0 ∨ f = 1) → pieceL f 1 b = (b, true) ∧ pieceL f 0 a = (a, true) ∧ pieceL f 2 (b ++ c) = (b ++ c, true) := by
    intro k hk hN hl hlow hf01
    subst hk
    have hl2 : a.length + (b.length + c.length) ≤ v.length := by simpa using hl
    have r1 : NoRun false (a ++ (b ++ c)) := by rw [← List.append_assoc]; exact hN.run
    have rbc := noRun_right _ _ _ r1
    have vbc : Lib.validD (b ++ c) = true := by
      have := hN.valid
      rwa [List.append_assoc, valid_append a ha] at this
    refine ⟨piece_text hf01 (by decide) (by omega) hb (noRun_left _ _ _ rbc) (fun e => (low_part (hlow e)).2.1) (fun e => by cases e) (fun e => by cases e),
      piece_text hf01 (by decide) (by omega) ha (noRun_left _ _ _ r1) (fun e => (low_part (hlow e)).1) (fun _ e => hN.head ?_) (fun e => by cases e),
      piece_text hf01 (by decide) (by simp; omega) vbc rbc (fun e => by rw [low_append, (low_part (hlow e)).2.1, (low_part (hlow e)).2.2]) (fun e => by cases e) (fun _ e => hN.last ?_)⟩
    · cases a with
      | nil => cases e
      | cons x a => exact e
    · rw [List.append_assoc]
      by_cases hne : b ++ c = []
      · rw [hne] at e; cases e
      · rw [getLast_drop hne]; exact e
  rcases hf with rfl | rfl | rfl | rfl
  · have hk := fold_neat (v := v) hr
    rcases hk.1 with e | e
    · exact absurd e hn
    · exact text _ rfl e hk.2.2 (fun _ => hk.2.1) (.inl rfl)
  · have hk := exact_neat (v := v) hr
    rcases hk.1 with e | e
    · exact absurd e hn
    · exact text _ rfl e hk.2 (fun e => by cases e) (.inr rfl)
  · obtain ⟨k1, k2, _, k4⟩ := digits_key (v := v) hr
    have hl2 : a.length + (b.length + c.length) ≤ v.length := by simpa using k4
    have part : ∀ m : List UInt8, (∀ x ∈ m, x ∈ a ++ b ++ c) → m.length ≤ 65536 → ∀ wh, 0 ≤ wh ∧ wh ≤ 2 → pieceL 2 wh m = (m, true) := fun m hm hl wh hw => piece_digits hw hl (fun e => k1 (hm _ e)) (only_sub k2 hm)
    exact ⟨part b (fun x hx => by simp [hx]) (by omega) 1 (by decide), part a (fun x hx => by simp [hx]) (by omega) 0 (by decide), part (b ++ c) (fun x hx => by simp at hx ⊢; rcases hx with h | h <;> simp [h]) (by simp; omega) 2 (by decide)⟩
  · obtain ⟨k1, k2, k3, k4, _, k6⟩ := phone_key (v := v) hr
    have hl2 : a.length + (b.length + c.length) ≤ v.length := by simpa using k6
    have hlo := low_part k3
    have part : ∀ m : List UInt8, low m = m → (∀ x ∈ m, x ∈ a ++ b ++ c) → m.length ≤ 65536 → ∀ wh, 0 ≤ wh ∧ wh ≤ 2 → pieceL 3 wh m = (m, true) := fun m hm0 hm hl wh hw => piece_phone hw hl (fun e => k1 (hm _ e)) (fun e => k2 (hm _ e)) hm0 (only_sub k4 hm)
    exact ⟨part b hlo.2.1 (fun x hx => by simp [hx]) (by omega) 1 (by decide), part a hlo.1 (fun x hx => by simp [hx]) (by omega) 0 (by decide), part (b ++ c) (by rw [low_append, hlo.2.1, hlo.2.2]) (fun x hx => by simp at hx ⊢; rcases hx with h | h <;> simp [h]) (by simp; omega) 2 (by decide)⟩
end Go.Proofs.YtifgmnafjihlkaaGreatDoor
