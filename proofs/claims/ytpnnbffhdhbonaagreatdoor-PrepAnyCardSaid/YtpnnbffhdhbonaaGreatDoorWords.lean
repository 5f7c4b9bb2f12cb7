/- The words of a text, plainly: strings.FieldsFunc at what parts words of small letters. -/
import Derived.Test.YtpnnbffhdhbonaaGreatDoorVoice
import Derived.Test.YtpnnbffhdhbonaaGreatDoorTxt
import Derived.Lib.FieldsP
import Derived.Lib.MapLaws
import Derived.Lib.TrimAscii
namespace Go.Proofs.YtpnnbffhdhbonaaGreatDoor
open Go Go.RowKit

def isL (b : UInt8) : Bool := decide (97 ≤ b.toNat) && decide (b.toNat ≤ 122)
/-- the runs of small letters; cur: the one that is under way -/
def runsOf : List UInt8 → List UInt8 → List (List UInt8)
  | cur, [] => if cur.isEmpty then [] else [cur]
  | cur, b :: l => if isL b then runsOf (cur ++ [b]) l else if cur.isEmpty then runsOf [] l else cur :: runsOf [] l

theorem runsOf_high (cur rest : List UInt8) : ∀ xs : List UInt8, xs ≠ [] → (∀ x ∈ xs, isL x = false) → runsOf cur (xs ++ rest) = (if cur.isEmpty then [] else [cur]) ++ runsOf [] rest
  | [], h, _ => absurd rfl h
  | [x], _, h => by
    have hx := h x (by simp)
    show runsOf cur (x :: rest) = _
    rw [runsOf, hx]
    cases hc : cur.isEmpty <;> simp
  | x :: y :: xs, _, h => by
    have hx := h x (by simp)
    show runsOf cur (x :: ((y :: xs) ++ rest)) = _
    rw [runsOf, hx]
    have ih := runsOf_high [] rest (y :: xs) (by simp) (fun z hz => h z (List.mem_cons_of_mem _ hz))
    simp only [List.cons_append, List.isEmpty_nil, if_true, List.nil_append] at ih
    cases hc : cur.isEmpty <;> simp [ih]

theorem encodeRuneZ_high {r : Int} (h : 128 ≤ r) : ∀ z ∈ Lib.encodeRuneZ r, 128 ≤ z ∧ z < 256 := by
  intro z hz
  refine ⟨?_, (Lib.encodeRuneZ_byte r z hz).2⟩
  rcases (by omega : r ≤ 2047 ∨ ((2048 ≤ r ∧ r < 55296) ∨ (57343 < r ∧ r ≤ 65535)) ∨ (65536 ≤ r ∧ r ≤ 1114111) ∨ (r < 0 ∨ (55296 ≤ r ∧ r ≤ 57343) ∨ 1114111 < r)) with h1 | h1 | h1 | h1
  · rw [Lib.encodeRuneZ_two h h1] at hz; simp only [List.mem_cons, List.not_mem_nil, or_false] at hz; omega
  · rw [Lib.encodeRuneZ_three h1] at hz; simp only [List.mem_cons, List.not_mem_nil, or_false] at hz; omega
  · rw [Lib.encodeRuneZ_four h1.1 h1.2] at hz; simp only [List.mem_cons, List.not_mem_nil, or_false] at hz; omega
  · rw [Lib.encodeRuneZ_bad h1] at hz; simp only [List.mem_cons, List.not_mem_nil, or_false] at hz; omega

theorem not_isL {b : UInt8} (h : 128 ≤ b.toNat) : isL b = false := by
  unfold isL; rw [decide_eq_false (by omega : ¬ b.toNat ≤ 122)]; simp

theorem high_step (b : UInt8) (t : List UInt8) (hb : 128 ≤ b.toNat) : parts (Lib.decodeL (b :: t)).1 = true ∧ ∀ x ∈ (b :: t).take (Lib.decodeL (b :: t)).2, isL x = false := by
  have hw := Lib.decodeL_width (b :: t)
  by_cases hv : (Lib.decodeL (b :: t)).1 = 65533 ∧ (Lib.decodeL (b :: t)).2 = 1
  · rw [hv.1, hv.2]
    refine ⟨rfl, fun x hx => ?_⟩
    simp at hx; subst hx; exact not_isL hb
  · have he := Lib.encode_decode (b :: t) (by simp) hv
    have hr : 128 ≤ (Lib.decodeL (b :: t)).1 := by
      rcases Nat.lt_or_ge (Lib.decodeL (b :: t)).1 128 with h | h
      · exfalso
        obtain ⟨k, hk⟩ : ∃ k, (Lib.decodeL (b :: t)).2 = k + 1 := ⟨(Lib.decodeL (b :: t)).2 - 1, by omega⟩
        rw [hk, List.take_succ_cons, Lib.encodeRune, Lib.encodeRuneZ_one (by omega) (by omega)] at he
        simp only [List.map_cons, List.cons.injEq] at he
        have := congrArg UInt8.toNat he.1
        rw [Nat.toUInt8_eq, UInt8.toNat_ofNat'] at this
        omega
      · exact h
    refine ⟨?_, fun x hx => ?_⟩
    · unfold parts; rw [decide_eq_true (by omega : 122 < (Lib.decodeL (b :: t)).1)]; simp
    · rw [← he, Lib.encodeRune, List.mem_map] at hx
      obtain ⟨z, hz, rfl⟩ := hx
      have h1 := encodeRuneZ_high (by omega) z hz
      apply not_isL
      rw [Nat.toUInt8_eq, UInt8.toNat_ofNat']; omega

theorem parts_ascii (b : UInt8) : parts b.toNat = !isL b := by
  unfold parts isL
  by_cases h1 : b.toNat < 97
  · simp [h1]
  · by_cases h2 : 122 < b.toNat
    · simp [h2]
    · simp [h1, h2, Nat.not_lt.1 h1, Nat.not_lt.1 h2]

def curOf (s : ByteArray) (st : Option Nat) (pos : Nat) : List UInt8 := match st with
  | some a => (s.data.toList.drop a).take (pos - a)
  | none => []
def exL (s : ByteArray) (x : Nat × Nat) : List UInt8 := (s.data.toList.drop x.1).take (x.2 - x.1)

theorem curOf_next (s : ByteArray) (st : Option Nat) (pos : Nat) (hp : pos < s.size) (hst : ∀ a, st = some a → a < pos) :
    curOf s (some (st.getD pos)) (pos + 1) = curOf s st pos ++ [s[pos]] := by
  have hs := Lib.size_eq s
  cases st with
  | none =>
    show (s.data.toList.drop pos).take (pos + 1 - pos) = _
    rw [drop_at s hp, show pos + 1 - pos = 1 by omega]; rfl
  | some a =>
    have ha := hst a rfl
    show (s.data.toList.drop a).take (pos + 1 - a) = (s.data.toList.drop a).take (pos - a) ++ [s[pos]]
    rw [show pos + 1 - a = (pos - a) + 1 by omega, List.take_succ_eq_append_getElem (by rw [List.length_drop]; omega)]
    congr 2
    rw [List.getElem_drop]
    simp only [show a + (pos - a) = pos by omega]
    rfl

theorem sp_step (p : Nat → Bool) (s : ByteArray) (f pos : Nat) (st : Option Nat) (acc : List (Nat × Nat)) (hp : pos < s.size) :
    Lib.spansFromP p s (f + 1) pos st acc = if p (Utf8.decode s pos).1 = true then Lib.spansFromP p s f (pos + (Utf8.decode s pos).2) none (match st with | some a => acc ++ [(a, pos)] | none => acc)
      else Lib.spansFromP p s f (pos + (Utf8.decode s pos).2) (some (st.getD pos)) acc := by
  cases st <;> simp [Lib.spansFromP, hp]

theorem spans_runs (s : ByteArray) : ∀ (f pos : Nat) (st : Option Nat) (acc : List (Nat × Nat)), s.size ≤ pos + f → pos ≤ s.size → (∀ a, st = some a → a < pos) →
    (Lib.closeSpans s (Lib.spansFromP parts s f pos st acc)).map (exL s) = acc.map (exL s) ++ runsOf (curOf s st pos) (s.data.toList.drop pos) := by
  have hs := Lib.size_eq s
  have fin : ∀ (st : Option Nat) (acc : List (Nat × Nat)), (∀ a, st = some a → a < s.size) → (Lib.closeSpans s (acc, st)).map (exL s) = acc.map (exL s) ++ runsOf (curOf s st s.size) [] := by
    intro st acc hst
    cases st with
    | none => simp [Lib.closeSpans, curOf, runsOf]
    | some a =>
      have ha := hst a rfl
      have hne : ((s.data.toList.drop a).take (s.size - a)).isEmpty = false := by
        cases hh : (s.data.toList.drop a).take (s.size - a) with
        | nil => have := congrArg List.length hh; rw [List.length_take, List.length_drop] at this; simp at this; omega
        | cons x l => rfl
      show List.map (exL s) (acc ++ [(a, s.size)]) = _
      rw [List.map_append]
      congr 1
      show [(s.data.toList.drop a).take (s.size - a)] = runsOf ((s.data.toList.drop a).take (s.size - a)) []
      rw [runsOf, hne]; simp
  intro f
  induction f with
  | zero =>
    intro pos st acc h1 h2 hst
    obtain rfl : pos = s.size := by omega
    rw [List.drop_of_length_le (by omega)]
    exact fin st acc hst
  | succ f ih =>
    intro pos st acc h1 h2 hst
    by_cases hp : pos < s.size
    · have hd := drop_at s hp
      have hdl := Lib.decodeL_drop s pos
      rw [hd] at hdl
      rw [sp_step _ _ _ _ _ _ hp, ← hdl]
      have stx : ∀ a, (some (st.getD pos) : Option Nat) = some a → a < pos + 1 := by
        intro a h; injection h with h; cases st with
        | none => simp at h; omega
        | some c => have := hst c rfl; simp at h; omega
      by_cases hb : s[pos].toNat < 128
      · rw [Lib.decodeL_ascii _ _ hb, parts_ascii]
        cases hl : isL s[pos] with
        | true =>
          have h3 := ih (pos + 1) (some (st.getD pos)) acc (by omega) (by omega) stx
          rw [curOf_next s st pos hp hst] at h3
          rw [hd, runsOf, hl, if_pos rfl, ← h3]
          cases st <;> rfl
        | false =>
          rw [hd, runsOf, hl]
          simp only [Bool.not_false, if_true, Bool.false_eq_true, if_false]
          cases st with
          | none =>
            have h3 := ih (pos + 1) none acc (by omega) (by omega) (fun a h => by cases h)
            simpa [curOf] using h3
          | some a =>
            have ha := hst a rfl
            have h3 := ih (pos + 1) none (acc ++ [(a, pos)]) (by omega) (by omega) (fun a h => by cases h)
            have hne : (curOf s (some a) pos).isEmpty = false := by
              cases hh : curOf s (some a) pos with
              | nil => have := congrArg List.length hh; simp only [curOf] at this; rw [List.length_take, List.length_drop] at this; simp at this; omega
              | cons x l => rfl
            rw [hne]
            simp only [Bool.false_eq_true, if_false]
            rw [h3]
            simp [exL, curOf]
      · obtain ⟨k1, k2⟩ := high_step s[pos] (List.drop (pos + 1) s.data.toList) (by omega)
        have kw := Lib.decodeL_width (s[pos] :: List.drop (pos + 1) s.data.toList)
        have kl := Lib.decodeL_le (s[pos] :: List.drop (pos + 1) s.data.toList) (by simp)
        have klen : (s[pos] :: List.drop (pos + 1) s.data.toList).length = s.size - pos := by rw [← hd, List.length_drop]; omega
        rw [k1, if_pos rfl]
        rw [hd]
        generalize hW : (Lib.decodeL (s[pos] :: List.drop (pos + 1) s.data.toList)).2 = W at *
        have hr := runsOf_high (curOf s st pos) ((s[pos] :: List.drop (pos + 1) s.data.toList).drop W) ((s[pos] :: List.drop (pos + 1) s.data.toList).take W) (by
          obtain ⟨k, hk⟩ : ∃ k, W = k + 1 := ⟨W - 1, by omega⟩
          rw [hk]; simp) k2
        rw [List.take_append_drop] at hr
        rw [hr, ← hd, List.drop_drop]
        cases st with
        | none =>
          have h3 := ih (pos + W) none acc (by omega) (by omega) (fun a h => by cases h)
          simpa [curOf] using h3
        | some a =>
          have ha := hst a rfl
          have h3 := ih (pos + W) none (acc ++ [(a, pos)]) (by omega) (by omega) (fun a h => by cases h)
          have hne : (curOf s (some a) pos).isEmpty = false := by
            cases hh : curOf s (some a) pos with
            | nil => have := congrArg List.length hh; simp only [curOf] at this; rw [List.length_take, List.length_drop] at this; simp at this; omega
            | cons x l => rfl
          rw [hne]
          simp only []
          rw [h3]
          simp [exL, curOf]
    · obtain rfl : pos = s.size := by omega
      rw [Lib.spansFromP_end _ _ _ _ _ _ hp, List.drop_of_length_le (by omega)]
      exact fin st acc hst

theorem words_eq (s : ByteArray) : Lib.goFieldsP parts s = (runsOf [] s.data.toList).map fun l => ⟨l.toArray⟩ := by
  have h := spans_runs s s.size 0 none [] (by omega) (Nat.zero_le _) (fun a h => by cases h)
  have h2 : Lib.goFieldsP parts s = ((Lib.spansOfP parts s).map (exL s)).map fun l => ⟨l.toArray⟩ := by
    unfold Lib.goFieldsP
    rw [List.map_map]
    apply List.map_congr_left
    intro x _
    show s.extract x.1 x.2 = _
    rw [Lib.extract_eq]; rfl
  rw [h2]
  unfold Lib.spansOfP
  rw [h]; simp [curOf]

theorem runsOf_mem : ∀ (l cur : List UInt8), (∀ b ∈ cur, isL b = true) → ∀ x ∈ runsOf cur l, x ≠ [] ∧ ∀ b ∈ x, isL b = true
  | [], cur, hc, x, hx => by
    unfold runsOf at hx
    cases he : cur.isEmpty with
    | true => rw [he] at hx; simp at hx
    | false => rw [he] at hx; simp at hx; subst hx; exact ⟨fun e => by rw [e] at he; simp at he, hc⟩
  | b :: l, cur, hc, x, hx => by
    unfold runsOf at hx
    cases hb : isL b with
    | true =>
      rw [hb, if_pos rfl] at hx
      exact runsOf_mem l (cur ++ [b]) (fun y hy => by rcases List.mem_append.1 hy with h | h; · exact hc y h
                                                      · simp at h; subst h; exact hb) x hx
    | false =>
      rw [hb, if_neg (by simp)] at hx
      cases he : cur.isEmpty with
      | true => rw [he, if_pos rfl] at hx; exact runsOf_mem l [] (by simp) x hx
      | false =>
        rw [he, if_neg (by simp)] at hx
        rcases List.mem_cons.1 hx with h | h
        · subst h; exact ⟨fun e => by rw [e] at he; simp at he, hc⟩
        · exact runsOf_mem l [] (by simp) x h
theorem runsOf_count : ∀ (l cur : List UInt8), (runsOf cur l).length ≤ cur.length + l.length
  | [], cur => by
    unfold runsOf
    cases cur <;> simp
  | b :: l, cur => by
    unfold runsOf
    cases hb : isL b with
    | true =>
      have := runsOf_count l (cur ++ [b])
      rw [if_pos rfl]; simp at this ⊢; omega
    | false =>
      have := runsOf_count l []
      rw [if_neg (by simp)]
      cases cur with
      | nil => simp at this ⊢; omega
      | cons x c => simp at this ⊢; omega
theorem runsOf_len : ∀ (l cur : List UInt8), ∀ x ∈ runsOf cur l, x.length ≤ cur.length + l.length
  | [], cur, x, hx => by
    unfold runsOf at hx
    cases cur with
    | nil => simp at hx
    | cons a c => simp at hx; subst hx; simp
  | b :: l, cur, x, hx => by
    unfold runsOf at hx
    cases hb : isL b with
    | true =>
      rw [hb, if_pos rfl] at hx
      have := runsOf_len l (cur ++ [b]) x hx
      simp at this ⊢; omega
    | false =>
      rw [hb, if_neg (by simp)] at hx
      cases cur with
      | nil =>
        have := runsOf_len l [] x (by simpa using hx)
        simp at this ⊢; omega
      | cons a c =>
        simp only [List.isEmpty_cons, Bool.false_eq_true, if_false, List.mem_cons] at hx
        rcases hx with h | h
        · subst h; simp
        · have := runsOf_len l [] x h
          simp at this ⊢; omega
theorem isL_iff (b : UInt8) : isL b = true ↔ 97 ≤ b.toNat ∧ b.toNat ≤ 122 := by
  unfold isL; rw [Bool.and_eq_true, decide_eq_true_eq, decide_eq_true_eq]
end Go.Proofs.YtpnnbffhdhbonaaGreatDoor
