/- Part 22 of the walks and plain laws, joined: NameVQ, KeyV, SchP3. -/
import Derived.Test.YtlmfbjhokkpjhaaGreatDoorNB00
import Derived.Test.YtlmfbjhokkpjhaaGreatDoorNB21
import Derived.Test.YtlmfbjhokkpjhaaGreatDoorNB20
import Derived.Test.YtlmfbjhokkpjhaaGreatDoorNB08
set_option linter.unusedVariables false
set_option linter.unusedSimpArgs false
namespace Go.Proofs.YtlmfbjhokkpjhaaGreatDoor
open Go Go.RowKit
theorem valR_len (st : Nat) : ∀ (n : Nat) (l : Str) (off : Nat) (b : Str) (bare : Option Nat) (v : Str) (off2 : Nat), l.length ≤ n → valR st l off b bare = (v, off2, none) →
  off ≤ off2 ∧ off2 ≤ off + l.length ∧ v.length + off ≤ b.length + off2 := by
 intro n
 induction n with
 | zero =>
  intro l off b bare v off2 hl h
  obtain rfl : l = [] := List.eq_nil_of_length_eq_zero (by omega)
  rw [valR_nil] at h
  injection h with h1 h2; injection h2 with h2 _
  subst h1; subst h2
  simp
 | succ n ih =>
  intro l off b bare v off2 hl h
  cases l with
  | nil =>
   rw [valR_nil] at h
   injection h with h1 h2; injection h2 with h2 _
   subst h1; subst h2
   simp
  | cons c l =>
   simp only [List.length_cons] at hl
   by_cases c1 : c = 44 ∨ c = 43
   ·rw [valR_end c1] at h
    injection h with h1 h2; injection h2 with h2 _
    subst h1; subst h2
    simp
   ·by_cases c2 : c = 92
    ·subst c2
     cases l with
     | nil => rw [valR.eq_def] at h; simp at h
     | cons x l =>
      simp only [List.length_cons] at hl
      cases hx : escs.contains x with
      | true =>
       rw [valR_esc hx] at h
       have := ih l _ _ _ _ _ (by omega) h
       simp at this ⊢; omega
      | false =>
       cases l with
       | nil => rw [valR.eq_def] at h; simp only [hx] at h; simp at h
       | cons y l =>
        simp only [List.length_cons] at hl
        cases hy : (hexd x && hexd y) with
        | true =>
         rw [valR_hex hx hy] at h
         have := ih l _ _ _ _ _ (by omega) h
         simp at this ⊢; omega
        | false =>
         rw [valR.eq_def] at h; simp only [hx, hy] at h; simp at h
    ·by_cases c3 : bads.contains c = true ∨ (off = st ∧ (c = 32 ∨ c = 35))
     ·rw [valR.eq_def] at h; simp only at h
      rw [if_neg c1, if_neg c2, if_pos c3] at h
      injection h with _ h2; injection h2 with _ h2; cases h2
     ·rw [valR_put (fun e => c1 (.inl e)) (fun e => c1 (.inr e)) c2 (by cases e : bads.contains c with | false => rfl | true => exact absurd (.inl e) c3) (fun e => c3 (.inr e))] at h
      have := ih l _ _ _ _ _ (by omega) h
      simp at this ⊢; omega
theorem takeWhile_all (p : UInt8 → Bool) (l : Str) : (l.takeWhile p).all p = true := by
 induction l with
 | nil => rfl
 | cons a l ih =>
  rw [List.takeWhile_cons]
  split
  ·rename_i h; simp [h]
  ·rfl
theorem take_takeWhile (p : UInt8 → Bool) (l : Str) : l.take (l.takeWhile p).length = l.takeWhile p := by
 induction l with
 | nil => rfl
 | cons a l ih =>
  rw [List.takeWhile_cons]
  split
  ·simp [ih]
  ·rfl
theorem cut_free {x : Str} (h : (46 : UInt8) ∉ x) : cutAt 46 x = [x] := by
 induction x with
 | nil => rfl
 | cons b x ih =>
  simp at h
  unfold cutAt
  rw [if_neg (fun e => h.1 e.symm), ih h.2]
theorem cut_dot {x : Str} (t : Str) (h : (46 : UInt8) ∉ x) : cutAt 46 (x ++ 46 :: t) = x :: cutAt 46 t := by
 induction x with
 | nil =>
  show cutAt 46 (46 :: t) = _
  rw [cutAt, if_pos rfl]
 | cons b x ih =>
  simp at h
  rw [List.cons_append, cutAt, if_neg (fun e => h.1 e.symm), ih h.2]
theorem cut_joinP : ∀ (rows : List Str), rows ≠ [] → (∀ r ∈ rows, (46 : UInt8) ∉ r) → cutAt 46 (joinP 46 rows) = rows
 | [], h, _ => absurd rfl h
 | [x], _, h => cut_free (h x (by simp))
 | x :: y :: rows, _, h => by
  have ih := cut_joinP (y :: rows) (by simp) (fun r hr => h r (by simp at hr ⊢; exact .inr hr))
  show cutAt 46 (x ++ 46 :: joinP 46 (y :: rows)) = _
  rw [cut_dot _ (h x (by simp)), ih]
theorem row_of {l : Str} {d : Nat} (hd : (if l.head? = some 48 then 1 else (l.takeWhile dig).length) = d) (h0 : d ≠ 0) : rowOk (l.take d) = true ∧ d ≤ l.length ∧ (46 : UInt8) ∉ l.take d := by
 cases l with
 | nil => simp at hd; omega
 | cons b l =>
  by_cases hb : b = 48
  ·subst hb
   simp at hd
   subst hd
   exact ⟨(by show rowOk [48] = true; decide), by simp, by simp⟩
  ·rw [if_neg (by simpa using hb)] at hd
   have ht : (b :: l).take d = (b :: l).takeWhile dig := by rw [← hd]; exact take_takeWhile _ _
   have ha := takeWhile_all dig (b :: l)
   have hle : d ≤ (b :: l).length := by rw [← hd]; exact (List.takeWhile_prefix _).length_le
   refine ⟨?_, hle, ?_⟩
   ·obtain ⟨m, rfl⟩ : ∃ m, d = m + 1 := ⟨d - 1, by omega⟩
    rw [← ht] at ha
    rw [List.take_succ_cons] at ha ⊢
    show ((b :: List.take m l).all dig && !(b == 48 && !(List.take m l).isEmpty)) = true
    rw [ha]
    have : (b == 48) = false := by simpa using hb
    rw [this]; rfl
   ·rw [ht]
    intro hm
    have := List.all_eq_true.1 ha _ hm
    revert this; decide
theorem oidN_rows : ∀ (f : Nat) (l : Str) (off : Nat) (one : Bool) (e : Nat), oidN f l off one = (e, true) → ∃ rows : List Str, rows ≠ [] ∧ rows.all rowOk = true ∧ (∀ r ∈ rows, (46 : UInt8) ∉ r) ∧ (one = true → 2 ≤ rows.length) ∧
  off ≤ e ∧ e - off < l.length ∧ l.take (e - off) = joinP 46 rows ∧ l[e - off]? = some 61
 | 0, _, _, _, _, h => by simp [oidN] at h
 | f + 1, l, off, one, e, h => by
  unfold oidN at h
  obtain ⟨d, hd⟩ : ∃ d, (if l.head? = some 48 then 1 else (l.takeWhile dig).length) = d := ⟨_, rfl⟩
  simp only [hd] at h
  by_cases h0 : d = 0
  ·rw [if_pos h0] at h; injection h with _ h; cases h
  ·rw [if_neg h0] at h
   obtain ⟨g1, g2, g3⟩ := row_of hd h0
   by_cases h1 : l[d]? = some 46
   ·rw [if_pos h1] at h
    obtain ⟨rows, r1, r2, r3, _, r5, r6, r7, r8⟩ := oidN_rows f _ _ _ _ h
    have hdl : d < l.length := (List.getElem?_eq_some_iff.1 h1).1
    simp only [List.length_drop] at r6
    refine ⟨l.take d :: rows, by simp, by simp [g1]; simpa using r2, ?_, ?_, by omega, by omega, ?_, ?_⟩
    ·intro r hr
     rcases List.mem_cons.1 hr with rfl | hr
     ·exact g3
     ·exact r3 r hr
    ·intro _
     have : 0 < rows.length := List.length_pos_iff.2 r1
     simp; omega
    ·rw [joinP_cons46 r1, ← r7]
     have e1 : e - off = d + (1 + (e - (off + d + 1))) := by omega
     rw [e1, List.take_add, List.take_add]
     congr 1
     have hc : l.drop d = 46 :: l.drop (d + 1) := by
      rw [List.drop_eq_getElem_cons hdl]
      congr 1
      exact (List.getElem?_eq_some_iff.1 h1).2
     rw [hc]; simp
    ·rw [List.getElem?_drop] at r8
     rw [← r8]
     congr 1; omega
   ·rw [if_neg h1] at h
    cases one with
    | true => rw [if_pos rfl] at h; injection h with _ h; cases h
    | false =>
     rw [if_neg (by simp)] at h
     injection h with h2 h3
     have h4 : l[d]? = some 61 := by simpa using h3
     have hdl : d < l.length := (List.getElem?_eq_some_iff.1 h4).1
     have e1 : e - off = d := by omega
     rw [e1]
     exact ⟨[l.take d], by simp, by simp [g1], by simpa using g3, (fun h => by cases h), by omega, hdl, by simp [joinP], h4⟩
where
 joinP_cons46 {x : Str} {rows : List Str} (h : rows ≠ []) : joinP 46 (x :: rows) = x ++ 46 :: joinP 46 rows := by
  cases rows with
  | nil => exact absurd rfl h
  | cons y rows => rfl
theorem kind_back {l : Str} {k : Nat} (h : kindN l = (k, true)) (hl : k ≤ 65536) : wordOk (l.take k) = true ∧ k < l.length := by
 have key : (oidL (l.take k)).2 = true ∧ k < l.length := by
  unfold kindN at h
  cases l with
  | nil => simp at h
  | cons c l =>
   simp only at h
   by_cases hc : isLet c = true
   ·rw [if_pos hc] at h
    injection h with h1 h2
    have h3 : (c :: l)[k]? = some 61 := by rw [← h1]; simpa using h2
    have hk : k < (c :: l).length := (List.getElem?_eq_some_iff.1 h3).1
    refine ⟨?_, hk⟩
    rw [← h1, take_takeWhile]
    have ht : (c :: l).takeWhile tailC = c :: l.takeWhile tailC := by
     rw [List.takeWhile_cons, if_pos (by unfold tailC; rw [hc]; rfl)]
    have ha := takeWhile_all tailC (c :: l)
    rw [ht] at ha ⊢
    unfold oidL
    simp only
    rw [letters_let, if_pos hc]
    simp only
    rw [tail_only]; exact ha
   ·rw [if_neg hc] at h
    obtain ⟨rows, r1, r2, r3, r4, _, r6, r7, r8⟩ := oidN_rows _ _ _ _ _ h
    rw [Nat.sub_zero] at r6 r7 r8
    refine ⟨?_, r6⟩
    obtain ⟨m, rfl⟩ : ∃ m, k = m + 1 := by
     cases k with
     | zero =>
      exfalso
      rw [List.take_zero] at r7
      have h2 := r4 rfl
      match rows, h2 with
      | x :: y :: rows, _ => simp [joinP] at r7
     | succ m => exact ⟨m, rfl⟩
    rw [List.take_succ_cons] at r7 ⊢
    unfold oidL
    simp only
    rw [letters_let, if_neg hc, r7, cut_joinP rows r1 r3, if_pos r2]
    exact decide_eq_true (r4 rfl)
 refine ⟨?_, key.2⟩
 unfold wordOk keyL
 rw [if_neg (by simp; omega)]
 have e : ruleL 8 (l.take k) = oidL (l.take k) := by unfold ruleL; simp
 rw [e, if_pos key.1]
theorem parse_shape (s : Str) (hs : s.length ≤ 65536) : ∀ (f p : Nat) (done : PName) (part : PRdn) (m : PName), parseR s f p done part = .ok m → p ≤ s.length → done.length < 64 → part.length < 8 →
  ∃ (ps : PRdn) (rs : PName), m = done ++ (part ++ ps) :: rs ∧ ps ≠ [] ∧ PairsOk ps ∧ (∀ r ∈ rs, r ≠ [] ∧ r.length ≤ 8 ∧ PairsOk r) ∧ part.length + ps.length ≤ 8 ∧ done.length + 1 + rs.length ≤ 64 ∧ (restP ps rs).length + 3 * p ≤ 3 * s.length
 | 0, _, _, _, _, h, _, _, _ => by unfold parseR at h; cases h
 | f + 1, p, done, part, m, h, hp, hd, h8 => by
  unfold parseR at h
  obtain ⟨⟨k, ok⟩, hk⟩ : ∃ r, kindN (s.drop p) = r := ⟨_, rfl⟩
  simp only [hk] at h
  cases ok with
  | false => rw [if_pos rfl] at h; cases h
  | true =>
   rw [if_neg (by simp)] at h
   obtain ⟨⟨v, q, fl⟩, hv⟩ : ∃ r, valR (p + k + 1) (s.drop (p + k + 1)) (p + k + 1) [] none = r := ⟨_, rfl⟩
   simp only [hv] at h
   cases fl with
   | some x => obtain ⟨c, z⟩ := x; simp only at h; cases h
   | none =>
    simp only at h
    have hkl : k ≤ 65536 := by
     have h2 : k ≤ (s.drop p).length := by
      have : k < (s.drop p).length ∨ ¬ k < (s.drop p).length := Nat.lt_or_ge k _ |>.imp id (fun h => by omega)
      by_cases e : k ≤ (s.drop p).length
      ·exact e
      ·exfalso
       unfold kindN at hk
       cases hl : s.drop p with
       | nil => rw [hl] at hk; simp at hk
       | cons c l =>
        rw [hl] at hk e
        simp only at hk
        split at hk
        ·injection hk with h1 _
         have := (List.takeWhile_prefix (p := tailC) (l := c :: l)).length_le
         omega
        ·obtain ⟨_, _, _, _, _, _, r6, _⟩ := oidN_rows _ _ _ _ _ hk
         omega
     simp at h2; omega
    obtain ⟨w1, w2⟩ := kind_back hk hkl
    simp only [List.length_drop] at w2
    obtain ⟨v1, v2, v3⟩ := valR_len _ _ _ _ _ _ _ _ (Zr _) hv
    simp only [List.length_drop, List.length_nil] at v2 v3
    have hsh := showK_len v true 0
    obtain ⟨a, ha⟩ : ∃ a : PAva, (baOf ((s.drop p).take k), baOf v) = a := ⟨_, rfl⟩
    have a1 : toL a.1 = (s.drop p).take k := by rw [← ha]; simp [baOf, toL]
    have a2 : toL a.2 = v := by rw [← ha]; simp [baOf, toL]
    have hal : (avaP a).length + 3 * p ≤ 3 * q ∧ (avaP a).length + 1 + 3 * p ≤ 3 * (q + 1) := by
     rw [avaP_len, a1, a2]; unfold showV; simp; omega
    have hok : PairsOk [a] := fun x hx => by simp at hx; subst hx; rw [a1]; exact w1
    rw [ha] at h
    by_cases h1 : s.length ≤ q
    ·rw [if_pos h1] at h
     injection h with h
     refine ⟨[a], [], by rw [← h], by simp, hok, (fun r hr => by cases hr), by simp; omega, by simp; omega, ?_⟩
     rw [restP_one]; simp; omega
    ·rw [if_neg h1] at h
     by_cases h2 : s[q]? = some 44
     ·rw [if_pos h2] at h
      by_cases h3 : 64 ≤ done.length + 1
      ·rw [if_pos h3] at h; cases h
      ·rw [if_neg h3] at h
       obtain ⟨ps, rs, r1, r2, r3, r4, r5, r6, r7⟩ := parse_shape s hs f (q + 1) (done ++ [part ++ [a]]) [] m h (by omega) (by simp; omega) (by simp)
       refine ⟨[a], ps :: rs, by rw [r1]; simp, by simp, hok, ?_, by simp; omega, by simp at r6 ⊢; omega, ?_⟩
       ·intro r hr
        rcases List.mem_cons.1 hr with rfl | hr
        ·exact ⟨r2, by simpa using r5, r3⟩
        ·exact r4 r hr
       ·rw [restP_one, restP_next]; simp; omega
     ·rw [if_neg h2] at h
      by_cases h3 : 64 ≤ done.length ∨ 8 ≤ (part ++ [a]).length
      ·rw [if_pos h3] at h; cases h
      ·rw [if_neg h3] at h
       have h4 : (part ++ [a]).length < 8 := by
        by_cases e : 8 ≤ (part ++ [a]).length
        ·exact absurd (.inr e) h3
        ·omega
       obtain ⟨ps, rs, r1, r2, r3, r4, r5, r6, r7⟩ := parse_shape s hs f (q + 1) done (part ++ [a]) m h (by omega) hd h4
       cases ps with
       | nil => exact absurd rfl r2
       | cons b ps =>
        refine ⟨a :: b :: ps, rs, by rw [r1]; simp, by simp, ?_, r4, by simp at r5 ⊢; omega, r6, ?_⟩
        ·intro x hx
         rcases List.mem_cons.1 hx with rfl | hx
         ·exact hok x (by simp)
         ·exact r3 x hx
        ·rw [restP_more]; simp at r7 ⊢; omega
theorem parse_typed {t : Str} {m : PName} (h : parseV t = .ok m) : m.length ≤ 64 ∧ (∀ r ∈ m, r ≠ [] ∧ r.length ≤ 8 ∧ PairsOk r) ∧ (nameP m).length ≤ 3 * t.length := by
 unfold parseV at h
 split at h
 ·cases h
 ·rename_i hl
  split at h
  ·injection h with h; subst h; exact ⟨by simp, (fun r hr => by cases hr), by simp [nameP, joinP]⟩
  ·obtain ⟨ps, rs, r1, r2, r3, r4, r5, r6, r7⟩ := parse_shape t (by omega) _ 0 [] [] m h (Nat.zero_le _) (by simp) (by simp)
   simp at r1 r5 r6 r7
   subst r1
   refine ⟨by simp; omega, ?_, by rw [nameP_cons]; exact r7⟩
   intro r hr
   rcases List.mem_cons.1 hr with rfl | hr
   ·exact ⟨r2, r5, r3⟩
   ·exact r4 r hr
theorem print_parsed {t : Str} {m : PName} (h : parseV t = .ok m) : (printV m = (nameP m, 0) ∧ (nameP m).length ≤ 3 * t.length) ∨ printV m = ([], 3) := by
 obtain ⟨h1, h2, h3⟩ := parse_typed h
 unfold printV
 rw [if_neg (by
  rintro (e | e)
  ·omega
  ·obtain ⟨r, hr, h8⟩ := List.any_eq_true.1 e
   have := (h2 r hr).2.1
   simp at h8; omega)]
 rw [if_neg (by
  intro e
  obtain ⟨r, hr, h8⟩ := List.any_eq_true.1 e
  obtain ⟨q1, _, q3⟩ := h2 r hr
  rw [Bool.or_eq_true] at h8
  rcases h8 with h8 | h8
  ·exact q1 (by simpa using h8)
  ·obtain ⟨a, ha, h9⟩ := List.any_eq_true.1 h8
   have hw := q3 a ha
   have hl : (toL a.1).length ≤ 65536 := by
    unfold wordOk keyL at hw
    split at hw
    ·cases hw
    ·omega
   unfold typedV at h9
   rw [if_pos hl, hw] at h9
   cases h9)]
 split
 ·exact .inr rfl
 ·exact .inl ⟨rfl, h3⟩
end Go.Proofs.YtlmfbjhokkpjhaaGreatDoor
namespace Go.Proofs.YtlmfbjhokkpjhaaGreatDoor
open Go Go.RowKit
def ShortIn (N : Nat) (r : PRdn) : Prop := ∀ a ∈ r, a.1.size < N ∧ a.2.size < N
theorem parseR_short (s : Str) (hs : s.length ≤ 65536) : ∀ (f p : Nat) (done : PName) (part : PRdn) (m : PName), parseR s f p done part = .ok m → p ≤ s.length → (∀ r ∈ done, ShortIn s.length r) → ShortIn s.length part → ∀ r ∈ m, ShortIn s.length r
 | 0, _, _, _, _, h, _, _, _ => by unfold parseR at h; cases h
 | f + 1, p, done, part, m, h, hp, hd, h8 => by
  unfold parseR at h
  obtain ⟨⟨k, ok⟩, hk⟩ : ∃ r, kindN (s.drop p) = r := ⟨_, rfl⟩
  simp only [hk] at h
  cases ok with
  | false => rw [if_pos rfl] at h; cases h
  | true =>
   rw [if_neg (by simp)] at h
   obtain ⟨⟨v, q, fl⟩, hv⟩ : ∃ r, valR (p + k + 1) (s.drop (p + k + 1)) (p + k + 1) [] none = r := ⟨_, rfl⟩
   simp only [hv] at h
   cases fl with
   | some x => obtain ⟨c, z⟩ := x; simp only at h; cases h
   | none =>
    simp only at h
    have hkl : k ≤ 65536 := by
     have h2 : k ≤ (s.drop p).length := by
      by_cases e : k ≤ (s.drop p).length
      ·exact e
      ·exfalso
       unfold kindN at hk
       cases hl : s.drop p with
       | nil => rw [hl] at hk; simp at hk
       | cons c l =>
        rw [hl] at hk e
        simp only at hk
        split at hk
        ·injection hk with h1 _
         have := (List.takeWhile_prefix (p := tailC) (l := c :: l)).length_le
         omega
        ·obtain ⟨_, _, _, _, _, _, r6, _⟩ := oidN_rows _ _ _ _ _ hk
         omega
     simp at h2; omega
    obtain ⟨w1, w2⟩ := kind_back hk hkl
    simp only [List.length_drop] at w2
    obtain ⟨v1, v2, v3⟩ := valR_len _ _ _ _ _ _ _ _ (Zr _) hv
    simp only [List.length_drop, List.length_nil] at v2 v3
    obtain ⟨a, ha⟩ : ∃ a : PAva, (baOf ((s.drop p).take k), baOf v) = a := ⟨_, rfl⟩
    have hsa : a.1.size < s.length ∧ a.2.size < s.length := by
     rw [← ha]
     constructor
     ·show ((s.drop p).take k).toArray.size < _
      simp; omega
     ·show v.toArray.size < _
      simp; omega
    have hpa : ShortIn s.length (part ++ [a]) := fun x hx => by
     rcases List.mem_append.1 hx with hx | hx
     ·exact h8 x hx
     ·simp at hx; subst hx; exact hsa
    have hda : ∀ r ∈ done ++ [part ++ [a]], ShortIn s.length r := fun r hr => by
     rcases List.mem_append.1 hr with hr | hr
     ·exact hd r hr
     ·simp at hr; subst hr; exact hpa
    rw [ha] at h
    by_cases h1 : s.length ≤ q
    ·rw [if_pos h1] at h
     injection h with h
     subst h
     exact hda
    ·rw [if_neg h1] at h
     by_cases h2 : s[q]? = some 44
     ·rw [if_pos h2] at h
      by_cases h3 : 64 ≤ done.length + 1
      ·rw [if_pos h3] at h; cases h
      ·rw [if_neg h3] at h
       exact parseR_short s hs f (q + 1) _ [] m h (by omega) hda (fun x hx => by cases hx)
     ·rw [if_neg h2] at h
      by_cases h3 : 64 ≤ done.length ∨ 8 ≤ (part ++ [a]).length
      ·rw [if_pos h3] at h; cases h
      ·rw [if_neg h3] at h
       exact parseR_short s hs f (q + 1) done (part ++ [a]) m h (by omega) hd hpa
theorem parse_short {t : Str} {m : PName} (h : parseV t = .ok m) : ∀ r ∈ m, ShortIn t.length r := by
 unfold parseV at h
 split at h
 ·cases h
 ·split at h
  ·injection h with h; subst h; exact fun r hr => by cases hr
  ·exact parseR_short t (by omega) _ 0 [] [] m h (Nat.zero_le _) (fun r hr => by cases hr) (fun x hx => by cases hx)
theorem valK_congr {rd rd' : Str → Str × Bool} {v : Str} (h : rd v = rd' v) (S : PSchema) (x : PType) : valK rd S x v = valK rd' S x v := by
 unfold valK; rw [h]
theorem pairsK_congr {rd rd' : Str → Str × Bool} (S : PSchema) : ∀ (l : PRdn) (acc : List KPair), (∀ a ∈ l, rd (toL a.2) = rd' (toL a.2)) → pairsK rd S acc l = pairsK rd' S acc l
 | [], _, _ => rfl
 | a :: l, acc, h => by
  simp only [pairsK]
  cases typeAt S (toL a.1) with
  | none => rfl
  | some t =>
   simp only
   rw [valK_congr (h a (by simp)) S (fullT S t)]
   split
   ·rfl
   ·split
    ·exact pairsK_congr S l _ fun x hx => h x (by simp [hx])
    ·rfl
theorem stepsK_congr {rd rd' : Str → Str × Bool} (S : PSchema) : ∀ (n : PName), (∀ r ∈ n, ∀ a ∈ r, rd (toL a.2) = rd' (toL a.2)) → stepsK rd S n = stepsK rd' S n
 | [], _ => rfl
 | r :: n, h => by
  simp only [stepsK]
  rw [pairsK_congr S r [] (h r (by simp)), stepsK_congr S n fun x hx => h x (by simp [hx])]
theorem keyN_congr {rd rd' : Str → Str × Bool} (S : PSchema) (n : PName) (h : ∀ r ∈ n, ∀ a ∈ r, rd (toL a.2) = rd' (toL a.2)) : keyN rd S n = keyN rd' S n := by
 unfold keyN; rw [stepsK_congr S n h]
theorem readK_more (S : PSchema) : ∀ (f f' : Nat) (v : Str), v.length < f → v.length < f' → readK S f v = readK S f' v
 | 0, _, _, h, _ => by omega
 | _ + 1, 0, _, _, h => by omega
 | f + 1, f' + 1, v, h, h' => by
  simp only [readK]
  cases hp : parseV v with
  | error e => rfl
  | ok n =>
   simp only
   rw [keyN_congr (rd := readK S f) (rd' := readK S f') S n fun r hr a ha => by
    have h1 := (parse_short hp r hr a ha).2
    have h2 : (toL a.2).length = a.2.size := Lib.size_eq a.2
    exact readK_more S f f' _ (by omega) (by omega)]
def rdK (S : PSchema) (v : Str) : Str × Bool := readK S (v.length + 1) v
def nkeyV (S : PSchema) (n : PName) : Str × Int := keyN (rdK S) S n
theorem readK_eq (S : PSchema) {f : Nat} {v : Str} (h : v.length < f) : readK S f v = rdK S v := readK_more S f _ v h (Nat.lt_succ_self _)
def rd1 (S : PSchema) : Except PFault PName → Str × Bool
 | .error _ => ([], false)
 | .ok n => if (nkeyV S n).2 = 0 then ((nkeyV S n).1, true) else ([], false)
theorem rdK_eq (S : PSchema) (v : Str) : rdK S v = rd1 S (parseV v) := by
 unfold rdK
 simp only [readK]
 cases hp : parseV v with
 | error e => rfl
 | ok n =>
  have : keyN (readK S v.length) S n = nkeyV S n := keyN_congr S n fun r hr a ha => by
   have h1 := (parse_short hp r hr a ha).2
   have h2 : (toL a.2).length = a.2.size := Lib.size_eq a.2
   exact readK_eq S (by omega)
  simp only [rd1, this]
end Go.Proofs.YtlmfbjhokkpjhaaGreatDoor
namespace Go.Proofs.YtlmfbjhokkpjhaaGreatDoor
open Go
theorem firstE_none (f : Nat → Int) : ∀ (n i : Nat), firstE f i n = none → ∀ j, i ≤ j → j < i + n → f j = 0
 | 0, i, _, j, h1, h2 => by omega
 | n + 1, i, h, j, h1, h2 => by
  have e : firstE f i (n + 1) = if f i ≠ 0 then some (f i, i) else firstE f (i + 1) n := rfl
  rw [e] at h
  by_cases h0 : f i ≠ 0
  ·rw [if_pos h0] at h; cases h
  ·rw [if_neg h0] at h
   by_cases hj : j = i
   ·subst hj; simpa using h0
   ·exact firstE_none f n (i + 1) h j (by omega) (by omega)
theorem firstE_some (f : Nat → Int) : ∀ (n i : Nat) (p : Int × Nat), firstE f i n = some p → p.1 ≠ 0 ∧ p.1 = f p.2 ∧ i ≤ p.2 ∧ p.2 < i + n
 | 0, i, p, h => by cases h
 | n + 1, i, p, h => by
  have e : firstE f i (n + 1) = if f i ≠ 0 then some (f i, i) else firstE f (i + 1) n := rfl
  rw [e] at h
  by_cases h0 : f i ≠ 0
  ·rw [if_pos h0] at h; cases h; exact ⟨h0, rfl, by simp, by simp⟩
  ·rw [if_neg h0] at h
   obtain ⟨a, b, c, d⟩ := firstE_some f n (i + 1) p h
   exact ⟨a, b, by omega, by omega⟩
structure OkS (S : PSchema) : Prop where
 types : S.types.length ≤ 1024
 classes : S.classes.length ≤ 1024
 ty : ∀ t, t < S.types.length → typeE S t = 0
 cl : ∀ c, c < S.classes.length → classE S c = 0
 obj : objE S = 0
theorem newE_ok {S : PSchema} (h : (newE S).1 = 0) : OkS S := by
 unfold newE at h
 by_cases hb : 1024 < S.types.length ∨ 1024 < S.classes.length
 ·rw [if_pos hb] at h; cases h
 ·rw [if_neg hb] at h
  cases ht : firstE (typeE S) 0 S.types.length with
  | some p => rw [ht] at h; exact absurd h (firstE_some _ _ _ _ ht).1
  | none =>
   rw [ht] at h
   simp only at h
   cases hc : firstE (classE S) 0 S.classes.length with
   | some p => rw [hc] at h; exact absurd h (firstE_some _ _ _ _ hc).1
   | none =>
    rw [hc] at h
    exact ⟨by omega, by omega, fun t h1 => firstE_none _ _ _ ht t (Nat.zero_le _) (by omega), fun c h1 => firstE_none _ _ _ hc c (Nat.zero_le _) (by omega), h⟩
theorem inheritT_same (S : PSchema) (t : Nat) (up : List Nat) : (inheritT S t up).names = (tyAt S t).names ∧ (inheritT S t up).oid = (tyAt S t).oid ∧ (inheritT S t up).sup = (tyAt S t).sup ∧ (inheritT S t up).syn = (tyAt S t).syn ∧ (inheritT S t up).single = (tyAt S t).single ∧ (inheritT S t up).index = (tyAt S t).index := by
 unfold inheritT
 generalize tyAt S t = x
 generalize up.drop 1 = l
 induction l generalizing x with
 | nil => exact ⟨rfl, rfl, rfl, rfl, rfl, rfl⟩
 | cons p l ih => rw [List.foldl_cons]; exact ih (mixT x (tyAt S p))
theorem typeE_named {S : PSchema} {t : Nat} (h : typeE S t = 0) : namedE (tyAt S t).oid (tyAt S t).names = 0 := by
 unfold typeE at h
 simp only at h
 by_cases hn : namedE (tyAt S t).oid (tyAt S t).names ≠ 0
 ·rw [if_pos hn] at h; exact absurd h hn
 ·simpa using hn
theorem namedE_zero {oid : ByteArray} {names : List ByteArray} (h : namedE oid names = 0) : oidB (toL oid) = true ∧ oid.size ≤ 65536 ∧ names ≠ [] ∧ (∀ n ∈ names, wordB (toL n) = true ∧ n.size ≤ 65536) ∧ names.length ≤ 16 := by
 unfold namedE at h
 by_cases h1 : (!oidB (toL oid) || decide (65536 < oid.size) || names.isEmpty) = true
 ·rw [if_pos h1] at h; cases h
 ·rw [if_neg h1] at h
  by_cases h2 : (names.all fun n => wordB (toL n) && decide (n.size ≤ 65536)) = true
  ·rw [if_pos h2] at h
   by_cases h3 : 16 < names.length
   ·rw [if_pos h3] at h; cases h
   ·simp at h1
    refine ⟨h1.1.1, h1.1.2, ?_, ?_, by omega⟩
    ·have := h1.2; cases names <;> simp_all
    ·intro n hn
     have := List.all_eq_true.1 h2 n hn
     simpa using this
  ·rw [if_neg h2] at h; cases h
theorem OkS.names {S : PSchema} (h : OkS S) {t : Nat} (ht : t < S.types.length) : (fullT S t).names ≠ [] := by
 unfold fullT; rw [(inheritT_same S t _).1]; exact (namedE_zero (typeE_named (h.ty t ht))).2.2.1
theorem typeE_syn {S : PSchema} {t : Nat} (h : typeE S t = 0) : 0 ≤ (tyAt S t).syn ∧ (tyAt S t).syn ≤ 8 := by
 unfold typeE at h
 simp only at h
 split at h
 ·contradiction
 ·split at h
  ·cases h
  ·split at h
   ·cases h
   ·split at h
    ·cases h
    ·split at h
     ·cases h
     ·split at h
      ·cases h
      ·rename_i hn; omega
theorem OkS.syn {S : PSchema} (h : OkS S) {t : Nat} (ht : t < S.types.length) : 0 ≤ (fullT S t).syn ∧ (fullT S t).syn ≤ 8 := by
 unfold fullT; rw [(inheritT_same S t _).2.2.2.1]; exact typeE_syn (h.ty t ht)
theorem inheritT_range (S : PSchema) (hS : ∀ t, (-128 ≤ (tyAt S t).eq ∧ (tyAt S t).eq ≤ 127) ∧ (-128 ≤ (tyAt S t).ord ∧ (tyAt S t).ord ≤ 127) ∧ (-128 ≤ (tyAt S t).part ∧ (tyAt S t).part ≤ 127)) (t : Nat) (up : List Nat) :
  (-128 ≤ (inheritT S t up).eq ∧ (inheritT S t up).eq ≤ 127) ∧ (-128 ≤ (inheritT S t up).ord ∧ (inheritT S t up).ord ≤ 127) ∧ (-128 ≤ (inheritT S t up).part ∧ (inheritT S t up).part ≤ 127) := by
 unfold inheritT
 have h0 := hS t
 generalize tyAt S t = x at h0
 generalize up.drop 1 = l
 induction l generalizing x with
 | nil => exact h0
 | cons p l ih =>
  rw [List.foldl_cons]
  apply ih
  have hp := hS p
  unfold mixT
  refine ⟨?_, ?_, ?_⟩ <;> (dsimp only; split <;> omega)
end Go.Proofs.YtlmfbjhokkpjhaaGreatDoor
