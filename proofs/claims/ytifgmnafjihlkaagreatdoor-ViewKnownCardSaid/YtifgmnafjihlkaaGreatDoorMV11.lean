/- Part 11 of the walks and plain laws, joined: NameVQ, PrintV, NamM, Read. -/
import Derived.Test.YtifgmnafjihlkaaGreatDoorMV10
import Derived.Test.YtifgmnafjihlkaaGreatDoorMV07
import Derived.Test.YtifgmnafjihlkaaGreatDoorMV08
import Derived.Test.YtifgmnafjihlkaaGreatDoorShelf
import Derived.BigQuiet
/- What a name that was read is like (plain: no program in it). -/
namespace Go.Proofs.YtifgmnafjihlkaaGreatDoor
open Go Go.RowKit

theorem valR_len (st : Nat) : ∀ (n : Nat) (l : Str) (off : Nat) (b : Str) (bare : Option Nat) (v : Str) (off2 : Nat), l.length ≤ n → valR st l off b bare = (v, off2, none) →
    off ≤ off2 ∧ off2 ≤ off + l.length ∧ v.length + off ≤ b.length + off2 := by
  intro n
  induction n with
  | zero =>
    intro l off b bare v off2 hl h
    obtain rfl : l = [] := List.eq_nil_of_length_eq_zero (by omega)
    rw [valR_nil] at h
    injection h with h1 h2; injection h2 with h2 _
    subst h1; subst h2
    simp
  | succ n ih =>
    intro l off b bare v off2 hl h
    cases l with
    | nil =>
      rw [valR_nil] at h
      injection h with h1 h2; injection h2 with h2 _
      subst h1; subst h2
      simp
    | cons c l =>
      simp only [List.length_cons] at hl
      by_cases c1 : c = 44 ∨ c = 43
      · rw [valR_end c1] at h
        injection h with h1 h2; injection h2 with h2 _
        subst h1; subst h2
        simp
      · by_cases c2 : c = 92
        · subst c2
          cases l with
          | nil => rw [valR.eq_def] at h; simp at h
          | cons x l =>
            simp only [List.length_cons] at hl
            cases hx : escs.contains x with
            | true =>
              rw [valR_esc hx] at h
              have := ih l _ _ _ _ _ (by omega) h
              simp at this ⊢; omega
            | false =>
              cases l with
              | nil => rw [valR.eq_def] at h; simp only [hx] at h; simp at h
              | cons y l =>
                simp only [List.length_cons] at hl
                cases hy : (hexd x && hexd y) with
                | true =>
                  rw [valR_hex hx hy] at h
                  have := ih l _ _ _ _ _ (by omega) h
                  simp at this ⊢; omega
                | false =>
                  rw [valR.eq_def] at h; simp only [hx, hy] at h; simp at h
        · by_cases c3 : bads.contains c = true ∨ (off = st ∧ (c = 32 ∨ c = 35))
          · rw [valR.eq_def] at h; simp only at h
            rw [if_neg c1, if_neg c2, if_pos c3] at h
            injection h with _ h2; injection h2 with _ h2; cases h2
          · rw [valR_put (fun e => c1 (.inl e)) (fun e => c1 (.inr e)) c2 (by cases e : bads.contains c with | false => rfl | true => exact absurd (.inl e) c3) (fun e => c3 (.inr e))] at h
            have := ih l _ _ _ _ _ (by omega) h
            simp at this ⊢; omega
theorem showK_len : ∀ (v : Str) (fst : Bool) (k : Nat), (showK fst v k).length ≤ 3 * v.length
  | [], _, k => by cases k <;> simp [showK]
  | c :: v, fst, k + 1 => by rw [showK]; have := showK_len v false k; simp; omega
  | c :: v, fst, 0 => by
    rw [showK]
    have h0 := showK_len v false 0
    have h1 := showK_len v false (chN (c :: v) - 1)
    split
    · simp [hexB]; omega
    · split
      · simp [hexB]; omega
      · split <;> (simp; omega)

theorem takeWhile_all (p : UInt8 → Bool) (l : Str) : (l.takeWhile p).all p = true := by
  induction l with
  | nil => rfl
  | cons a l ih =>
    rw [List.takeWhile_cons]
    split
    · rename_i h; simp [h]
    · rfl
theorem take_takeWhile (p : UInt8 → Bool) (l : Str) : l.take (l.takeWhile p).length = l.takeWhile p := by
  induction l with
  | nil => rfl
  | cons a l ih =>
    rw [List.takeWhile_cons]
    split
    · simp [ih]
    · rfl
theorem cut_free {x : Str} (h : (46 : UInt8) ∉ x) : cutAt 46 x = [x] := by
  induction x with
  | nil => rfl
  | cons b x ih =>
    simp at h
    unfold cutAt
    rw [if_neg (fun e => h.1 e.symm), ih h.2]
theorem cut_dot {x : Str} (t : Str) (h : (46 : UInt8) ∉ x) : cutAt 46 (x ++ 46 :: t) = x :: cutAt 46 t := by
  induction x with
  | nil =>
    show cutAt 46 (46 :: t) = _
    rw [cutAt, if_pos rfl]
  | cons b x ih =>
    simp at h
    rw [List.cons_append, cutAt, if_neg (fun e => h.1 e.symm), ih h.2]
theorem cut_joinP : ∀ (rows : List Str), rows ≠ [] → (∀ r ∈ rows, (46 : UInt8) ∉ r) → cutAt 46 (joinP 46 rows) = rows
  | [], h, _ => absurd rfl h
  | [x], _, h => cut_free (h x (by simp))
  | x :: y :: rows, _, h => by
    have ih := cut_joinP (y :: rows) (by simp) (fun r hr => h r (by simp at hr ⊢; exact .inr hr))
    show cutAt 46 (x ++ 46 :: joinP 46 (y :: rows)) = _
    rw [cut_dot _ (h x (by simp)), ih]
theorem row_of {l : Str} {d : Nat} (hd : (if l.head? = some 48 then 1 else (l.takeWhile dig).length) = d) (h0 : d ≠ 0) : rowOk (l.take d) = true ∧ d ≤ l.length ∧ (46 : UInt8) ∉ l.take d := by
  cases l with
  | nil => simp at hd; omega
  | cons b l =>
    by_cases hb : b = 48
    · subst hb
      simp at hd
      subst hd
      exact ⟨(by show rowOk [48] = true; decide), by simp, by simp⟩
    · rw [if_neg (by simpa using hb)] at hd
      have ht : (b :: l).take d = (b :: l).takeWhile dig := by rw [← hd]; exact take_takeWhile _ _
      have ha := takeWhile_all dig (b :: l)
      have hle : d ≤ (b :: l).length := by rw [← hd]; exact (List.takeWhile_prefix _).length_le
      refine ⟨?_, hle, ?_⟩
      · obtain ⟨m, rfl⟩ : ∃ m, d = m + 1 := ⟨d - 1, by omega⟩
        rw [← ht] at ha
        rw [List.take_succ_cons] at ha ⊢
        show ((b :: List.take m l).all dig && !(b == 48 && !(List.take m l).isEmpty)) = true
        rw [ha]
        have : (b == 48) = false := by simpa using hb
        rw [this]; rfl
      · rw [ht]
        intro hm
        have := List.all_eq_true.1 ha _ hm
        revert this; decide
theorem oidN_rows : ∀ (f : Nat) (l : Str) (off : Nat) (one : Bool) (e : Nat), oidN f l off one = (e, true) → ∃ rows : List Str, rows ≠ [] ∧ rows.all rowOk = true ∧ (∀ r ∈ rows, (46 : UInt8) ∉ r) ∧ (one = true → 2 ≤ rows.length) ∧
    off ≤ e ∧ e - off < l.length ∧ l.take (e - off) = joinP 46 rows ∧ l[e - off]? = some 61
  | 0, _, _, _, _, h => by simp [oidN] at h
  | f + 1, l, off, one, e, h => by
    unfold oidN at h
    obtain ⟨d, hd⟩ : ∃ d, (if l.head? = some 48 then 1 else (l.takeWhile dig).length) = d := ⟨_, rfl⟩
    simp only [hd] at h
    by_cases h0 : d = 0
    · rw [if_pos h0] at h; injection h with _ h; cases h
    · rw [if_neg h0] at h
      obtain ⟨g1, g2, g3⟩ := row_of hd h0
      by_cases h1 : l[d]? = some 46
      · rw [if_pos h1] at h
        obtain ⟨rows, r1, r2, r3, _, r5, r6, r7, r8⟩ := oidN_rows f _ _ _ _ h
        have hdl : d < l.length := (List.getElem?_eq_some_iff.1 h1).1
        simp only [List.length_drop] at r6
        refine ⟨l.take d :: rows, by simp, by simp [g1]; simpa using r2, ?_, ?_, by omega, by omega, ?_, ?_⟩
        · intro r hr
          rcases List.mem_cons.1 hr with rfl | hr
          · exact g3
          · exact r3 r hr
        · intro _
          have : 0 < rows.length := List.length_pos_iff.2 r1
          simp; omega
        · rw [joinP_cons46 r1, ← r7]
          have e1 : e - off = d + (1 + (e - (off + d + 1))) := by omega
          rw [e1, List.take_add, List.take_add]
          congr 1
          have hc : l.drop d = 46 :: l.drop (d + 1) := by
            rw [List.drop_eq_getElem_cons hdl]
            congr 1
            exact (List.getElem?_eq_some_iff.1 h1).2
          rw [hc]; simp
        · rw [List.getElem?_drop] at r8
          rw [← r8]
          congr 1; omega
      · rw [if_neg h1] at h
        cases one with
        | true => rw [if_pos rfl] at h; injection h with _ h; cases h
        | false =>
          rw [if_neg (by simp)] at h
          injection h with h2 h3
          have h4 : l[d]? = some 61 := by simpa using h3
          have hdl : d < l.length := (List.getElem?_eq_some_iff.1 h4).1
          have e1 : e - off = d := by omega
          rw [e1]
          exact ⟨[l.take d], by simp, by simp [g1], by simpa using g3, (fun h => by cases h), by omega, hdl, by simp [joinP], h4⟩
where
  joinP_cons46 {x : Str} {rows : List Str} (h : rows ≠ []) : joinP 46 (x :: rows) = x ++ 46 :: joinP 46 rows := by
    cases rows with
    | nil => exact absurd rfl h
    | cons y rows => rfl
theorem kind_back {l : Str} {k : Nat} (h : kindN l = (k, true)) (hl : k ≤ 65536) : wordOk (l.take k) = true ∧ k < l.length := by
  have key : (oidL (l.take k)).2 = true ∧ k < l.length := by
    unfold kindN at h
    cases l with
    | nil => simp at h
    | cons c l =>
      simp only at h
      by_cases hc : isLet c = true
      · rw [if_pos hc] at h
        injection h with h1 h2
        have h3 : (c :: l)[k]? = some 61 := by rw [← h1]; simpa using h2
        have hk : k < (c :: l).length := (List.getElem?_eq_some_iff.1 h3).1
        refine ⟨?_, hk⟩
        rw [← h1, take_takeWhile]
        have ht : (c :: l).takeWhile tailC = c :: l.takeWhile tailC := by
          rw [List.takeWhile_cons, if_pos (by unfold tailC; rw [hc]; rfl)]
        have ha := takeWhile_all tailC (c :: l)
        rw [ht] at ha ⊢
        unfold oidL
        simp only
        rw [letters_let, if_pos hc]
        simp only
        rw [tail_only]; exact ha
      · rw [if_neg hc] at h
        obtain ⟨rows, r1, r2, r3, r4, _, r6, r7, r8⟩ := oidN_rows _ _ _ _ _ h
        rw [Nat.sub_zero] at r6 r7 r8
        refine ⟨?_, r6⟩
        obtain ⟨m, rfl⟩ : ∃ m, k = m + 1 := by
          cases k with
          | zero =>
            exfalso
            rw [List.take_zero] at r7
            have h2 := r4 rfl
            match rows, h2 with
            | x :: y :: rows, _ => simp [joinP] at r7
          | succ m => exact ⟨m, rfl⟩
        rw [List.take_succ_cons] at r7 ⊢
        unfold oidL
        simp only
        rw [letters_let, if_neg hc, r7, cut_joinP rows r1 r3, if_pos r2]
        exact decide_eq_true (r4 rfl)
  refine ⟨?_, key.2⟩
  unfold wordOk keyL
  rw [if_neg (by simp; omega)]
  have e : ruleL 8 (l.take k) = oidL (l.take k) := by unfold ruleL; simp
  rw [e, if_pos key.1]

theorem avaP_len (a : PAva) : (avaP a).length = (toL a.1).length + 1 + (showV (toL a.2)).length := by unfold avaP; simp; omega
theorem parse_shape (s : Str) (hs : s.length ≤ 65536) : ∀ (f p : Nat) (done : PName) (part : PRdn) (m : PName), parseR s f p done part = .ok m → p ≤ s.length → done.length < 64 → part.length < 8 →
    ∃ (ps : PRdn) (rs : PName), m = done ++ (part ++ ps) :: rs ∧ ps ≠ [] ∧ PairsOk ps ∧ (∀ r ∈ rs, r ≠ [] ∧ r.length ≤ 8 ∧ PairsOk r) ∧ part.length + ps.length ≤ 8 ∧ done.length + 1 + rs.length ≤ 64 ∧ (restP ps rs).length + 3 * p ≤ 3 * s.length
  | 0, _, _, _, _, h, _, _, _ => by unfold parseR at h; cases h
  | f + 1, p, done, part, m, h, hp, hd, h8 => by
    unfold parseR at h
    obtain ⟨⟨k, ok⟩, hk⟩ : ∃ r, kindN (s.drop p) = r := ⟨_, rfl⟩
    simp only [hk] at h
    cases ok with
    | false => rw [if_pos rfl] at h; cases h
    | true =>
      rw [if_neg (by simp)] at h
      obtain ⟨⟨v, q, fl⟩, hv⟩ : ∃ r, valR (p + k + 1) (s.drop (p + k + 1)) (p + k + 1) [] none = r := ⟨_, rfl⟩
      simp only [hv] at h
      cases fl with
      | some x => obtain ⟨c, z⟩ := x; simp only at h; cases h
      | none =>
        simp only at h
        have hkl : k ≤ 65536 := by
          have h2 : k ≤ (s.drop p).length := by
            have : k < (s.drop p).length ∨ ¬ k < (s.drop p).length := Nat.lt_or_ge k _ |>.imp id (fun h => by omega)
            by_cases e : k ≤ (s.drop p).length
            · exact e
            · exfalso
              unfold kindN at hk
              cases hl : s.drop p with
              | nil => rw [hl] at hk; simp at hk
              | cons c l =>
                rw [hl] at hk e
                simp only at hk
                split at hk
                · injection hk with h1 _
                  have := (List.takeWhile_prefix (p := tailC) (l := c :: l)).length_le
                  omega
                · obtain ⟨_, _, _, _, _, _, r6, _⟩ := oidN_rows _ _ _ _ _ hk
                  omega
          simp at h2; omega
        obtain ⟨w1, w2⟩ := kind_back hk hkl
        simp only [List.length_drop] at w2
        obtain ⟨v1, v2, v3⟩ := valR_len _ _ _ _ _ _ _ _ (Nat.le_refl _) hv
        simp only [List.length_drop, List.length_nil] at v2 v3
        have hsh := showK_len v true 0
        obtain ⟨a, ha⟩ : ∃ a : PAva, (baOf ((s.drop p).take k), baOf v) = a := ⟨_, rfl⟩
        have a1 : toL a.1 = (s.drop p).take k := by rw [← ha]; simp [baOf, toL]
        have a2 : toL a.2 = v := by rw [← ha]; simp [baOf, toL]
        have hal : (avaP a).length + 3 * p ≤ 3 * q ∧ (avaP a).length + 1 + 3 * p ≤ 3 * (q + 1) := by
          rw [avaP_len, a1, a2]; unfold showV; simp; omega
        have hok : PairsOk [a] := fun x hx => by simp at hx; subst hx; rw [a1]; exact w1
        rw [ha] at h
        by_cases h1 : s.length ≤ q
        · rw [if_pos h1] at h
          injection h with h
          refine ⟨[a], [], by rw [← h], by simp, hok, (fun r hr => by cases hr), by simp; omega, by simp; omega, ?_⟩
          rw [restP_one]; simp; omega
        · rw [if_neg h1] at h
          by_cases h2 : s[q]? = some 44
          · rw [if_pos h2] at h
            by_cases h3 : 64 ≤ done.length + 1
            · rw [if_pos h3] at h; cases h
            · rw [if_neg h3] at h
              obtain ⟨ps, rs, r1, r2, r3, r4, r5, r6, r7⟩ := parse_shape s hs f (q + 1) (done ++ [part ++ [a]]) [] m h (by omega) (by simp; omega) (by simp)
              refine ⟨[a], ps :: rs, by rw [r1]; simp, by simp, hok, ?_, by simp; omega, by simp at r6 ⊢; omega, ?_⟩
              · intro r hr
                rcases List.mem_cons.1 hr with rfl | hr
                · exact ⟨r2, by simpa using r5, r3⟩
                · exact r4 r hr
              · rw [restP_one, restP_next]; simp; omega
          · rw [if_neg h2] at h
            by_cases h3 : 64 ≤ done.length ∨ 8 ≤ (part ++ [a]).length
            · rw [if_pos h3] at h; cases h
            · rw [if_neg h3] at h
              have h4 : (part ++ [a]).length < 8 := by
                by_cases e : 8 ≤ (part ++ [a]).length
                · exact absurd (.inr e) h3
                · omega
              obtain ⟨ps, rs, r1, r2, r3, r4, r5, r6, r7⟩ := parse_shape s hs f (q + 1) done (part ++ [a]) m h (by omega) hd h4
              cases ps with
              | nil => exact absurd rfl r2
              | cons b ps =>
                refine ⟨a :: b :: ps, rs, by rw [r1]; simp, by simp, ?_, r4, by simp at r5 ⊢; omega, r6, ?_⟩
                · intro x hx
                  rcases List.mem_cons.1 hx with rfl | hx
                  · exact hok x (by simp)
                  · exact r3 x hx
                · rw [restP_more]; simp at r7 ⊢; omega
theorem parse_typed {t : Str} {m : PName} (h : parseV t = .ok m) : m.length ≤ 64 ∧ (∀ r ∈ m, r ≠ [] ∧ r.length ≤ 8 ∧ PairsOk r) ∧ (nameP m).length ≤ 3 * t.length := by
  unfold parseV at h
  split at h
  · cases h
  · rename_i hl
    split at h
    · injection h with h; subst h; exact ⟨by simp, (fun r hr => by cases hr), by simp [nameP, joinP]⟩
    · obtain ⟨ps, rs, r1, r2, r3, r4, r5, r6, r7⟩ := parse_shape t (by omega) _ 0 [] [] m h (Nat.zero_le _) (by simp) (by simp)
      simp at r1 r5 r6 r7
      subst r1
      refine ⟨by simp; omega, ?_, by rw [nameP_cons]; exact r7⟩
      intro r hr
      rcases List.mem_cons.1 hr with rfl | hr
      · exact ⟨r2, r5, r3⟩
      · exact r4 r hr
/-- what was read is written ps a text no longer than thrice, or is too long -/
theorem print_parsed {t : Str} {m : PName} (h : parseV t = .ok m) : (printV m = (nameP m, 0) ∧ (nameP m).length ≤ 3 * t.length) ∨ printV m = ([], 3) := by
  obtain ⟨h1, h2, h3⟩ := parse_typed h
  unfold printV
  rw [if_neg (by
    rintro (e | e)
    · omega
    · obtain ⟨r, hr, h8⟩ := List.any_eq_true.1 e
      have := (h2 r hr).2.1
      simp at h8; omega)]
  rw [if_neg (by
    intro e
    obtain ⟨r, hr, h8⟩ := List.any_eq_true.1 e
    obtain ⟨q1, _, q3⟩ := h2 r hr
    rw [Bool.or_eq_true] at h8
    rcases h8 with h8 | h8
    · exact q1 (by simpa using h8)
    · obtain ⟨a, ha, h9⟩ := List.any_eq_true.1 h8
      have hw := q3 a ha
      have hl : (toL a.1).length ≤ 65536 := by
        unfold wordOk keyL at hw
        split at hw
        · cases hw
        · omega
      unfold typedV at h9
      rw [if_pos hl, hw] at h9
      cases h9)]
  split
  · exact .inr rfl
  · exact .inl ⟨rfl, h3⟩
end Go.Proofs.YtifgmnafjihlkaaGreatDoor
/- What the writing of a name does, step by step. Plain. -/
namespace Go.Proofs.YtifgmnafjihlkaaGreatDoor
open Go

theorem joinP_snoc (c : UInt8) (x : Str) : ∀ l : List Str, joinP c (l ++ [x]) = (if l = [] then [] else joinP c l ++ [c]) ++ x
  | [] => by simp [joinP]
  | [y] => by simp [joinP]
  | y :: z :: l => by
    have ih := joinP_snoc c x (z :: l)
    rw [if_neg (by simp)] at ih ⊢
    show joinP c (y :: z :: (l ++ [x])) = _
    rw [joinP]
    have : joinP c (z :: (l ++ [x])) = joinP c (z :: l ++ [x]) := rfl
    rw [this, ih, joinP]
    simp
def preP (c : UInt8) (l : List Str) (i : Nat) : Str := if i = 0 then [] else joinP c (l.take i) ++ [c]
theorem joinP_step {c : UInt8} {l : List Str} {i : Nat} {x : Str} (h : l[i]? = some x) : joinP c (l.take (i + 1)) = preP c l i ++ x := by
  have hi := (List.getElem?_eq_some_iff.1 h).1
  rw [List.take_add_one, h]
  show joinP c (l.take i ++ [x]) = _
  rw [joinP_snoc]
  unfold preP
  by_cases h0 : i = 0
  · subst h0; simp
  · rw [if_neg h0, if_neg]
    intro e
    have := congrArg List.length e
    simp at this
    rcases this with h | h
    · omega
    · subst h; simp at hi
theorem joinP_mono (c : UInt8) (l : List Str) : ∀ k i, (joinP c (l.take i)).length ≤ (joinP c (l.take (i + k))).length
  | 0, i => Nat.le_refl _
  | k + 1, i => by
    refine Nat.le_trans (joinP_mono c l k i) ?_
    rw [← Nat.add_assoc]
    by_cases h : i + k < l.length
    · rw [joinP_step (List.getElem?_eq_getElem h)]
      unfold preP
      by_cases h0 : i + k = 0
      · rw [show List.take (i + k) l = [] by rw [h0]; rfl]; exact Nat.zero_le _
      · rw [if_neg h0]; simp
        try omega
    · rw [List.take_of_length_le (by omega), List.take_of_length_le (by omega)]; exact Nat.le_refl _
theorem joinP_take_len (c : UInt8) (l : List Str) (i : Nat) : (joinP c (l.take i)).length ≤ (joinP c l).length := by
  have := joinP_mono c l l.length i
  rwa [List.take_of_length_le (i := i + l.length) (by omega)] at this
/-- the text while part i is being written, k pairs of it done -/
def midP (n : PName) (i : Nat) (r : PRdn) (k : Nat) : Str := preP 44 (n.map rdnP) i ++ joinP 43 ((r.map avaP).take k)
theorem midP_end {n : PName} {i : Nat} {r : PRdn} {k : Nat} (h : n[i]? = some r) (hk : r.length ≤ k) : midP n i r k = joinP 44 ((n.map rdnP).take (i + 1)) := by
  unfold midP
  rw [List.take_of_length_le (by simpa using hk)]
  exact (joinP_step (by rw [List.getElem?_map, h]; rfl)).symm
theorem midP_le {n : PName} {i : Nat} {r : PRdn} {k : Nat} (h : n[i]? = some r) : (midP n i r k).length ≤ (nameP n).length := by
  have h1 : (midP n i r k).length ≤ (midP n i r r.length).length := by
    unfold midP
    have := joinP_take_len 43 (r.map avaP) k
    rw [List.take_of_length_le (i := r.length) (by simp)]
    simp only [List.length_append]
    omega
  rw [midP_end h (Nat.le_refl _)] at h1
  exact Nat.le_trans h1 (joinP_take_len _ _ _)
theorem midP_next {n : PName} {i : Nat} {r : PRdn} {k : Nat} {a : PAva} (h : r[k]? = some a) : midP n i r (k + 1) = preP 44 (n.map rdnP) i ++ preP 43 (r.map avaP) k ++ avaP a := by
  unfold midP
  rw [joinP_step (x := avaP a) (by rw [List.getElem?_map, h]; rfl), List.append_assoc]
def Small1 (n : PName) : Prop := n.length ≤ 64 ∧ ∀ r ∈ n, r.length ≤ 8
def Typed2 (n : PName) : Prop := ∀ r ∈ n, r ≠ [] ∧ ∀ a ∈ r, typedV (toL a.1) = true
theorem pv_long {n : PName} (h : 64 < n.length ∨ ∃ r ∈ n, 8 < r.length) : printV n = ([], 3) := by
  unfold printV
  rw [if_pos]
  rcases h with h | ⟨r, hr, h⟩
  · exact .inl h
  · exact .inr (List.any_eq_true.2 ⟨r, hr, by simpa using h⟩)
theorem small1_not {n : PName} (h : Small1 n) : ¬ (64 < n.length ∨ n.any (fun r => decide (8 < r.length)) = true) := by
  rintro (h1 | h1)
  · have := h.1; omega
  · obtain ⟨r, hr, h2⟩ := List.any_eq_true.1 h1
    have := h.2 r hr
    simp at h2; omega
theorem pv_bad {n : PName} (h1 : Small1 n) (h : ∃ r ∈ n, r = [] ∨ ∃ a ∈ r, typedV (toL a.1) = false) : printV n = ([], 60) := by
  unfold printV
  rw [if_neg (small1_not h1), if_pos]
  obtain ⟨r, hr, h⟩ := h
  refine List.any_eq_true.2 ⟨r, hr, ?_⟩
  rcases h with h | ⟨a, ha, h⟩
  · subst h; rfl
  · rw [Bool.or_eq_true]; right
    exact List.any_eq_true.2 ⟨a, ha, by simp [h]⟩
theorem typed2_not {n : PName} (h : Typed2 n) : ¬ (n.any (fun r => r.isEmpty || r.any fun a => !typedV (toL a.1)) = true) := by
  intro h1
  obtain ⟨r, hr, h2⟩ := List.any_eq_true.1 h1
  obtain ⟨h3, h4⟩ := h r hr
  rw [Bool.or_eq_true] at h2
  rcases h2 with h2 | h2
  · exact h3 (by simpa using h2)
  · obtain ⟨a, ha, h5⟩ := List.any_eq_true.1 h2
    rw [h4 a ha] at h5; cases h5
theorem pv_big {n : PName} (h1 : Small1 n) (h2 : Typed2 n) (h : (∃ r ∈ n, ∃ a ∈ r, 65536 < a.1.size ∨ 65536 < a.2.size) ∨ 65536 < (nameP n).length) : printV n = ([], 3) := by
  unfold printV
  rw [if_neg (small1_not h1), if_neg (typed2_not h2), if_pos]
  rcases h with ⟨r, hr, a, ha, h⟩ | h
  · left
    refine List.any_eq_true.2 ⟨r, hr, List.any_eq_true.2 ⟨a, ha, ?_⟩⟩
    rcases h with h | h <;> simp [h]
  · exact .inr h
theorem pv_ok {n : PName} (h1 : Small1 n) (h2 : Typed2 n) (h : ∀ r ∈ n, ∀ a ∈ r, a.1.size ≤ 65536 ∧ a.2.size ≤ 65536) (hl : (nameP n).length ≤ 65536) : printV n = (nameP n, 0) := by
  unfold printV
  rw [if_neg (small1_not h1), if_neg (typed2_not h2), if_neg]
  rintro (h3 | h3)
  · obtain ⟨r, hr, h4⟩ := List.any_eq_true.1 h3
    obtain ⟨a, ha, h5⟩ := List.any_eq_true.1 h4
    have := h r hr a ha
    rw [Bool.or_eq_true, decide_eq_true_eq, decide_eq_true_eq] at h5
    omega
  · omega
end Go.Proofs.YtifgmnafjihlkaaGreatDoor
/- How names lie in memory: pairs, parts. No walk. -/
namespace Go.Proofs.YtifgmnafjihlkaaGreatDoor
open Go Go.RowKit

/-- a slice reads as pairs -/
structure Avas (B : Nat) (w : World) (a : Option Addr) (n c : Nat) (l : PRdn) : Prop where
  len : n = l.length
  lies : LiesW B a n c
  small : n ≤ 4294967280
  cell : ∀ b o, a = some ⟨b, o, none⟩ → ∀ i x, l[i]? = some x → w.cell? ⟨b, o + i * 2, none⟩ = some (.string x.1) ∧ w.cell? ⟨b, o + i * 2 + 1, none⟩ = some (.string x.2)
  size : ∀ x ∈ l, x.1.size ≤ 4294967280 ∧ x.2.size ≤ 4294967280
theorem Avas.keep {B B' : Nat} {w w' : World} {a : Option Addr} {n c : Nat} {l : PRdn} (h : Avas B w a n c l) (k : Below B w w') (hb : B ≤ B') : Avas B' w' a n c l :=
  ⟨h.len, h.lies.mono hb, h.small, fun b o e i x hx => by
    have hlt : b < B := h.lies.lt ⟨b, o, none⟩ e (by have h1 := h.len; have h2 := (List.getElem?_eq_some_iff.1 hx).1; omega)
    rw [k.cell (p := ⟨b, o + i * 2, none⟩) hlt, k.cell (p := ⟨b, o + i * 2 + 1, none⟩) hlt]
    exact h.cell b o e i x hx, h.size⟩
theorem Avas.nil (B : Nat) (w : World) : Avas B w none 0 0 [] := ⟨rfl, ⟨Nat.le_refl _, Nat.zero_le _, fun _ => rfl, (fun ad h _ => by cases h), (fun ad h _ => by cases h)⟩, Nat.zero_le _, (fun b o h => by cases h), (fun s h => by cases h)⟩
/-- a slice reads as parts -/
structure Rdns (B : Nat) (w : World) (a : Option Addr) (n c : Nat) (l : PName) : Prop where
  len : n = l.length
  lies : LiesW B a n c
  small : n ≤ 4294967280
  cell : ∀ b o, a = some ⟨b, o, none⟩ → ∀ i r, l[i]? = some r → ∃ a' n' c', w.cell? ⟨b, o + i, none⟩ = some (.slice a' n' c') ∧ Avas B w a' n' c' r
theorem Rdns.keep {B B' : Nat} {w w' : World} {a : Option Addr} {n c : Nat} {l : PName} (h : Rdns B w a n c l) (k : Below B w w') (hb : B ≤ B') : Rdns B' w' a n c l :=
  ⟨h.len, h.lies.mono hb, h.small, fun b o e i r hr => by
    have hlt : b < B := h.lies.lt ⟨b, o, none⟩ e (by have h1 := h.len; have h2 := (List.getElem?_eq_some_iff.1 hr).1; omega)
    obtain ⟨a', n', c', h1, h2⟩ := h.cell b o e i r hr
    exact ⟨a', n', c', by rw [k.cell (p := ⟨b, o + i, none⟩) hlt]; exact h1, h2.keep k hb⟩⟩
theorem Rdns.nil (B : Nat) (w : World) : Rdns B w none 0 0 [] := ⟨rfl, ⟨Nat.le_refl _, Nat.zero_le _, fun _ => rfl, (fun ad h _ => by cases h), (fun ad h _ => by cases h)⟩, Nat.zero_le _, (fun b o h => by cases h)⟩
end Go.Proofs.YtifgmnafjihlkaaGreatDoor
/- name's reader: letters, skip, fail, stuck. -/
namespace Go.Proofs.YtifgmnafjihlkaaGreatDoor
open Go Go.RowKit

/-- a call of a function value in a region that only reads -/
theorem quiet_callv {P : Program} {C : World → Prop} {o : Oper} {a : Act} {K : Act → Prop} (f : FuncId) (vs : Array Value) (hr : ∀ w, (execOp a.eval o).run P w = .ok (.enter f vs) w) (v : Value) (hc : ∀ w, C w → Calls P f vs w fun e w' => e = .returned v ∧ C w') (hk : K (a.put o.dst v)) : o.quiet P a C K := by
  refine ⟨v, fun w hw => ?_, hk⟩
  unfold Oper.quietAt
  rw [hr]
  exact ⟨rfl, hc w hw⟩

structure Rd (w : World) (g : Nat) (s : ByteArray) (p : Nat) (bad : Option Addr) : Prop where
  c0 : w.cell? ⟨g, 0, none⟩ = some (.string s)
  c1 : w.cell? ⟨g, 1, none⟩ = some (.int .i64 (p : Nat))
  c2 : w.cell? ⟨g, 2, none⟩ = some (.pointer bad)
  fr : ∀ j, w.frozen? ⟨g, j, none⟩ = false
  le : p ≤ s.size
  small : s.size ≤ 1099511627776
theorem Rd.lt {w : World} {g : Nat} {s : ByteArray} {p : Nat} {bad : Option Addr} (h : Rd w g s p bad) : g < w.heap.size := World.block_lt_of_cell? w _ h.c0
theorem Rd.drewN {w : World} {g : Nat} {s : ByteArray} {p : Nat} {bad : Option Addr} (h : Rd w g s p bad) (q : Nat) : Rd (w.drewN q) g s p bad := ⟨h.c0, h.c1, h.c2, h.fr, h.le, h.small⟩
theorem Rd.keep {w w' : World} {g : Nat} {s : ByteArray} {p : Nat} {bad : Option Addr} (h : Rd w g s p bad) (k : Below w.heap.size w w') : Rd w' g s p bad :=
  ⟨by rw [k.cell h.lt]; exact h.c0, by rw [k.cell h.lt]; exact h.c1, by rw [k.cell h.lt]; exact h.c2, fun j => by rw [k.frozen (p := ⟨g, j, none⟩) h.lt]; exact h.fr j, h.le, h.small⟩
theorem Rd.put {w : World} {g : Nat} {s : ByteArray} {p : Nat} {bad : Option Addr} (h : Rd w g s p bad) {q : Nat} (hq : q ≤ s.size) : Rd (w.setCell ⟨g, 1, none⟩ (.int .i64 (q : Nat))) g s q bad :=
  ⟨by rw [World.cell?_setCell_other _ _ _ _ (fun e => by cases e)]; exact h.c0, by rw [World.cell?_setCell_same _ _ _ h.c1], by rw [World.cell?_setCell_other _ _ _ _ (fun e => by cases e)]; exact h.c2, fun j => by rw [World.frozen?_setCell]; exact h.fr j, hq, h.small⟩

def rdAt (g : Nat) (w : World) : Nat := match w.cell? ⟨g, 1, none⟩ with
  | some (.int _ x) => x.toNat
  | _ => 0
theorem rdAt_of {w : World} {g p : Nat} (h : w.cell? ⟨g, 1, none⟩ = some (.int .i64 (p : Nat))) : rdAt g w = p := by unfold rdAt; rw [h]; simp
/-! ### letters -/
theorem nletter_any (b : UInt8) (w : World) : Calls Tryz.prog 156 #[.int .u8 (b.toNat : Int)] w fun e w' => e = .returned (.bool (isLet b)) ∧ w' = w := by
  have hl : isLet b = (decide (97 ≤ b.toNat ∧ b.toNat ≤ 122) || decide (65 ≤ b.toNat ∧ b.toNat ≤ 90)) := rfl
  rw [hl]
  generalize b.toNat = n
  rcases (by omega : n < 65 ∨ (65 ≤ n ∧ n ≤ 90) ∨ (90 < n ∧ n < 97) ∨ (97 ≤ n ∧ n ≤ 122) ∨ 122 < n) with h | ⟨h, h2⟩ | ⟨h, h2⟩ | ⟨h, h2⟩ | h
  · have e1 : (decide (97 ≤ n ∧ n ≤ 122) || decide (65 ≤ n ∧ n ≤ 90)) = false := by simp; omega
    rw [e1]
    have i1 : ¬ (97 : Int) ≤ n := by omega
    have i2 : ¬ (65 : Int) ≤ n := by omega
    clear e1 h
    go_enter Tryz.func156, Tryz.ntmps156
    go_wp2_with fail
    go_ret
    exact ⟨rfl, rfl⟩
  · have e1 : (decide (97 ≤ n ∧ n ≤ 122) || decide (65 ≤ n ∧ n ≤ 90)) = true := by simp; omega
    rw [e1]
    have i1 : ¬ (97 : Int) ≤ n := by omega
    have i2 : (65 : Int) ≤ n := by omega
    have i3 : (n : Int) ≤ 90 := by omega
    clear e1 h h2
    go_enter Tryz.func156, Tryz.ntmps156
    go_wp2_with fail
    go_ret
    exact ⟨rfl, rfl⟩
  · have e1 : (decide (97 ≤ n ∧ n ≤ 122) || decide (65 ≤ n ∧ n ≤ 90)) = false := by simp; omega
    rw [e1]
    have i1 : ¬ (97 : Int) ≤ n := by omega
    have i2 : (65 : Int) ≤ n := by omega
    have i3 : ¬ (n : Int) ≤ 90 := by omega
    clear e1 h h2
    go_enter Tryz.func156, Tryz.ntmps156
    go_wp2_with fail
    go_ret
    exact ⟨rfl, rfl⟩
  · have e1 : (decide (97 ≤ n ∧ n ≤ 122) || decide (65 ≤ n ∧ n ≤ 90)) = true := by simp; omega
    rw [e1]
    have i1 : (97 : Int) ≤ n := by omega
    have i2 : (n : Int) ≤ 122 := by omega
    clear e1 h h2
    go_enter Tryz.func156, Tryz.ntmps156
    go_wp2_with fail
    go_ret
    exact ⟨rfl, rfl⟩
  · have e1 : (decide (97 ≤ n ∧ n ≤ 122) || decide (65 ≤ n ∧ n ≤ 90)) = false := by simp; omega
    rw [e1]
    have i1 : (97 : Int) ≤ n := by omega
    have i2 : ¬ (n : Int) ≤ 122 := by omega
    have i3 : (65 : Int) ≤ n := by omega
    have i4 : ¬ (n : Int) ≤ 90 := by omega
    clear e1 h
    go_enter Tryz.func156, Tryz.ntmps156
    go_wp2_with fail
    go_ret
    exact ⟨rfl, rfl⟩
theorem ndigit_any (b : UInt8) (w : World) : Calls Tryz.prog 159 #[.int .u8 (b.toNat : Int)] w fun e w' => e = .returned (.bool (dig b)) ∧ w' = w := by
  have hl : dig b = decide (48 ≤ b.toNat ∧ b.toNat ≤ 57) := rfl
  rw [hl]
  generalize b.toNat = n
  rcases (by omega : n < 48 ∨ (48 ≤ n ∧ n ≤ 57) ∨ 57 < n) with h | ⟨h, h2⟩ | h
  · have e1 : decide (48 ≤ n ∧ n ≤ 57) = false := by simp; omega
    rw [e1]
    have i1 : ¬ (48 : Int) ≤ n := by omega
    clear e1 h
    go_enter Tryz.func159, Tryz.ntmps159
    go_wp2_with fail
    go_ret
    exact ⟨rfl, rfl⟩
  · have e1 : decide (48 ≤ n ∧ n ≤ 57) = true := by simp; omega
    rw [e1]
    have i1 : (48 : Int) ≤ n := by omega
    have i3 : (n : Int) ≤ 57 := by omega
    clear e1 h h2
    go_enter Tryz.func159, Tryz.ntmps159
    go_wp2_with fail
    go_ret
    exact ⟨rfl, rfl⟩
  · have e1 : decide (48 ≤ n ∧ n ≤ 57) = false := by simp; omega
    rw [e1]
    have i1 : (48 : Int) ≤ n := by omega
    have i3 : ¬ (n : Int) ≤ 57 := by omega
    clear e1 h
    go_enter Tryz.func159, Tryz.ntmps159
    go_wp2_with fail
    go_ret
    exact ⟨rfl, rfl⟩
set_option maxRecDepth 20000 in
theorem nkind1_any (b : UInt8) (w : World) : Calls Tryz.prog 158 #[.int .u8 (b.toNat : Int)] w fun e w' => e = .returned (.bool (tailC b)) ∧ w' = w := by
  have hl := fun w => nletter_any b w
  have hd := fun w => ndigit_any b w
  have ht : tailC b = (isLet b || dig b || b == 45) := rfl
  rw [ht]
  have h45 : (b == 45) = decide ((b.toNat : Int) = 45) := by
    by_cases e : b = 45
    · subst e; rfl
    · have h1 : (b == 45) = false := by simpa using e
      rw [h1]
      symm
      exact decide_eq_false fun h => e (UInt8.toNat_inj.1 (by show b.toNat = 45; omega))
  rw [h45]
  clear h45 ht
  generalize isLet b = x at hl
  generalize dig b = y at hd
  have HL := Lib.hid hl; have HD := Lib.hid hd; clear hl hd
  by_cases h : (b.toNat : Int) = 45
  · have hb : ((b.toNat : Int) == 45) = true := by simpa using h
    rw [decide_eq_true h]
    clear h
    cases x <;> cases y <;> (
      go_enter Tryz.func158, Tryz.ntmps158
      go_wp2_with (first
        | (go_at_call 156; (with_reducible refine (HL.out _).mono ?_); rintro e w1 ⟨rfl, rfl⟩)
        | (go_at_call 159; (with_reducible refine (HD.out _).mono ?_); rintro e w1 ⟨rfl, rfl⟩)
        | fail)
      go_ret
      exact ⟨rfl, rfl⟩)
  · have hb : ((b.toNat : Int) == 45) = false := by simpa using h
    rw [decide_eq_false h]
    clear h
    cases x <;> cases y <;> (
      go_enter Tryz.func158, Tryz.ntmps158
      go_wp2_with (first
        | (go_at_call 156; (with_reducible refine (HL.out _).mono ?_); rintro e w1 ⟨rfl, rfl⟩)
        | (go_at_call 159; (with_reducible refine (HD.out _).mono ?_); rintro e w1 ⟨rfl, rfl⟩)
        | fail)
      go_ret
      exact ⟨rfl, rfl⟩)

/-! ### how far a run goes -/
def twEnd (P : UInt8 → Bool) (l : Str) (p : Nat) : Nat := p + ((l.drop p).takeWhile P).length
theorem tw_in {P : UInt8 → Bool} {s : ByteArray} {p q : Nat} (h1 : p ≤ q) (h2 : q < twEnd P (toL s) p) : ∃ h : q < s.size, P s[q] = true := by
  unfold twEnd at h2
  have h3 : q - p < (((toL s).drop p).takeWhile P).length := by omega
  have hp := List.takeWhile_prefix P (l := (toL s).drop p)
  have hl := hp.length_le
  have hq : q < s.size := by have := Lib.size_eq s; simp only [List.length_drop] at hl; unfold toL at hl h3; omega
  refine ⟨hq, ?_⟩
  have h4 : (((toL s).drop p).takeWhile P)[q - p] ∈ ((toL s).drop p).takeWhile P := List.getElem_mem h3
  have h5 := List.all_eq_true.1 (tw_all P ((toL s).drop p)) _ h4
  have h6 : (((toL s).drop p).takeWhile P)[q - p]? = ((toL s).drop p)[q - p]? := by
    obtain ⟨t, ht⟩ := hp
    conv => rhs; rw [← ht]
    rw [List.getElem?_append_left h3]
  rw [List.getElem?_eq_getElem h3, List.getElem?_drop, show p + (q - p) = q by omega] at h6
  have h7 : (toL s)[q]? = some s[q] := by
    unfold toL
    have := drop_at s hq
    have h8 := congrArg (·[0]?) this
    simpa using h8
  rw [h7] at h6
  rw [Option.some.inj h6] at h5
  exact h5
where
  tw_all (p : UInt8 → Bool) (l : Str) : (l.takeWhile p).all p = true := by
    induction l with
    | nil => rfl
    | cons a l ih =>
      rw [List.takeWhile_cons]
      split
      · rename_i h; simp [h]
      · rfl
theorem tw_out {P : UInt8 → Bool} {s : ByteArray} {p : Nat} (hp : p ≤ s.size) : twEnd P (toL s) p ≤ s.size ∧ ∀ h : twEnd P (toL s) p < s.size, P (s[twEnd P (toL s) p]'h) = false := by
  have hpre := List.takeWhile_prefix P (l := (toL s).drop p)
  have hl := hpre.length_le
  have hz := Lib.size_eq s
  have hle : twEnd P (toL s) p ≤ s.size := by unfold twEnd; simp only [List.length_drop] at hl; unfold toL at hl ⊢; omega
  refine ⟨hle, fun h => ?_⟩
  have h7 : (toL s)[twEnd P (toL s) p]? = some (s[twEnd P (toL s) p]'h) := by
    unfold toL at h ⊢
    have := drop_at s h
    have h8 := congrArg (·[0]?) this
    simpa using h8
  have h9 : ((toL s).drop p)[(((toL s).drop p).takeWhile P).length]? = some (s[twEnd P (toL s) p]'h) := by
    rw [List.getElem?_drop]; exact h7
  exact tw_stop P _ h9
where
  tw_stop (P : UInt8 → Bool) (l : Str) {c : UInt8} (h : l[(l.takeWhile P).length]? = some c) : P c = false := by
    induction l with
    | nil => simp at h
    | cons a l ih =>
      rw [List.takeWhile_cons] at h
      split at h
      · simp at h; exact ih h
      · rename_i h2; simp at h; rw [← h]; simpa using h2

set_option maxRecDepth 20000 in
set_option maxHeartbeats 1000000 in
theorem skipT_any (g : Nat) (s : ByteArray) (p : Nat) (bad : Option Addr) (w : World) (h : Rd w g s p bad) :
    Calls Tryz.prog 157 #[.pointer (some ⟨g, 0, none⟩), .func (.func 158) #[] #[]] w fun e w' =>
      e = .returned (.int .i64 ((twEnd tailC (toL s) p : Nat) - (p : Nat))) ∧ Rd w' g s (twEnd tailC (toL s) p) bad ∧ Chg (· = g) w w' := by
  have hin := fun q h1 h2 => @tw_in tailC s p q h1 h2
  obtain ⟨ho1, ho2⟩ := @tw_out tailC s p h.le
  have hpe : p ≤ twEnd tailC (toL s) p := by unfold twEnd; omega
  generalize twEnd tailC (toL s) p = pe at hin ho1 ho2 hpe ⊢
  have hsm := h.small
  have c1 := h.c1
  have HR := Lib.hid h; have HIN := Lib.hid hin; have HO := Lib.hid ho2; clear h hin ho2
  go_enter Tryz.func157, Tryz.ntmps157
  go_wp2_with fail
  go_loopw [] (fun wr => ∃ q : Nat, p ≤ q ∧ q ≤ pe ∧ Rd wr g s q bad ∧ Chg (· = g) w wr) (fun wr => pe - rdAt g wr)
  case atStart => exact ⟨p, Nat.le_refl _, hpe, HR.out, Chg.refl _ _⟩
  case round =>
    obtain ⟨q, h1, h2, hrd, hch⟩ := hrel
    have e0 := hrd.c0
    have e1 := hrd.c1
    have ef := hrd.fr 1
    have HRD := Lib.hid (And.intro hrd hch); clear hrd hch
    have hat := rdAt_of e1
    have HAT := Lib.hid hat; clear hat
    by_cases hz : q < s.size
    · have d1 : decide ((q : Int) < (s.size : Int)) = true := by simp; omega
      have d2 : (q : Int) < (s.size : Int) := by omega
      have d3 : (0 : Int) ≤ (q : Int) := by omega
      by_cases hlt : q < pe
      · obtain ⟨hz2, hb⟩ := HIN.out q h1 hlt
        have hc := fun w => nkind1_any (s[q]'hz) w
        rw [hb] at hc
        have HC := Lib.hid hc; clear hc hb
        generalize hbb : (s[q]'hz) = bb at HC
        go_wp2_with fail
        refine wp_region_quiet_lit (by kernel_rfl) (by kernel_rfl) ?_
        repeat (go_big_quiet_step (fail))
        go_big_quiet_want
        refine quiet_callv 158 #[.int .u8 (bb.toNat : Int)] (fun w => by kernel_rfl) (.bool true) (fun w hw => ?_) ?_
        · obtain ⟨m, rfl⟩ := hw
          exact (HC.out _).mono fun e w' ⟨h1, h2⟩ => ⟨h1, m, h2⟩
        simp only [Act.put, List.setIfInBounds_toArray, List.set_cons_zero, List.set_cons_succ]
        go_big_quiet_on
        repeat (go_big_quiet_step (fail))
        refine wpQuiet_nil ?_
        intro _ hw'
        obtain ⟨nq, hw''⟩ := hw'
        subst hw''
        go_wp2_with fail
        have hfin := (HRD.out.1.drewN nq).put (q := q + 1) (by omega)
        rw [show (((q + 1 : Nat)) : Int) = (q : Int) + 1 by omega] at hfin
        refine ⟨⟨q + 1, by omega, by omega, hfin, (HRD.out.2.drewN nq).setCell (p := ⟨g, 1, none⟩) (fun _ => rfl) _⟩, ?_⟩
        rw [HAT.out, rdAt_of (p := q + 1) hfin.c1]
        omega
      · obtain rfl : q = pe := by omega
        have hb := HO.out hz
        have hc := fun w => nkind1_any (s[q]'hz) w
        rw [hb] at hc
        have HC := Lib.hid hc; clear hc hb
        generalize hbb : (s[q]'hz) = bb at HC
        go_wp2_with fail
        refine wp_region_quiet_lit (by kernel_rfl) (by kernel_rfl) ?_
        repeat (go_big_quiet_step (fail))
        go_big_quiet_want
        refine quiet_callv 158 #[.int .u8 (bb.toNat : Int)] (fun w => by kernel_rfl) (.bool false) (fun w hw => ?_) ?_
        · obtain ⟨m, rfl⟩ := hw
          exact (HC.out _).mono fun e w' ⟨h1, h2⟩ => ⟨h1, m, h2⟩
        simp only [Act.put, List.setIfInBounds_toArray, List.set_cons_zero, List.set_cons_succ]
        go_big_quiet_on
        repeat (go_big_quiet_step (fail))
        refine wpQuiet_nil ?_
        intro _ hw'
        obtain ⟨nq, hw''⟩ := hw'
        subst hw''
        go_wp2_with fail
        go_ret
        exact ⟨rfl, HRD.out.1.drewN _, HRD.out.2.drewN _⟩
    · have hq1 := HRD.out.1.le
      obtain rfl : q = pe := by omega
      have d1 : decide ((q : Int) < (s.size : Int)) = false := by simp; omega
      go_wp2_with fail
      go_quiet (fail)
      go_wp2_with fail
      go_ret
      exact ⟨rfl, HRD.out.1.drewN _, HRD.out.2.drewN _⟩

set_option maxRecDepth 20000 in
set_option maxHeartbeats 1000000 in
theorem skipD_any (g : Nat) (s : ByteArray) (p : Nat) (bad : Option Addr) (w : World) (h : Rd w g s p bad) :
    Calls Tryz.prog 157 #[.pointer (some ⟨g, 0, none⟩), .func (.func 159) #[] #[]] w fun e w' =>
      e = .returned (.int .i64 ((twEnd dig (toL s) p : Nat) - (p : Nat))) ∧ Rd w' g s (twEnd dig (toL s) p) bad ∧ Chg (· = g) w w' := by
  have hin := fun q h1 h2 => @tw_in dig s p q h1 h2
  obtain ⟨ho1, ho2⟩ := @tw_out dig s p h.le
  have hpe : p ≤ twEnd dig (toL s) p := by unfold twEnd; omega
  generalize twEnd dig (toL s) p = pe at hin ho1 ho2 hpe ⊢
  have hsm := h.small
  have c1 := h.c1
  have HR := Lib.hid h; have HIN := Lib.hid hin; have HO := Lib.hid ho2; clear h hin ho2
  go_enter Tryz.func157, Tryz.ntmps157
  go_wp2_with fail
  go_loopw [] (fun wr => ∃ q : Nat, p ≤ q ∧ q ≤ pe ∧ Rd wr g s q bad ∧ Chg (· = g) w wr) (fun wr => pe - rdAt g wr)
  case atStart => exact ⟨p, Nat.le_refl _, hpe, HR.out, Chg.refl _ _⟩
  case round =>
    obtain ⟨q, h1, h2, hrd, hch⟩ := hrel
    have e0 := hrd.c0
    have e1 := hrd.c1
    have ef := hrd.fr 1
    have HRD := Lib.hid (And.intro hrd hch); clear hrd hch
    have hat := rdAt_of e1
    have HAT := Lib.hid hat; clear hat
    by_cases hz : q < s.size
    · have d1 : decide ((q : Int) < (s.size : Int)) = true := by simp; omega
      have d2 : (q : Int) < (s.size : Int) := by omega
      have d3 : (0 : Int) ≤ (q : Int) := by omega
      by_cases hlt : q < pe
      · obtain ⟨hz2, hb⟩ := HIN.out q h1 hlt
        have hc := fun w => ndigit_any (s[q]'hz) w
        rw [hb] at hc
        have HC := Lib.hid hc; clear hc hb
        generalize hbb : (s[q]'hz) = bb at HC
        go_wp2_with fail
        refine wp_region_quiet_lit (by kernel_rfl) (by kernel_rfl) ?_
        repeat (go_big_quiet_step (fail))
        go_big_quiet_want
        refine quiet_callv 159 #[.int .u8 (bb.toNat : Int)] (fun w => by kernel_rfl) (.bool true) (fun w hw => ?_) ?_
        · obtain ⟨m, rfl⟩ := hw
          exact (HC.out _).mono fun e w' ⟨h1, h2⟩ => ⟨h1, m, h2⟩
        simp only [Act.put, List.setIfInBounds_toArray, List.set_cons_zero, List.set_cons_succ]
        go_big_quiet_on
        repeat (go_big_quiet_step (fail))
        refine wpQuiet_nil ?_
        intro _ hw'
        obtain ⟨nq, hw''⟩ := hw'
        subst hw''
        go_wp2_with fail
        have hfin := (HRD.out.1.drewN nq).put (q := q + 1) (by omega)
        rw [show (((q + 1 : Nat)) : Int) = (q : Int) + 1 by omega] at hfin
        refine ⟨⟨q + 1, by omega, by omega, hfin, (HRD.out.2.drewN nq).setCell (p := ⟨g, 1, none⟩) (fun _ => rfl) _⟩, ?_⟩
        rw [HAT.out, rdAt_of (p := q + 1) hfin.c1]
        omega
      · obtain rfl : q = pe := by omega
        have hb := HO.out hz
        have hc := fun w => ndigit_any (s[q]'hz) w
        rw [hb] at hc
        have HC := Lib.hid hc; clear hc hb
        generalize hbb : (s[q]'hz) = bb at HC
        go_wp2_with fail
        refine wp_region_quiet_lit (by kernel_rfl) (by kernel_rfl) ?_
        repeat (go_big_quiet_step (fail))
        go_big_quiet_want
        refine quiet_callv 159 #[.int .u8 (bb.toNat : Int)] (fun w => by kernel_rfl) (.bool false) (fun w hw => ?_) ?_
        · obtain ⟨m, rfl⟩ := hw
          exact (HC.out _).mono fun e w' ⟨h1, h2⟩ => ⟨h1, m, h2⟩
        simp only [Act.put, List.setIfInBounds_toArray, List.set_cons_zero, List.set_cons_succ]
        go_big_quiet_on
        repeat (go_big_quiet_step (fail))
        refine wpQuiet_nil ?_
        intro _ hw'
        obtain ⟨nq, hw''⟩ := hw'
        subst hw''
        go_wp2_with fail
        go_ret
        exact ⟨rfl, HRD.out.1.drewN _, HRD.out.2.drewN _⟩
    · have hq1 := HRD.out.1.le
      obtain rfl : q = pe := by omega
      have d1 : decide ((q : Int) < (s.size : Int)) = false := by simp; omega
      go_wp2_with fail
      go_quiet (fail)
      go_wp2_with fail
      go_ret
      exact ⟨rfl, HRD.out.1.drewN _, HRD.out.2.drewN _⟩
end Go.Proofs.YtifgmnafjihlkaaGreatDoor
