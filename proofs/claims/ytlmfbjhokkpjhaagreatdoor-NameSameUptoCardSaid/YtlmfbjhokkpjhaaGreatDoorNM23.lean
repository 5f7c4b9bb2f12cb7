/- Part 23 of the walks and plain laws, joined: KeyV, SchP3, KeyLen. -/
import Derived.Test.YtlmfbjhokkpjhaaGreatDoorNM00
import Derived.Test.YtlmfbjhokkpjhaaGreatDoorNM22
import Derived.Test.YtlmfbjhokkpjhaaGreatDoorNM10
import Derived.Lib.ItoaLen
set_option linter.unusedVariables false
set_option linter.unusedSimpArgs false
namespace Go.Proofs.YtlmfbjhokkpjhaaGreatDoor
open Go Go.RowKit
def ShortIn (N : Nat) (r : PRdn) : Prop := ∀ a ∈ r, a.1.size < N ∧ a.2.size < N
theorem parseR_short (s : Str) (hs : s.length ≤ 65536) : ∀ (f p : Nat) (done : PName) (part : PRdn) (m : PName), parseR s f p done part = .ok m → p ≤ s.length → (∀ r ∈ done, ShortIn s.length r) → ShortIn s.length part → ∀ r ∈ m, ShortIn s.length r
 | 0, _, _, _, _, h, _, _, _ => by unfold parseR at h; cases h
 | f + 1, p, done, part, m, h, hp, hd, h8 => by
  unfold parseR at h
  obtain ⟨⟨k, ok⟩, hk⟩ : ∃ r, kindN (s.drop p) = r := ⟨_, rfl⟩
  simp only [hk] at h
  cases ok with
  | false => rw [if_pos rfl] at h; cases h
  | true =>
   rw [if_neg (by simp)] at h
   obtain ⟨⟨v, q, fl⟩, hv⟩ : ∃ r, valR (p + k + 1) (s.drop (p + k + 1)) (p + k + 1) [] none = r := ⟨_, rfl⟩
   simp only [hv] at h
   cases fl with
   | some x => obtain ⟨c, z⟩ := x; simp only at h; cases h
   | none =>
    simp only at h
    have hkl : k ≤ 65536 := by
     have h2 : k ≤ (s.drop p).length := by
      by_cases e : k ≤ (s.drop p).length
      ·exact e
      ·exfalso
       unfold kindN at hk
       cases hl : s.drop p with
       | nil => rw [hl] at hk; simp at hk
       | cons c l =>
        rw [hl] at hk e
        simp only at hk
        split at hk
        ·injection hk with h1 _
         have := (List.takeWhile_prefix (p := tailC) (l := c :: l)).length_le
         omega
        ·obtain ⟨_, _, _, _, _, _, r6, _⟩ := oidN_rows _ _ _ _ _ hk
         omega
     simp at h2; omega
    obtain ⟨w1, w2⟩ := kind_back hk hkl
    simp only [List.length_drop] at w2
    obtain ⟨v1, v2, v3⟩ := valR_len _ _ _ _ _ _ _ _ (Zr _) hv
    simp only [List.length_drop, List.length_nil] at v2 v3
    obtain ⟨a, ha⟩ : ∃ a : PAva, (baOf ((s.drop p).take k), baOf v) = a := ⟨_, rfl⟩
    have hsa : a.1.size < s.length ∧ a.2.size < s.length := by
     rw [← ha]
     constructor
     ·show ((s.drop p).take k).toArray.size < _
      simp; omega
     ·show v.toArray.size < _
      simp; omega
    have hpa : ShortIn s.length (part ++ [a]) := fun x hx => by
     rcases List.mem_append.1 hx with hx | hx
     ·exact h8 x hx
     ·simp at hx; subst hx; exact hsa
    have hda : ∀ r ∈ done ++ [part ++ [a]], ShortIn s.length r := fun r hr => by
     rcases List.mem_append.1 hr with hr | hr
     ·exact hd r hr
     ·simp at hr; subst hr; exact hpa
    rw [ha] at h
    by_cases h1 : s.length ≤ q
    ·rw [if_pos h1] at h
     injection h with h
     subst h
     exact hda
    ·rw [if_neg h1] at h
     by_cases h2 : s[q]? = some 44
     ·rw [if_pos h2] at h
      by_cases h3 : 64 ≤ done.length + 1
      ·rw [if_pos h3] at h; cases h
      ·rw [if_neg h3] at h
       exact parseR_short s hs f (q + 1) _ [] m h (by omega) hda (fun x hx => by cases hx)
     ·rw [if_neg h2] at h
      by_cases h3 : 64 ≤ done.length ∨ 8 ≤ (part ++ [a]).length
      ·rw [if_pos h3] at h; cases h
      ·rw [if_neg h3] at h
       exact parseR_short s hs f (q + 1) done (part ++ [a]) m h (by omega) hd hpa
theorem parse_short {t : Str} {m : PName} (h : parseV t = .ok m) : ∀ r ∈ m, ShortIn t.length r := by
 unfold parseV at h
 split at h
 ·cases h
 ·split at h
  ·injection h with h; subst h; exact fun r hr => by cases hr
  ·exact parseR_short t (by omega) _ 0 [] [] m h (Nat.zero_le _) (fun r hr => by cases hr) (fun x hx => by cases hx)
theorem valK_congr {rd rd' : Str → Str × Bool} {v : Str} (h : rd v = rd' v) (S : PSchema) (x : PType) : valK rd S x v = valK rd' S x v := by
 unfold valK; rw [h]
theorem pairsK_congr {rd rd' : Str → Str × Bool} (S : PSchema) : ∀ (l : PRdn) (acc : List KPair), (∀ a ∈ l, rd (toL a.2) = rd' (toL a.2)) → pairsK rd S acc l = pairsK rd' S acc l
 | [], _, _ => rfl
 | a :: l, acc, h => by
  simp only [pairsK]
  cases typeAt S (toL a.1) with
  | none => rfl
  | some t =>
   simp only
   rw [valK_congr (h a (by simp)) S (fullT S t)]
   split
   ·rfl
   ·split
    ·exact pairsK_congr S l _ fun x hx => h x (by simp [hx])
    ·rfl
theorem stepsK_congr {rd rd' : Str → Str × Bool} (S : PSchema) : ∀ (n : PName), (∀ r ∈ n, ∀ a ∈ r, rd (toL a.2) = rd' (toL a.2)) → stepsK rd S n = stepsK rd' S n
 | [], _ => rfl
 | r :: n, h => by
  simp only [stepsK]
  rw [pairsK_congr S r [] (h r (by simp)), stepsK_congr S n fun x hx => h x (by simp [hx])]
theorem keyN_congr {rd rd' : Str → Str × Bool} (S : PSchema) (n : PName) (h : ∀ r ∈ n, ∀ a ∈ r, rd (toL a.2) = rd' (toL a.2)) : keyN rd S n = keyN rd' S n := by
 unfold keyN; rw [stepsK_congr S n h]
theorem readK_more (S : PSchema) : ∀ (f f' : Nat) (v : Str), v.length < f → v.length < f' → readK S f v = readK S f' v
 | 0, _, _, h, _ => by omega
 | _ + 1, 0, _, _, h => by omega
 | f + 1, f' + 1, v, h, h' => by
  simp only [readK]
  cases hp : parseV v with
  | error e => rfl
  | ok n =>
   simp only
   rw [keyN_congr (rd := readK S f) (rd' := readK S f') S n fun r hr a ha => by
    have h1 := (parse_short hp r hr a ha).2
    have h2 : (toL a.2).length = a.2.size := Lib.size_eq a.2
    exact readK_more S f f' _ (by omega) (by omega)]
def rdK (S : PSchema) (v : Str) : Str × Bool := readK S (v.length + 1) v
def nkeyV (S : PSchema) (n : PName) : Str × Int := keyN (rdK S) S n
theorem readK_eq (S : PSchema) {f : Nat} {v : Str} (h : v.length < f) : readK S f v = rdK S v := readK_more S f _ v h (Nat.lt_succ_self _)
def rd1 (S : PSchema) : Except PFault PName → Str × Bool
 | .error _ => ([], false)
 | .ok n => if (nkeyV S n).2 = 0 then ((nkeyV S n).1, true) else ([], false)
theorem rdK_eq (S : PSchema) (v : Str) : rdK S v = rd1 S (parseV v) := by
 unfold rdK
 simp only [readK]
 cases hp : parseV v with
 | error e => rfl
 | ok n =>
  have : keyN (readK S v.length) S n = nkeyV S n := keyN_congr S n fun r hr a ha => by
   have h1 := (parse_short hp r hr a ha).2
   have h2 : (toL a.2).length = a.2.size := Lib.size_eq a.2
   exact readK_eq S (by omega)
  simp only [rd1, this]
end Go.Proofs.YtlmfbjhokkpjhaaGreatDoor
namespace Go.Proofs.YtlmfbjhokkpjhaaGreatDoor
open Go
theorem firstE_none (f : Nat → Int) : ∀ (n i : Nat), firstE f i n = none → ∀ j, i ≤ j → j < i + n → f j = 0
 | 0, i, _, j, h1, h2 => by omega
 | n + 1, i, h, j, h1, h2 => by
  have e : firstE f i (n + 1) = if f i ≠ 0 then some (f i, i) else firstE f (i + 1) n := rfl
  rw [e] at h
  by_cases h0 : f i ≠ 0
  ·rw [if_pos h0] at h; cases h
  ·rw [if_neg h0] at h
   by_cases hj : j = i
   ·subst hj; simpa using h0
   ·exact firstE_none f n (i + 1) h j (by omega) (by omega)
theorem firstE_some (f : Nat → Int) : ∀ (n i : Nat) (p : Int × Nat), firstE f i n = some p → p.1 ≠ 0 ∧ p.1 = f p.2 ∧ i ≤ p.2 ∧ p.2 < i + n
 | 0, i, p, h => by cases h
 | n + 1, i, p, h => by
  have e : firstE f i (n + 1) = if f i ≠ 0 then some (f i, i) else firstE f (i + 1) n := rfl
  rw [e] at h
  by_cases h0 : f i ≠ 0
  ·rw [if_pos h0] at h; cases h; exact ⟨h0, rfl, by simp, by simp⟩
  ·rw [if_neg h0] at h
   obtain ⟨a, b, c, d⟩ := firstE_some f n (i + 1) p h
   exact ⟨a, b, by omega, by omega⟩
structure OkS (S : PSchema) : Prop where
 types : S.types.length ≤ 1024
 classes : S.classes.length ≤ 1024
 ty : ∀ t, t < S.types.length → typeE S t = 0
 cl : ∀ c, c < S.classes.length → classE S c = 0
 obj : objE S = 0
theorem newE_ok {S : PSchema} (h : (newE S).1 = 0) : OkS S := by
 unfold newE at h
 by_cases hb : 1024 < S.types.length ∨ 1024 < S.classes.length
 ·rw [if_pos hb] at h; cases h
 ·rw [if_neg hb] at h
  cases ht : firstE (typeE S) 0 S.types.length with
  | some p => rw [ht] at h; exact absurd h (firstE_some _ _ _ _ ht).1
  | none =>
   rw [ht] at h
   simp only at h
   cases hc : firstE (classE S) 0 S.classes.length with
   | some p => rw [hc] at h; exact absurd h (firstE_some _ _ _ _ hc).1
   | none =>
    rw [hc] at h
    exact ⟨by omega, by omega, fun t h1 => firstE_none _ _ _ ht t (Nat.zero_le _) (by omega), fun c h1 => firstE_none _ _ _ hc c (Nat.zero_le _) (by omega), h⟩
theorem inheritT_same (S : PSchema) (t : Nat) (up : List Nat) : (inheritT S t up).names = (tyAt S t).names ∧ (inheritT S t up).oid = (tyAt S t).oid ∧ (inheritT S t up).sup = (tyAt S t).sup ∧ (inheritT S t up).syn = (tyAt S t).syn ∧ (inheritT S t up).single = (tyAt S t).single ∧ (inheritT S t up).index = (tyAt S t).index := by
 unfold inheritT
 generalize tyAt S t = x
 generalize up.drop 1 = l
 induction l generalizing x with
 | nil => exact ⟨rfl, rfl, rfl, rfl, rfl, rfl⟩
 | cons p l ih => rw [List.foldl_cons]; exact ih (mixT x (tyAt S p))
theorem typeE_named {S : PSchema} {t : Nat} (h : typeE S t = 0) : namedE (tyAt S t).oid (tyAt S t).names = 0 := by
 unfold typeE at h
 simp only at h
 by_cases hn : namedE (tyAt S t).oid (tyAt S t).names ≠ 0
 ·rw [if_pos hn] at h; exact absurd h hn
 ·simpa using hn
theorem namedE_zero {oid : ByteArray} {names : List ByteArray} (h : namedE oid names = 0) : oidB (toL oid) = true ∧ oid.size ≤ 65536 ∧ names ≠ [] ∧ (∀ n ∈ names, wordB (toL n) = true ∧ n.size ≤ 65536) ∧ names.length ≤ 16 := by
 unfold namedE at h
 by_cases h1 : (!oidB (toL oid) || decide (65536 < oid.size) || names.isEmpty) = true
 ·rw [if_pos h1] at h; cases h
 ·rw [if_neg h1] at h
  by_cases h2 : (names.all fun n => wordB (toL n) && decide (n.size ≤ 65536)) = true
  ·rw [if_pos h2] at h
   by_cases h3 : 16 < names.length
   ·rw [if_pos h3] at h; cases h
   ·simp at h1
    refine ⟨h1.1.1, h1.1.2, ?_, ?_, by omega⟩
    ·have := h1.2; cases names <;> simp_all
    ·intro n hn
     have := List.all_eq_true.1 h2 n hn
     simpa using this
  ·rw [if_neg h2] at h; cases h
theorem OkS.names {S : PSchema} (h : OkS S) {t : Nat} (ht : t < S.types.length) : (fullT S t).names ≠ [] := by
 unfold fullT; rw [(inheritT_same S t _).1]; exact (namedE_zero (typeE_named (h.ty t ht))).2.2.1
theorem typeE_syn {S : PSchema} {t : Nat} (h : typeE S t = 0) : 0 ≤ (tyAt S t).syn ∧ (tyAt S t).syn ≤ 8 := by
 unfold typeE at h
 simp only at h
 split at h
 ·contradiction
 ·split at h
  ·cases h
  ·split at h
   ·cases h
   ·split at h
    ·cases h
    ·split at h
     ·cases h
     ·split at h
      ·cases h
      ·rename_i hn; omega
theorem OkS.syn {S : PSchema} (h : OkS S) {t : Nat} (ht : t < S.types.length) : 0 ≤ (fullT S t).syn ∧ (fullT S t).syn ≤ 8 := by
 unfold fullT; rw [(inheritT_same S t _).2.2.2.1]; exact typeE_syn (h.ty t ht)
theorem inheritT_range (S : PSchema) (hS : ∀ t, (-128 ≤ (tyAt S t).eq ∧ (tyAt S t).eq ≤ 127) ∧ (-128 ≤ (tyAt S t).ord ∧ (tyAt S t).ord ≤ 127) ∧ (-128 ≤ (tyAt S t).part ∧ (tyAt S t).part ≤ 127)) (t : Nat) (up : List Nat) :
  (-128 ≤ (inheritT S t up).eq ∧ (inheritT S t up).eq ≤ 127) ∧ (-128 ≤ (inheritT S t up).ord ∧ (inheritT S t up).ord ≤ 127) ∧ (-128 ≤ (inheritT S t up).part ∧ (inheritT S t up).part ≤ 127) := by
 unfold inheritT
 have h0 := hS t
 generalize tyAt S t = x at h0
 generalize up.drop 1 = l
 induction l generalizing x with
 | nil => exact h0
 | cons p l ih =>
  rw [List.foldl_cons]
  apply ih
  have hp := hS p
  unfold mixT
  refine ⟨?_, ?_, ?_⟩ <;> (dsimp only; split <;> omega)
end Go.Proofs.YtlmfbjhokkpjhaaGreatDoor
namespace Go.Proofs.YtlmfbjhokkpjhaaGreatDoor
open Go Go.RowKit
theorem dec_len {n : Nat} (h : n < 1000000000000000000) : (Lib.decDigits n).length ≤ 20 := by
 rw [Lib.decDigits_length]
 exact Lib.nDigits_le20 n (by omega)
theorem wide_len {n k : Nat} (h : n < 1000000000000000000) (hk : k ≤ 20) : (wideL n k).length ≤ 20 := by
 have := dec_len h
 unfold wideL
 simp; omega
theorem moment_len {n : Int} {rest : Str} (h0 : -62167219200 ≤ n) (h1 : n < 253402300800) : (momentL n rest).length ≤ 120 + rest.length := by
 obtain ⟨⟨y0, y1⟩, ⟨m0, m1⟩, d0, d1⟩ := dateI_range (n / 86400) (by omega) (by omega)
 unfold momentL
 generalize dateI (n / 86400) = D at *
 have a1 := wide_len (n := D.1.toNat) (k := 4) (by omega) (by omega)
 have a2 := wide_len (n := D.2.1.toNat) (k := 2) (by omega) (by omega)
 have a3 := wide_len (n := D.2.2.toNat) (k := 2) (by omega) (by omega)
 have a4 := wide_len (n := (n % 86400 / 3600).toNat) (k := 2) (by omega) (by omega)
 have a5 := wide_len (n := (n % 86400 / 60 % 60).toNat) (k := 2) (by omega) (by omega)
 have a6 := wide_len (n := (n % 86400 % 60).toNat) (k := 2) (by omega) (by omega)
 simp only [List.length_append]
 omega
theorem rule_len (f : Int) (v : Str) (h : (ruleL f v).2 = true) : (ruleL f v).1.length ≤ v.length + 120 := by
 unfold ruleL at h ⊢
 split
 ·unfold foldL; have := exactL_length v; unfold low; simp; omega
 split
 ·have := exactL_length v; omega
 split
 ·unfold digitsL; have := zapB_length 32 v; simp; omega
 split
 ·unfold phoneL; have := dialL_length v; simp; omega
 split
 ·unfold numberL
  split
  ·simp
  ·split
   ·simp [n3]
   ·simp [n3]
 split
 ·unfold flagL; simp
 split
 ·rename_i h0 h1 h2 h3 h4 h5 h6
  simp only [if_neg h0, if_neg h1, if_neg h2, if_neg h3, if_neg h4, if_neg h5, if_pos h6] at h
  unfold timeFormL at h ⊢
  split
  ·rename_i ht
   have h1 := timeL_range v ht
   have h2 := timeL_rest v
   have := moment_len (rest := (timeL v).2.1) h1.1 h1.2
   simp only; omega
  ·simp
 split
 ·simp
 split
 ·unfold oidL
  cases v with
  | nil => simp
  | cons b l =>
   simp only
   split
   ·simp [low]
   ·split <;> simp
 ·simp
theorem key_len (f : Int) (v : Str) : (keyL f v).1.length ≤ 65656 := by
 unfold keyL
 split
 ·simp
 ·split
  ·rename_i h1 h2
   have := rule_len f v h2
   simp only; omega
  ·simp
def isSp (c : UInt8) : Bool := c == 44 || c == 43 || c == 92
def sp (l : Str) : Nat := l.countP isSp
theorem sp_cons (c : UInt8) (l : Str) : sp (c :: l) = sp l + if isSp c then 1 else 0 := by unfold sp; rw [List.countP_cons]
theorem sp_app (l m : Str) : sp (l ++ m) = sp l + sp m := by unfold sp; rw [List.countP_append]
theorem sp_one (c : UInt8) : sp [c] ≤ 1 := by rw [sp_cons]; split <;> simp [sp]
theorem valR_sp (st : Nat) : ∀ (n : Nat) (l : Str) (off : Nat) (b : Str) (bare : Option Nat) (v : Str) (off2 : Nat), l.length ≤ n → valR st l off b bare = (v, off2, none) →
  off ≤ off2 ∧ off2 ≤ off + l.length ∧ v.length + sp v + off ≤ b.length + sp b + off2 ∧ sp v + sp (l.drop (off2 - off)) ≤ sp b + sp l := by
 intro n
 induction n with
 | zero =>
  intro l off b bare v off2 hl h
  obtain rfl : l = [] := List.eq_nil_of_length_eq_zero (by omega)
  rw [valR_nil] at h
  injection h with h1 h2; injection h2 with h2 _
  subst h1; subst h2
  simp
 | succ n ih =>
  intro l off b bare v off2 hl h
  cases l with
  | nil =>
   rw [valR_nil] at h
   injection h with h1 h2; injection h2 with h2 _
   subst h1; subst h2
   simp
  | cons c l =>
   simp only [List.length_cons] at hl
   by_cases c1 : c = 44 ∨ c = 43
   ·rw [valR_end c1] at h
    injection h with h1 h2; injection h2 with h2 _
    subst h1; subst h2
    simp
   ·by_cases c2 : c = 92
    ·subst c2
     cases l with
     | nil => rw [valR.eq_def] at h; simp at h
     | cons x l =>
      simp only [List.length_cons] at hl
      cases hx : escs.contains x with
      | true =>
       rw [valR_esc hx] at h
       have hi := ih l _ _ _ _ _ (by omega) h
       have s1 := sp_one x
       rw [sp_app] at hi
       simp only [List.length_append, List.length_cons, List.length_nil] at hi ⊢
       rw [show off2 - off = off2 - (off + 2) + 1 + 1 by omega, List.drop_succ_cons, List.drop_succ_cons, sp_cons, sp_cons]
       have e92 : (if isSp 92 = true then 1 else 0) = 1 := by decide
       rw [e92]
       omega
      | false =>
       cases l with
       | nil => rw [valR.eq_def] at h; simp only [hx] at h; simp at h
       | cons y l =>
        simp only [List.length_cons] at hl
        cases hy : (hexd x && hexd y) with
        | true =>
         rw [valR_hex hx hy] at h
         have hi := ih l _ _ _ _ _ (by omega) h
         have s1 := sp_one (UInt8.ofNat (hexv x * 16 + hexv y))
         rw [sp_app] at hi
         simp only [List.length_append, List.length_cons, List.length_nil] at hi ⊢
         rw [show off2 - off = off2 - (off + 3) + 1 + 1 + 1 by omega, List.drop_succ_cons, List.drop_succ_cons, List.drop_succ_cons, sp_cons, sp_cons, sp_cons]
         have e92 : (if isSp 92 = true then 1 else 0) = 1 := by decide
         rw [e92]
         omega
        | false =>
         rw [valR.eq_def] at h; simp only [hx, hy] at h; simp at h
    ·by_cases c3 : bads.contains c = true ∨ (off = st ∧ (c = 32 ∨ c = 35))
     ·rw [valR.eq_def] at h; simp only at h
      rw [if_neg c1, if_neg c2, if_pos c3] at h
      injection h with _ h2; injection h2 with _ h2; cases h2
     ·rw [valR_put (fun e => c1 (.inl e)) (fun e => c1 (.inr e)) c2 (by cases e : bads.contains c with | false => rfl | true => exact absurd (.inl e) c3) (fun e => c3 (.inr e))] at h
      have hi := ih l _ _ _ _ _ (by omega) h
      have e0 : isSp c = false := by
       unfold isSp
       simp only [Bool.or_eq_false_iff, beq_eq_false_iff_ne, ne_eq]
       exact ⟨⟨fun e => c1 (.inl e), fun e => c1 (.inr e)⟩, c2⟩
      have e1 : sp [c] = 0 := by rw [sp_cons, e0]; rfl
      rw [sp_app, e1] at hi
      simp only [List.length_append, List.length_cons, List.length_nil] at hi ⊢
      rw [show off2 - off = off2 - (off + 1) + 1 by omega, List.drop_succ_cons, sp_cons, e0]
      simp only [Bool.false_eq_true, if_false]
      omega
theorem valR_ends (st : Nat) : ∀ (n : Nat) (l : Str) (off : Nat) (b : Str) (bare : Option Nat) (v : Str) (off2 : Nat), l.length ≤ n → valR st l off b bare = (v, off2, none) → Ends (l.drop (off2 - off)) := by
 intro n
 induction n with
 | zero =>
  intro l off b bare v off2 hl h
  obtain rfl : l = [] := List.eq_nil_of_length_eq_zero (by omega)
  exact .inl (by simp)
 | succ n ih =>
  intro l off b bare v off2 hl h
  cases l with
  | nil => exact .inl (by simp)
  | cons c l =>
   simp only [List.length_cons] at hl
   by_cases c1 : c = 44 ∨ c = 43
   ·rw [valR_end c1] at h
    injection h with h1 h2; injection h2 with h2 _
    subst h2
    exact .inr ⟨c, l, by simp, c1⟩
   ·by_cases c2 : c = 92
    ·subst c2
     cases l with
     | nil => rw [valR.eq_def] at h; simp at h
     | cons x l =>
      simp only [List.length_cons] at hl
      cases hx : escs.contains x with
      | true =>
       rw [valR_esc hx] at h
       have hi := ih l _ _ _ _ _ (by omega) h
       have hl := (valR_len _ _ _ _ _ _ _ _ (Zr _) h).1
       rw [show off2 - off = off2 - (off + 2) + 1 + 1 by omega, List.drop_succ_cons, List.drop_succ_cons]
       exact hi
      | false =>
       cases l with
       | nil => rw [valR.eq_def] at h; simp only [hx] at h; simp at h
       | cons y l =>
        simp only [List.length_cons] at hl
        cases hy : (hexd x && hexd y) with
        | true =>
         rw [valR_hex hx hy] at h
         have hi := ih l _ _ _ _ _ (by omega) h
         have hl := (valR_len _ _ _ _ _ _ _ _ (Zr _) h).1
         rw [show off2 - off = off2 - (off + 3) + 1 + 1 + 1 by omega, List.drop_succ_cons, List.drop_succ_cons, List.drop_succ_cons]
         exact hi
        | false =>
         rw [valR.eq_def] at h; simp only [hx, hy] at h; simp at h
    ·by_cases c3 : bads.contains c = true ∨ (off = st ∧ (c = 32 ∨ c = 35))
     ·rw [valR.eq_def] at h; simp only at h
      rw [if_neg c1, if_neg c2, if_pos c3] at h
      injection h with _ h2; injection h2 with _ h2; cases h2
     ·rw [valR_put (fun e => c1 (.inl e)) (fun e => c1 (.inr e)) c2 (by cases e : bads.contains c with | false => rfl | true => exact absurd (.inl e) c3) (fun e => c3 (.inr e))] at h
      have hi := ih l _ _ _ _ _ (by omega) h
      have hl := (valR_len _ _ _ _ _ _ _ _ (Zr _) h).1
      rw [show off2 - off = off2 - (off + 1) + 1 by omega, List.drop_succ_cons]
      exact hi
def sumR (F : PAva → Nat) (r : PRdn) : Nat := (r.map F).sum
def sumN (F : PAva → Nat) (n : PName) : Nat := (n.map (sumR F)).sum
theorem sumR_app (F : PAva → Nat) (r s : PRdn) : sumR F (r ++ s) = sumR F r + sumR F s := by unfold sumR; simp
theorem sumN_app (F : PAva → Nat) (r s : PName) : sumN F (r ++ s) = sumN F r + sumN F s := by unfold sumN; simp
theorem sumR_one (F : PAva → Nat) (a : PAva) : sumR F [a] = F a := by simp [sumR]
theorem sumN_one (F : PAva → Nat) (a : PRdn) : sumN F [a] = sumR F a := by simp [sumN]
theorem sumR_le {F G : PAva → Nat} : ∀ {r : PRdn}, (∀ a ∈ r, F a ≤ G a) → sumR F r ≤ sumR G r
 | [], _ => Zr _
 | a :: r, h => by
  have h1 := sumR_le (r := r) fun x hx => h x (by simp [hx])
  have h2 := h a (by simp)
  simp only [sumR, List.map_cons, List.sum_cons] at h1 ⊢
  omega
theorem sumN_le {F G : PAva → Nat} : ∀ {n : PName}, (∀ r ∈ n, ∀ a ∈ r, F a ≤ G a) → sumN F n ≤ sumN G n
 | [], _ => Zr _
 | r :: n, h => by
  have h1 := sumN_le (n := n) fun x hx => h x (by simp [hx])
  have h2 := sumR_le (h r (by simp))
  simp only [sumN, List.map_cons, List.sum_cons] at h1 ⊢
  omega
theorem sumR_add (F G : PAva → Nat) : ∀ r : PRdn, sumR (fun a => F a + G a) r = sumR F r + sumR G r
 | [] => rfl
 | a :: r => by
  have := sumR_add F G r
  simp only [sumR, List.map_cons, List.sum_cons] at this ⊢
  omega
theorem sumN_add (F G : PAva → Nat) : ∀ n : PName, sumN (fun a => F a + G a) n = sumN F n + sumN G n
 | [] => rfl
 | r :: n => by
  have := sumN_add F G n
  have h2 := sumR_add F G r
  simp only [sumN, List.map_cons, List.sum_cons] at this ⊢
  omega
theorem sumR_mul (c : Nat) (F : PAva → Nat) : ∀ r : PRdn, sumR (fun a => c * F a) r = c * sumR F r
 | [] => rfl
 | a :: r => by
  have := sumR_mul c F r
  simp only [sumR, List.map_cons, List.sum_cons] at this ⊢
  rw [this, Nat.mul_add]
theorem sumN_mul (c : Nat) (F : PAva → Nat) : ∀ n : PName, sumN (fun a => c * F a) n = c * sumN F n
 | [] => rfl
 | r :: n => by
  have := sumN_mul c F n
  have h2 := sumR_mul c F r
  simp only [sumN, List.map_cons, List.sum_cons] at this ⊢
  rw [this, h2, Nat.mul_add]
def wtA (a : PAva) : Nat := a.2.size + sp (toL a.2) + 3
def wsA (a : PAva) : Nat := sp (toL a.2) + 1
theorem parseR_wt (s : Str) (hs : s.length ≤ 65536) : ∀ (f p : Nat) (done : PName) (part : PRdn) (m : PName), parseR s f p done part = .ok m → p ≤ s.length →
  sumN wtA m ≤ sumN wtA done + sumR wtA part + (s.length - p) + 1 ∧ sumN wsA m ≤ sumN wsA done + sumR wsA part + sp (s.drop p) + 1
 | 0, _, _, _, _, h, _ => by unfold parseR at h; cases h
 | f + 1, p, done, part, m, h, hp => by
  unfold parseR at h
  obtain ⟨⟨k, ok⟩, hk⟩ : ∃ r, kindN (s.drop p) = r := ⟨_, rfl⟩
  simp only [hk] at h
  cases ok with
  | false => rw [if_pos rfl] at h; cases h
  | true =>
   rw [if_neg (by simp)] at h
   obtain ⟨⟨v, q, fl⟩, hv⟩ : ∃ r, valR (p + k + 1) (s.drop (p + k + 1)) (p + k + 1) [] none = r := ⟨_, rfl⟩
   simp only [hv] at h
   cases fl with
   | some x => obtain ⟨c, z⟩ := x; simp only at h; cases h
   | none =>
    simp only at h
    have hkl : k ≤ 65536 := by
     have h2 : k ≤ (s.drop p).length := by
      by_cases e : k ≤ (s.drop p).length
      ·exact e
      ·exfalso
       unfold kindN at hk
       cases hl : s.drop p with
       | nil => rw [hl] at hk; simp at hk
       | cons c l =>
        rw [hl] at hk e
        simp only at hk
        split at hk
        ·injection hk with h1 _
         have := (List.takeWhile_prefix (p := tailC) (l := c :: l)).length_le
         omega
        ·obtain ⟨_, _, _, _, _, _, r6, _⟩ := oidN_rows _ _ _ _ _ hk
         omega
     simp at h2; omega
    obtain ⟨w1, w2⟩ := kind_back hk hkl
    simp only [List.length_drop] at w2
    have hk1 : 1 ≤ k := by
     cases k with
     | zero => rw [List.take_zero] at w1; exact absurd w1 (by decide)
     | succ k => omega
    obtain ⟨v1, v2, v3, v4⟩ := valR_sp _ _ _ _ _ _ _ _ (Zr _) hv
    simp only [List.length_drop, List.length_nil] at v2 v3
    obtain ⟨a, ha⟩ : ∃ a : PAva, (baOf ((s.drop p).take k), baOf v) = a := ⟨_, rfl⟩
    have hsa : wtA a = v.length + sp v + 3 ∧ wsA a = sp v + 1 := by
     rw [← ha]
     constructor
     ·show v.toArray.size + sp (v.toArray.toList) + 3 = _; simp
     ·show sp (v.toArray.toList) + 1 = _; simp
    rw [ha] at h
    have s0 : sp ([] : Str) = 0 := rfl
    rw [List.drop_drop, show p + k + 1 + (q - (p + k + 1)) = q by omega, s0] at v4
    have s1 : sp (s.drop (p + k + 1)) ≤ sp (s.drop p) := by
     rw [show p + k + 1 = p + (k + 1) by omega, ← List.drop_drop]
     have := sp_app ((s.drop p).take (k + 1)) ((s.drop p).drop (k + 1))
     rw [List.take_append_drop] at this
     omega
    rw [s0] at v3
    have e1 : sumR wtA (part ++ [a]) = sumR wtA part + (v.length + sp v + 3) := by rw [sumR_app, sumR_one, hsa.1]
    have e2 : sumR wsA (part ++ [a]) = sumR wsA part + (sp v + 1) := by rw [sumR_app, sumR_one, hsa.2]
    by_cases h1 : s.length ≤ q
    ·rw [if_pos h1] at h
     injection h with h
     subst h
     rw [sumN_app, sumN_one, e1, sumN_app, sumN_one, e2]
     omega
    ·rw [if_neg h1] at h
     have hq : q < s.length := by omega
     have hdq : s.drop q = s[q] :: s.drop (q + 1) := List.drop_eq_getElem_cons hq
     have hend : isSp s[q] = true := by
      have := valR_ends _ _ _ _ _ _ _ _ (Zr _) hv
      rw [List.drop_drop, show p + k + 1 + (q - (p + k + 1)) = q by omega, hdq] at this
      rcases this with e | ⟨d, t, e, hd⟩
      ·cases e
      ·injection e with e _
       rw [e]
       rcases hd with rfl | rfl <;> rfl
     rw [hdq, sp_cons, hend] at v4
     simp only [if_true] at v4
     have s2 : sp (s.drop p) = sp (s.drop p) := rfl
     by_cases h2 : s[q]? = some 44
     ·rw [if_pos h2] at h
      by_cases h3 : 64 ≤ done.length + 1
      ·rw [if_pos h3] at h; cases h
      ·rw [if_neg h3] at h
       have hi := parseR_wt s hs f (q + 1) _ [] m h (by omega)
       rw [sumN_app, sumN_one, e1, sumN_app, sumN_one, e2] at hi
       have z1 : sumR wtA [] = 0 := rfl
       have z2 : sumR wsA [] = 0 := rfl
       rw [z1, z2] at hi
       omega
     ·rw [if_neg h2] at h
      by_cases h3 : 64 ≤ done.length ∨ 8 ≤ (part ++ [a]).length
      ·rw [if_pos h3] at h; cases h
      ·rw [if_neg h3] at h
       have hi := parseR_wt s hs f (q + 1) done (part ++ [a]) m h (by omega)
       rw [e1, e2] at hi
       omega
theorem parse_wt {t : Str} {m : PName} (h : parseV t = .ok m) : sumN wtA m ≤ t.length + 1 ∧ sumN wsA m ≤ sp t + 1 ∧ t.length ≤ 65536 := by
 unfold parseV at h
 split at h
 ·cases h
 ·rename_i hl
  split at h
  ·injection h with h; subst h; exact ⟨by simp [sumN], by simp [sumN], by omega⟩
  ·have := parseR_wt t (by omega) _ 0 [] [] m h (Nat.zero_le _)
   have z1 : sumN wtA [] = 0 := rfl
   have z2 : sumN wsA [] = 0 := rfl
   have z3 : sumR wtA [] = 0 := rfl
   have z4 : sumR wsA [] = 0 := rfl
   rw [z1, z2, z3, z4, List.drop_zero] at this
   omega
theorem oid_small {S : PSchema} (h : OkS S) (t : Nat) : (fullT S t).oid.size ≤ 65536 := by
 unfold fullT
 rw [(inheritT_same S t _).2.1]
 by_cases ht : t < S.types.length
 ·exact (namedE_zero (typeE_named (h.ty t ht))).2.1
 ·unfold tyAt
  rw [List.getD_eq_getElem?_getD, List.getElem?_eq_none (by omega)]
  decide
theorem classE_named {S : PSchema} {c : Nat} (h : classE S c = 0) : namedE (clAt S c).oid (clAt S c).names = 0 := by
 unfold classE at h
 simp only at h
 split at h
 ·cases h
 ·split at h
  ·cases h
  ·rename_i h2
   by_cases e : namedE (clAt S c).oid (clAt S c).names = 0
   ·exact e
   ·exact absurd (.inl e) h2
theorem coid_small {S : PSchema} (h : OkS S) (c : Nat) : (clAt S c).oid.size ≤ 65536 := by
 by_cases hc : c < S.classes.length
 ·exact (namedE_zero (classE_named (h.cl c hc))).2.1
 ·unfold clAt
  rw [List.getD_eq_getElem?_getD, List.getElem?_eq_none (by omega)]
  decide
theorem typeAt_lt {S : PSchema} {n : Str} {t : Nat} (h : typeAt S n = some t) : t < S.types.length := by
 unfold typeAt at h
 split at h
 ·cases h
 ·have := placeOf_lt h; simpa [tK] using this
def leafB (v : Str) : Nat := if v = [] then 120 else 65656
theorem key_leaf (f : Int) (v : Str) : (keyL f v).1.length ≤ leafB v := by
 unfold leafB
 split
 ·rename_i h
  subst h
  unfold keyL
  split
  ·simp
  ·split
   ·rename_i h1 h2
    have := rule_len f [] h2
    simp at this ⊢; omega
   ·simp
 ·exact key_len f v
theorem leaf_le (v : Str) : leafB v ≤ 65656 := by unfold leafB; split <;> omega
theorem oidK_leaf {S : PSchema} (h : OkS S) (v : Str) : (oidK S v).1.length ≤ leafB v := by
 unfold oidK
 split
 ·simp
 ·rename_i hk
  have hv : v ≠ [] := fun e => hk (by subst e; rfl)
  have hl : leafB v = 65656 := by unfold leafB; rw [if_neg hv]
  split
  ·rename_i t ht
   have := oid_small h t
   rw [hl]
   show (fullT S t).oid.data.toList.length ≤ _
   have e : (fullT S t).oid.data.toList.length = (fullT S t).oid.size := Lib.size_eq _
   omega
  ·split
   ·rename_i c hc
    have := coid_small h c
    rw [hl]
    show (clAt S c).oid.data.toList.length ≤ _
    have e : (clAt S c).oid.data.toList.length = (clAt S c).oid.size := Lib.size_eq _
    omega
   ·exact key_leaf 8 v
theorem valK_leaf {S : PSchema} (h : OkS S) (rd : Str → Str × Bool) (x : PType) (v : Str) (hv : v.length ≤ 65536) : (valK rd S x v).1.length ≤ max (rd v).1.length (leafB v) := by
 have hvl : v.length ≤ leafB v := by
  unfold leafB
  split
  ·rename_i e; subst e; simp
  ·omega
 unfold valK
 split
 ·omega
 ·split
  ·have := oidK_leaf h v; omega
  ·split
   ·have := key_leaf (lineOf x.eq).form v; omega
   ·split
    ·split
     ·simp only; omega
     ·simp
    ·split
     ·simp only; omega
     ·simp
def kw (l : List KPair) : Nat := (l.map fun p => p.2.length + 45).sum
theorem kw_app (l m : List KPair) : kw (l ++ m) = kw l + kw m := by unfold kw; simp
theorem kw_perm {l m : List KPair} (h : l.Perm m) : kw l = kw m := by unfold kw; exact (h.map _).sum_nat
theorem pairsK_kw {S : PSchema} {rd : Str → Str × Bool} {F : PAva → Nat} : ∀ (l : PRdn) (acc : List KPair), (∀ a ∈ l, ∀ x, (valK rd S x (toL a.2)).1.length + 45 ≤ F a) → kw (pairsK rd S acc l).2 ≤ kw acc + sumR F l
 | [], acc, _ => by simp [pairsK, sumR]
 | a :: l, acc, hr => by
  have hw : sumR F (a :: l) = F a + sumR F l := by simp [sumR]
  simp only [pairsK]
  cases typeAt S (toL a.1) with
  | none => simp only; omega
  | some t =>
   simp only
   split
   ·simp only; omega
   ·split
    ·have ih := pairsK_kw l (acc ++ [(t, (valK rd S (fullT S t) (toL a.2)).1)]) fun x hx => hr x (by simp [hx])
     have hv := hr a (by simp) (fullT S t)
     rw [kw_app] at ih
     have e : kw [(t, (valK rd S (fullT S t) (toL a.2)).1)] = (valK rd S (fullT S t) (toL a.2)).1.length + 45 := by simp [kw]
     rw [e] at ih
     omega
    ·simp only; omega
theorem joinP_len (c : UInt8) : ∀ l : List Str, (joinP c l).length ≤ (l.map fun s => s.length + 1).sum
 | [] => by simp [joinP]
 | [x] => by simp [joinP]
 | x :: y :: l => by
  have := joinP_len c (y :: l)
  rw [joinP]
  simp only [List.map_cons, List.sum_cons, List.length_append, List.length_cons] at this ⊢
  omega
theorem kw_mem {l : List KPair} {p : KPair} (h : p ∈ l) : p.2.length + 45 ≤ kw l := by
 induction l with
 | nil => cases h
 | cons q l ih =>
  rcases List.mem_cons.1 h with rfl | h
  ·simp [kw]
  ·have := ih h; simp only [kw, List.map_cons, List.sum_cons] at this ⊢; omega
theorem stepK_len {l : List KPair} (h1 : ∀ p ∈ l, p.1 < 1000000000) (h2 : kw l < 1000000000000000000) : (stepK l).length ≤ kw l + 1 ∧ (l ≠ [] → (stepK l).length ≤ kw l) := by
 unfold stepK
 have hp := sortP_perm l
 rw [← kw_perm hp] at h2 ⊢
 have hT : ∀ p ∈ sortP l, p.1 < 1000000000 := fun p hq => h1 p (hp.mem_iff.1 hq)
 have hne : l ≠ [] → 0 < (sortP l).length := fun e => by
  rw [hp.length_eq]
  exact List.length_pos_iff.2 e
 generalize sortP l = m at hT h2 hne
 have h3 := joinP_len 43 (m.map pairS)
 have h4 : ∀ m : List KPair, (∀ p ∈ m, p.1 < 1000000000) → kw m < 1000000000000000000 → ((m.map pairS).map fun s => s.length + 1).sum + m.length ≤ kw m := by
  intro m
  induction m with
  | nil => intro _ _; simp [kw]
  | cons p m ih =>
   intro hT hk
   have hk2 : kw (p :: m) = p.2.length + 45 + kw m := by simp [kw]
   have := ih (fun q hq => hT q (by simp [hq])) (by omega)
   have a1 := hT p (by simp)
   have b1 := dec_len (n := p.1) (by omega)
   have b2 := dec_len (n := p.2.length) (by omega)
   have e : (pairS p).length ≤ p.2.length + 42 := by unfold pairS decS; simp; omega
   simp only [List.map_cons, List.sum_cons, List.length_cons] at this ⊢
   omega
 have := h4 m hT h2
 simp only [List.length_append, List.length_cons, List.length_nil]
 refine ⟨by omega, fun e => ?_⟩
 have := hne e
 omega
theorem pairsK_place {S : PSchema} (hS : S.types.length ≤ 1024) (rd : Str → Str × Bool) : ∀ (l : PRdn) (acc : List KPair), (∀ p ∈ acc, p.1 < 1024) → ∀ p ∈ (pairsK rd S acc l).2, p.1 < 1024
 | [], _, h => h
 | a :: l, acc, h => by
  simp only [pairsK]
  cases ht : typeAt S (toL a.1) with
  | none => exact h
  | some t =>
   simp only
   split
   ·exact h
   ·split
    ·exact pairsK_place hS rd l _ fun p hp => by
      rcases List.mem_append.1 hp with hp | hp
      ·exact h p hp
      ·simp at hp; subst hp
       have := typeAt_lt ht
       simp only; omega
    ·exact h
theorem pairsK_len {S : PSchema} {rd : Str → Str × Bool} : ∀ (l : PRdn) (acc : List KPair), (pairsK rd S acc l).1 = 0 → (pairsK rd S acc l).2.length = acc.length + l.length
 | [], acc, _ => by simp [pairsK]
 | a :: l, acc, h => by
  simp only [pairsK] at h ⊢
  cases ht : typeAt S (toL a.1) with
  | none => rw [ht] at h; simp at h
  | some t =>
   rw [ht] at h
   simp only at h ⊢
   split at h
   ·simp at h
   ·rename_i h1
    rw [if_neg h1]
    split at h
    ·rename_i h2
     rw [if_pos h2, pairsK_len l _ h]
     simp; omega
    ·simp at h
theorem stepsK_len {S : PSchema} (hS : S.types.length ≤ 1024) {rd : Str → Str × Bool} {F : PAva → Nat} : ∀ (n : PName), (∀ r ∈ n, r ≠ []) → (∀ r ∈ n, ∀ a ∈ r, ∀ x, (valK rd S x (toL a.2)).1.length + 45 ≤ F a) → sumN F n < 1000000000000000000 →
  ((stepsK rd S n).2.map List.length).sum ≤ sumN F n
 | [], _, _, _ => by simp [stepsK, sumN]
 | r :: n, h0, hF, hb => by
  have hw : sumN F (r :: n) = sumR F r + sumN F n := by simp [sumN]
  rw [hw] at hb ⊢
  simp only [stepsK]
  split
  ·simp
  ·rename_i he
   have he : (pairsK rd S [] r).1 = 0 := by omega
   have ih := stepsK_len hS n (fun x hx => h0 x (by simp [hx])) (fun x hx => hF x (by simp [hx])) (by omega)
   have hk := pairsK_kw (rd := rd) (S := S) (F := F) r [] (hF r (by simp))
   have z : kw [] = 0 := rfl
   rw [z] at hk
   have hl := pairsK_len r [] he
   have hne : (pairsK rd S [] r).2 ≠ [] := fun e => by
    rw [e] at hl
    have := List.length_pos_iff.2 (h0 r (by simp))
    simp at hl
    omega
   have := (stepK_len (fun p hp => by have := pairsK_place hS rd r [] (fun p hp => by cases hp) p hp; omega) (by omega)).2 hne
   simp only [List.map_cons, List.sum_cons]
   omega
theorem flat_len (l : List Str) : l.reverse.flatten.length = (l.map List.length).sum := by
 rw [List.length_flatten, List.map_reverse]
 exact (List.reverse_perm _).sum_nat
theorem keyN_len {S : PSchema} (hS : S.types.length ≤ 1024) {rd : Str → Str × Bool} {F : PAva → Nat} (n : PName) (hF : ∀ r ∈ n, ∀ a ∈ r, ∀ x, (valK rd S x (toL a.2)).1.length + 45 ≤ F a) (hb : sumN F n < 1000000000000000000) :
  (keyN rd S n).1.length ≤ sumN F n := by
 unfold keyN
 split
 ·simp
 ·rename_i hp
  have hp : (printV n).2 = 0 := by omega
  obtain ⟨_, _, _, h⟩ := print_ok (n := n) (t := (printV n).1) (by rw [← hp])
  split
  ·simp
  ·simp only
   rw [flat_len]
   exact stepsK_len hS n (fun r hr => (h r hr).1) hF hb
theorem rd_len {S : PSchema} (h : OkS S) : ∀ (N : Nat) (v : Str), v.length ≤ N → (rdK S v).1.length ≤ 16430 * (v.length + 1) ∧ (rdK S v).1.length ≤ 65710 * (sp v + 1) + 45 * (v.length + 1) := by
 intro N
 induction N with
 | zero =>
  intro v hv
  obtain rfl : v = [] := List.eq_nil_of_length_eq_zero (by omega)
  rw [rdK_eq]
  have : parseV ([] : Str) = .ok [] := rfl
  rw [this]
  simp only [rd1]
  split
  ·have : (nkeyV S []).1 = [] := by unfold nkeyV keyN; split <;> (try split) <;> simp [stepsK]
   rw [this]; simp
  ·simp
 | succ N ih =>
  intro v hv
  rw [rdK_eq]
  cases hp : parseV v with
  | error e => simp [rd1]
  | ok n =>
   simp only [rd1]
   split
   ·obtain ⟨w1, w2, w3⟩ := parse_wt hp
    have hsh := parse_short hp
    have hz : ∀ a : PAva, (toL a.2).length = a.2.size := fun a => Lib.size_eq a.2
    have hv1 : ∀ r ∈ n, ∀ a ∈ r, ∀ x, (valK (rdK S) S x (toL a.2)).1.length + 45 ≤ 16430 * (a.2.size + 3) := fun r hr a ha x => by
     have s1 := (hsh r hr a ha).2
     have := valK_leaf h (rdK S) x (toL a.2) (by rw [hz]; omega)
     have i1 := (ih (toL a.2) (by rw [hz]; omega)).1
     rw [hz] at i1
     have l1 : leafB (toL a.2) + 45 ≤ 16430 * (a.2.size + 3) := by
      unfold leafB
      split
      ·omega
      ·rename_i e
       have := List.length_pos_iff.2 e
       rw [hz] at this
       omega
     omega
    have hv2 : ∀ r ∈ n, ∀ a ∈ r, ∀ x, (valK (rdK S) S x (toL a.2)).1.length + 45 ≤ 65710 * wsA a + 45 * (a.2.size + 3) := fun r hr a ha x => by
     have s1 := (hsh r hr a ha).2
     have := valK_leaf h (rdK S) x (toL a.2) (by rw [hz]; omega)
     have i1 := (ih (toL a.2) (by rw [hz]; omega)).2
     rw [hz] at i1
     have l1 := leaf_le (toL a.2)
     unfold wsA
     omega
    have e0 : sumN (fun a => a.2.size + 3) n ≤ sumN wtA n := sumN_le fun r _ a _ => by unfold wtA; omega
    have e1 : sumN (fun a => 16430 * (a.2.size + 3)) n ≤ 16430 * (v.length + 1) := by
     rw [sumN_mul 16430 (fun a => a.2.size + 3)]
     omega
    have e2 : sumN (fun a => 65710 * wsA a + 45 * (a.2.size + 3)) n ≤ 65710 * (sp v + 1) + 45 * (v.length + 1) := by
     rw [sumN_add (fun a => 65710 * wsA a) (fun a => 45 * (a.2.size + 3)), sumN_mul 65710 wsA, sumN_mul 45 (fun a => a.2.size + 3)]
     omega
    have k1 := keyN_len h.types n hv1 (by omega)
    have k2 := keyN_len h.types n hv2 (by have : sp v ≤ v.length := List.countP_le_length; omega)
    show (nkeyV S n).1.length ≤ _ ∧ (nkeyV S n).1.length ≤ _
    unfold nkeyV
    exact ⟨by omega, by omega⟩
   ·simp
end Go.Proofs.YtlmfbjhokkpjhaaGreatDoor
