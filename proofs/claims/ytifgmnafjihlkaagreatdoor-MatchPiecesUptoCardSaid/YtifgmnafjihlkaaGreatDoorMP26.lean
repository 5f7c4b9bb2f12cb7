/- Part 26 of the walks and plain laws, joined: AgainV, MatPcV. -/
import Derived.Test.YtifgmnafjihlkaaGreatDoorMP25
import Derived.Test.YtifgmnafjihlkaaGreatDoorMP06
import Derived.Test.YtifgmnafjihlkaaGreatDoorMP07
import Derived.Test.YtifgmnafjihlkaaGreatDoorMP14
/- A key has itself as its key; what is cut out of a key is itself as a piece (plain: no program in it). -/
namespace Go.Proofs.YtifgmnafjihlkaaGreatDoor
open Go Go.RowKit

theorem all_bytes {p : UInt8 → Bool} (h : ∀ n, n < 256 → p (UInt8.ofNat n) = true) (b : UInt8) : p b = true := by
  have := h b.toNat b.toNat_lt
  rwa [UInt8.ofNat_toNat] at this
theorem low_low (l : List UInt8) : low (low l) = low l := by
  unfold low
  rw [List.map_map]
  exact List.map_congr_left fun b _ => by
    have := all_bytes (p := fun b => lowB (lowB b) == lowB b) (by decide +kernel) b
    simpa using this
theorem lowB_32 (b : UInt8) : (lowB b == 32) = (b == 32) := by
  have := all_bytes (p := fun b => (lowB b == 32) == (b == 32)) (by decide +kernel) b
  simpa using this
theorem lowB_45 (b : UInt8) : (lowB b == 45) = (b == 45) := by
  have := all_bytes (p := fun b => (lowB b == 45) == (b == 45)) (by decide +kernel) b
  simpa using this

/-! ### runs of blanks -/
theorem low_sqz (l : List UInt8) (p : Bool) : sqz p (low l) = low (sqz p l) := by
  induction l generalizing p with
  | nil => cases p <;> rfl
  | cons b l ih =>
    show sqz p (lowB b :: low l) = low (sqz p (b :: l))
    have h := lowB_32 b
    rw [sqz_step, sqz_step, h, ih, ih]
    by_cases hb : b = 32 ∧ p = true
    · rw [if_pos hb, if_pos ⟨by rw [hb.1]; rfl, hb.2⟩]
    · rw [if_neg hb, if_neg (fun e => hb ⟨by rw [← beq_iff_eq, ← h, e.1]; rfl, e.2⟩)]; rfl
/-- no run of blanks; p: a blank stands ahead -/
def NoRun : Bool → List UInt8 → Prop
  | _, [] => True
  | p, b :: l => ¬ (b = 32 ∧ p = true) ∧ NoRun (b == 32) l
theorem noRun_sqz (l : List UInt8) (p : Bool) : NoRun p (sqz p l) := by
  induction l generalizing p with
  | nil => cases p <;> trivial
  | cons b l ih =>
    rw [sqz_step]
    split
    · rename_i h; rw [h.2]; exact ih true
    · rename_i h; exact ⟨h, ih _⟩
theorem sqz_noRun (l : List UInt8) (p : Bool) (h : NoRun p l) : sqz p l = l := by
  induction l generalizing p with
  | nil => cases p <;> rfl
  | cons b l ih => rw [sqz_step, if_neg h.1, ih _ h.2]
theorem noRun_weak (l : List UInt8) (p : Bool) (h : NoRun p l) : NoRun false l := by
  cases l with
  | nil => trivial
  | cons b l => exact ⟨by simp, h.2⟩
theorem noRun_right (a b : List UInt8) (p : Bool) (h : NoRun p (a ++ b)) : NoRun false b := by
  induction a generalizing p with
  | nil => exact noRun_weak _ _ h
  | cons x a ih => exact ih _ h.2
theorem noRun_left (a b : List UInt8) (p : Bool) (h : NoRun p (a ++ b)) : NoRun p a := by
  induction a generalizing p with
  | nil => trivial
  | cons x a ih => exact ⟨h.1, ih _ h.2⟩

/-! ### blanks at the ends -/
theorem trimL_id {l : List UInt8} (h : l.head? ≠ some 32) : Lib.trimLeftB l 32 = l := by
  cases l with
  | nil => rfl
  | cons b l =>
    unfold Lib.trimLeftB
    rw [List.dropWhile_cons, if_neg (by simp at h ⊢; exact h)]
theorem trimR_id {l : List UInt8} (h : l.getLast? ≠ some 32) : Lib.trimRightB l 32 = l := by
  show (Lib.trimLeftB l.reverse 32).reverse = l
  rw [trimL_id (by rw [List.head?_reverse]; exact h), List.reverse_reverse]
theorem trim_id {l : List UInt8} (h1 : l.head? ≠ some 32) (h2 : l.getLast? ≠ some 32) : trimS l = l := by
  unfold trimS Lib.trimB
  rw [trimR_id h2, trimL_id h1]
theorem getLast_drop {a b : List UInt8} (h : b ≠ []) : (a ++ b).getLast? = b.getLast? := by
  rw [List.getLast?_append]
  cases hb : b.getLast? with
  | none => exact absurd (List.getLast?_eq_none_iff.1 hb) h
  | some x => rfl
theorem trim_ends (l : List UInt8) : (trimS l).head? ≠ some 32 ∧ (trimS l).getLast? ≠ some 32 ∧ ∃ k m, l = List.replicate k 32 ++ trimS l ++ List.replicate m 32 := by
  obtain ⟨m, h1, h2⟩ := trimR_split 32 l
  obtain ⟨k, h3, h4⟩ := trimB_split 32 (Lib.trimRightB l 32)
  refine ⟨h4, ?_, k, m, by unfold trimS Lib.trimB; rw [← h3]; exact h1⟩
  show (Lib.trimLeftB (Lib.trimRightB l 32) 32).getLast? ≠ _
  by_cases hn : Lib.trimLeftB (Lib.trimRightB l 32) 32 = []
  · rw [hn]; simp
  · rw [h3, getLast_drop hn] at h2; exact h2
theorem low_head (l : List UInt8) : (low l).head? = some 32 ↔ l.head? = some 32 := by
  cases l with
  | nil => exact Iff.rfl
  | cons b l =>
    show some (lowB b) = some 32 ↔ some b = some 32
    have := lowB_32 b
    constructor
    · intro h; injection h with h; rw [h] at this; simp at this; rw [this]
    · intro h; injection h with h; subst h; rfl
theorem low_rev (l : List UInt8) : (low l).reverse = low l.reverse := by unfold low; rw [List.map_reverse]
theorem low_last (l : List UInt8) : (low l).getLast? = some 32 ↔ l.getLast? = some 32 := by
  rw [← List.head?_reverse, ← List.head?_reverse, low_rev]; exact low_head _
theorem low_ne (l : List UInt8) : low l = [] ↔ l = [] := by unfold low; exact List.map_eq_nil_iff

/-- a text as FormExact's keys are -/
structure Neat (k : List UInt8) : Prop where
  valid : Lib.validD k = true
  run : NoRun false k
  head : k.head? ≠ some 32
  last : k.getLast? ≠ some 32
  ne : k ≠ []
theorem exact_neat {v k : List UInt8} (h : exactL v = (k, true)) : (k = [32] ∨ Neat k) ∧ k.length ≤ v.length := by
  have hlen := exactL_length v
  rw [h] at hlen
  refine ⟨?_, hlen⟩
  unfold exactL at h
  split at h
  · injection h with _ h; cases h
  · rename_i hv
    injection h with h _
    by_cases he : trimS (sqz false v) = []
    · rw [if_pos he] at h; exact .inl h.symm
    · rw [if_neg he] at h
      subst h
      have hv2 : Lib.validD v = true := by cases e : Lib.validD v with
        | true => rfl
        | false => exact absurd (.inr e) hv
      obtain ⟨e1, e2, kk, m, e3⟩ := trim_ends (sqz false v)
      have hr := noRun_sqz v false
      rw [e3] at hr
      exact .inr ⟨valid_trim _ (valid_sqz v hv2 false), noRun_right _ _ _ (noRun_left _ _ _ hr), e1, e2, he⟩
theorem exact_self {k : List UInt8} (h : Neat k) : exactL k = (k, true) := by
  unfold exactL
  rw [if_neg (by rintro (e | e); · exact h.ne e
                 · rw [h.valid] at e; cases e), sqz_noRun k false h.run, trim_id h.head h.last, if_neg h.ne]
theorem neat_low {k : List UInt8} (h : Neat k) : Neat (low k) where
  valid := valid_low k h.valid
  run := by
    have := noRun_sqz (low k) false
    rwa [low_sqz, sqz_noRun k false h.run] at this
  head e := h.head ((low_head k).1 e)
  last e := h.last ((low_last k).1 e)
  ne e := h.ne ((low_ne k).1 e)
theorem exact_again {v k : List UInt8} (h : exactL v = (k, true)) : exactL k = (k, true) := by
  rcases (exact_neat h).1 with rfl | hn
  · decide +kernel
  · exact exact_self hn
theorem fold_neat {v k : List UInt8} (h : foldL v = (k, true)) : (k = [32] ∨ Neat k) ∧ low k = k ∧ k.length ≤ v.length := by
  unfold foldL at h
  injection h with h1 h2
  have he : exactL v = ((exactL v).1, true) := by rw [← h2]
  have hn := exact_neat he
  subst h1
  refine ⟨?_, low_low _, by rw [low_length]; exact hn.2⟩
  rcases hn.1 with e | e
  · rw [e]; exact .inl rfl
  · exact .inr (neat_low e)
theorem fold_again {v k : List UInt8} (h : foldL v = (k, true)) : foldL k = (k, true) := by
  have hn := fold_neat h
  unfold foldL
  have he : exactL k = (k, true) := by
    rcases hn.1 with rfl | e
    · decide +kernel
    · exact exact_self e
  rw [he, hn.2.1]

theorem zap_zap (c : UInt8) (l : List UInt8) : zapB c (zapB c l) = zapB c l := by unfold zapB; rw [List.filter_filter]; simp
theorem zap_none {c : UInt8} {l : List UInt8} (h : c ∉ l) : zapB c l = l := by
  unfold zapB
  rw [List.filter_eq_self]
  intro b hb
  have : b ≠ c := fun e => h (e ▸ hb)
  simpa using this
theorem zap_mem {c b : UInt8} {l : List UInt8} (h : b ∈ zapB c l) : b ∈ l ∧ b ≠ c := by
  unfold zapB at h
  have := List.mem_filter.1 h
  exact ⟨this.1, by simpa using this.2⟩
theorem only_sub {o l m : List UInt8} (h : onlyL o l = true) (hs : ∀ b ∈ m, b ∈ l) : onlyL o m = true := by
  unfold onlyL at *
  rw [List.all_eq_true] at *
  exact fun b hb => h b (hs b hb)
theorem only_low {o : List UInt8} (ho : ∀ n, n < 256 → (!(dig (UInt8.ofNat n) || o.contains (UInt8.ofNat n)) || (dig (lowB (UInt8.ofNat n)) || o.contains (lowB (UInt8.ofNat n)))) = true) {l : List UInt8} (h : onlyL o l = true) : onlyL o (low l) = true := by
  unfold onlyL at *
  rw [List.all_eq_true] at *
  intro b hb
  obtain ⟨c, hc, rfl⟩ := List.mem_map.1 hb
  have h1 := all_bytes (p := fun b => !(dig b || o.contains b) || (dig (lowB b) || o.contains (lowB b))) ho c
  have h2 := h c hc
  simp only [h2, Bool.not_true, Bool.false_or] at h1
  exact h1
theorem digits_key {v k : List UInt8} (h : digitsL v = (k, true)) : (32 : UInt8) ∉ k ∧ onlyL [32] k = true ∧ k ≠ [] ∧ k.length ≤ v.length := by
  unfold digitsL at h
  injection h with h1 h2
  rw [Bool.and_eq_true] at h2
  subst h1
  refine ⟨fun e => (zap_mem e).2 rfl, only_sub h2.1 fun b hb => (zap_mem hb).1, fun e => ?_, zapB_length _ _⟩
  rw [e] at h2; simp at h2
theorem digits_again {v k : List UInt8} (h : digitsL v = (k, true)) : digitsL k = (k, true) := by
  obtain ⟨h1, h2, h3, _⟩ := digits_key h
  unfold digitsL
  rw [zap_none h1, h2]
  cases k with
  | nil => exact absurd rfl h3
  | cons a l => rfl
theorem phone_key {v k : List UInt8} (h : phoneL v = (k, true)) : (32 : UInt8) ∉ k ∧ (45 : UInt8) ∉ k ∧ low k = k ∧ onlyL signs k = true ∧ k ≠ [] ∧ k.length ≤ v.length := by
  unfold phoneL at h
  injection h with h1 h2
  rw [Bool.and_eq_true] at h2
  subst h1
  have hm : ∀ b ∈ dialL v, b ≠ 32 ∧ b ≠ 45 := by
    intro b hb
    obtain ⟨c, hc, rfl⟩ := List.mem_map.1 hb
    have h1 := zap_mem hc
    have h2 := zap_mem h1.1
    have k1 := lowB_32 c
    have k2 := lowB_45 c
    rw [show (c == 32) = false from by simpa using h2.2] at k1
    rw [show (c == 45) = false from by simpa using h1.2] at k2
    exact ⟨by simpa using k1, by simpa using k2⟩
  refine ⟨fun e => (hm _ e).1 rfl, fun e => (hm _ e).2 rfl, low_low _, only_low (by decide +kernel) (only_sub h2.1 fun b hb => (zap_mem (zap_mem hb).1).1), fun e => ?_, dialL_length v⟩
  rw [e] at h2; simp at h2
theorem dial_self {k : List UInt8} (h1 : (32 : UInt8) ∉ k) (h2 : (45 : UInt8) ∉ k) (h3 : low k = k) : dialL k = k := by
  unfold dialL; rw [zap_none h1, zap_none h2, h3]
theorem phone_again {v k : List UInt8} (h : phoneL v = (k, true)) : phoneL k = (k, true) := by
  obtain ⟨h1, h2, h3, h4, h5, _⟩ := phone_key h
  unfold phoneL
  rw [dial_self h1 h2 h3, h4]
  cases k with
  | nil => exact absurd rfl h5
  | cons a l => rfl
theorem oid_again {v k : List UInt8} (h : oidL v = (k, true)) : oidL k = (k, true) ∧ k.length ≤ v.length := by
  cases v with
  | nil => injection h with _ h; cases h
  | cons b l =>
    by_cases hb : letters.contains b = true
    · have e : oidL (b :: l) = (low (b :: l), onlyL (letters ++ [45]) (b :: l)) := if_pos hb
      rw [e] at h
      injection h with h1 h2
      have hlb : letters.contains (lowB b) = true := by
        have := all_bytes (p := fun b => !(letters.contains b) || letters.contains (lowB b)) (by decide +kernel) b
        simp only [hb, Bool.not_true, Bool.false_or] at this; exact this
      subst h1
      have e2 : oidL (low (b :: l)) = (low (low (b :: l)), onlyL (letters ++ [45]) (low (b :: l))) := by
        show oidL (lowB b :: low l) = _
        exact if_pos hlb
      rw [e2, low_low, only_low (by decide +kernel) h2]
      exact ⟨rfl, by rw [low_length]; exact Nat.le_refl _⟩
    · have hk : k = b :: l := by
        have e : oidL (b :: l) = _ := if_neg hb
        rw [e] at h
        split at h
        · injection h with h _; exact h.symm
        · injection h with _ h; cases h
      rw [hk] at h ⊢
      exact ⟨h, Nat.le_refl _⟩

/-- the forms whose keys are values -/
theorem key_again (f : Int) (hf : f = 0 ∨ f = 1 ∨ f = 2 ∨ f = 3 ∨ f = 5 ∨ f = 7 ∨ f = 8) {v k : List UInt8} (h : keyL f v = (k, true)) : keyL f k = (k, true) ∧ k.length ≤ v.length := by
  unfold keyL at h
  split at h
  · injection h with _ h; cases h
  · rename_i hv
    split at h
    · rename_i h2
      injection h with h1 _
      have hr : ruleL f v = (k, true) := by rw [← h1, ← h2]
      have hk : ruleL f k = (k, true) ∧ k.length ≤ v.length := by
        rcases hf with rfl | rfl | rfl | rfl | rfl | rfl | rfl
        · exact ⟨fold_again hr, (fold_neat hr).2.2⟩
        · exact ⟨exact_again hr, (exact_neat hr).2⟩
        · exact ⟨digits_again hr, (digits_key hr).2.2.2⟩
        · exact ⟨phone_again hr, (phone_key hr).2.2.2.2.2⟩
        · have e : v = k := congrArg Prod.fst hr
          rw [e] at hr ⊢
          exact ⟨hr, Nat.le_refl _⟩
        · have e : v = k := congrArg Prod.fst hr
          rw [e] at hr ⊢
          exact ⟨hr, Nat.le_refl _⟩
        · exact oid_again hr
      refine ⟨?_, hk.2⟩
      unfold keyL
      rw [if_neg (by omega), hk.1]; rfl
    · injection h with _ h; cases h
theorem key_len {f : Int} {v k : List UInt8} (h : keyL f v = (k, true)) (hf : f = 0 ∨ f = 1 ∨ f = 2 ∨ f = 3) : k.length ≤ 65536 := by
  have h2 := (key_again f (by omega) h).2
  have h3 : ¬ 65536 < v.length := fun e => by unfold keyL at h; rw [if_pos e] at h; injection h with _ h; cases h
  omega
theorem key_none_nil {f : Int} {v k : List UInt8} (h : keyL f v = (k, false)) : k = [] := by
  unfold keyL at h
  split at h
  · injection h with h _; exact h.symm
  · split at h
    · injection h with _ h; cases h
    · injection h with h _; exact h.symm

/-! ### what is cut out of a key -/
theorem prefix_none {t : List UInt8} (h : t.head? ≠ some 32) : Lib.trimPrefix t [32] = t := by
  unfold Lib.trimPrefix
  rw [if_neg]
  intro e
  unfold Lib.hasPrefix at e
  cases t with
  | nil => simp at e
  | cons a t =>
    simp [List.isPrefixOf] at e
    exact h (by rw [e]; rfl)
theorem suffix_none {t : List UInt8} (h : t.getLast? ≠ some 32) : Lib.trimSuffix t [32] = t := by
  unfold Lib.trimSuffix
  rw [if_neg]
  intro e
  unfold Lib.hasSuffix at e
  rw [List.isSuffixOf_iff_suffix] at e
  obtain ⟨m, rfl⟩ := e
  exact h (by simp)

theorem piece_text {f wh : Int} (hf : f = 0 ∨ f = 1) {s : List UInt8} (hw : 0 ≤ wh ∧ wh ≤ 2) (hl : s.length ≤ 65536) (hv : Lib.validD s = true) (hr : NoRun false s) (hlow : f = 0 → low s = s)
    (h0 : wh = 0 → s.head? ≠ some 32) (h2 : wh = 2 → s.getLast? ≠ some 32) : pieceL f wh s = (s, true) := by
  have e : (if f = 0 then low s else s) = s := by
    split
    · rename_i h; exact hlow h
    · rfl
  unfold pieceL
  rw [if_neg (by omega), if_pos hf, e, sqz_noRun s false hr, if_neg (by rw [hv]; simp)]
  unfold placeL
  split
  · rename_i h; rw [prefix_none (h0 h)]
  · split
    · rename_i h; rw [suffix_none (h2 h)]
    · rfl
theorem piece_digits {wh : Int} (hw : 0 ≤ wh ∧ wh ≤ 2) {s : List UInt8} (hl : s.length ≤ 65536) (h1 : (32 : UInt8) ∉ s) (h2 : onlyL [32] s = true) : pieceL 2 wh s = (s, true) := by
  unfold pieceL
  rw [if_neg (by omega), if_neg (by decide), if_pos rfl, if_pos h2, zap_none h1]
theorem piece_phone {wh : Int} (hw : 0 ≤ wh ∧ wh ≤ 2) {s : List UInt8} (hl : s.length ≤ 65536) (h1 : (32 : UInt8) ∉ s) (h2 : (45 : UInt8) ∉ s) (h3 : low s = s) (h4 : onlyL signs s = true) : pieceL 3 wh s = (s, true) := by
  unfold pieceL
  rw [if_neg (by omega), if_neg (by decide), if_neg (by decide), if_pos rfl, if_pos h4, dial_self h1 h2 h3]

theorem low_part {a b c : List UInt8} (h : low (a ++ b ++ c) = a ++ b ++ c) : low a = a ∧ low b = b ∧ low c = c := by
  rw [low_append, low_append] at h
  have h1 := List.append_inj h (by simp [low_length])
  have h2 := List.append_inj h1.1 (low_length a)
  exact ⟨h2.1, h2.2, h1.2⟩

/-- a key in three parts, the first two valid: each is itself as a piece at its place -/
theorem key_cuts {f : Int} (hf : f = 0 ∨ f = 1 ∨ f = 2 ∨ f = 3) {v a b c : List UInt8} (h : keyL f v = (a ++ b ++ c, true)) (hn : a ++ b ++ c ≠ [32]) (ha : Lib.validD a = true) (hb : Lib.validD b = true) :
    pieceL f 1 b = (b, true) ∧ pieceL f 0 a = (a, true) ∧ pieceL f 2 (b ++ c) = (b ++ c, true) := by
  unfold keyL at h
  split at h
  · injection h with _ h; cases h
  rename_i hv
  split at h
  case isFalse => injection h with _ h; cases h
  rename_i h2
  injection h with h1 _
  have hr : ruleL f v = (a ++ b ++ c, true) := by rw [← h1, ← h2]
  have text : ∀ k, k = a ++ b ++ c → Neat k → k.length ≤ v.length → (f = 0 → low k = k) → (f = 0 ∨ f = 1) → pieceL f 1 b = (b, true) ∧ pieceL f 0 a = (a, true) ∧ pieceL f 2 (b ++ c) = (b ++ c, true) := by
    intro k hk hN hl hlow hf01
    subst hk
    have hl2 : a.length + (b.length + c.length) ≤ v.length := by simpa using hl
    have r1 : NoRun false (a ++ (b ++ c)) := by rw [← List.append_assoc]; exact hN.run
    have rbc := noRun_right _ _ _ r1
    have vbc : Lib.validD (b ++ c) = true := by
      have := hN.valid
      rwa [List.append_assoc, valid_append a ha] at this
    refine ⟨piece_text hf01 (by decide) (by omega) hb (noRun_left _ _ _ rbc) (fun e => (low_part (hlow e)).2.1) (fun e => by cases e) (fun e => by cases e),
      piece_text hf01 (by decide) (by omega) ha (noRun_left _ _ _ r1) (fun e => (low_part (hlow e)).1) (fun _ e => hN.head ?_) (fun e => by cases e),
      piece_text hf01 (by decide) (by simp; omega) vbc rbc (fun e => by rw [low_append, (low_part (hlow e)).2.1, (low_part (hlow e)).2.2]) (fun e => by cases e) (fun _ e => hN.last ?_)⟩
    · cases a with
      | nil => cases e
      | cons x a => exact e
    · rw [List.append_assoc]
      by_cases hne : b ++ c = []
      · rw [hne] at e; cases e
      · rw [getLast_drop hne]; exact e
  rcases hf with rfl | rfl | rfl | rfl
  · have hk := fold_neat (v := v) hr
    rcases hk.1 with e | e
    · exact absurd e hn
    · exact text _ rfl e hk.2.2 (fun _ => hk.2.1) (.inl rfl)
  · have hk := exact_neat (v := v) hr
    rcases hk.1 with e | e
    · exact absurd e hn
    · exact text _ rfl e hk.2 (fun e => by cases e) (.inr rfl)
  · obtain ⟨k1, k2, _, k4⟩ := digits_key (v := v) hr
    have hl2 : a.length + (b.length + c.length) ≤ v.length := by simpa using k4
    have part : ∀ m : List UInt8, (∀ x ∈ m, x ∈ a ++ b ++ c) → m.length ≤ 65536 → ∀ wh, 0 ≤ wh ∧ wh ≤ 2 → pieceL 2 wh m = (m, true) := fun m hm hl wh hw => piece_digits hw hl (fun e => k1 (hm _ e)) (only_sub k2 hm)
    exact ⟨part b (fun x hx => by simp [hx]) (by omega) 1 (by decide), part a (fun x hx => by simp [hx]) (by omega) 0 (by decide), part (b ++ c) (fun x hx => by simp at hx ⊢; rcases hx with h | h <;> simp [h]) (by simp; omega) 2 (by decide)⟩
  · obtain ⟨k1, k2, k3, k4, _, k6⟩ := phone_key (v := v) hr
    have hl2 : a.length + (b.length + c.length) ≤ v.length := by simpa using k6
    have hlo := low_part k3
    have part : ∀ m : List UInt8, low m = m → (∀ x ∈ m, x ∈ a ++ b ++ c) → m.length ≤ 65536 → ∀ wh, 0 ≤ wh ∧ wh ≤ 2 → pieceL 3 wh m = (m, true) := fun m hm0 hm hl wh hw => piece_phone hw hl (fun e => k1 (hm _ e)) (fun e => k2 (hm _ e)) hm0 (only_sub k4 hm)
    exact ⟨part b hlo.2.1 (fun x hx => by simp [hx]) (by omega) 1 (by decide), part a hlo.1 (fun x hx => by simp [hx]) (by omega) 0 (by decide), part (b ++ c) (by rw [low_append, hlo.2.1, hlo.2.2]) (fun x hx => by simp at hx ⊢; rcases hx with h | h <;> simp [h]) (by simp; omega) 2 (by decide)⟩
end Go.Proofs.YtifgmnafjihlkaaGreatDoor
/- Pieces plainly: what has all pieces has each of them. No walk. -/
namespace Go.Proofs.YtifgmnafjihlkaaGreatDoor
open Go Go.RowKit

theorem pref_nil (k : Str) : Lib.hasPrefix k [] = true := by unfold Lib.hasPrefix; cases k <;> rfl
theorem trimXP_nil (k : Str) : Lib.trimPrefix k [] = k := by unfold Lib.trimPrefix; rw [pref_nil]; rfl
theorem suff_nil (k : Str) : Lib.hasSuffix k [] = true := by unfold Lib.hasSuffix; exact List.isSuffixOf_iff_suffix.2 (List.nil_suffix)
theorem trimX_nil (k : Str) : Lib.trimSuffix k [] = k := by unfold Lib.trimSuffix; rw [suff_nil]; simp
theorem trimP_suffix (k p : Str) : Lib.trimPrefix k p <:+ k := by
  unfold Lib.trimPrefix
  split
  · exact List.drop_suffix _ _
  · exact List.suffix_refl _
theorem trimS_prefix (k p : Str) : Lib.trimSuffix k p <+: k := by
  unfold Lib.trimSuffix
  split
  · exact List.take_prefix _ _
  · exact List.prefix_refl _

theorem cut_back {x m : Str} (h : (Lib.cut x m).2.2 = true) : ∃ p, x = p ++ m ++ (Lib.cut x m).2.1 := by
  unfold Lib.cut at h ⊢
  by_cases h0 : 0 ≤ Lib.index x m
  · rw [if_pos h0]
    rcases Lib.index_spec x m with ⟨h1, _⟩ | ⟨i, h1, h2, h3, _⟩
    · omega
    · rw [h1]
      simp only [Int.toNat_natCast]
      obtain ⟨t, ht⟩ := List.isPrefixOf_iff_prefix.1 (show m.isPrefixOf (x.drop i) = true from h3)
      refine ⟨x.take i, ?_⟩
      have h4 : x.drop (i + m.length) = t := by rw [← List.drop_drop, ← ht]; simp
      rw [h4, List.append_assoc, ht, List.take_append_drop]
  · rw [if_neg h0] at h; cases h
theorem cut_finds {y p m q : Str} (h : y = p ++ m ++ q) : (Lib.cut y m).2.2 = true ∧ q <:+ (Lib.cut y m).2.1 := by
  have hocc : Lib.occAt y m p.length = true := by
    unfold Lib.occAt
    apply List.isPrefixOf_iff_prefix.2
    rw [h, List.append_assoc, List.drop_left]
    exact List.prefix_append _ _
  have hpl : p.length ≤ y.length := by rw [h]; simp
  rcases Lib.index_spec y m with ⟨_, h2⟩ | ⟨i, h1, h2, h3, h4⟩
  · rw [h2 _ hpl] at hocc; cases hocc
  · have hi : i ≤ p.length := by
      by_cases hc : i ≤ p.length
      · exact hc
      · have := h4 p.length (by omega)
        rw [this] at hocc; cases hocc
    unfold Lib.cut
    rw [if_pos (by omega), h1]
    refine ⟨rfl, ?_⟩
    simp only [Int.toNat_natCast]
    have hq : q = y.drop (p.length + m.length) := by rw [h]; simp
    have hs : p.length + m.length = (i + m.length) + (p.length - i) := by omega
    rw [hq, hs, ← List.drop_drop]
    exact List.drop_suffix _ _
theorem cutAll_mono {ms : List Str} : ∀ {x y : Str}, x <:+: y → cutAll x ms = 1 → cutAll y ms = 1 := by
  induction ms with
  | nil => intro x y _ _; rfl
  | cons m l ih =>
    intro x y hxy hx
    unfold cutAll at hx ⊢
    by_cases hf : (Lib.cut x m).2.2 = true
    · rw [if_pos hf] at hx
      obtain ⟨p, hp⟩ := cut_back hf
      obtain ⟨u, v, huv⟩ := hxy
      have hy : y = (u ++ p) ++ m ++ ((Lib.cut x m).2.1 ++ v) := by
        rw [← huv]
        conv => lhs; rw [hp]
        simp [List.append_assoc]
      obtain ⟨h1, h2⟩ := cut_finds hy
      rw [if_pos h1]
      refine ih ?_ hx
      exact List.IsInfix.trans ⟨[], v, by simp⟩ h2.isInfix
    · rw [if_neg hf] at hx; cases hx
theorem cutAll_mem {ms : List Str} : ∀ {x : Str}, cutAll x ms = 1 → ∀ m ∈ ms, m <:+: x := by
  induction ms with
  | nil => intro x _ m hm; cases hm
  | cons a l ih =>
    intro x hx m hm
    unfold cutAll at hx
    by_cases hf : (Lib.cut x a).2.2 = true
    · rw [if_pos hf] at hx
      obtain ⟨p, hp⟩ := cut_back hf
      rcases List.mem_cons.1 hm with rfl | hm
      · exact ⟨p, _, hp.symm⟩
      · refine (ih hx m hm).trans ?_
        exact ⟨p ++ a, [], by rw [List.append_nil]; exact hp.symm⟩
    · rw [if_neg hf] at hx; cases hx
theorem cutAll_one {x m : Str} (h : m <:+: x) : cutAll x [m] = 1 := by
  obtain ⟨u, v, huv⟩ := h
  unfold cutAll
  rw [if_pos (cut_finds huv.symm).1]; rfl

theorem pieceF_nil (f wh : Int) (h : wh ≠ 1) : pieceF f wh [] = ([], true) := if_pos ⟨rfl, h⟩
theorem pv_one {r : Int} {K : Str → Str × Bool} {v s e : Str} {ms : List Str} (h3 : sortV r = 3) : partV r K v s e ms = 1 ↔
    partFine (lineOf r).form s e ms = true ∧ (K v).2 = true ∧ Lib.hasPrefix (K v).1 (pieceF (lineOf r).form 0 s).1 = true ∧ Lib.hasSuffix (Lib.trimPrefix (K v).1 (pieceF (lineOf r).form 0 s).1) (pieceF (lineOf r).form 2 e).1 = true ∧
      cutAll (Lib.trimSuffix (Lib.trimPrefix (K v).1 (pieceF (lineOf r).form 0 s).1) (pieceF (lineOf r).form 2 e).1) (ms.map fun m => (pieceF (lineOf r).form 1 m).1) = 1 := by
  unfold partV
  rw [if_neg (by rw [h3]; simp)]
  cases h1 : partFine (lineOf r).form s e ms with
  | false => simp
  | true =>
    rw [if_neg (by simp)]
    unfold partEnd
    cases h2 : (K v).2 with
    | false => simp
    | true =>
      rw [if_neg (by simp)]
      cases h4 : Lib.hasPrefix (K v).1 (pieceF (lineOf r).form 0 s).1 with
      | false => simp
      | true =>
        cases h5 : Lib.hasSuffix (Lib.trimPrefix (K v).1 (pieceF (lineOf r).form 0 s).1) (pieceF (lineOf r).form 2 e).1 with
        | false => simp
        | true => simp
section
variable {r : Int} {K : Str → Str × Bool} {v s e : Str} {ms : List Str} (h3 : sortV r = 3)
include h3
theorem pvA (h : partV r K v s e ms = 1) : (K v).2 = true := ((pv_one h3).1 h).2.1
omit h3 in
theorem fine3 (h : partFine (lineOf r).form s e ms = true) : (pieceF (lineOf r).form 0 s).2 = true ∧ (pieceF (lineOf r).form 2 e).2 = true ∧ ∀ m ∈ ms, (pieceF (lineOf r).form 1 m).2 = true := by
  unfold partFine at h
  simp only [Bool.and_eq_true, List.all_eq_true] at h
  exact ⟨h.1.1, h.1.2, h.2⟩
theorem pvB (h : partV r K v s e ms = 1) : partV r K v s [] [] = 1 := by
  obtain ⟨h1, h2, h4, _, _⟩ := (pv_one h3).1 h
  obtain ⟨f1, _, _⟩ := fine3 h1
  refine (pv_one h3).2 ⟨?_, h2, h4, ?_, rfl⟩
  · unfold partFine; rw [f1, pieceF_nil _ _ (by decide)]; rfl
  · rw [pieceF_nil _ _ (by decide)]; exact suff_nil _
theorem pvC (h : partV r K v s e ms = 1) : partV r K v [] e [] = 1 := by
  obtain ⟨h1, h2, _, h5, _⟩ := (pv_one h3).1 h
  obtain ⟨_, f2, _⟩ := fine3 h1
  refine (pv_one h3).2 ⟨?_, h2, ?_, ?_, rfl⟩
  · unfold partFine; rw [f2, pieceF_nil _ _ (by decide)]; rfl
  · rw [pieceF_nil _ _ (by decide)]; exact pref_nil _
  · rw [pieceF_nil _ _ (by decide), trimXP_nil]
    exact List.isSuffixOf_iff_suffix.2 ((List.isSuffixOf_iff_suffix.1 h5).trans (trimP_suffix _ _))
omit h3 in
theorem mid_infix (k p q : Str) : Lib.trimSuffix (Lib.trimPrefix k p) q <:+: k := ((trimS_prefix _ _).isInfix).trans (trimP_suffix k p).isInfix
theorem pvD (h : partV r K v s e ms = 1) : partV r K v [] [] ms = 1 := by
  obtain ⟨h1, h2, _, _, h6⟩ := (pv_one h3).1 h
  obtain ⟨_, _, f3⟩ := fine3 h1
  refine (pv_one h3).2 ⟨?_, h2, ?_, ?_, ?_⟩
  · unfold partFine; rw [pieceF_nil _ _ (by decide), pieceF_nil _ _ (by decide)]; simpa using f3
  · rw [pieceF_nil _ _ (by decide)]; exact pref_nil _
  · rw [pieceF_nil _ 2 (by decide)]; exact suff_nil _
  · rw [pieceF_nil _ _ (by decide), pieceF_nil _ _ (by decide), trimXP_nil, trimX_nil]
    exact cutAll_mono (mid_infix _ _ _) h6
theorem pvE (h : partV r K v s e ms = 1) {m : Str} (hm : m ∈ ms) : partV r K v [] [] [m] = 1 := by
  obtain ⟨h1, h2, _, _, h6⟩ := (pv_one h3).1 h
  obtain ⟨_, _, f3⟩ := fine3 h1
  refine (pv_one h3).2 ⟨?_, h2, ?_, ?_, ?_⟩
  · unfold partFine; rw [pieceF_nil _ _ (by decide), pieceF_nil _ _ (by decide)]; simpa using f3 m hm
  · rw [pieceF_nil _ _ (by decide)]; exact pref_nil _
  · rw [pieceF_nil _ 2 (by decide)]; exact suff_nil _
  · rw [pieceF_nil _ _ (by decide), pieceF_nil _ _ (by decide), trimXP_nil, trimX_nil]
    exact cutAll_one ((cutAll_mem h6 _ (List.mem_map.2 ⟨m, hm, rfl⟩)).trans (mid_infix _ _ _))
theorem pvF : partV r K v [] [] [] = truthV (K v).2 := by
  unfold partV
  rw [if_neg (by rw [h3]; simp), if_neg (by unfold partFine; rw [pieceF_nil _ _ (by decide), pieceF_nil _ _ (by decide)]; simp)]
  unfold partEnd
  cases h2 : (K v).2 with
  | false => rfl
  | true =>
    rw [if_neg (by simp), pieceF_nil _ _ (by decide), pieceF_nil _ _ (by decide), if_neg (by rw [pref_nil, suff_nil]; simp)]
    rfl
end
theorem sort6 : sortV 6 = 3 := by decide
theorem form6 : (lineOf 6).form = 1 := by decide +kernel
theorem keyM6 (v : Str) : keyM 6 v = keyL 1 v := by unfold keyM; rw [if_neg (by decide), form6]
theorem pvG {v : Str} (hk : (keyM 6 v).2 = true) (hn : (keyM 6 v).1 ≠ [32]) : partV 6 (keyM 6) v (keyM 6 v).1 [] [] = 1 := by
  rw [keyM6] at hk hn
  have h1 : keyL 1 v = ((keyL 1 v).1 ++ [] ++ [], true) := by rw [← hk]; simp
  have hv : Lib.validD (keyL 1 v).1 = true := by
    have h2 : keyL 1 v = ((keyL 1 v).1, true) := by rw [← hk]
    unfold keyL at h2
    split at h2
    · injection h2 with _ h2; cases h2
    · rename_i hl
      have h5 : exactL v = ((keyL 1 v).1, true) := by
        have hk2 := hk
        unfold keyL at hk2 ⊢
        rw [if_neg hl] at hk2 ⊢
        have h6 : (ruleL 1 v).2 = true := by
          cases h7 : (ruleL 1 v).2 with
          | true => rfl
          | false => rw [h7] at hk2; simp at hk2
        rw [if_pos h6]
        have h8 : ruleL 1 v = exactL v := by unfold ruleL; rw [if_neg (by decide), if_pos rfl]
        rw [h8] at h6 ⊢
        rw [← h6]
      rcases (exact_neat h5).1 with h6 | h6
      · exact absurd h6 hn
      · exact h6.valid
  obtain ⟨_, h3, _⟩ := key_cuts (f := 1) (a := (keyL 1 v).1) (b := []) (c := []) (.inr (.inl rfl)) h1 (by simpa using hn) hv rfl
  refine (pv_one sort6).2 ?_
  rw [form6, keyM6]
  have hp : pieceF 1 0 (keyL 1 v).1 = ((keyL 1 v).1, true) := by
    unfold pieceF
    split
    · rename_i h; rw [h.1]
    · exact h3
  refine ⟨?_, hk, ?_, ?_, ?_⟩
  · unfold partFine; rw [hp, pieceF_nil _ _ (by decide)]; rfl
  · rw [hp]; exact List.isPrefixOf_iff_prefix.2 (List.prefix_refl _)
  · rw [pieceF_nil _ _ (by decide)]; exact suff_nil _
  · rfl
end Go.Proofs.YtifgmnafjihlkaaGreatDoor
