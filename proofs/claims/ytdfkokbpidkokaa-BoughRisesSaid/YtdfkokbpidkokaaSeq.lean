/- Plain lists in the order of a comparison: the place of a key, putting in and taking out, and rows cut into leaves. No program here. -/
import Derived.Test.YtdfkokbpidkokaaMem
namespace Go.Proofs.Ytdfkokbpidkokaa

/-- c is an order's comparison -/
structure Ord {K : Type} (c : K → K → Int) : Prop where
  tr : ∀ {a b d : K}, c a b < 0 → c b d < 0 → c a d < 0
  gt : ∀ {a b : K}, 0 < c a b → c b a < 0
  lt : ∀ {a b : K}, c a b < 0 → 0 < c b a
  eq : ∀ {a b : K}, c a b = 0 → c b a = 0
  el : ∀ {a b d : K}, c a b = 0 → c b d < 0 → c a d < 0
  er : ∀ {a b d : K}, c a b < 0 → c b d = 0 → c a d < 0
  ee : ∀ {a b d : K}, c a b = 0 → c b d = 0 → c a d = 0
  rf : ∀ a : K, c a a = 0

/-- an order that comes of a number -/
theorem Ord.of_num {K : Type} {c : K → K → Int} (f : K → Int) (h1 : ∀ a b, c a b < 0 ↔ f a < f b) (h2 : ∀ a b, c a b = 0 ↔ f a = f b) : Ord c where
  tr {a b d} x y := by rw [h1] at *; omega
  gt {a b} x := by
    rw [h1]
    have h3 := h1 a b
    have h4 := h2 a b
    omega
  lt {a b} x := by
    have h3 := h1 a b
    have h5 := h1 b a
    have h4 := h2 b a
    omega
  eq {a b} x := by rw [h2] at *; omega
  el {a b d} x y := by rw [h1] at *; rw [h2] at *; omega
  er {a b d} x y := by rw [h1] at *; rw [h2] at *; omega
  ee {a b d} x y := by rw [h2] at *; omega
  rf a := by rw [h2]

section
variable {K V : Type} (c : K → K → Int)

def Sorted (l : List (K × V)) : Prop := l.Pairwise fun p q => c p.1 q.1 < 0

/-- how many are less -/
def rk (l : List (K × V)) (k : K) : Nat := (l.takeWhile fun p => decide (c p.1 k < 0)).length
def hasL (l : List (K × V)) (k : K) : Bool := match l[rk c l k]? with | some p => c p.1 k == 0 | none => false
def getL (l : List (K × V)) (k : K) : Option V := match l[rk c l k]? with | some p => if c p.1 k == 0 then some p.2 else none | none => none
def putL (l : List (K × V)) (k : K) (v : V) : List (K × V) := if hasL c l k then l.set (rk c l k) (k, v) else l.take (rk c l k) ++ (k, v) :: l.drop (rk c l k)
def delL (l : List (K × V)) (k : K) : List (K × V) := if hasL c l k then l.take (rk c l k) ++ l.drop (rk c l k + 1) else l

theorem rk_le (l : List (K × V)) (k : K) : rk c l k ≤ l.length := by
  unfold rk
  exact (List.takeWhile_sublist _).length_le

theorem rk_lt {l : List (K × V)} {k : K} {i : Nat} {p : K × V} (h : i < rk c l k) (hp : l[i]? = some p) : c p.1 k < 0 := by
  unfold rk at h
  induction l generalizing i with
  | nil => simp at h
  | cons q l ih =>
    rw [List.takeWhile_cons] at h
    split at h
    · rename_i hq
      cases i with
      | zero => simp at hp; subst hp; simpa using hq
      | succ i => exact ih (by simpa using h) (by simpa using hp)
    · simp at h

theorem rk_ge_first {l : List (K × V)} {k : K} {p : K × V} (hp : l[rk c l k]? = some p) : ¬ c p.1 k < 0 := by
  unfold rk at hp
  induction l with
  | nil => simp at hp
  | cons q l ih =>
    rw [List.takeWhile_cons] at hp
    split at hp
    · exact ih (by simpa using hp)
    · rename_i hq
      simp at hp; subst hp; simpa using hq

theorem rk_iff (ho : Ord c) {l : List (K × V)} (hs : Sorted c l) {k : K} {i : Nat} {p : K × V} (hp : l[i]? = some p) : c p.1 k < 0 ↔ i < rk c l k := by
  constructor
  · intro h
    rcases Nat.lt_or_ge i (rk c l k) with h1 | h1
    · exact h1
    · exfalso
      have hlt : i < l.length := (List.getElem?_eq_some_iff.1 hp).1
      have hr : rk c l k < l.length := by omega
      have hq := rk_ge_first c (l := l) (k := k) (List.getElem?_eq_getElem hr)
      rcases Nat.eq_or_lt_of_le h1 with h2 | h2
      · have hq2 : l[rk c l k]? = some p := by rw [h2]; exact hp
        exact rk_ge_first c hq2 h
      · have h3 := (List.pairwise_iff_getElem.1 hs) (rk c l k) i hr hlt h2
        have : l[i] = p := by
          have := List.getElem?_eq_getElem hlt
          rw [hp] at this
          exact (Option.some.inj this).symm
        rw [this] at h3
        exact hq (ho.tr h3 h)
  · intro h; exact rk_lt c h hp

theorem hasL_lt {l : List (K × V)} {k : K} (h : hasL c l k = true) : rk c l k < l.length := by
  unfold hasL at h
  split at h
  · rename_i p hp; exact (List.getElem?_eq_some_iff.1 hp).1
  · cases h

theorem putL_length (l : List (K × V)) (k : K) (v : V) : (putL c l k v).length = if hasL c l k then l.length else l.length + 1 := by
  unfold putL
  have := rk_le c l k
  split <;> simp
  omega

theorem delL_length (l : List (K × V)) (k : K) : (delL c l k).length = if hasL c l k then l.length - 1 else l.length := by
  unfold delL
  split
  · rename_i h
    have := hasL_lt c h
    simp; omega
  · rfl

theorem hasL_isSome (l : List (K × V)) (k : K) : hasL c l k = (getL c l k).isSome := by
  unfold hasL getL
  split
  · rename_i p hp
    cases c p.1 k == 0 <;> rfl
  · rfl

variable {c}

theorem putL_sorted (ho : Ord c) {l : List (K × V)} (hs : Sorted c l) (k : K) (v : V) : Sorted c (putL c l k v) := by
  unfold putL
  by_cases hh : hasL c l k = true
  · rw [if_pos hh]
    have hr := hasL_lt c hh
    have he : c (l[rk c l k]).1 k = 0 := by
      unfold hasL at hh
      rw [List.getElem?_eq_getElem hr] at hh
      simpa using hh
    unfold Sorted
    rw [List.pairwise_iff_getElem]
    intro i j hi hj hij
    simp only [List.length_set] at hi hj
    have h0 := (List.pairwise_iff_getElem.1 hs) i j hi hj hij
    rw [List.getElem_set, List.getElem_set]
    split
    · rename_i h1; subst h1
      rw [if_neg (by omega)]
      exact ho.el (ho.eq he) h0
    · split
      · rename_i h1; subst h1
        exact ho.er h0 he
      · exact h0
  · rw [if_neg hh]
    unfold Sorted
    rw [List.pairwise_append]
    have hr := rk_le c l k
    refine ⟨hs.sublist (List.take_sublist _ _), ?_, ?_⟩
    · rw [List.pairwise_cons]
      refine ⟨?_, hs.sublist (List.drop_sublist _ _)⟩
      intro q hq
      obtain ⟨j, hj, rfl⟩ := List.mem_iff_getElem.1 hq
      rw [List.getElem_drop]
      have hj' : rk c l k + j < l.length := by simp at hj; omega
      have hr2 : rk c l k < l.length := by omega
      have hk : c k (l[rk c l k]).1 < 0 := by
        have h1 := rk_ge_first c (l := l) (k := k) (List.getElem?_eq_getElem hr2)
        have h2 : ¬ c (l[rk c l k]).1 k = 0 := by
          intro h2
          apply hh
          unfold hasL
          rw [List.getElem?_eq_getElem hr2]
          simpa using h2
        exact ho.gt (by omega)
      cases j with
      | zero => simpa using hk
      | succ j => exact ho.tr hk ((List.pairwise_iff_getElem.1 hs) (rk c l k) (rk c l k + (j + 1)) hr2 hj' (by omega))
    · intro p hp q hq
      obtain ⟨i, hi, rfl⟩ := List.mem_iff_getElem.1 hp
      rw [List.getElem_take]
      have hi' : i < rk c l k := by simp at hi; omega
      have hpk : c (l[i]).1 k < 0 := rk_lt c hi' (List.getElem?_eq_getElem (by omega))
      rw [List.mem_cons] at hq
      rcases hq with rfl | hq
      · exact hpk
      · obtain ⟨j, hj, rfl⟩ := List.mem_iff_getElem.1 hq
        rw [List.getElem_drop]
        exact (List.pairwise_iff_getElem.1 hs) i (rk c l k + j) (by omega) (by simp at hj; omega) (by omega)

theorem delL_sorted {l : List (K × V)} (hs : Sorted c l) (k : K) : Sorted c (delL c l k) := by
  unfold delL
  split
  · refine hs.sublist ?_
    have h1 : (l.take (rk c l k) ++ l.drop (rk c l k + 1)).Sublist (l.take (rk c l k) ++ l.drop (rk c l k)) :=
      List.Sublist.append (List.Sublist.refl _) (by rw [← List.drop_drop]; exact List.drop_sublist _ _)
    rwa [List.take_append_drop] at h1
  · exact hs

theorem sorted_nil : Sorted c ([] : List (K × V)) := List.Pairwise.nil
end

/-- pairs in a block of their own -/
structure Leaf (K V : Type) where
  b : Nat
  c : Nat
  ps : List (K × V)

section
variable {K V : Type}
def flat (ls : List (Leaf K V)) : List (K × V) := (ls.map (·.ps)).flatten
@[simp] theorem flat_nil : flat ([] : List (Leaf K V)) = [] := rfl
@[simp] theorem flat_cons (l : Leaf K V) (ls : List (Leaf K V)) : flat (l :: ls) = l.ps ++ flat ls := by simp [flat]
@[simp] theorem flat_append (xs ys : List (Leaf K V)) : flat (xs ++ ys) = flat xs ++ flat ys := by simp [flat]

/-- how many pairs stand ahead of leaf i -/
def off (ls : List (Leaf K V)) (i : Nat) : Nat := (flat (ls.take i)).length

theorem flat_at {ls : List (Leaf K V)} {i : Nat} (h : i < ls.length) : flat ls = flat (ls.take i) ++ ((ls[i]).ps ++ flat (ls.drop (i + 1))) := by
  have e := List.take_append_drop i ls
  rw [List.drop_eq_getElem_cons h] at e
  have e2 := congrArg flat e
  rw [flat_append, flat_cons] at e2
  exact e2.symm

theorem off_succ {ls : List (Leaf K V)} {i : Nat} (h : i < ls.length) : off ls (i + 1) = off ls i + (ls[i]).ps.length := by
  unfold off
  rw [List.take_succ_eq_append_getElem h, flat_append, flat_cons, flat_nil, List.append_nil, List.length_append]

theorem off_zero (ls : List (Leaf K V)) : off ls 0 = 0 := by simp [off]
theorem off_all (ls : List (Leaf K V)) : off ls ls.length = (flat ls).length := by simp [off]

theorem off_le (ls : List (Leaf K V)) (i : Nat) : off ls i ≤ (flat ls).length := by
  unfold off
  have e := congrArg (fun l => (flat l).length) (List.take_append_drop i ls)
  simp only [flat_append, List.length_append] at e
  omega

theorem flat_get {ls : List (Leaf K V)} {i j : Nat} (h : i < ls.length) (hj : j < (ls[i]).ps.length) : (flat ls)[off ls i + j]? = some ((ls[i]).ps[j]) := by
  rw [flat_at h]
  unfold off
  rw [List.getElem?_append_right (by omega), Nat.add_sub_cancel_left, List.getElem?_append_left hj]
  exact List.getElem?_eq_getElem hj

/-- the leaf and the place in it of the r-th pair -/
def loc : List (Leaf K V) → Nat → Nat × Nat
  | [], _ => (0, 0)
  | l :: ls, r => if r < l.ps.length then (0, r) else ((loc ls (r - l.ps.length)).1 + 1, (loc ls (r - l.ps.length)).2)

theorem loc_spec (ls : List (Leaf K V)) (r : Nat) (hr : r ≤ (flat ls).length) :
    (loc ls r).1 ≤ ls.length ∧ off ls (loc ls r).1 + (loc ls r).2 = r ∧ (∀ h : (loc ls r).1 < ls.length, (loc ls r).2 < (ls[(loc ls r).1]).ps.length) ∧ ((loc ls r).1 = ls.length → (loc ls r).2 = 0 ∧ r = (flat ls).length) := by
  induction ls generalizing r with
  | nil => simp at hr; subst hr; simp [loc, off]
  | cons l ls ih =>
    unfold loc
    by_cases h : r < l.ps.length
    · simp [if_pos h, off]
      exact h
    · simp only [if_neg h]
      simp at hr
      obtain ⟨h1, h2, h3, h4⟩ := ih (r - l.ps.length) (by omega)
      refine ⟨by simp; omega, ?_, ?_, ?_⟩
      · unfold off at h2 ⊢
        simp
        omega
      · intro hlt
        simpa using h3 (by simp at hlt; omega)
      · intro he
        have := h4 (by simp at he; omega)
        simp
        omega

theorem off_mono (ls : List (Leaf K V)) {i j : Nat} (h : i ≤ j) : off ls i ≤ off ls j := by
  unfold off
  have : ls.take i = (ls.take j).take i := by rw [List.take_take, Nat.min_eq_left h]
  rw [this]
  have e := congrArg (fun l => (flat l).length) (List.take_append_drop i (ls.take j))
  simp only [flat_append, List.length_append] at e
  omega

theorem loc_lt (ls : List (Leaf K V)) (r : Nat) (hr : r ≤ (flat ls).length) {i : Nat} (h : i < ls.length) : off ls (i + 1) ≤ r ↔ i < (loc ls r).1 := by
  obtain ⟨h1, h2, h3, h4⟩ := loc_spec ls r hr
  constructor
  · intro h5
    rcases Nat.lt_or_ge i (loc ls r).1 with h6 | h6
    · exact h6
    · exfalso
      have h7 := h3 (by omega)
      have h8 := off_succ (ls := ls) (i := (loc ls r).1) (by omega)
      have h9 := off_mono ls (i := (loc ls r).1 + 1) (j := i + 1) (by omega)
      omega
  · intro h5
    have := off_mono ls (i := i + 1) (j := (loc ls r).1) (by omega)
    omega

theorem ins_at {α : Type} (X Y Z : List α) (x : α) (r B : Nat) (hr : r = X.length + B) (hB : B ≤ Y.length) :
    (X ++ (Y ++ Z)).take r ++ x :: (X ++ (Y ++ Z)).drop r = X ++ ((Y.take B ++ x :: Y.drop B) ++ Z) := by
  subst hr
  rw [List.take_append, List.drop_append]
  have h1 : X.length + B - X.length = B := by omega
  rw [h1, List.take_of_length_le (by omega), List.drop_of_length_le (by omega), List.take_append_of_le_length hB, List.drop_append_of_le_length hB]
  simp

theorem set_at {α : Type} (X Y Z : List α) (x : α) (r B : Nat) (hr : r = X.length + B) (hB : B < Y.length) :
    (X ++ (Y ++ Z)).set r x = X ++ (Y.set B x ++ Z) := by
  subst hr
  rw [List.set_append_right _ _ (by omega), Nat.add_sub_cancel_left, List.set_append_left _ _ hB]

theorem del_at {α : Type} (X Y Z : List α) (r B : Nat) (hr : r = X.length + B) (hB : B < Y.length) :
    (X ++ (Y ++ Z)).take r ++ (X ++ (Y ++ Z)).drop (r + 1) = X ++ ((Y.take B ++ Y.drop (B + 1)) ++ Z) := by
  subst hr
  rw [List.take_append, List.drop_append]
  have h1 : X.length + B - X.length = B := by omega
  have h2 : X.length + B + 1 - X.length = B + 1 := by omega
  rw [h1, h2, List.take_of_length_le (by omega), List.drop_of_length_le (by omega), List.take_append_of_le_length (by omega), List.drop_append_of_le_length (by omega)]
  simp

theorem flat_set {ls : List (Leaf K V)} {i : Nat} (h : i < ls.length) (l : Leaf K V) : flat (ls.set i l) = flat (ls.take i) ++ (l.ps ++ flat (ls.drop (i + 1))) := by
  rw [List.set_eq_take_append_cons_drop, if_pos h]
  simp

theorem off_len (ls : List (Leaf K V)) (i : Nat) : (flat (ls.take i)).length = off ls i := rfl
end
end Go.Proofs.Ytdfkokbpidkokaa
