/- The place behind a key, and a row turned round. No program here. -/
import Derived.Test.YtdfkokbpidkokaaIt
namespace Go.Proofs.Ytdfkokbpidkokaa
open Go.RowKit

/-- the place of the first pair beyond k -/
def upL {K V : Type} (c : K → K → Int) (l : List (K × V)) (k : K) : Nat := if hasL c l k then rk c l k + 1 else rk c l k
theorem hasL_at {K V : Type} (c : K → K → Int) (l : List (K × V)) (k : K) (p : K × V) (h : l[rk c l k]? = some p) : hasL c l k = (c p.1 k == 0) := by
  unfold hasL
  rw [h]
theorem hasL_end {K V : Type} (c : K → K → Int) (l : List (K × V)) (k : K) (h : ¬ rk c l k < l.length) : hasL c l k = false := by
  unfold hasL
  rw [List.getElem?_eq_none (by omega)]
theorem upL_le {K V : Type} (c : K → K → Int) (l : List (K × V)) (k : K) : upL c l k ≤ l.length := by
  unfold upL
  have := rk_le c l k
  split
  · rename_i h; have := hasL_lt c h; omega
  · exact this

/-- l with its first m pairs half turned: the i outermost pairs on both sides have changed places -/
def Turning {α : Type} (l : List α) (m i : Nat) (l' : List α) : Prop :=
  l'.length = l.length ∧ ∀ t, l'[t]? = if t < m then (if t < i ∨ m - 1 - i < t then l[m - 1 - t]? else l[t]?) else l[t]?
theorem Turning.zero {α : Type} (l : List α) (m : Nat) : Turning l m 0 l := by
  refine ⟨rfl, fun t => ?_⟩
  by_cases h : t < m
  · rw [if_pos h, if_neg (by omega)]
  · rw [if_neg h]
theorem Turning.step {α : Type} {l l' : List α} {m i : Nat} (h : Turning l m i l') (hm : m ≤ l.length) (hi : i < m - 1 - i) {x y : α} (hx : l'[i]? = some x) (hy : l'[m - 1 - i]? = some y) :
    Turning l m (i + 1) ((l'.set i y).set (m - 1 - i) x) := by
  have hl := h.1
  refine ⟨by simp [hl], fun t => ?_⟩
  have h1 := h.2 i
  have h2 := h.2 (m - 1 - i)
  rw [if_pos (by omega), if_neg (by omega), hx] at h1
  rw [if_pos (by omega), if_neg (by omega), hy] at h2
  rw [List.getElem?_set, List.getElem?_set]
  by_cases e1 : m - 1 - i = t
  · subst e1
    rw [if_pos rfl, if_pos (by rw [List.length_set]; omega), if_pos (by omega), if_pos (by omega), show m - 1 - (m - 1 - i) = i by omega, h1]
  · rw [if_neg e1]
    by_cases e2 : i = t
    · subst e2
      rw [if_pos rfl, if_pos (by omega), if_pos (by omega), if_pos (by omega), h2]
    · rw [if_neg e2, h.2 t]
      by_cases e3 : t < m
      · rw [if_pos e3, if_pos e3]
        by_cases e4 : t < i ∨ m - 1 - i < t
        · rw [if_pos e4, if_pos (by omega)]
        · rw [if_neg e4, if_neg (by omega)]
      · rw [if_neg e3, if_neg e3]
theorem Turning.done {α : Type} {l l' : List α} {m i : Nat} (h : Turning l m i l') (hm : m ≤ l.length) (hi : ¬ i < m - 1 - i) : l'.take m = (l.take m).reverse := by
  apply List.ext_getElem?
  intro t
  by_cases e : t < m
  · rw [List.getElem?_take_of_lt e, h.2 t, if_pos e, List.getElem?_reverse (by simp; omega), List.length_take, Nat.min_eq_left hm, List.getElem?_take_of_lt (by omega)]
    by_cases e4 : t < i ∨ m - 1 - i < t
    · rw [if_pos e4]
    · rw [if_neg e4, show m - 1 - t = t by omega]
  · rw [List.getElem?_eq_none (by simp; omega), List.getElem?_eq_none (by simp; omega)]
theorem swap_row {K : Type} {kv : K → Value} {w : World} {g e cap : Nat} {ps : List (K × Value)} {i j : Nat} {x1 y1 : K} {x2 y2 : Value} (hr : Row w g e 2 cap (cells kv ps)) (hi : i < ps.length) (hj : j < ps.length) :
    Row ((((w.setCell ⟨g, i * 2, none⟩ (kv y1)).setCell ⟨g, i * 2 + 1, none⟩ y2).setCell ⟨g, j * 2, none⟩ (kv x1)).setCell ⟨g, j * 2 + 1, none⟩ x2).drew g e 2 cap (cells kv ((ps.set i (y1, y2)).set j (x1, x2))) := by
  have h1 := (hr.set (j := i * 2) (by simp; omega) (kv y1)).set (j := i * 2 + 1) (by simp; omega) y2
  rw [cells_set _ _ _ hi] at h1
  have h2 := (h1.set (j := j * 2) (by simp; omega) (kv x1)).set (j := j * 2 + 1) (by simp; omega) x2
  rw [cells_set _ _ _ (by simpa using hj)] at h2
  exact h2.drew
theorem swap_chg {wc w : World} {g : Nat} {v1 v2 v3 v4 : Value} {o1 o2 o3 o4 : Nat} (h : Chg (fun x => x = g) wc w) :
    Chg (fun x => x = g) wc ((((w.setCell ⟨g, o1, none⟩ v1).setCell ⟨g, o2, none⟩ v2).setCell ⟨g, o3, none⟩ v3).setCell ⟨g, o4, none⟩ v4).drew :=
  ((((h.setCell (p := ⟨g, o1, none⟩) (fun _ => rfl) _).setCell (p := ⟨g, o2, none⟩) (fun _ => rfl) _).setCell (p := ⟨g, o3, none⟩) (fun _ => rfl) _).setCell (p := ⟨g, o4, none⟩) (fun _ => rfl) _).drew
theorem swap_one {K : Type} {ps : List (K × Value)} {i j : Nat} {x y : K × Value} (hx : x.2.oneCell' = true) (hy : y.2.oneCell' = true) (h : ∀ p ∈ ps, p.2.oneCell' = true) : ∀ p ∈ (ps.set i y).set j x, p.2.oneCell' = true := by
  intro p hp
  rcases List.mem_or_eq_of_mem_set hp with h1 | rfl
  · rcases List.mem_or_eq_of_mem_set h1 with h2 | rfl
    · exact h p h2
    · exact hy
  · exact hx
theorem Row.front {K : Type} {kv : K → Value} {w : World} {g e cap : Nat} {ps : List (K × Value)} (hr : Row w g e 2 cap (cells kv ps)) (m : Nat) : Row w g e 2 cap (cells kv (ps.take m)) := by
  have := hr.take (m * 2)
  rwa [cells_take] at this
end Go.Proofs.Ytdfkokbpidkokaa
