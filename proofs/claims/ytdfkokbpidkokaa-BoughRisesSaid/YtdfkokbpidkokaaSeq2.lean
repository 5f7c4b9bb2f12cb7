/- Rows of pairs whose values are turned one by one: the place of a key stays. Plain lists. -/
import Derived.Test.YtdfkokbpidkokaaSeq
namespace Go.Proofs.Ytdfkokbpidkokaa

section
variable {K V U : Type} (c : K → K → Int) (g : V → U)
def onV (p : K × V) : K × U := (p.1, g p.2)
theorem rk_map (l : List (K × V)) (k : K) : rk c (l.map (onV g)) k = rk c l k := by
  unfold rk
  rw [List.takeWhile_map, List.length_map]
  rfl
theorem hasL_map (l : List (K × V)) (k : K) : hasL c (l.map (onV g)) k = hasL c l k := by
  unfold hasL
  rw [rk_map, List.getElem?_map]
  cases l[rk c l k]? <;> rfl
theorem getL_map (l : List (K × V)) (k : K) : getL c (l.map (onV g)) k = (getL c l k).map g := by
  unfold getL
  rw [rk_map, List.getElem?_map]
  cases l[rk c l k]? with
  | none => rfl
  | some p =>
    simp only [Option.map_some, onV]
    split <;> rfl
theorem putL_map (l : List (K × V)) (k : K) (v : V) : putL c (l.map (onV g)) k (g v) = (putL c l k v).map (onV g) := by
  unfold putL
  rw [rk_map, hasL_map]
  split
  · rw [List.map_set]; rfl
  · rw [List.map_append, List.map_cons, List.map_take, List.map_drop]; rfl
theorem delL_map (l : List (K × V)) (k : K) : delL c (l.map (onV g)) k = (delL c l k).map (onV g) := by
  unfold delL
  rw [rk_map, hasL_map]
  split
  · rw [List.map_append, List.map_take, List.map_drop]
  · rfl
theorem sorted_map {l : List (K × V)} (h : Sorted c l) : Sorted c (l.map (onV g)) := by
  unfold Sorted at *
  rw [List.pairwise_map]
  exact h
theorem mem_putL {l : List (K × V)} {k : K} {v : V} {p : K × V} (h : p ∈ putL c l k v) : p = (k, v) ∨ p ∈ l := by
  unfold putL at h
  split at h
  · rcases List.mem_or_eq_of_mem_set h with h | h
    · exact .inr h
    · exact .inl h
  · rw [List.mem_append, List.mem_cons] at h
    rcases h with h | h | h
    · exact .inr (List.mem_of_mem_take h)
    · exact .inl h
    · exact .inr (List.mem_of_mem_drop h)
theorem mem_delL {l : List (K × V)} {k : K} {p : K × V} (h : p ∈ delL c l k) : p ∈ l := by
  unfold delL at h
  split at h
  · rw [List.mem_append] at h
    rcases h with h | h
    · exact List.mem_of_mem_take h
    · exact List.mem_of_mem_drop h
  · exact h
theorem getL_mem {l : List (K × V)} {k : K} {v : V} (h : getL c l k = some v) : ∃ p ∈ l, p.2 = v := by
  unfold getL at h
  split at h
  · rename_i p hp
    split at h
    · exact ⟨p, List.mem_of_getElem? hp, by simpa using h⟩
    · cases h
  · cases h
end
end Go.Proofs.Ytdfkokbpidkokaa
