/- BoughPlays: a bough of numbers and the document's, side by side in memory; what each call on one of them leaves. -/
import Derived.Test.YtdfkokbpidkokaaTold
import Derived.Test.YtdfkokbpidkokaaUpB
namespace Go.Proofs.Ytdfkokbpidkokaa
open Go.RowKit

def vs (l : List (Int × ByteArray)) : List (Int × Value) := l.map (onV Value.string)
theorem vs_len (l : List (Int × ByteArray)) : (vs l).length = l.length := by simp [vs]
/-- the two structures; FT: their blocks -/
def PS (o : Int) (h t : Nat) (lb lr : List (Int × ByteArray)) (p : Nat) (FT : List Nat) (W : World) : Prop :=
  ∃ F pg pc, HasB o W h (vs lb) p F ∧ PRep W o t lr pg pc ∧ (∀ x ∈ F, x ≠ t ∧ pg ≠ some x) ∧ FT = F ++ t :: pg.toList
/-- what a call leaves that may turn them -/
def PTurn (o : Int) (h t : Nat) (lb lr : List (Int × ByteArray)) (p : Nat) (FT : List Nat) (W W' : World) : Prop :=
  ∃ FT', PS o h t lb lr p FT' W' ∧ Chg (fun x => x ∈ FT) W W' ∧ ∀ x ∈ FT', x ∈ FT ∨ W.heap.size ≤ x

section
variable {o : Int} {h t : Nat} {lb lr : List (Int × ByteArray)} {p : Nat} {FT : List Nat} {W : World}
theorem PS.lt (H : PS o h t lb lr p FT W) : ∀ x ∈ FT, x < W.heap.size := by
  obtain ⟨F, pg, pc, h1, h2, h3, rfl⟩ := H
  intro x hx
  rw [List.mem_append, List.mem_cons, Option.mem_toList] at hx
  rcases hx with hx | rfl | hx
  · exact h1.lt x hx
  · exact h2.lt
  · exact h2.plt x hx
theorem PS.keep {W' : World} (H : PS o h t lb lr p FT W) (hk : ∀ x ∈ FT, W'.heap[x]? = W.heap[x]?) : PS o h t lb lr p FT W' := by
  obtain ⟨F, pg, pc, h1, h2, h3, rfl⟩ := H
  exact ⟨F, pg, pc, h1.keep (fun x hx => hk x (by simp [hx])), h2.keep (hk t (by simp)) (fun g hg => hk g (by simp [hg])), h3, rfl⟩
theorem PS.chg {S : Nat → Prop} {W' : World} (H : PS o h t lb lr p FT W) (hc : Chg S W W') (hn : ∀ x ∈ FT, ¬ S x) : PS o h t lb lr p FT W' :=
  H.keep fun x hx => hc.block x (H.lt x hx) (hn x hx)
theorem PS.mono {p' : Nat} (H : PS o h t lb lr p FT W) (hp : p ≤ p') : PS o h t lb lr p' FT W := by
  obtain ⟨F, pg, pc, h1, h2⟩ := H
  exact ⟨F, pg, pc, h1.mono hp, h2⟩
theorem PTurn.same {W' : World} (H : PS o h t lb lr p FT W) (hc : Chg (fun _ => False) W W') : PTurn o h t lb lr p FT W W' :=
  ⟨FT, H.chg hc (fun _ _ h => h), hc.mono (fun _ _ h => h.elim), fun _ h => .inl h⟩

theorem ps_bput (H : PS o h t lb lr p FT W) (k : Int) (s : ByteArray) (hs : Sorted (cmpI o) lb) (hp : p ≤ 70368744177664) :
    Calls Try.prog 47 #[.pointer (some ⟨h, 0, none⟩), .int .i64 k, .string s] W fun e W' => e = .returned (.bool (!hasL (cmpI o) lb k)) ∧ PTurn o h t (putL (cmpI o) lb k s) lr (max 16 (p + 1)) FT W W' := by
  obtain ⟨F, pg, pc, h1, h2, h3, rfl⟩ := H
  refine (put_hasB h1 k s (sorted_map _ _ hs) hp).mono ?_
  rintro e W' ⟨rfl, F', h4, h5, h6⟩
  rw [vs, putL_map] at h4
  refine ⟨by rw [vs, hasL_map], F' ++ t :: pg.toList, ⟨F', pg, pc, h4, h2.chg h5 (fun hm => (h3 t hm).1 rfl) (fun g hg hm => (h3 g hm).2 hg), fun x hx => ?_, rfl⟩, h5.mono (fun x _ hx => by simp [hx]), fun x hx => ?_⟩
  · rcases h6 x hx with h7 | h7
    · exact h3 x h7
    · exact ⟨fun e => by have := h2.lt; omega, fun e => by have := h2.plt x e; omega⟩
  · rw [List.mem_append] at hx
    rcases hx with hx | hx
    · exact (h6 x hx).imp (fun h => by simp [h]) id
    · exact .inl (by rw [List.mem_append]; exact .inr hx)
theorem ps_bdel (H : PS o h t lb lr p FT W) (k : Int) (hs : Sorted (cmpI o) lb) (hp : p ≤ 70368744177664) :
    Calls Try.prog 48 #[.pointer (some ⟨h, 0, none⟩), .int .i64 k] W fun e W' => e = .returned (.bool (hasL (cmpI o) lb k)) ∧ PTurn o h t (delL (cmpI o) lb k) lr p FT W W' := by
  obtain ⟨F, pg, pc, h1, h2, h3, rfl⟩ := H
  refine (del_hasB h1 k (sorted_map _ _ hs) hp).mono ?_
  rintro e W' ⟨rfl, F', h4, h5, h6⟩
  rw [vs, delL_map] at h4
  refine ⟨by rw [vs, hasL_map], F' ++ t :: pg.toList, ⟨F', pg, pc, h4, h2.chg h5 (fun hm => (h3 t hm).1 rfl) (fun g hg hm => (h3 g hm).2 hg), fun x hx => ?_, rfl⟩, h5.mono (fun x _ hx => by simp [hx]), fun x hx => ?_⟩
  · rcases h6 x hx with h7 | h7
    · exact h3 x h7
    · exact ⟨fun e => by have := h2.lt; omega, fun e => by have := h2.plt x e; omega⟩
  · rw [List.mem_append] at hx
    rcases hx with hx | hx
    · exact (h6 x hx).imp (fun h => by simp [h]) id
    · exact .inl (by rw [List.mem_append]; exact .inr hx)
theorem PS.ref {F : List Nat} {pg : Option Nat} {lr' : List (Int × ByteArray)} {W' : World} (h1 : HasB o W h (vs lb) p F) (h2 : t < W.heap.size) (h2' : ∀ g, pg = some g → g < W.heap.size) (h3 : ∀ x ∈ F, x ≠ t ∧ pg ≠ some x) (T : PPost o W t pg lr' W') :
    PTurn o h t lb lr' p (F ++ t :: pg.toList) W W' := by
  obtain ⟨pg', pc', h4, h5, h6⟩ := T
  refine ⟨F ++ t :: pg'.toList, ⟨F, pg', pc', h1.chg h5 (fun x hx hm => ?_), h4, fun x hx => ⟨(h3 x hx).1, fun e => ?_⟩, rfl⟩, h5.mono (fun x _ hx => ?_), fun x hx => ?_⟩
  · rcases hm with hm | hm
    · exact (h3 x hx).1 hm
    · exact (h3 x hx).2 hm
  · rcases h6 x e with h7 | h7
    · exact (h3 x hx).2 h7
    · have := h1.lt x hx; omega
  · rcases hx with rfl | rfl <;> simp
  · rw [List.mem_append, List.mem_cons, Option.mem_toList] at hx
    rcases hx with hx | rfl | hx
    · exact .inl (by simp [hx])
    · exact .inl (by simp)
    · rcases h6 x hx with h7 | h7
      · exact .inl (by simp [h7])
      · exact .inr h7
theorem ps_rput (H : PS o h t lb lr p FT W) (k : Int) (s : ByteArray) (hl : (lr.length + 1) * 24 ≤ 140737488355328) :
    Calls Try.prog 53 #[.pointer (some ⟨t, 0, none⟩), .int .i64 k, .string s] W fun e W' => e = .returned (.bool (!hasL (cmpI o) lr k)) ∧ PTurn o h t lb (putL (cmpI o) lr k s) p FT W W' := by
  obtain ⟨F, pg, pc, h1, h2, h3, rfl⟩ := H
  refine (put_p h2 k s hl).mono ?_
  rintro e W' ⟨rfl, T⟩
  exact ⟨rfl, PS.ref h1 h2.lt h2.plt h3 T⟩
theorem ps_rdel (H : PS o h t lb lr p FT W) (k : Int) (hl : (lr.length + 1) * 24 ≤ 140737488355328) :
    Calls Try.prog 54 #[.pointer (some ⟨t, 0, none⟩), .int .i64 k] W fun e W' => e = .returned (.bool (hasL (cmpI o) lr k)) ∧ PTurn o h t lb (delL (cmpI o) lr k) p FT W W' := by
  obtain ⟨F, pg, pc, h1, h2, h3, rfl⟩ := H
  refine (del_p h2 k hl).mono ?_
  rintro e W' ⟨rfl, T⟩
  exact ⟨rfl, PS.ref h1 h2.lt h2.plt h3 T⟩
theorem ps_bget (H : PS o h t lb lr p FT W) (k : Int) (hs : Sorted (cmpI o) lb) (hp : p ≤ 70368744177664) :
    Calls Try.prog 43 #[.pointer (some ⟨h, 0, none⟩), .int .i64 k] W fun e W' => e = .returned (.tuple #[.string ((getL (cmpI o) lb k).getD ByteArray.empty), .bool (hasL (cmpI o) lb k)]) ∧ Chg (fun _ => False) W W' := by
  obtain ⟨F, pg, pc, h1, h2, h3, rfl⟩ := H
  refine (get_hasB h1 k (sorted_map _ _ hs) hp).mono ?_
  rintro e W' ⟨rfl, hc⟩
  refine ⟨?_, hc⟩
  rw [vs, getL_map, hasL_map]
  cases getL (cmpI o) lb k <;> rfl
theorem ps_rget (H : PS o h t lb lr p FT W) (k : Int) (hl : lr.length ≤ 4611686018427387903) :
    Calls Try.prog 55 #[.pointer (some ⟨t, 0, none⟩), .int .i64 k] W fun e W' => e = .returned (.tuple #[.string ((getL (cmpI o) lr k).getD ByteArray.empty), .bool (hasL (cmpI o) lr k)]) ∧ ∃ n, W' = W.drewN n := by
  obtain ⟨F, pg, pc, h1, h2, h3, rfl⟩ := H
  exact get_p h2 k hl
theorem ps_brank (H : PS o h t lb lr p FT W) (k : Int) (hs : Sorted (cmpI o) lb) (hp : p ≤ 70368744177664) :
    Calls Try.prog 49 #[.pointer (some ⟨h, 0, none⟩), .int .i64 k] W fun e W' => e = .returned (.int .i64 (rk (cmpI o) lb k)) ∧ ∃ n, W' = W.drewN n := by
  obtain ⟨F, pg, pc, h1, h2, h3, rfl⟩ := H
  refine (rank_hasB h1 k (sorted_map _ _ hs) hp).mono ?_
  rintro e W' ⟨rfl, hc⟩
  exact ⟨by rw [vs, rk_map], hc⟩
theorem ps_rrank (H : PS o h t lb lr p FT W) (k : Int) (hl : lr.length ≤ 4611686018427387903) :
    Calls Try.prog 56 #[.pointer (some ⟨t, 0, none⟩), .int .i64 k] W fun e W' => e = .returned (.int .i64 (rk (cmpI o) lr k)) ∧ ∃ n, W' = W.drewN n := by
  obtain ⟨F, pg, pc, h1, h2, h3, rfl⟩ := H
  exact rank_p h2 k hl
theorem ps_blen (H : PS o h t lb lr p FT W) : Calls Try.prog 28 #[.pointer (some ⟨h, 0, none⟩)] W fun e W' => e = .returned (.int .i64 lb.length) ∧ W = W' := by
  obtain ⟨F, pg, pc, h1, h2, h3, rfl⟩ := H
  refine (len_hasB h1).mono ?_
  rintro e W' ⟨rfl, hc⟩
  exact ⟨by rw [vs_len], hc⟩
theorem ps_rlen (H : PS o h t lb lr p FT W) : Calls Try.prog 29 #[.pointer (some ⟨t, 0, none⟩)] W fun e W' => e = .returned (.int .i64 lr.length) ∧ W = W' := by
  obtain ⟨F, pg, pc, h1, h2, h3, rfl⟩ := H
  exact len_p h2

/-- what Nth tells -/
def nthK (l : List (Int × ByteArray)) (i : Int) : Int := if 0 ≤ i then (l[i.toNat]?.map (·.1)).getD 0 else 0
def nthV (l : List (Int × ByteArray)) (i : Int) : ByteArray := if 0 ≤ i then (l[i.toNat]?.map (·.2)).getD ByteArray.empty else ByteArray.empty
def nthO (l : List (Int × ByteArray)) (i : Int) : Bool := decide (0 ≤ i ∧ i < l.length)
theorem nth_in {l : List (Int × ByteArray)} {i : Nat} (hi : i < l.length) : nthK l i = (l[i]).1 ∧ nthV l i = (l[i]).2 ∧ nthO l i = true := by
  unfold nthK nthV nthO
  rw [if_pos (by omega), if_pos (by omega), Int.toNat_natCast, List.getElem?_eq_getElem hi]
  exact ⟨rfl, rfl, decide_eq_true (by omega)⟩
theorem nth_out {l : List (Int × ByteArray)} {i : Int} (hi : i < 0 ∨ l.length ≤ i) : nthK l i = 0 ∧ nthV l i = ByteArray.empty ∧ nthO l i = false := by
  unfold nthK nthV nthO
  rcases hi with hi | hi
  · rw [if_neg (by omega), if_neg (by omega)]
    exact ⟨rfl, rfl, decide_eq_false (by omega)⟩
  · rw [List.getElem?_eq_none (by omega)]
    refine ⟨by split <;> rfl, by split <;> rfl, decide_eq_false (by omega)⟩
theorem ps_bnth (H : PS o h t lb lr p FT W) (i : Int) (hp : p ≤ 70368744177664) :
    Calls Try.prog 44 #[.pointer (some ⟨h, 0, none⟩), .int .i64 i] W fun e W' => e = .returned (.tuple #[.int .i64 (nthK lb i), .string (nthV lb i), .bool (nthO lb i)]) ∧ Chg (fun _ => False) W W' := by
  obtain ⟨F, pg, pc, h1, h2, h3, rfl⟩ := H
  by_cases hi : i < 0 ∨ (lb.length : Int) ≤ i
  · refine (nth_has_outB h1 i (by rw [vs_len]; exact hi)).mono ?_
    rintro e W' ⟨rfl, hc⟩
    obtain ⟨e1, e2, e3⟩ := nth_out hi
    rw [e1, e2, e3]
    exact ⟨rfl, hc⟩
  · obtain ⟨j, rfl⟩ : ∃ j : Nat, i = j := ⟨i.toNat, by omega⟩
    have hj : j < lb.length := by omega
    refine (nth_has_inB h1 hp j (by rw [vs_len]; exact hj)).mono ?_
    rintro e W' ⟨rfl, hc⟩
    obtain ⟨e1, e2, e3⟩ := nth_in hj
    rw [e1, e2, e3]
    refine ⟨?_, hc⟩
    simp [vs, onV]
theorem ps_rnth (H : PS o h t lb lr p FT W) (i : Int) (hl : lr.length ≤ 4611686018427387903) :
    Calls Try.prog 57 #[.pointer (some ⟨t, 0, none⟩), .int .i64 i] W fun e W' => e = .returned (.tuple #[.int .i64 (nthK lr i), .string (nthV lr i), .bool (nthO lr i)]) ∧ ∃ n, W' = W.drewN n := by
  obtain ⟨F, pg, pc, h1, h2, h3, rfl⟩ := H
  by_cases hi : i < 0 ∨ (lr.length : Int) ≤ i
  · refine (nth_out_p h2 i hi).mono ?_
    rintro e W' ⟨rfl, rfl⟩
    obtain ⟨e1, e2, e3⟩ := nth_out hi
    rw [e1, e2, e3]
    exact ⟨rfl, 0, rfl⟩
  · obtain ⟨j, rfl⟩ : ∃ j : Nat, i = j := ⟨i.toNat, by omega⟩
    have hj : j < lr.length := by omega
    refine (nth_in_p h2 j hj hl).mono ?_
    rintro e W' ⟨rfl, hc⟩
    obtain ⟨e1, e2, e3⟩ := nth_in hj
    rw [e1, e2, e3]
    exact ⟨rfl, hc⟩

/-- an iterator over pairs, fresh -/
def GivesS (W : World) (ps : List (Int × ByteArray)) (e : Ending) (W' : World) : Prop := GivesIterB W (vs ps) e W'
theorem ps_ball (H : PS o h t lb lr p FT W) (hby : 24 * lb.length ≤ 281474976710656) : Calls Try.prog 26 #[.pointer (some ⟨h, 0, none⟩)] W (GivesS W lb) := by
  obtain ⟨F, pg, pc, h1, h2, h3, rfl⟩ := H
  exact all_hasB h1 (by rw [vs_len]; exact hby)
theorem ps_bfrom (H : PS o h t lb lr p FT W) (k : Int) (hs : Sorted (cmpI o) lb) (hby : 24 * lb.length ≤ 281474976710656) : Calls Try.prog 45 #[.pointer (some ⟨h, 0, none⟩), .int .i64 k] W (GivesS W (lb.drop (rk (cmpI o) lb k))) := by
  obtain ⟨F, pg, pc, h1, h2, h3, rfl⟩ := H
  have := from_hasB h1 k (sorted_map _ _ hs) (by rw [vs_len]; exact hby)
  rw [vs, rk_map, ← List.map_drop] at this
  exact this
theorem ps_bup (H : PS o h t lb lr p FT W) (k : Int) (hs : Sorted (cmpI o) lb) (hby : 24 * lb.length ≤ 281474976710656) : Calls Try.prog 46 #[.pointer (some ⟨h, 0, none⟩), .int .i64 k] W (GivesS W (lb.take (upL (cmpI o) lb k)).reverse) := by
  obtain ⟨F, pg, pc, h1, h2, h3, rfl⟩ := H
  have := up_hasB h1 k (sorted_map _ _ hs) (by rw [vs_len]; exact hby)
  rw [vs, show upL (cmpI o) (lb.map (onV Value.string)) k = upL (cmpI o) lb k by unfold upL; rw [hasL_map, rk_map], ← List.map_take, ← List.map_reverse] at this
  exact this
theorem ps_rall (H : PS o h t lb lr p FT W) (hby : lr.length * 24 ≤ 140737488355328) : Calls Try.prog 27 #[.pointer (some ⟨t, 0, none⟩)] W (GivesP W lr) := by
  obtain ⟨F, pg, pc, h1, h2, h3, rfl⟩ := H
  exact all_p h2 hby
theorem ps_rfrom (H : PS o h t lb lr p FT W) (k : Int) (hby : lr.length * 24 ≤ 140737488355328) : Calls Try.prog 58 #[.pointer (some ⟨t, 0, none⟩), .int .i64 k] W (GivesP W (lr.drop (rk (cmpI o) lr k))) := by
  obtain ⟨F, pg, pc, h1, h2, h3, rfl⟩ := H
  exact from_p h2 k hby
theorem ps_rup (H : PS o h t lb lr p FT W) (k : Int) (hs : Sorted (cmpI o) lr) (hby : lr.length * 24 ≤ 140737488355328) : Calls Try.prog 59 #[.pointer (some ⟨t, 0, none⟩), .int .i64 k] W (GivesP W (lr.take (upL (cmpI o) lr k)).reverse) := by
  obtain ⟨F, pg, pc, h1, h2, h3, rfl⟩ := H
  exact up_p h2 hs k hby
end
end Go.Proofs.Ytdfkokbpidkokaa
