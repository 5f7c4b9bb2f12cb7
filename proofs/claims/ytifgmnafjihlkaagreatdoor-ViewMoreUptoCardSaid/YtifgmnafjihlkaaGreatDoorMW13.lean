/- Part 13 of the walks and plain laws, joined: PrintV, ShowV, BldW, Bld2, HexC. -/
import Derived.Test.YtifgmnafjihlkaaGreatDoorMW12
import Derived.Test.YtifgmnafjihlkaaGreatDoorMW11
import Derived.Test.YtifgmnafjihlkaaGreatDoorShelf
import Derived.Test.YtifgmnafjihlkaaGreatDoorMW00
import Derived.Test.YtifgmnafjihlkaaGreatDoorMW01
import Derived.Lib.OthersKept
import Derived.Lib.FrozenHead2
import Derived.Lib.AppendStr
import Derived.Lib.UnsafeStr
import Derived.Lib.Hide
import Derived.LaidEqlPtr
import Derived.WalkKit
import Derived.Laws.Externs
/- What the writing of a name does, step by step. Plain. -/
namespace Go.Proofs.YtifgmnafjihlkaaGreatDoor
open Go

theorem showK_len : ∀ (v : Str) (fst : Bool) (k : Nat), (showK fst v k).length ≤ 3 * v.length
  | [], _, k => by cases k <;> simp [showK]
  | c :: v, fst, k + 1 => by rw [showK]; have := showK_len v false k; simp; omega
  | c :: v, fst, 0 => by
    rw [showK]
    have h0 := showK_len v false 0
    have h1 := showK_len v false (chN (c :: v) - 1)
    split
    · simp [hexB]; omega
    · split
      · simp [hexB]; omega
      · split <;> (simp; omega)

theorem avaP_len (a : PAva) : (avaP a).length = (toL a.1).length + 1 + (showV (toL a.2)).length := by unfold avaP; simp; omega

theorem joinP_snoc (c : UInt8) (x : Str) : ∀ l : List Str, joinP c (l ++ [x]) = (if l = [] then [] else joinP c l ++ [c]) ++ x
  | [] => by simp [joinP]
  | [y] => by simp [joinP]
  | y :: z :: l => by
    have ih := joinP_snoc c x (z :: l)
    rw [if_neg (by simp)] at ih ⊢
    show joinP c (y :: z :: (l ++ [x])) = _
    rw [joinP]
    have : joinP c (z :: (l ++ [x])) = joinP c (z :: l ++ [x]) := rfl
    rw [this, ih, joinP]
    simp
def preP (c : UInt8) (l : List Str) (i : Nat) : Str := if i = 0 then [] else joinP c (l.take i) ++ [c]
theorem joinP_step {c : UInt8} {l : List Str} {i : Nat} {x : Str} (h : l[i]? = some x) : joinP c (l.take (i + 1)) = preP c l i ++ x := by
  have hi := (List.getElem?_eq_some_iff.1 h).1
  rw [List.take_add_one, h]
  show joinP c (l.take i ++ [x]) = _
  rw [joinP_snoc]
  unfold preP
  by_cases h0 : i = 0
  · subst h0; simp
  · rw [if_neg h0, if_neg]
    intro e
    have := congrArg List.length e
    simp at this
    rcases this with h | h
    · omega
    · subst h; simp at hi
theorem joinP_mono (c : UInt8) (l : List Str) : ∀ k i, (joinP c (l.take i)).length ≤ (joinP c (l.take (i + k))).length
  | 0, i => Nat.le_refl _
  | k + 1, i => by
    refine Nat.le_trans (joinP_mono c l k i) ?_
    rw [← Nat.add_assoc]
    by_cases h : i + k < l.length
    · rw [joinP_step (List.getElem?_eq_getElem h)]
      unfold preP
      by_cases h0 : i + k = 0
      · rw [show List.take (i + k) l = [] by rw [h0]; rfl]; exact Nat.zero_le _
      · rw [if_neg h0]; simp
        try omega
    · rw [List.take_of_length_le (by omega), List.take_of_length_le (by omega)]; exact Nat.le_refl _
theorem joinP_take_len (c : UInt8) (l : List Str) (i : Nat) : (joinP c (l.take i)).length ≤ (joinP c l).length := by
  have := joinP_mono c l l.length i
  rwa [List.take_of_length_le (i := i + l.length) (by omega)] at this
/-- the text while part i is being written, k pairs of it done -/
def midP (n : PName) (i : Nat) (r : PRdn) (k : Nat) : Str := preP 44 (n.map rdnP) i ++ joinP 43 ((r.map avaP).take k)
theorem midP_end {n : PName} {i : Nat} {r : PRdn} {k : Nat} (h : n[i]? = some r) (hk : r.length ≤ k) : midP n i r k = joinP 44 ((n.map rdnP).take (i + 1)) := by
  unfold midP
  rw [List.take_of_length_le (by simpa using hk)]
  exact (joinP_step (by rw [List.getElem?_map, h]; rfl)).symm
theorem midP_le {n : PName} {i : Nat} {r : PRdn} {k : Nat} (h : n[i]? = some r) : (midP n i r k).length ≤ (nameP n).length := by
  have h1 : (midP n i r k).length ≤ (midP n i r r.length).length := by
    unfold midP
    have := joinP_take_len 43 (r.map avaP) k
    rw [List.take_of_length_le (i := r.length) (by simp)]
    simp only [List.length_append]
    omega
  rw [midP_end h (Nat.le_refl _)] at h1
  exact Nat.le_trans h1 (joinP_take_len _ _ _)
theorem midP_next {n : PName} {i : Nat} {r : PRdn} {k : Nat} {a : PAva} (h : r[k]? = some a) : midP n i r (k + 1) = preP 44 (n.map rdnP) i ++ preP 43 (r.map avaP) k ++ avaP a := by
  unfold midP
  rw [joinP_step (x := avaP a) (by rw [List.getElem?_map, h]; rfl), List.append_assoc]
def Small1 (n : PName) : Prop := n.length ≤ 64 ∧ ∀ r ∈ n, r.length ≤ 8
def Typed2 (n : PName) : Prop := ∀ r ∈ n, r ≠ [] ∧ ∀ a ∈ r, typedV (toL a.1) = true
theorem pv_long {n : PName} (h : 64 < n.length ∨ ∃ r ∈ n, 8 < r.length) : printV n = ([], 3) := by
  unfold printV
  rw [if_pos]
  rcases h with h | ⟨r, hr, h⟩
  · exact .inl h
  · exact .inr (List.any_eq_true.2 ⟨r, hr, by simpa using h⟩)
theorem small1_not {n : PName} (h : Small1 n) : ¬ (64 < n.length ∨ n.any (fun r => decide (8 < r.length)) = true) := by
  rintro (h1 | h1)
  · have := h.1; omega
  · obtain ⟨r, hr, h2⟩ := List.any_eq_true.1 h1
    have := h.2 r hr
    simp at h2; omega
theorem pv_bad {n : PName} (h1 : Small1 n) (h : ∃ r ∈ n, r = [] ∨ ∃ a ∈ r, typedV (toL a.1) = false) : printV n = ([], 60) := by
  unfold printV
  rw [if_neg (small1_not h1), if_pos]
  obtain ⟨r, hr, h⟩ := h
  refine List.any_eq_true.2 ⟨r, hr, ?_⟩
  rcases h with h | ⟨a, ha, h⟩
  · subst h; rfl
  · rw [Bool.or_eq_true]; right
    exact List.any_eq_true.2 ⟨a, ha, by simp [h]⟩
theorem typed2_not {n : PName} (h : Typed2 n) : ¬ (n.any (fun r => r.isEmpty || r.any fun a => !typedV (toL a.1)) = true) := by
  intro h1
  obtain ⟨r, hr, h2⟩ := List.any_eq_true.1 h1
  obtain ⟨h3, h4⟩ := h r hr
  rw [Bool.or_eq_true] at h2
  rcases h2 with h2 | h2
  · exact h3 (by simpa using h2)
  · obtain ⟨a, ha, h5⟩ := List.any_eq_true.1 h2
    rw [h4 a ha] at h5; cases h5
theorem pv_big {n : PName} (h1 : Small1 n) (h2 : Typed2 n) (h : (∃ r ∈ n, ∃ a ∈ r, 65536 < a.1.size ∨ 65536 < a.2.size) ∨ 65536 < (nameP n).length) : printV n = ([], 3) := by
  unfold printV
  rw [if_neg (small1_not h1), if_neg (typed2_not h2), if_pos]
  rcases h with ⟨r, hr, a, ha, h⟩ | h
  · left
    refine List.any_eq_true.2 ⟨r, hr, List.any_eq_true.2 ⟨a, ha, ?_⟩⟩
    rcases h with h | h <;> simp [h]
  · exact .inr h
theorem pv_ok {n : PName} (h1 : Small1 n) (h2 : Typed2 n) (h : ∀ r ∈ n, ∀ a ∈ r, a.1.size ≤ 65536 ∧ a.2.size ≤ 65536) (hl : (nameP n).length ≤ 65536) : printV n = (nameP n, 0) := by
  unfold printV
  rw [if_neg (small1_not h1), if_neg (typed2_not h2), if_neg]
  rintro (h3 | h3)
  · obtain ⟨r, hr, h4⟩ := List.any_eq_true.1 h3
    obtain ⟨a, ha, h5⟩ := List.any_eq_true.1 h4
    have := h r hr a ha
    rw [Bool.or_eq_true, decide_eq_true_eq, decide_eq_true_eq] at h5
    omega
  · omega
end Go.Proofs.YtifgmnafjihlkaaGreatDoor
/- What the writing of a value does, step by step. Plain. -/
namespace Go.Proofs.YtifgmnafjihlkaaGreatDoor
open Go

structure Sh (v : ByteArray) (i : Nat) (out : Str) : Prop where
  eq : out ++ showK (i == 0) ((toL v).drop i) 0 = showV (toL v)
  le : i ≤ v.size
  len : out.length ≤ 3 * i
theorem Sh.start (v : ByteArray) : Sh v 0 [] := ⟨rfl, Nat.zero_le _, Nat.le_refl _⟩
theorem Sh.stop {v : ByteArray} {i : Nat} {out : Str} (h : Sh v i out) (hi : ¬ i < v.size) : out = showV (toL v) := by
  have hz : (toL v).length = v.size := Lib.size_eq v
  have e := h.eq
  rw [List.drop_eq_nil_of_le (by omega)] at e
  simpa [showK] using e
theorem drop_get {v : ByteArray} {i : Nat} (hi : i < v.size) : (toL v).drop i = v[i] :: (toL v).drop (i + 1) := by unfold toL; exact drop_at v hi
theorem succ_fst (i : Nat) : (i + 1 == 0) = false := rfl
theorem Sh.hex {v : ByteArray} {i : Nat} {out : Str} (h : Sh v i out) (hi : i < v.size) (hc : chN ((toL v).drop i) = 0 ∨ (v[i].toNat < 32 ∨ v[i] = 127)) : Sh v (i + 1) (out ++ hexB v[i]) := by
  refine ⟨?_, hi, by have := h.len; simp [hexB]; omega⟩
  rw [succ_fst, ← h.eq, List.append_assoc]
  congr 1
  rcases hc with hc | hc
  · rw [drop_get hi] at hc ⊢
    rw [showK, if_pos hc]
  · have h1 : chN ((toL v).drop i) = 1 := by
      rw [drop_get hi]
      refine chN_low _ ?_
      rcases hc with h | h
      · omega
      · rw [h]; decide
    rw [drop_get hi] at h1 ⊢
    rw [showK, if_neg (by omega), if_pos hc, h1]
theorem Sh.esc {v : ByteArray} {i : Nat} {out : Str} (h : Sh v i out) (hi : i < v.size) (hn : ¬ (v[i].toNat < 32 ∨ v[i] = 127))
    (hc : [34, 43, 44, 59, 60, 62, 92].contains v[i] = true ∨ (v[i] = 32 ∧ (i = 0 ∨ i + 1 = v.size)) ∨ (v[i] = 35 ∧ i = 0)) : Sh v (i + 1) (out ++ [92, v[i]]) ∧ chN ((toL v).drop i) = 1 := by
  have h1 : chN ((toL v).drop i) = 1 := by
    rw [drop_get hi]
    refine chN_low _ ?_
    have key : ∀ n : Fin 256, ([34, 43, 44, 59, 60, 62, 92].contains (UInt8.ofNat n.val) = true ∨ UInt8.ofNat n.val = 32 ∨ UInt8.ofNat n.val = 35) → n.val < 128 := by decide +kernel
    have := key ⟨v[i].toNat, v[i].toNat_lt⟩
    simp only [UInt8.ofNat_toNat] at this
    exact this (by
      rcases hc with h | ⟨h, _⟩ | ⟨h, _⟩
      · exact .inl h
      · exact .inr (.inl h)
      · exact .inr (.inr h))
  refine ⟨⟨?_, hi, by have := h.len; simp; omega⟩, h1⟩
  rw [succ_fst, ← h.eq, List.append_assoc]
  congr 1
  have hz : (toL v).length = v.size := Lib.size_eq v
  rw [drop_get hi] at h1 ⊢
  rw [showK, if_neg (by omega), if_neg hn, if_pos, h1]
  rcases hc with h | ⟨h, h2⟩ | ⟨h, h2⟩
  · exact .inl h
  · refine .inr (.inl ⟨h, ?_⟩)
    rcases h2 with h2 | h2
    · left; rw [h2]; rfl
    · right; exact List.drop_eq_nil_of_le (by omega)
  · exact .inr (.inr ⟨h, by rw [h2]; rfl⟩)
theorem Sh.raw {v : ByteArray} {i n : Nat} {out : Str} (h : Sh v i out) (hi : i < v.size) (hch : chN ((toL v).drop i) = n) (hn1 : 1 ≤ n) (hn2 : i + n ≤ v.size) (hn : ¬ (v[i].toNat < 32 ∨ v[i] = 127))
    (hc : ¬ ([34, 43, 44, 59, 60, 62, 92].contains v[i] = true ∨ (v[i] = 32 ∧ (i = 0 ∨ i + 1 = v.size)) ∨ (v[i] = 35 ∧ i = 0))) : Sh v (i + n) (out ++ ((toL v).drop i).take n) := by
  have hz : (toL v).length = v.size := Lib.size_eq v
  refine ⟨?_, hn2, by have := h.len; simp; omega⟩
  have hf : (i + n == 0) = false := by simp; omega
  rw [hf, ← h.eq, List.append_assoc]
  congr 1
  have hd := drop_get hi
  have e : ((toL v).drop i).drop n = (toL v).drop (i + n) := by rw [List.drop_drop]
  rw [← e]
  rw [hd] at hch ⊢
  obtain ⟨m, rfl⟩ : ∃ m, n = m + 1 := ⟨n - 1, by omega⟩
  rw [showK, if_neg (by omega), if_neg hn, if_neg, hch]
  · rw [List.take_succ_cons, List.drop_succ_cons]
    show _ = v[i] :: showK false _ m
    rw [List.cons_append]
    congr 1
    by_cases hm : m = 0
    · subst hm; simp
    · rw [showK_copy m _ false (by omega)]
  · intro h2
    refine hc ?_
    rcases h2 with h | ⟨h, h2⟩ | ⟨h, h2⟩
    · exact .inl h
    · refine .inr (.inl ⟨h, ?_⟩)
      rcases h2 with h2 | h2
      · left; simpa using h2
      · right
        have := congrArg List.length h2
        simp at this
        omega
    · exact .inr (.inr ⟨h, by simpa using h2⟩)
theorem chN_bad {l : Str} {n : Nat} (h : ∀ m, 1 ≤ m → m < n → Lib.validD (l.take m) = false) (hn : 4 < n ∨ l.length < n) : chN l = 0 := by
  rcases chN_spec l with ⟨h0, _⟩ | ⟨h1, h2, h3, h4, _⟩
  · exact h0
  · have := h _ h1 (by omega)
    rw [h4] at this; cases this
theorem chN_good {l : Str} {n : Nat} (h : ∀ m, 1 ≤ m → m < n → Lib.validD (l.take m) = false) (h1 : 1 ≤ n) (h2 : n ≤ 4) (h3 : n ≤ l.length) (hv : Lib.validD (l.take n) = true) : chN l = n := by
  rcases chN_spec l with ⟨_, h0⟩ | ⟨k1, k2, k3, k4, k5⟩
  · have := h0 n h1 h2 h3
    rw [hv] at this; cases this
  · rcases Nat.lt_trichotomy (chN l) n with hlt | heq | hgt
    · have := h _ k1 hlt
      rw [k4] at this; cases this
    · exact heq
    · have := k5 n h1 hgt
      rw [hv] at this; cases this
end Go.Proofs.YtifgmnafjihlkaaGreatDoor
/- strings.Builder at this program: copyCheck (its panic is cut out of the translation), WriteByte, WriteString. -/
namespace Go.Proofs.YtifgmnafjihlkaaGreatDoor
open Go Go.RowKit

abbrev BldF (B b : Nat) (l : List UInt8) (w : World) : Prop := Lib.IsBuilderF 146 5 B b (Lib.byteCells l) w

set_option maxHeartbeats 1000000 in
set_option maxRecDepth 100000 in
theorem bcheck_used (b : Nat) (w : World) (h0 : w.cell? ⟨b, 0, none⟩ = some (.pointer (some ⟨b, 0, none⟩))) :
    Calls Tryz.prog 141 #[.pointer (some ⟨b, 0, none⟩)] w fun e w' => e = .returned (.tuple #[]) ∧ w' = w := by
  obtain ⟨j, hj, _⟩ := Option.map_eq_some_iff.1 (show (Tryz.prog.info? 146).map (·.size) = some 2 by kernel_rfl)
  go_enter Tryz.func141, Tryz.ntmps141
  go_wp2
  rw [Lib.run_neq_ptr_same w _ Tryz.underlying143 hj]
  go_wp2
  go_end0
  exact ⟨rfl, rfl⟩

set_option maxHeartbeats 1000000 in
set_option maxRecDepth 100000 in
theorem bcheck_fresh (b : Nat) (w : World) (h0 : w.cell? ⟨b, 0, none⟩ = some (.pointer none)) (hsh : w.shape? b = some (146, 2)) (hfz : w.frozen? ⟨b, 0, none⟩ = false) :
    Calls Tryz.prog 141 #[.pointer (some ⟨b, 0, none⟩)] w fun e w' => e = .returned (.tuple #[]) ∧ w' = w.setCell ⟨b, 0, none⟩ (.pointer (some ⟨b, 0, none⟩)) := by
  obtain ⟨j, hj, hjs⟩ := Option.map_eq_some_iff.1 (show (Tryz.prog.info? 146).map (·.size) = some 2 by kernel_rfl)
  go_enter Tryz.func141, Tryz.ntmps141
  go_wp2
  rw [Lib.run_to_unsafe w ⟨b, 0, none⟩ Tryz.underlying143 Tryz.underlying223 hj (by rw [hjs]; decide) hsh (Nat.zero_lt_succ 1)]
  simp only [Result.andThen]
  rw [Oper.upon_value]
  go_wp2
  rw [run_callFunc_extern Tryz.func190 (by kernel_rfl) (by kernel_rfl) (by kernel_rfl) (e := Extern.AbiNoEscape.same) (by kernel_rfl)]
  rw [Lib.run_noEscape]
  simp only [Result.andThen]
  rw [Oper.upon_value]
  go_wp2
  rw [Lib.run_from_unsafe w ⟨b, 0, none⟩ Tryz.underlying223 Tryz.underlying143 hj hsh (by kernel_rfl)]
  simp only [Result.andThen]
  rw [Oper.upon_value]
  go_wp2
  go_end0
  exact ⟨rfl, rfl⟩

def BldPost (B b : Nat) (bs : List Value) (w w' : World) : Prop :=
  Lib.BuilderAtF 146 5 B b (.pointer (some ⟨b, 0, none⟩)) bs w' ∧ Below B w w' ∧ Lib.OthersKept 5 (some b) w w'
theorem bcheck_any (B b : Nat) (bs : List Value) (w : World) (h : Lib.IsBuilderF 146 5 B b bs w) :
    Calls Tryz.prog 141 #[.pointer (some ⟨b, 0, none⟩)] w fun e w' => e = .returned (.tuple #[]) ∧ BldPost B b bs w w' := by
  rcases h with h | h
  · refine (bcheck_fresh b w h.cell0 h.shape h.frozen0).mono ?_
    rintro e w' ⟨rfl, rfl⟩
    exact ⟨rfl, h.used _, (Below.refl B w).setCell (p := ⟨b, 0, none⟩) h.1 _, (Lib.OthersKept.refl _ _ w).setCell ⟨b, 0, none⟩ rfl _⟩
  · refine (bcheck_used b w h.cell0).mono ?_
    rintro e w' ⟨rfl, rfl⟩
    exact ⟨rfl, h, Below.refl B _, Lib.OthersKept.refl _ _ _⟩

theorem byte_info : ∃ i, Tryz.prog.info? 5 = some i ∧ i.zero = some (.int .u8 0) ∧ i.size = 1 ∧ i.bytes = 1 := by
  have h : (Tryz.prog.info? 5).map (fun i => (i.zero, i.size, i.bytes)) = some (some (.int .u8 0), 1, 1) := by kernel_rfl
  cases hi : Tryz.prog.info? 5 with
  | none => rw [hi] at h; cases h
  | some i =>
    rw [hi] at h
    simp only [Option.map_some, Option.some.injEq, Prod.mk.injEq] at h
    exact ⟨i, rfl, h.1, h.2.1, h.2.2⟩

/-- behind an append to the buffer: the builder's head written -/
theorem bld_put {B b : Nat} {bs : List Value} {w w2 : World} {v : Value} {g n cap : Nat} (hB : B ≤ b) (hb2 : w2.heap[b]? = some (.cells #[.pointer (some ⟨b, 0, none⟩), v] 146 (0, 0))) (hn : n = bs.length)
    (hown : w2.ownsRowF B 5 1 (.slice (some ⟨g, 0, none⟩) n cap) n bs) (hb : Below B w w2) (hk : Lib.OthersKept 5 (some b) w w2) :
    BldPost B b bs w (w2.setCell ⟨b, 1, none⟩ (.slice (some ⟨g, 0, none⟩) n cap)) := by
  subst hn
  exact ⟨Lib.BuilderAtF.put hB hb2 (bs' := bs) hown (by decide), hb.setCell (p := ⟨b, 1, none⟩) hB _, hk.setCell ⟨b, 1, none⟩ rfl _⟩

set_option maxHeartbeats 2000000 in
set_option maxRecDepth 100000 in
theorem bbyte_any (B b : Nat) (bs : List Value) (c : Int) (w : World) (h : Lib.IsBuilderF 146 5 B b bs w) (hlen : bs.length + 1 ≤ 140737488355328) (hBw : B ≤ w.heap.size) :
    Calls Tryz.prog 88 #[.pointer (some ⟨b, 0, none⟩), .int .u8 c] w fun e w' => e = .returned .nilIface ∧ BldPost B b (bs ++ [.int .u8 c]) w w' := by
  obtain ⟨i0, hi, hz0, hz1, hz2⟩ := byte_info
  have hck := bcheck_any B b bs w h
  have HCK := Lib.hid hck; clear hck h
  go_enter Tryz.func88, Tryz.ntmps88
  go_wp2_with (go_at_call 141; refine (HCK.out).mono ?_)
  rintro e w1 ⟨rfl, h1, hb1, hk1⟩
  obtain ⟨hB, v, hbk, hown, hne⟩ := h1
  obtain ⟨ao, cap0, rfl⟩ : ∃ ao cap0, v = .slice ao bs.length cap0 := by
    rcases hown.2 with ⟨hv, h0⟩ | ⟨g, cap, cur, fz, hv, _⟩
    · exact ⟨none, 0, by rw [hv, h0]⟩
    · exact ⟨_, _, hv⟩
  have c0 : w1.cell? ⟨b, 0, none⟩ = some (.pointer (some ⟨b, 0, none⟩)) := by rw [Lib.cell_of_heap hbk]; rfl
  have c1 : w1.cell? ⟨b, 1, none⟩ = some (.slice ao bs.length cap0) := by rw [Lib.cell_of_heap hbk]; rfl
  go_wp2_with (at_builtin; refine wpList_append_ownF _ rfl _ _ 144 rfl B 5 i0 (.int .u8 0) 1 1 Tryz.underlying144 hi hz0 hz1 hz2 rfl (by decide) _ _ _ rfl (hown.alloc _) ⟨w1.heap.size, 0, none⟩ 1 1 [.int .u8 c] rfl rfl ?c1 ?c2 ?c3 ?c4 ?c5 ?_)
  case c1 =>
    intro j u hj
    match j, hj with
    | 0, hj => simp at hj; subst hj; simp [Addr.add]
  case c2 => intro u hu; simp at hu; subst hu; rfl
  case c3 => unfold maxLen; omega
  case c4 => omega
  case c5 => have := hb1.size; simp; omega
  intro v' w2 hown' hgrow _
  have hlt : b < w1.heap.size := (Array.getElem?_eq_some_iff.1 hbk).1
  have hb2 : w2.heap[b]? = some (.cells #[.pointer (some ⟨b, 0, none⟩), .slice ao bs.length cap0] 146 (0, 0)) := by
    rw [hgrow.block b (by simp; omega) (fun e => hne e.symm), Lib.alloc_old w1 _ b hlt]
    exact hbk
  have d0 : w2.cell? ⟨b, 0, none⟩ = some (.pointer (some ⟨b, 0, none⟩)) := by rw [Lib.cell_of_heap hb2]; rfl
  have d1 : w2.cell? ⟨b, 1, none⟩ = some (.slice ao bs.length cap0) := by rw [Lib.cell_of_heap hb2]; rfl
  have f1 : w2.frozen? ⟨b, 1, none⟩ = false := Lib.frozen_of_heap hb2 1
  obtain ⟨g, cap, rfl⟩ : ∃ g cap, v' = .slice (some ⟨g, 0, none⟩) (bs.length + 1) cap := by
    rcases hown'.2 with ⟨_, h0⟩ | ⟨g, cap, cur, fz, hv, _⟩
    · omega
    · exact ⟨g, cap, hv⟩
  have hfin := bld_put (w := w) hB hb2 (bs := bs ++ [.int .u8 c]) (by simp) hown' ((hb1.alloc (by have := hb1.size; omega) _).grown hgrow (by have := hb1.size; simp; omega) (fun k hk => (hown.lt k hk).1)) ((hk1.alloc _).grown hgrow (Lib.ownsRowF_kind (hown.alloc _)))
  have HF := Lib.hid hfin
  clear hfin hown' hgrow hb1 hk1 hown
  go_wp2_with fail
  go_ret
  exact ⟨rfl, HF.out⟩

set_option maxHeartbeats 2000000 in
set_option maxRecDepth 100000 in
theorem bstr_any (B b : Nat) (bs : List Value) (s : ByteArray) (w : World) (h : Lib.IsBuilderF 146 5 B b bs w) (hlen : bs.length + s.size ≤ 140737488355328) (hBw : B ≤ w.heap.size) :
    Calls Tryz.prog 89 #[.pointer (some ⟨b, 0, none⟩), .string s] w fun e w' => e = .returned (.tuple #[.int .i64 s.size, .nilIface]) ∧ BldPost B b (bs ++ Lib.strCells s) w w' := by
  obtain ⟨i0, hi, hz0, hz1, hz2⟩ := byte_info
  have hck := bcheck_any B b bs w h
  have HCK := Lib.hid hck; clear hck h
  go_enter Tryz.func89, Tryz.ntmps89
  go_wp2_with (go_at_call 141; refine (HCK.out).mono ?_)
  rintro e w1 ⟨rfl, h1, hb1, hk1⟩
  obtain ⟨hB, v, hbk, hown, hne⟩ := h1
  obtain ⟨ao, cap0, rfl⟩ : ∃ ao cap0, v = .slice ao bs.length cap0 := by
    rcases hown.2 with ⟨hv, h0⟩ | ⟨g, cap, cur, fz, hv, _⟩
    · exact ⟨none, 0, by rw [hv, h0]⟩
    · exact ⟨_, _, hv⟩
  have c0 : w1.cell? ⟨b, 0, none⟩ = some (.pointer (some ⟨b, 0, none⟩)) := by rw [Lib.cell_of_heap hbk]; rfl
  have c1 : w1.cell? ⟨b, 1, none⟩ = some (.slice ao bs.length cap0) := by rw [Lib.cell_of_heap hbk]; rfl
  go_wp2_with (at_builtin; refine Lib.wpList_append_own_stringF _ rfl _ _ 144 9 rfl B 5 i0 Tryz.underlying144 Tryz.underlying9 hi hz0 hz1 hz2 _ _ _ rfl hown s rfl ?c3 ?c4 ?c5 ?_)
  case c3 => unfold maxLen; omega
  case c4 => omega
  case c5 => have := hb1.size; omega
  intro v' w2 hown' hgrow _
  have hlt : b < w1.heap.size := (Array.getElem?_eq_some_iff.1 hbk).1
  have hb2 : w2.heap[b]? = some (.cells #[.pointer (some ⟨b, 0, none⟩), .slice ao bs.length cap0] 146 (0, 0)) := by
    rw [hgrow.block b hlt (fun e => hne e.symm)]
    exact hbk
  have d0 : w2.cell? ⟨b, 0, none⟩ = some (.pointer (some ⟨b, 0, none⟩)) := by rw [Lib.cell_of_heap hb2]; rfl
  have d1 : w2.cell? ⟨b, 1, none⟩ = some (.slice ao bs.length cap0) := by rw [Lib.cell_of_heap hb2]; rfl
  have f1 : w2.frozen? ⟨b, 1, none⟩ = false := Lib.frozen_of_heap hb2 1
  have hsl : (Lib.strCells s).length = s.size := Lib.strCells_length s
  obtain ⟨ao', n', cap', rfl⟩ : ∃ ao n' cap, v' = .slice ao n' cap := by
    rcases hown'.2 with ⟨hv, _⟩ | ⟨g, cap, cur, fz, hv, _⟩
    · exact ⟨_, _, _, hv⟩
    · exact ⟨_, _, _, hv⟩
  have hfin : BldPost B b (bs ++ Lib.strCells s) w (w2.setCell ⟨b, 1, none⟩ (.slice ao' n' cap')) :=
    ⟨Lib.BuilderAtF.put hB hb2 (bs' := bs ++ Lib.strCells s) (by simpa [Lib.strCells_length] using hown') (by decide), (hb1.grown hgrow (by have := hb1.size; omega) (fun k hk => (hown.lt k hk).1)).setCell (p := ⟨b, 1, none⟩) hB _, (hk1.grown hgrow (Lib.ownsRowF_kind hown)).setCell ⟨b, 1, none⟩ rfl _⟩
  have HF := Lib.hid hfin
  clear hfin hown' hgrow hb1 hk1 hown
  go_wp2_with fail
  go_ret2
  exact ⟨rfl, HF.out⟩
end Go.Proofs.YtifgmnafjihlkaaGreatDoor
/- A builder of bytes: kept, written. -/
namespace Go.Proofs.YtifgmnafjihlkaaGreatDoor
open Go Go.RowKit

theorem BldF.keep {B b : Nat} {l : List UInt8} {w w' : World} (h : BldF B b l w) (k : Below w.heap.size w w') : BldF B b l w' := by
  have one : ∀ p, Lib.BuilderAtF 146 5 B b p (Lib.byteCells l) w → Lib.BuilderAtF 146 5 B b p (Lib.byteCells l) w' := by
    rintro p ⟨hB, v, hb, ⟨hl, hv⟩, hne⟩
    refine ⟨hB, v, ?_, ⟨hl, ?_⟩, hne⟩
    · rw [k.block b (Array.getElem?_eq_some_iff.1 hb).1]; exact hb
    · rcases hv with h | ⟨g, cap, cur, fz, e, h1, h2, h3⟩
      · exact .inl h
      · exact .inr ⟨g, cap, cur, fz, e, h1, by rw [k.block g (Array.getElem?_eq_some_iff.1 h2).1]; exact h2, h3⟩
  exact h.elim (fun x => .inl (one _ x)) (fun x => .inr (one _ x))
theorem BldF.lt {B b : Nat} {l : List UInt8} {w : World} (h : BldF B b l w) : b < w.heap.size := by
  rcases h with h | h <;> exact h.lt
theorem BldF.le {B b : Nat} {l : List UInt8} {w : World} (h : BldF B b l w) : B ≤ b := by
  rcases h with h | h <;> exact h.1
theorem BldF.made (w : World) : BldF w.heap.size w.heap.size [] (w.alloc (.cells #[.pointer none, .slice none 0 0] 146)) :=
  Lib.IsBuilderF.of (Lib.fresh_isBuilder 146 5 w)
abbrev BldK (b : Nat) (w w' : World) : Prop := Lib.OthersKept 5 (some b) w w'
theorem bbyteL (B b : Nat) (l : List UInt8) (c : UInt8) (w : World) (h : BldF B b l w) (hlen : l.length + 1 ≤ 140737488355328) (hBw : B ≤ w.heap.size) :
    Calls Tryz.prog 88 #[.pointer (some ⟨b, 0, none⟩), .int .u8 (c.toNat : Int)] w fun e w' => e = .returned .nilIface ∧ BldF B b (l ++ [c]) w' ∧ Below B w w' ∧ BldK b w w' := by
  refine (bbyte_any B b (Lib.byteCells l) c.toNat w h (by rw [Lib.byteCells_length]; exact hlen) hBw).mono ?_
  rintro e w' ⟨rfl, h1, h2, h3⟩
  refine ⟨rfl, .inr ?_, h2, h3⟩
  rw [Lib.byteCells_append]
  exact h1
theorem bbyteX (B b : Nat) (l : List UInt8) (c : UInt8) (x : Int) (hx : x = (c.toNat : Int)) (w : World) (h : BldF B b l w) (hlen : l.length + 1 ≤ 140737488355328) (hBw : B ≤ w.heap.size) :
    Calls Tryz.prog 88 #[.pointer (some ⟨b, 0, none⟩), .int .u8 x] w fun e w' => e = .returned .nilIface ∧ BldF B b (l ++ [c]) w' ∧ Below B w w' ∧ BldK b w w' := by
  subst hx; exact bbyteL B b l c w h hlen hBw
theorem bstrL (B b : Nat) (l : List UInt8) (s : ByteArray) (w : World) (h : BldF B b l w) (hlen : l.length + s.size ≤ 140737488355328) (hBw : B ≤ w.heap.size) :
    Calls Tryz.prog 89 #[.pointer (some ⟨b, 0, none⟩), .string s] w fun e w' => e = .returned (.tuple #[.int .i64 s.size, .nilIface]) ∧ BldF B b (l ++ s.data.toList) w' ∧ Below B w w' ∧ BldK b w w' := by
  refine (bstr_any B b (Lib.byteCells l) s w h (by rw [Lib.byteCells_length]; exact hlen) hBw).mono ?_
  rintro e w' ⟨rfl, h1, h2, h3⟩
  refine ⟨rfl, .inr ?_, h2, h3⟩
  rw [Lib.byteCells_append]
  exact h1
theorem bstringL (B b : Nat) (l : List UInt8) (w : World) (h : BldF B b l w) (hBw : B ≤ w.heap.size) :
    Calls Tryz.prog 92 #[.pointer (some ⟨b, 0, none⟩)] w fun e w' => e = .returned (.string ⟨l.toArray⟩) ∧ Below B w w' := by
  refine (Tryz.Builder_String_any_f B b l w h hBw).mono ?_
  rintro e w' ⟨rfl, h1, h2⟩
  exact ⟨rfl, h2⟩
theorem blenL (B b : Nat) (l : List UInt8) (w : World) (h : BldF B b l w) :
    Calls Tryz.prog 91 #[.pointer (some ⟨b, 0, none⟩)] w fun e w' => e = .returned (.int .i64 l.length) ∧ w' = w := by
  have := Tryz.Builder_Len_f B b (Lib.byteCells l) w h
  rw [Lib.byteCells_length] at this
  exact this
end Go.Proofs.YtifgmnafjihlkaaGreatDoor
/- octet.Hex at one byte. -/
namespace Go.Proofs.YtifgmnafjihlkaaGreatDoor
open Go Go.RowKit

def hexS : ByteArray := ⟨#[48, 49, 50, 51, 52, 53, 54, 55, 56, 57, 97, 98, 99, 100, 101, 102]⟩
theorem hexS_at (k : Nat) (hk : k < 16) (h : k < hexS.size) : hexS[k]'h = hexC k := by
  have key : ∀ k : Fin 16, hexS[k.val]'(by have := k.isLt; exact this) = hexC k.val := by decide +kernel
  exact key ⟨k, hk⟩
theorem hex_hi {n : Nat} (hn : n < 256) (h : ((n : Int) / 16).toNat < hexS.size) : hexS[((n : Int) / 16).toNat]'h = hexC (n / 16) := by
  have e : ((n : Int) / 16).toNat = n / 16 := by omega
  simp only [e]
  exact hexS_at _ (by omega) _
theorem hex_lo {n : Nat} {x : Int} (hx : x = ((n % 16 : Nat) : Int)) (h : x.toNat < hexS.size) : hexS[x.toNat]'h = hexC (n % 16) := by
  have e : x.toNat = n % 16 := by omega
  simp only [e]
  exact hexS_at _ (by omega) _
set_option maxRecDepth 20000 in
set_option maxHeartbeats 1000000 in
theorem hex_any (c : UInt8) (w : World) :
    Calls Tryz.prog 142 #[.string ⟨#[c]⟩] w fun e w' => e = .returned (.string ⟨#[hexC (c.toNat / 16), hexC (c.toNat % 16)]⟩) ∧ Below w.heap.size w w' := by
  have hs1 : (⟨#[c]⟩ : ByteArray).size = 1 := rfl
  have hs2 : ∀ h, (⟨#[c]⟩ : ByteArray)[0]'h = c := fun _ => rfl
  have hn := c.toNat_lt
  generalize (⟨#[c]⟩ : ByteArray) = s1 at hs1 hs2 ⊢
  have hs3 : ∀ h, (s1[0]'h).toNat = c.toNat := fun h => by rw [hs2 h]
  have i1 : (0 : Int) < (s1.size : Int) := by omega
  have i2 : (c.toNat : Int) / 16 < 16 := by omega
  have i3 : (0 : Int) ≤ (c.toNat : Int) / 16 := by omega
  clear hs2
  have hmk := BldF.made w
  have hbm : Below w.heap.size w (w.alloc (.cells #[.pointer none, .slice none 0 0] 146)) := (Below.refl _ w).alloc (Nat.le_refl _) _
  have HM := Lib.hid (And.intro hmk hbm); clear hmk hbm
  go_enter Tryz.func142, Tryz.ntmps142
  go_wp2_with fail
  go_loopw [7] (fun iv wr => ∃ i : Nat, iv = .int .i64 i ∧ i ≤ 1 ∧ BldF w.heap.size w.heap.size (if i = 0 then [] else [hexC (c.toNat / 16), hexC (c.toNat % 16)]) wr ∧ Below w.heap.size w wr) (fun iv _ => 1 - (intOf iv).toNat)
  case atStart => exact ⟨0, rfl, by omega, HM.out.1, HM.out.2⟩
  case round =>
    obtain ⟨i, rfl, hi, hb, hbl⟩ := hrel
    have hBw := hbl.size
    have H1 := Lib.hid hbl; clear hbl
    rcases (by omega : i = 0 ∨ i = 1) with rfl | rfl
    · rw [if_pos rfl] at hb
      have HB := Lib.hid hb; clear hb
      go_wp2_with (go_at_call 88; with_reducible refine (bbyteL _ _ _ _ _ HB.out (by simp) hBw).mono ?_; rintro e w2 ⟨rfl, hf2, hb2, _⟩)
      have HF2 := Lib.hid hf2; have HB2 := Lib.hid hb2; clear hf2 hb2
      go_at_call 88
      with_reducible refine (bbyteL _ _ _ _ _ HF2.out (by simp) (by have := HB2.out.size; omega)).mono ?_
      rintro e w3 ⟨rfl, hf3, hb3, _⟩
      have HF3 := Lib.hid (And.intro hf3 hb3); clear hf3 hb3
      go_wp2_with fail
      refine ⟨⟨1, rfl, by omega, ?_, H1.out.trans (HB2.out.trans HF3.out.2)⟩, by simp [intOf]⟩
      have h := HF3.out.1
      rw [if_neg (by omega)]
      have e1 := hexS_at (c.toNat / 16) (by omega) (by have : hexS.size = 16 := rfl; omega)
      have e2 := hexS_at (c.toNat % 16) (by omega) (by have : hexS.size = 16 := rfl; omega)
      rw [← e1, ← e2]
      exact h
    · rw [if_neg (by omega)] at hb
      have HB := Lib.hid hb; clear hb
      go_wp2_with (go_at_call 92; with_reducible refine (bstringL _ _ _ _ HB.out hBw).mono ?_; rintro e w2 ⟨rfl, hb2⟩)
      go_ret
      exact ⟨rfl, H1.out.trans hb2⟩
end Go.Proofs.YtifgmnafjihlkaaGreatDoor
