/- Part 37 of the walks and plain laws, joined: ShowV, BldW, Bld2, HexC. -/
import Derived.Test.YtlmfbjhokkpjhaaGreatDoorML31
import Derived.Test.YtlmfbjhokkpjhaaGreatDoorML09
import Derived.Test.YtlmfbjhokkpjhaaGreatDoorShelfM
import Derived.Test.YtlmfbjhokkpjhaaGreatDoorML00
import Derived.Test.YtlmfbjhokkpjhaaGreatDoorML01
import Derived.Lib.OthersKept
import Derived.Lib.FrozenHead2
import Derived.Lib.AppendStr
import Derived.Lib.UnsafeStr
import Derived.Lib.Hide
import Derived.LaidEqlPtr
import Derived.WalkKit
import Derived.Laws.Externs
set_option linter.unusedVariables false
set_option linter.unusedSimpArgs false
namespace Go.Proofs.YtlmfbjhokkpjhaaGreatDoor
open Go
structure Sh (v : ByteArray) (i : Nat) (out : Str) : Prop where
 eq : out ++ showK (i == 0) ((toL v).drop i) 0 = showV (toL v)
 le : i ≤ v.size
 len : out.length ≤ 3 * i
theorem Sh.start (v : ByteArray) : Sh v 0 [] := ⟨rfl, Nat.zero_le _, Zr _⟩
theorem Sh.stop {v : ByteArray} {i : Nat} {out : Str} (h : Sh v i out) (hi : ¬ i < v.size) : out = showV (toL v) := by
 have hz : (toL v).length = v.size := Lib.size_eq v
 have e := h.eq
 rw [List.drop_eq_nil_of_le (by omega)] at e
 simpa [showK] using e
theorem drop_get {v : ByteArray} {i : Nat} (hi : i < v.size) : (toL v).drop i = v[i] :: (toL v).drop (i + 1) := by unfold toL; exact drop_at v hi
theorem succ_fst (i : Nat) : (i + 1 == 0) = false := rfl
theorem Sh.hex {v : ByteArray} {i : Nat} {out : Str} (h : Sh v i out) (hi : i < v.size) (hc : chN ((toL v).drop i) = 0 ∨ (v[i].toNat < 32 ∨ v[i] = 127)) : Sh v (i + 1) (out ++ hexB v[i]) := by
 refine ⟨?_, hi, by have := h.len; simp [hexB]; omega⟩
 rw [succ_fst, ← h.eq, List.append_assoc]
 congr 1
 rcases hc with hc | hc
 ·rw [drop_get hi] at hc ⊢
  rw [showK, if_pos hc]
 ·have h1 : chN ((toL v).drop i) = 1 := by
   rw [drop_get hi]
   refine chN_low _ ?_
   rcases hc with h | h
   ·omega
   ·rw [h]; decide
  rw [drop_get hi] at h1 ⊢
  rw [showK, if_neg (by omega), if_pos hc, h1]
theorem Sh.esc {v : ByteArray} {i : Nat} {out : Str} (h : Sh v i out) (hi : i < v.size) (hn : ¬ (v[i].toNat < 32 ∨ v[i] = 127))
  (hc : [34, 43, 44, 59, 60, 62, 92].contains v[i] = true ∨ (v[i] = 32 ∧ (i = 0 ∨ i + 1 = v.size)) ∨ (v[i] = 35 ∧ i = 0)) : Sh v (i + 1) (out ++ [92, v[i]]) ∧ chN ((toL v).drop i) = 1 := by
 have h1 : chN ((toL v).drop i) = 1 := by
  rw [drop_get hi]
  refine chN_low _ ?_
  have key : ∀ n : Fin 256, ([34, 43, 44, 59, 60, 62, 92].contains (UInt8.ofNat n.val) = true ∨ UInt8.ofNat n.val = 32 ∨ UInt8.ofNat n.val = 35) → n.val < 128 := by decide +kernel
  have := key ⟨v[i].toNat, v[i].toNat_lt⟩
  simp only [UInt8.ofNat_toNat] at this
  exact this (by
   rcases hc with h | ⟨h, _⟩ | ⟨h, _⟩
   ·exact .inl h
   ·exact .inr (.inl h)
   ·exact .inr (.inr h))
 refine ⟨⟨?_, hi, by have := h.len; simp; omega⟩, h1⟩
 rw [succ_fst, ← h.eq, List.append_assoc]
 congr 1
 have hz : (toL v).length = v.size := Lib.size_eq v
 rw [drop_get hi] at h1 ⊢
 rw [showK, if_neg (by omega), if_neg hn, if_pos, h1]
 rcases hc with h | ⟨h, h2⟩ | ⟨h, h2⟩
 ·exact .inl h
 ·refine .inr (.inl ⟨h, ?_⟩)
  rcases h2 with h2 | h2
  ·left; rw [h2]; rfl
  ·right; exact List.drop_eq_nil_of_le (by omega)
 ·exact .inr (.inr ⟨h, by rw [h2]; rfl⟩)
theorem Sh.raw {v : ByteArray} {i n : Nat} {out : Str} (h : Sh v i out) (hi : i < v.size) (hch : chN ((toL v).drop i) = n) (hn1 : 1 ≤ n) (hn2 : i + n ≤ v.size) (hn : ¬ (v[i].toNat < 32 ∨ v[i] = 127))
  (hc : ¬ ([34, 43, 44, 59, 60, 62, 92].contains v[i] = true ∨ (v[i] = 32 ∧ (i = 0 ∨ i + 1 = v.size)) ∨ (v[i] = 35 ∧ i = 0))) : Sh v (i + n) (out ++ ((toL v).drop i).take n) := by
 have hz : (toL v).length = v.size := Lib.size_eq v
 refine ⟨?_, hn2, by have := h.len; simp; omega⟩
 have hf : (i + n == 0) = false := by simp; omega
 rw [hf, ← h.eq, List.append_assoc]
 congr 1
 have hd := drop_get hi
 have e : ((toL v).drop i).drop n = (toL v).drop (i + n) := by rw [List.drop_drop]
 rw [← e]
 rw [hd] at hch ⊢
 obtain ⟨m, rfl⟩ : ∃ m, n = m + 1 := ⟨n - 1, by omega⟩
 rw [showK, if_neg (by omega), if_neg hn, if_neg, hch]
 ·rw [List.take_succ_cons, List.drop_succ_cons]
  show _ = v[i] :: showK false _ m
  rw [List.cons_append]
  congr 1
  by_cases hm : m = 0
  ·subst hm; simp
  ·rw [showK_copy m _ false (by omega)]
 ·intro h2
  refine hc ?_
  rcases h2 with h | ⟨h, h2⟩ | ⟨h, h2⟩
  ·exact .inl h
  ·refine .inr (.inl ⟨h, ?_⟩)
   rcases h2 with h2 | h2
   ·left; simpa using h2
   ·right
    have := congrArg List.length h2
    simp at this
    omega
  ·exact .inr (.inr ⟨h, by simpa using h2⟩)
theorem chN_bad {l : Str} {n : Nat} (h : ∀ m, 1 ≤ m → m < n → Lib.validD (l.take m) = false) (hn : 4 < n ∨ l.length < n) : chN l = 0 := by
 rcases chN_spec l with ⟨h0, _⟩ | ⟨h1, h2, h3, h4, _⟩
 ·exact h0
 ·have := h _ h1 (by omega)
  rw [h4] at this; cases this
theorem chN_good {l : Str} {n : Nat} (h : ∀ m, 1 ≤ m → m < n → Lib.validD (l.take m) = false) (h1 : 1 ≤ n) (h2 : n ≤ 4) (h3 : n ≤ l.length) (hv : Lib.validD (l.take n) = true) : chN l = n := by
 rcases chN_spec l with ⟨_, h0⟩ | ⟨k1, k2, k3, k4, k5⟩
 ·have := h0 n h1 h2 h3
  rw [hv] at this; cases this
 ·rcases Nat.lt_trichotomy (chN l) n with hlt | heq | hgt
  ·have := h _ k1 hlt
   rw [k4] at this; cases this
  ·exact heq
  ·have := k5 n h1 hgt
   rw [hv] at this; cases this
end Go.Proofs.YtlmfbjhokkpjhaaGreatDoor
namespace Go.Proofs.YtlmfbjhokkpjhaaGreatDoor
open Go Go.RowKit
abbrev BldF (B b : Nat) (l : List UInt8) (w : World) : Prop := Lib.IsBuilderF 117 5 B b (Lib.byteCells l) w
set_option maxHeartbeats 1000000 in
set_option maxRecDepth 100000 in
theorem bcheck_used (b : Nat) (w : World) (h0 : w.cell? ⟨b, 0, none⟩ = some (.pointer (some ⟨b, 0, none⟩))) :
  Calls Tryz.prog 112 #[.pointer (some ⟨b, 0, none⟩)] w fun e w' => e = .returned (.tuple #[]) ∧ w' = w := by
 obtain ⟨j, hj, _⟩ := Option.map_eq_some_iff.1 (show (Tryz.prog.info? 117).map (·.size) = some 2 by kernel_rfl)
 go_enter Tryz.func112, Tryz.ntmps112
 go_wp2
 rw [Lib.run_neq_ptr_same w _ Tryz.underlying114 hj]
 go_wp2
 go_end0
 exact ⟨rfl, rfl⟩
set_option maxHeartbeats 1000000 in
set_option maxRecDepth 100000 in
theorem bcheck_fresh (b : Nat) (w : World) (h0 : w.cell? ⟨b, 0, none⟩ = some (.pointer none)) (hsh : w.shape? b = some (117, 2)) (hfz : w.frozen? ⟨b, 0, none⟩ = false) :
  Calls Tryz.prog 112 #[.pointer (some ⟨b, 0, none⟩)] w fun e w' => e = .returned (.tuple #[]) ∧ w' = w.setCell ⟨b, 0, none⟩ (.pointer (some ⟨b, 0, none⟩)) := by
 obtain ⟨j, hj, hjs⟩ := Option.map_eq_some_iff.1 (show (Tryz.prog.info? 117).map (·.size) = some 2 by kernel_rfl)
 go_enter Tryz.func112, Tryz.ntmps112
 go_wp2
 rw [Lib.run_to_unsafe w ⟨b, 0, none⟩ Tryz.underlying114 Tryz.underlying185 hj (by rw [hjs]; decide) hsh (Nat.zero_lt_succ 1)]
 simp only [Result.andThen]
 rw [Oper.upon_value]
 go_wp2
 rw [run_callFunc_extern Tryz.func156 (by kernel_rfl) (by kernel_rfl) (by kernel_rfl) (e := Extern.AbiNoEscape.same) (by kernel_rfl)]
 rw [Lib.run_noEscape]
 simp only [Result.andThen]
 rw [Oper.upon_value]
 go_wp2
 rw [Lib.run_from_unsafe w ⟨b, 0, none⟩ Tryz.underlying185 Tryz.underlying114 hj hsh (by kernel_rfl)]
 simp only [Result.andThen]
 rw [Oper.upon_value]
 go_wp2
 go_end0
 exact ⟨rfl, rfl⟩
def BldPost (B b : Nat) (bs : List Value) (w w' : World) : Prop :=
 Lib.BuilderAtF 117 5 B b (.pointer (some ⟨b, 0, none⟩)) bs w' ∧ Below B w w' ∧ Lib.OthersKept 5 (some b) w w'
theorem bcheck_any (B b : Nat) (bs : List Value) (w : World) (h : Lib.IsBuilderF 117 5 B b bs w) :
  Calls Tryz.prog 112 #[.pointer (some ⟨b, 0, none⟩)] w fun e w' => e = .returned (.tuple #[]) ∧ BldPost B b bs w w' := by
 rcases h with h | h
 ·refine (bcheck_fresh b w h.cell0 h.shape h.frozen0).mono ?_
  rintro e w' ⟨rfl, rfl⟩
  exact ⟨rfl, h.used _, (Zl B w).setCell (p := ⟨b, 0, none⟩) h.1 _, (Lib.OthersKept.refl _ _ w).setCell ⟨b, 0, none⟩ rfl _⟩
 ·refine (bcheck_used b w h.cell0).mono ?_
  rintro e w' ⟨rfl, rfl⟩
  exact ⟨rfl, h, Zl B _, Lib.OthersKept.refl _ _ _⟩
theorem byte_info : ∃ i, Tryz.prog.info? 5 = some i ∧ i.zero = some (.int .u8 0) ∧ i.size = 1 ∧ i.bytes = 1 := by
 have h : (Tryz.prog.info? 5).map (fun i => (i.zero, i.size, i.bytes)) = some (some (.int .u8 0), 1, 1) := by kernel_rfl
 cases hi : Tryz.prog.info? 5 with
 | none => rw [hi] at h; cases h
 | some i =>
  rw [hi] at h
  simp only [Option.map_some, Option.some.injEq, Prod.mk.injEq] at h
  exact ⟨i, rfl, h.1, h.2.1, h.2.2⟩
theorem bld_put {B b : Nat} {bs : List Value} {w w2 : World} {v : Value} {g n cap : Nat} (hB : B ≤ b) (hb2 : w2.heap[b]? = some (.cells #[.pointer (some ⟨b, 0, none⟩), v] 117 (0, 0))) (hn : n = bs.length)
  (hown : w2.ownsRowF B 5 1 (.slice (some ⟨g, 0, none⟩) n cap) n bs) (hb : Below B w w2) (hk : Lib.OthersKept 5 (some b) w w2) :
  BldPost B b bs w (w2.setCell ⟨b, 1, none⟩ (.slice (some ⟨g, 0, none⟩) n cap)) := by
 subst hn
 exact ⟨Lib.BuilderAtF.put hB hb2 (bs' := bs) hown (by decide), hb.setCell (p := ⟨b, 1, none⟩) hB _, hk.setCell ⟨b, 1, none⟩ rfl _⟩
set_option maxHeartbeats 2000000 in
set_option maxRecDepth 100000 in
theorem bbyte_any (B b : Nat) (bs : List Value) (c : Int) (w : World) (h : Lib.IsBuilderF 117 5 B b bs w) (hlen : bs.length + 1 ≤ 140737488355328) (hBw : B ≤ w.heap.size) :
  Calls Tryz.prog 69 #[.pointer (some ⟨b, 0, none⟩), .int .u8 c] w fun e w' => e = .returned .nilIface ∧ BldPost B b (bs ++ [.int .u8 c]) w w' := by
 obtain ⟨i0, hi, hz0, hz1, hz2⟩ := byte_info
 have hck := bcheck_any B b bs w h
 have HCK := Zh hck; clear hck h
 go_enter Tryz.func69, Tryz.ntmps69
 go_wp2_with (go_at_call 112; refine (HCK.out).mono ?_)
 rintro e w1 ⟨rfl, h1, hb1, hk1⟩
 obtain ⟨hB, v, hbk, hown, hne⟩ := h1
 obtain ⟨ao, cap0, rfl⟩ : ∃ ao cap0, v = .slice ao bs.length cap0 := by
  rcases hown.2 with ⟨hv, h0⟩ | ⟨g, cap, cur, fz, hv, _⟩
  ·exact ⟨none, 0, by rw [hv, h0]⟩
  ·exact ⟨_, _, hv⟩
 have c0 : w1.cell? ⟨b, 0, none⟩ = some (.pointer (some ⟨b, 0, none⟩)) := by rw [Lib.cell_of_heap hbk]; rfl
 have c1 : w1.cell? ⟨b, 1, none⟩ = some (.slice ao bs.length cap0) := by rw [Lib.cell_of_heap hbk]; rfl
 go_wp2_with (at_builtin; refine wpList_append_ownF _ rfl _ _ 115 rfl B 5 i0 (.int .u8 0) 1 1 Tryz.underlying115 hi hz0 hz1 hz2 rfl (by decide) _ _ _ rfl (hown.alloc _) ⟨w1.heap.size, 0, none⟩ 1 1 [.int .u8 c] rfl rfl ?c1 ?c2 ?c3 ?c4 ?c5 ?_)
 case c1 =>
  intro j u hj
  match j, hj with
  | 0, hj => simp at hj; subst hj; simp [Addr.add]
 case c2 => intro u hu; simp at hu; subst hu; rfl
 case c3 => unfold maxLen; omega
 case c4 => omega
 case c5 => have := hb1.size; simp; omega
 intro v' w2 hown' hgrow _
 have hlt : b < w1.heap.size := (Array.getElem?_eq_some_iff.1 hbk).1
 have hb2 : w2.heap[b]? = some (.cells #[.pointer (some ⟨b, 0, none⟩), .slice ao bs.length cap0] 117 (0, 0)) := by
  rw [hgrow.block b (by simp; omega) (fun e => hne e.symm), Lib.alloc_old w1 _ b hlt]
  exact hbk
 have d0 : w2.cell? ⟨b, 0, none⟩ = some (.pointer (some ⟨b, 0, none⟩)) := by rw [Lib.cell_of_heap hb2]; rfl
 have d1 : w2.cell? ⟨b, 1, none⟩ = some (.slice ao bs.length cap0) := by rw [Lib.cell_of_heap hb2]; rfl
 have f1 : w2.frozen? ⟨b, 1, none⟩ = false := Lib.frozen_of_heap hb2 1
 obtain ⟨g, cap, rfl⟩ : ∃ g cap, v' = .slice (some ⟨g, 0, none⟩) (bs.length + 1) cap := by
  rcases hown'.2 with ⟨_, h0⟩ | ⟨g, cap, cur, fz, hv, _⟩
  ·omega
  ·exact ⟨g, cap, hv⟩
 have hfin := bld_put (w := w) hB hb2 (bs := bs ++ [.int .u8 c]) (by simp) hown' ((hb1.alloc (by have := hb1.size; omega) _).grown hgrow (by have := hb1.size; simp; omega) (fun k hk => (hown.lt k hk).1)) ((hk1.alloc _).grown hgrow (Lib.ownsRowF_kind (hown.alloc _)))
 have HF := Zh hfin
 clear hfin hown' hgrow hb1 hk1 hown
 go_wp2_with fail
 go_ret
 exact ⟨rfl, HF.out⟩
set_option maxHeartbeats 2000000 in
set_option maxRecDepth 100000 in
theorem bstr_any (B b : Nat) (bs : List Value) (s : ByteArray) (w : World) (h : Lib.IsBuilderF 117 5 B b bs w) (hlen : bs.length + s.size ≤ 140737488355328) (hBw : B ≤ w.heap.size) :
  Calls Tryz.prog 70 #[.pointer (some ⟨b, 0, none⟩), .string s] w fun e w' => e = .returned (.tuple #[.int .i64 s.size, .nilIface]) ∧ BldPost B b (bs ++ Lib.strCells s) w w' := by
 obtain ⟨i0, hi, hz0, hz1, hz2⟩ := byte_info
 have hck := bcheck_any B b bs w h
 have HCK := Zh hck; clear hck h
 go_enter Tryz.func70, Tryz.ntmps70
 go_wp2_with (go_at_call 112; refine (HCK.out).mono ?_)
 rintro e w1 ⟨rfl, h1, hb1, hk1⟩
 obtain ⟨hB, v, hbk, hown, hne⟩ := h1
 obtain ⟨ao, cap0, rfl⟩ : ∃ ao cap0, v = .slice ao bs.length cap0 := by
  rcases hown.2 with ⟨hv, h0⟩ | ⟨g, cap, cur, fz, hv, _⟩
  ·exact ⟨none, 0, by rw [hv, h0]⟩
  ·exact ⟨_, _, hv⟩
 have c0 : w1.cell? ⟨b, 0, none⟩ = some (.pointer (some ⟨b, 0, none⟩)) := by rw [Lib.cell_of_heap hbk]; rfl
 have c1 : w1.cell? ⟨b, 1, none⟩ = some (.slice ao bs.length cap0) := by rw [Lib.cell_of_heap hbk]; rfl
 go_wp2_with (at_builtin; refine Lib.wpList_append_own_stringF _ rfl _ _ 115 9 rfl B 5 i0 Tryz.underlying115 Tryz.underlying9 hi hz0 hz1 hz2 _ _ _ rfl hown s rfl ?c3 ?c4 ?c5 ?_)
 case c3 => unfold maxLen; omega
 case c4 => omega
 case c5 => have := hb1.size; omega
 intro v' w2 hown' hgrow _
 have hlt : b < w1.heap.size := (Array.getElem?_eq_some_iff.1 hbk).1
 have hb2 : w2.heap[b]? = some (.cells #[.pointer (some ⟨b, 0, none⟩), .slice ao bs.length cap0] 117 (0, 0)) := by
  rw [hgrow.block b hlt (fun e => hne e.symm)]
  exact hbk
 have d0 : w2.cell? ⟨b, 0, none⟩ = some (.pointer (some ⟨b, 0, none⟩)) := by rw [Lib.cell_of_heap hb2]; rfl
 have d1 : w2.cell? ⟨b, 1, none⟩ = some (.slice ao bs.length cap0) := by rw [Lib.cell_of_heap hb2]; rfl
 have f1 : w2.frozen? ⟨b, 1, none⟩ = false := Lib.frozen_of_heap hb2 1
 have hsl : (Lib.strCells s).length = s.size := Lib.strCells_length s
 obtain ⟨ao', n', cap', rfl⟩ : ∃ ao n' cap, v' = .slice ao n' cap := by
  rcases hown'.2 with ⟨hv, _⟩ | ⟨g, cap, cur, fz, hv, _⟩
  ·exact ⟨_, _, _, hv⟩
  ·exact ⟨_, _, _, hv⟩
 have hfin : BldPost B b (bs ++ Lib.strCells s) w (w2.setCell ⟨b, 1, none⟩ (.slice ao' n' cap')) :=
  ⟨Lib.BuilderAtF.put hB hb2 (bs' := bs ++ Lib.strCells s) (by simpa [Lib.strCells_length] using hown') (by decide), (hb1.grown hgrow (by have := hb1.size; omega) (fun k hk => (hown.lt k hk).1)).setCell (p := ⟨b, 1, none⟩) hB _, (hk1.grown hgrow (Lib.ownsRowF_kind hown)).setCell ⟨b, 1, none⟩ rfl _⟩
 have HF := Zh hfin
 clear hfin hown' hgrow hb1 hk1 hown
 go_wp2_with fail
 go_ret2
 exact ⟨rfl, HF.out⟩
end Go.Proofs.YtlmfbjhokkpjhaaGreatDoor
namespace Go.Proofs.YtlmfbjhokkpjhaaGreatDoor
open Go Go.RowKit
theorem BldF.keep {B b : Nat} {l : List UInt8} {w w' : World} (h : BldF B b l w) (k : Below w.heap.size w w') : BldF B b l w' := by
 have one : ∀ p, Lib.BuilderAtF 117 5 B b p (Lib.byteCells l) w → Lib.BuilderAtF 117 5 B b p (Lib.byteCells l) w' := by
  rintro p ⟨hB, v, hb, ⟨hl, hv⟩, hne⟩
  refine ⟨hB, v, ?_, ⟨hl, ?_⟩, hne⟩
  ·rw [k.block b (Array.getElem?_eq_some_iff.1 hb).1]; exact hb
  ·rcases hv with h | ⟨g, cap, cur, fz, e, h1, h2, h3⟩
   ·exact .inl h
   ·exact .inr ⟨g, cap, cur, fz, e, h1, by rw [k.block g (Array.getElem?_eq_some_iff.1 h2).1]; exact h2, h3⟩
 exact h.elim (fun x => .inl (one _ x)) (fun x => .inr (one _ x))
theorem BldF.lt {B b : Nat} {l : List UInt8} {w : World} (h : BldF B b l w) : b < w.heap.size := by
 rcases h with h | h <;> exact h.lt
theorem BldF.le {B b : Nat} {l : List UInt8} {w : World} (h : BldF B b l w) : B ≤ b := by
 rcases h with h | h <;> exact h.1
theorem BldF.made (w : World) : BldF w.heap.size w.heap.size [] (w.alloc (.cells #[.pointer none, .slice none 0 0] 117)) :=
 Lib.IsBuilderF.of (Lib.fresh_isBuilder 117 5 w)
abbrev BldK (b : Nat) (w w' : World) : Prop := Lib.OthersKept 5 (some b) w w'
theorem bbyteL (B b : Nat) (l : List UInt8) (c : UInt8) (w : World) (h : BldF B b l w) (hlen : l.length + 1 ≤ 140737488355328) (hBw : B ≤ w.heap.size) :
  Calls Tryz.prog 69 #[.pointer (some ⟨b, 0, none⟩), .int .u8 (c.toNat : Int)] w fun e w' => e = .returned .nilIface ∧ BldF B b (l ++ [c]) w' ∧ Below B w w' ∧ BldK b w w' := by
 refine (bbyte_any B b (Lib.byteCells l) c.toNat w h (by rw [Lib.byteCells_length]; exact hlen) hBw).mono ?_
 rintro e w' ⟨rfl, h1, h2, h3⟩
 refine ⟨rfl, .inr ?_, h2, h3⟩
 rw [Lib.byteCells_append]
 exact h1
theorem bbyteX (B b : Nat) (l : List UInt8) (c : UInt8) (x : Int) (hx : x = (c.toNat : Int)) (w : World) (h : BldF B b l w) (hlen : l.length + 1 ≤ 140737488355328) (hBw : B ≤ w.heap.size) :
  Calls Tryz.prog 69 #[.pointer (some ⟨b, 0, none⟩), .int .u8 x] w fun e w' => e = .returned .nilIface ∧ BldF B b (l ++ [c]) w' ∧ Below B w w' ∧ BldK b w w' := by
 subst hx; exact bbyteL B b l c w h hlen hBw
theorem bstrL (B b : Nat) (l : List UInt8) (s : ByteArray) (w : World) (h : BldF B b l w) (hlen : l.length + s.size ≤ 140737488355328) (hBw : B ≤ w.heap.size) :
  Calls Tryz.prog 70 #[.pointer (some ⟨b, 0, none⟩), .string s] w fun e w' => e = .returned (.tuple #[.int .i64 s.size, .nilIface]) ∧ BldF B b (l ++ s.data.toList) w' ∧ Below B w w' ∧ BldK b w w' := by
 refine (bstr_any B b (Lib.byteCells l) s w h (by rw [Lib.byteCells_length]; exact hlen) hBw).mono ?_
 rintro e w' ⟨rfl, h1, h2, h3⟩
 refine ⟨rfl, .inr ?_, h2, h3⟩
 rw [Lib.byteCells_append]
 exact h1
theorem bstringL (B b : Nat) (l : List UInt8) (w : World) (h : BldF B b l w) (hBw : B ≤ w.heap.size) :
  Calls Tryz.prog 73 #[.pointer (some ⟨b, 0, none⟩)] w fun e w' => e = .returned (.string ⟨l.toArray⟩) ∧ Below B w w' := by
 refine (Tryz.Builder_String_any_f B b l w h hBw).mono ?_
 rintro e w' ⟨rfl, h1, h2⟩
 exact ⟨rfl, h2⟩
theorem blenL (B b : Nat) (l : List UInt8) (w : World) (h : BldF B b l w) :
  Calls Tryz.prog 72 #[.pointer (some ⟨b, 0, none⟩)] w fun e w' => e = .returned (.int .i64 l.length) ∧ w' = w := by
 have := Tryz.Builder_Len_f B b (Lib.byteCells l) w h
 rw [Lib.byteCells_length] at this
 exact this
end Go.Proofs.YtlmfbjhokkpjhaaGreatDoor
namespace Go.Proofs.YtlmfbjhokkpjhaaGreatDoor
open Go Go.RowKit
def hexS : ByteArray := ⟨#[48, 49, 50, 51, 52, 53, 54, 55, 56, 57, 97, 98, 99, 100, 101, 102]⟩
theorem hexS_at (k : Nat) (hk : k < 16) (h : k < hexS.size) : hexS[k]'h = hexC k := by
 have key : ∀ k : Fin 16, hexS[k.val]'(by have := k.isLt; exact this) = hexC k.val := by decide +kernel
 exact key ⟨k, hk⟩
set_option maxRecDepth 20000 in
set_option maxHeartbeats 1000000 in
theorem hex_any (c : UInt8) (w : World) :
  Calls Tryz.prog 114 #[.string ⟨#[c]⟩] w fun e w' => e = .returned (.string ⟨#[hexC (c.toNat / 16), hexC (c.toNat % 16)]⟩) ∧ Below w.heap.size w w' := by
 have hs1 : (⟨#[c]⟩ : ByteArray).size = 1 := rfl
 have hs2 : ∀ h, (⟨#[c]⟩ : ByteArray)[0]'h = c := fun _ => rfl
 have hn := c.toNat_lt
 generalize (⟨#[c]⟩ : ByteArray) = s1 at hs1 hs2 ⊢
 have hs3 : ∀ h, (s1[0]'h).toNat = c.toNat := fun h => by rw [hs2 h]
 have i1 : (0 : Int) < (s1.size : Int) := by omega
 have i2 : (c.toNat : Int) / 16 < 16 := by omega
 have i3 : (0 : Int) ≤ (c.toNat : Int) / 16 := by omega
 clear hs2
 have hmk := BldF.made w
 have hbm : Below w.heap.size w (w.alloc (.cells #[.pointer none, .slice none 0 0] 117)) := (Zl _ w).alloc (Zr _) _
 have HM := Zh (Zi hmk hbm); clear hmk hbm
 go_enter Tryz.func114, Tryz.ntmps114
 go_wp2_with fail
 go_loopw [7] (fun iv wr => ∃ i : Nat, iv = .int .i64 i ∧ i ≤ 1 ∧ BldF w.heap.size w.heap.size (if i = 0 then [] else [hexC (c.toNat / 16), hexC (c.toNat % 16)]) wr ∧ Below w.heap.size w wr) (fun iv _ => 1 - (intOf iv).toNat)
 case atStart => exact ⟨0, rfl, by omega, HM.out.1, HM.out.2⟩
 case round =>
  obtain ⟨i, rfl, hi, hb, hbl⟩ := hrel
  have hBw := hbl.size
  have H1 := Zh hbl; clear hbl
  rcases (by omega : i = 0 ∨ i = 1) with rfl | rfl
  ·rw [if_pos rfl] at hb
   have HB := Zh hb; clear hb
   go_wp2_with (go_at_call 69; with_reducible refine (bbyteL _ _ _ _ _ HB.out (by simp) hBw).mono ?_; rintro e w2 ⟨rfl, hf2, hb2, _⟩)
   have HF2 := Zh hf2; have HB2 := Zh hb2; clear hf2 hb2
   go_at_call 69
   with_reducible refine (bbyteL _ _ _ _ _ HF2.out (by simp) (by have := HB2.out.size; omega)).mono ?_
   rintro e w3 ⟨rfl, hf3, hb3, _⟩
   have HF3 := Zh (Zi hf3 hb3); clear hf3 hb3
   go_wp2_with fail
   refine ⟨⟨1, rfl, by omega, ?_, H1.out.trans (HB2.out.trans HF3.out.2)⟩, by simp [intOf]⟩
   have h := HF3.out.1
   rw [if_neg (by omega)]
   have e1 := hexS_at (c.toNat / 16) (by omega) (by have : hexS.size = 16 := rfl; omega)
   have e2 := hexS_at (c.toNat % 16) (by omega) (by have : hexS.size = 16 := rfl; omega)
   rw [← e1, ← e2]
   exact h
  ·rw [if_neg (by omega)] at hb
   have HB := Zh hb; clear hb
   go_wp2_with (go_at_call 73; with_reducible refine (bstringL _ _ _ _ HB.out hBw).mono ?_; rintro e w2 ⟨rfl, hb2⟩)
   go_ret
   exact ⟨rfl, H1.out.trans hb2⟩
end Go.Proofs.YtlmfbjhokkpjhaaGreatDoor
