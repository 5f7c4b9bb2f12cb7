/- Part 1 of the walks and plain laws, joined: Buf, Wide, Only, Bts, Lower, Utf, UtfV, Squeeze, Zap. -/
import Derived.Test.YtlmfbjhokkpjhaaGreatDoorNM00
import Derived.Test.YtlmfbjhokkpjhaaGreatDoorProg
import Derived.Test.YtlmfbjhokkpjhaaGreatDoorShelfS
import Derived.Laws.IdiomStrings
import Derived.Laws.MakeOwn
import Derived.Laws.OwnMore
import Derived.Lib.AppendIntMem
import Derived.Lib.ItoaLen
import Derived.Lib.ConvBytes
import Derived.Laws.RangeAny
import Derived.Lib.MapLaws
import Derived.Lib.ValidU
import Derived.Lib.FieldsU
import Derived.Lib.Replace
import Derived.Lib.ReplaceLaws
import Derived.Lib.IndexBytes
set_option linter.unusedVariables false
set_option linter.unusedSimpArgs false
namespace Go.Proofs.YtlmfbjhokkpjhaaGreatDoor
open Go Go.RowKit
def bv (l : List UInt8) : List Value := l.map fun b => .int .u8 (b.toNat : Int)
@[simp] theorem bv_length (l : List UInt8) : (bv l).length = l.length := by simp [bv]
theorem bv_get {l : List UInt8} {j : Nat} {b : UInt8} (h : l[j]? = some b) : (bv l)[j]? = some (.int .u8 (b.toNat : Int)) := by simp [bv, h]
theorem bv_append (l m : List UInt8) : bv (l ++ m) = bv l ++ bv m := by simp [bv]
theorem bv_set (l : List UInt8) (i : Nat) (b : UInt8) : (bv l).set i (.int .u8 (b.toNat : Int)) = bv (l.set i b) := by simp [bv, List.map_set]
structure Buf (w0 w : World) (go : Option Nat) (cap : Nat) (l : List UInt8) : Prop where
 own : Own w 5 1 go l.length cap (bv l)
 fresh : ∀ g, go = some g → w0.heap.size ≤ g
 below : Below w0.heap.size w0 w
section
variable {w0 w : World} {go : Option Nat} {cap g : Nat} {l : List UInt8}
theorem Buf.nil (w : World) : Buf w w none 0 [] := { own := Own.nil _ _ _, fresh := (fun _ h => by cases h), below := Zl _ _ }
theorem Buf.size (h : Buf w0 w go cap l) : w0.heap.size ≤ w.heap.size := h.below.size
theorem Buf.next {w' : World} (h : Buf w0 w go cap l) (k : Below w.heap.size w w') : Buf w0 w' go cap l :=
 ⟨h.own.keep fun g e => k.block g (by have := h.own; rw [e] at this; exact this.row.lt), h.fresh, bnext h.below k⟩
theorem Buf.alloc (h : Buf w0 w go cap l) (o : Obj) : Buf w0 (w.alloc o) go cap l := h.next ((Zl _ w).alloc (Zr _) o)
theorem Buf.row (h : Buf w0 w (some g) cap l) : Row w g 5 1 cap (bv l) := h.own.row
theorem Buf.cell (h : Buf w0 w (some g) cap l) {j : Nat} {b : UInt8} (hj : l[j]? = some b) : w.cell? ⟨g, j, none⟩ = some (.int .u8 (b.toNat : Int)) := h.row.cell (bv_get hj)
theorem Buf.frozen (h : Buf w0 w (some g) cap l) (j : Nat) : w.frozen? ⟨g, j, none⟩ = false := h.row.frozen j
theorem Buf.le (h : Buf w0 w (some g) cap l) : l.length ≤ cap := h.own.le
theorem Buf.set (h : Buf w0 w (some g) cap l) {j : Nat} (hj : j < l.length) (b : UInt8) : Buf w0 (w.setCell ⟨g, j, none⟩ (.int .u8 (b.toNat : Int))) (some g) cap (l.set j b) where
 own := by
  have h1 := h.row.set (j := j) (by simpa using hj) (.int .u8 (b.toNat : Int))
  rw [bv_set] at h1
  exact Own.mk h1 (by simp) (by simpa using h.le)
 fresh := h.fresh
 below := h.below.setCell (h.fresh g rfl) _
theorem Buf.back (h : Buf w0 w (some g) cap l) {n : Nat} (hn : n = l.length) (c : Nat) :
  (convert 115 9 (.slice (some ⟨g, 0, none⟩) n c)).run Tryz.prog w = .ok (.string ⟨l.toArray⟩) w := by
 subst hn
 exact run_convert_bytes_back w 115 9 5 ⟨g, 0, none⟩ c l Tryz.underlying115 Tryz.underlying5 Tryz.underlying9 fun j hj => by
  have := h.cell (List.getElem?_eq_getElem hj)
  rw [← this]; congr 1; simp [Addr.add]; intro h0; rw [h0]
theorem infoU8 : ∃ i, Tryz.prog.info? 5 = some i ∧ i.zero = some (.int .u8 0) ∧ i.size = 1 ∧ i.bytes = 1 := by
 have h : (Tryz.prog.info? 5).map (fun i => (i.zero, i.size, i.bytes)) = some (some (.int .u8 0), 1, 1) := by kernel_rfl
 cases hi : Tryz.prog.info? 5 with
 | none => rw [hi] at h; cases h
 | some i =>
  rw [hi] at h
  simp only [Option.map_some, Option.some.injEq, Prod.mk.injEq] at h
  exact ⟨i, rfl, h.1, h.2.1, h.2.2⟩
theorem Buf.push (hB : Buf w0 w go cap l) {ops : Array Oper} {rest : List Oper} {o : Oper} {a : Act} {Q : Exit → Act → World → Prop} (hgd : o.guard = none) (s x : Operand)
  (ho : o.op = .call { callee := .builtin .append, args := #[s, x], argTypes := #[115, 115] })
  (hs : a.eval s = sv go l.length cap) (b : UInt8) {v : Value} (hv : v = .int .u8 (b.toNat : Int)) (hx : a.eval x = .slice (some ⟨w.heap.size, 0, none⟩) 1 1) (hb : l.length + 1 ≤ 140737488355328)
  (h : ∀ g cap' w', Buf w0 w' (some g) cap' (l ++ [b]) → wpList Tryz.prog ops Q rest (a.put o.dst (.slice (some ⟨g, 0, none⟩) (l.length + 1) cap')) w') :
  wpList Tryz.prog ops Q (o :: rest) a (w.alloc (.cells #[v] 5)) := by
 subst hv
 obtain ⟨i, h1, h2, h3, h4⟩ := infoU8
 have hA := hB.alloc (.cells #[.int .u8 (b.toNat : Int)] 5)
 refine wpList_app hgd s x 115 ho 5 i (.int .u8 0) 1 1 Tryz.underlying115 h1 h2 h3 h4 rfl (by decide) (by decide) go l.length cap (bv l) hs hA.own
  (some ⟨w.heap.size, 0, none⟩) 1 1 [.int .u8 (b.toNat : Int)] hx (fun h => by cases h) rfl (news_new w [.int .u8 (b.toNat : Int)] #[.int .u8 (b.toNat : Int)] 5 rfl) (fun u hu => by simp at hu; subst hu; rfl) (by omega) (by omega) ?_
 intro g' cap' w' hO hG hat
 refine h g' cap' w' ⟨?_, ?_, ?_⟩
 ·rw [bv_append]; simpa [bv] using hO
 ·intro k hk; cases hk
  rcases hat with e | e
  ·exact hB.fresh _ e
  ·rw [e]; have := hA.size; simpa using this
 ·refine hA.below.grown hG hA.size fun k hk => hB.fresh k hk
theorem make0 (w : World) (c : Nat) (hc : c ≤ 140737488355328) :
  ∃ w', (Instr.makeSlice 115 (.int .i64 0) (.int .i64 (c : Int))).run Tryz.prog w = .ok (.slice (some ⟨w.heap.size, 0, none⟩) 0 c) w' ∧ Buf w w' (some w.heap.size) c [] := by
 obtain ⟨i, h1, h2, h3, h4⟩ := infoU8
 obtain ⟨w', hr, ho, hg⟩ := run_make_own (P := Tryz.prog) w 0 115 5 i (.int .u8 0) 1 Tryz.underlying115 h1 h2 h3 .i64 .i64 c (by rw [h4]; omega) (by unfold maxLen; omega) (Nat.zero_le _)
 refine ⟨w', hr, ⟨Own.mk (Row.of_owns ho) rfl (Nat.zero_le _), fun g hg => by cases hg; exact Zr _, (Zl _ w).grown hg (Zr _) (fun _ h => by cases h)⟩⟩
end
def wideL (n k : Nat) : List UInt8 := List.replicate (k - (Lib.decDigits n).length) 48 ++ Lib.decDigits n
def szOf : Value → Nat
 | .string b => b.size
 | _ => 0
theorem wide_at (R : World → Prop) (n k : Nat) (w : World) (hk : k ≤ 4) (_hn : (Lib.decDigits n).length ≤ 20)
  (hI : Calls Tryz.prog 80 #[.int .i64 n] w fun e w' => e = .returned (.string ⟨(Lib.decDigits n).toArray⟩) ∧ R w') :
  Calls Tryz.prog 197 #[.int .i64 n, .int .i64 k] w fun e w' => e = .returned (.string ⟨(wideL n k).toArray⟩) ∧ R w' := by
 have hw : wideL n k = List.replicate (k - (Lib.decDigits n).length) 48 ++ Lib.decDigits n := rfl
 generalize Lib.decDigits n = d at _hn hI hw
 have HI := Zh hI; clear hI
 have HW := Zh hw; clear hw
 go_enter Tryz.func197, Tryz.ntmps197
 go_wp2_with (first
  | (go_at_call 80; refine HI.out.mono ?_; rintro e w1 ⟨rfl, hr⟩; have HR := Zh hr; clear hr)
  | fail)
 go_loopw [5] (fun sv wr => ∃ (i : Nat) (z : ByteArray), sv = .string z ∧ z.data.toList = List.replicate i 48 ++ d ∧ i ≤ k - d.length ∧ wr = w1) (fun sv _ => k - szOf sv)
 case atStart => exact ⟨0, _, rfl, rfl, Nat.zero_le _, rfl⟩
 case round =>
  obtain ⟨i, z, rfl, hz, hi, rfl⟩ := hrel
  have hzs : z.size = i + d.length := by rw [Lib.size_eq, hz]; simp
  have HZ := Zh hz; have HZS := Zh hzs; clear hz
  by_cases hlt : i + d.length < k
  ·have g : (z.size : Int) < k := by omega
   clear hzs
   go_wp2_with fail
   have hz2 : (ByteArray.mk #[48] ++ z).data.toList = List.replicate (i + 1) 48 ++ d := by
    rw [ByteArray.data_append, Array.toList_append, HZ.out]; rfl
   refine ⟨⟨i + 1, _, rfl, hz2, by omega, trivial⟩, ?_⟩
   have h1 := HZS.out
   have h2 : (ByteArray.mk #[48] ++ z).size = z.size + 1 := by rw [Lib.size_eq, Lib.size_eq, hz2, HZ.out]; simp; omega
   show k - (ByteArray.mk #[48] ++ z).size < k - z.size
   omega
  ·have g : ¬ (z.size : Int) < k := by omega
   clear hzs
   go_wp2_with fail
   go_ret
   refine ⟨?_, HR.out⟩
   rw [HW.out]
   have hi2 : i = k - d.length := by omega
   rw [← hi2, ← HZ.out]; rfl
theorem wide_small (n k : Nat) (w : World) (hk : k ≤ 4) (hn : n < 100) :
  Calls Tryz.prog 197 #[.int .i64 n, .int .i64 k] w fun e w' => e = .returned (.string ⟨(wideL n k).toArray⟩) ∧ w' = w := by
 refine wide_at (fun w' => w' = w) n k w hk ?_ (Tryz.strconv_Itoa_small n hn w)
 by_cases h : n < 10
 ·rw [Lib.decDigits_one h]; simp
 ·rw [Lib.decDigits_two h hn]; simp
theorem wide_any (n k : Nat) (w : World) (hk : k ≤ 4) (hn : n < 10000) (hE : Env w) :
  Calls Tryz.prog 197 #[.int .i64 n, .int .i64 k] w fun e w' => e = .returned (.string ⟨(wideL n k).toArray⟩) ∧ Below w.heap.size w w' := by
 refine wide_at (fun w' => Below w.heap.size w w') n k w hk ?_ ((Tryz.strconv_Itoa n (by omega) (by omega) w hE.pow).mono ?_)
 ·rw [Lib.decDigits_length]; exact Lib.nDigits_le20 _ (by omega)
 ·rintro e w' ⟨rfl, q, os, rfl⟩
  exact ⟨by rw [Lib.itoa_nonneg], Lib.below_grow _ _ (Zr _) _ _⟩
theorem only_any (s o : ByteArray) (w : World) (hs : s.size ≤ 140737488355328) :
  Calls Tryz.prog 139 #[.string s, .string o] w fun e w' => e = .returned (.bool (onlyL o.data.toList s.data.toList)) ∧ w' = w := by
 go_enter Tryz.func139, Tryz.ntmps139
 go_wp2_with fail
 go_loopw [8] (fun iv wr => ∃ i : Nat, iv = .int .i64 i ∧ wr = w ∧ i ≤ s.size ∧ onlyL o.data.toList s.data.toList = onlyL o.data.toList (s.data.toList.drop i)) (fun iv _ => s.size - (intOf iv).toNat)
 case atStart => exact ⟨0, rfl, rfl, Nat.zero_le _, by simp⟩
 case round =>
  obtain ⟨i, rfl, rfl, hi, he⟩ := hrel
  by_cases hlt : i < s.size
  ·have hd := drop_at s hlt
   rw [hd, onlyL_cons] at he
   have ht := only_test o.data.toList s[i]
   generalize hb : s[i] = b at hd he ht
   rcases ht with ⟨h1, h2⟩ | ⟨h1, h2, h3⟩
   ·rw [h1, Bool.true_and] at he
    go_wp2_with (first | (go_at_call 115; refine (Tryz.strings_IndexByte _ _ _).mono ?_; rintro e w' ⟨rfl, rfl⟩) | fail)
    all_goals simp only [hb] at *
    all_goals first | (exfalso; omega) | exact ⟨⟨i + 1, by simp, trivial, by omega, he⟩, by simp [intOf]; omega⟩
   ·rw [h1, Bool.false_and] at he
    go_wp2_with (first | (go_at_call 115; refine (Tryz.strings_IndexByte _ _ _).mono ?_; rintro e w' ⟨rfl, rfl⟩) | fail)
    all_goals simp only [hb] at *
    all_goals first | (exfalso; omega) | (go_ret; exact ⟨by rw [he]; rfl, rfl⟩)
  ·go_wp2_with fail
   go_ret
   rw [he, drop_end s hlt]; exact ⟨rfl, rfl⟩
structure Bts (w : World) (g : Nat) (l : List UInt8) : Prop where
 cell : ∀ j b, l[j]? = some b → w.cell? ⟨g, j, none⟩ = some (.int .u8 (b.toNat : Int))
 fr : ∀ j, j < l.length → w.frozen? ⟨g, j, none⟩ = false
 lt : g < w.heap.size
theorem Bts.set {w : World} {g : Nat} {l : List UInt8} (h : Bts w g l) {i : Nat} (hi : i < l.length) (b : UInt8) : Bts (w.setCell ⟨g, i, none⟩ (.int .u8 (b.toNat : Int))) g (l.set i b) where
 cell := fun j c hj => by
  by_cases e : j = i
  ·subst e
   rw [World.cell?_setCell_same _ _ _ (h.cell j _ (List.getElem?_eq_getElem hi))]
   rw [List.getElem?_set_self hi] at hj
   cases hj; rfl
  ·rw [World.cell?_setCell_other _ _ _ _ (by intro e2; apply e; injection e2 with _ h2 _; exact h2.symm)]
   rw [List.getElem?_set_ne (Ne.symm e)] at hj
   exact h.cell j c hj
 fr := fun j hj => by rw [World.frozen?_setCell]; exact h.fr j (by simpa using hj)
 lt := by have := h.lt; simpa [World.setCell] using this
theorem Bts.conv (w : World) (s : ByteArray) : Bts (Lib.bytesWorld w 5 s) w.heap.size s.data.toList where
 cell := fun j b hj => by
  have hlt : j < s.size := by simpa using (List.getElem?_eq_some_iff.1 hj).1
  rw [Lib.bytesWorld_cell w _ s j hlt]
  simp [List.getD, hj]
 fr := fun j hj => by
  have hj' : j < s.size := by simpa using hj
  simp [World.frozen?, Lib.bytesWorld_at_new, Lib.bytesCells]
  omega
 lt := by rw [Lib.bytesWorld_size]; omega
theorem below_bytes (w : World) (e : TypeId) (s : ByteArray) : Below w.heap.size w (Lib.bytesWorld w e s) where
 os := by unfold Lib.bytesWorld World.freeze; split <;> rfl
 tape := by unfold Lib.bytesWorld World.freeze; split <;> rfl
 output := by unfold Lib.bytesWorld World.freeze; split <;> rfl
 size := by rw [Lib.bytesWorld_size]; omega
 block := fun k hk => Lib.bytesWorld_at_old w e s k hk
theorem Bts.alloc {w : World} {g : Nat} {l : List UInt8} (h : Bts w g l) (o : Obj) : Bts (w.alloc o) g l where
 cell := fun j b hj => by rw [World.cell?_alloc_lt _ _ _ h.lt]; exact h.cell j b hj
 fr := fun j hj => by rw [World.frozen?_of_block (w := w) (Below.heap_alloc w o g h.lt)]; exact h.fr j hj
 lt := by have := h.lt; simp; omega
theorem Bts.back {P : Program} {w : World} {g : Nat} {l : List UInt8} (h : Bts w g l) {src dst e : TypeId} {n : Nat} (hn : n = l.length) (cap : Nat) (hs : P.underlying src = some (.slice e)) (he : P.underlying e = some (.int .u8)) (hd : P.underlying dst = some .string) :
  (convert src dst (.slice (some ⟨g, 0, none⟩) n cap)).run P w = .ok (.string ⟨l.toArray⟩) w := by
 subst hn
 exact run_convert_bytes_back w src dst e ⟨g, 0, none⟩ cap l hs he hd fun j hj => by
  have := h.cell j _ (List.getElem?_eq_getElem hj)
  rw [← this]; congr 1; simp [Addr.add]; intro h0; rw [h0]
theorem low_step (l : List UInt8) {i : Nat} (h : i < l.length) : ((low (l.take i)) ++ l.drop i).set i (lowB l[i]) = low (l.take (i + 1)) ++ l.drop (i + 1) := by
 have h1 : (low (l.take i)).length = i := by simp [low]; omega
 rw [List.set_append_right _ _ (by omega), h1, Nat.sub_self, List.drop_eq_getElem_cons h, Z2]
 rw [List.take_succ_eq_append_getElem h]
 simp only [low, List.map_append, List.map_cons, List.map_nil, List.append_assoc, List.cons_append, List.nil_append]
theorem lowB_same {b : UInt8} (h : ¬ (65 ≤ b.toNat ∧ b.toNat ≤ 90)) : lowB b = b := if_neg h
theorem lowB_nat {b : UInt8} (h : 65 ≤ b.toNat ∧ b.toNat ≤ 90) : (lowB b).toNat = b.toNat + 32 := by
 unfold lowB; rw [if_pos h, UInt8.toNat_add]; simp; omega
theorem low_keep (l : List UInt8) {i : Nat} (h : i < l.length) (hn : lowB l[i] = l[i]) : low (l.take (i + 1)) ++ l.drop (i + 1) = low (l.take i) ++ l.drop i := by
 rw [List.take_succ_eq_append_getElem h, List.drop_eq_getElem_cons h]
 simp only [low, List.map_append, List.map_cons, List.map_nil, List.append_assoc, List.cons_append, List.nil_append, hn]
theorem lower_any (s : ByteArray) (w : World) (hs : s.size ≤ 140737488355328) :
  Calls Tryz.prog 104 #[.string s] w fun e w' => e = .returned (.string ⟨(low s.data.toList).toArray⟩) ∧ Below w.heap.size w w' := by
 go_enter Tryz.func104, Tryz.ntmps104
 have hc := Lib.run_convert_string_bytes (P := Tryz.prog) w 9 115 5 s Tryz.underlying9 Tryz.underlying115 Tryz.underlying5
 have B0 := below_bytes w 5 s
 have T0 := Bts.conv w s
 generalize Lib.bytesWorld w 5 s = w1 at hc B0 T0
 generalize grownCap w s.size 0 5 = cap at hc
 go_wp2_with fail
 clear hc
 have HB0 := Zh B0; clear B0
 have HT0 := Zh T0; clear T0
 go_loopw [10] (fun iv wr => ∃ i : Nat, iv = .int .i64 i ∧ i ≤ s.size ∧ Below w.heap.size w wr ∧ Bts wr w.heap.size (low (s.data.toList.take i) ++ s.data.toList.drop i)) (fun iv _ => s.size - (intOf iv).toNat)
 case atStart => exact ⟨0, rfl, Nat.zero_le _, HB0.out, by simpa [low] using HT0.out⟩
 case round =>
  clear HB0 HT0
  obtain ⟨i, rfl, hi, hb, ht⟩ := hrel
  have HB := Zh hb; clear hb
  have HT := Zh ht; clear ht
  have hl0 : s.data.toList.length = s.size := by simp
  have hlen : (low (s.data.toList.take i) ++ s.data.toList.drop i).length = s.size := by simp [low]; omega
  by_cases hlt : i < s.size
  ·have hget : (low (s.data.toList.take i) ++ s.data.toList.drop i)[i]? = some s[i] := by
    rw [List.getElem?_append_right (by rw [low, List.length_map, List.length_take]; omega), show i - (low (s.data.toList.take i)).length = 0 by rw [low, List.length_map, List.length_take]; omega, drop_at s hlt]; rfl
   have hcell := HT.out.cell i _ hget
   have hfr := HT.out.fr i (by omega)
   have hst := low_step s.data.toList (by omega : i < s.data.toList.length)
   have hsi : s.data.toList[i]'(by omega) = s[i] := rfl
   rw [hsi] at hst
   have HS := Zh hst; clear hst
   have HN := Zh (low_keep s.data.toList (by omega : i < s.data.toList.length))
   rw [hsi] at HN
   have hset := HT.out.set (i := i) (by omega) (lowB s[i])
   rw [HS.out] at hset
   have HQ := Zh hset; clear hset HS
   clear hget hsi hlen
   generalize s[i] = b at *
   go_wp2_with fail
   ·have e1 := lowB_nat (b := b) (by omega)
    have hq := HQ.out
    rw [show ((lowB b).toNat : Int) = (b.toNat : Int) + 32 by omega] at hq
    exact ⟨⟨i + 1, by simp, by omega, HB.out.setCell (Zr _) _, hq⟩, by simp [intOf]; omega⟩
   all_goals exact ⟨⟨i + 1, by simp, by omega, HB.out, by rw [HN.out (lowB_same (by omega))]; exact HT.out⟩, by simp [intOf]; omega⟩
  ·have hie : i = s.size := by omega
   subst hie
   have hfin := HT.out
   rw [List.take_of_length_le (by omega), List.drop_eq_nil_of_le (by omega), List.append_nil] at hfin
   have hbk := hfin.back (P := Tryz.prog) (src := 115) (dst := 9) (e := 5) (n := s.size) (by simp [low]) cap Tryz.underlying115 Tryz.underlying5 Tryz.underlying9
   clear hfin hlen
   go_wp2_with fail
   go_ret
   exact ⟨rfl, HB.out⟩
def kindI (l : List UInt8) (r : Int) : Int := if r = 65533 ∧ Lib.hasPrefix l [239, 191, 189] = false then 0 else if r = 0 ∨ r = 40 ∨ r = 41 ∨ r = 42 ∨ r = 92 then 1 else 2
set_option maxRecDepth 100000 in
theorem kind_any (s : ByteArray) (p : Nat) (r : Int) (w : World) (hp : p ≤ s.size) (_hs : s.size ≤ 140737488355328) :
  Calls Tryz.prog 157 #[.string s, .int .i64 p, .int .i32 r] w fun e w' => e = .returned (.int .i64 (kindI (s.data.toList.drop p) r)) ∧ w' = w := by
 have hx : (s.extract p s.size).data.toList = s.data.toList.drop p := by
  rw [Lib.extract_data, List.take_of_length_le (by simp)]
 have ht : List.take (s.size - p) (List.drop p s.data.toList) = List.drop p s.data.toList := List.take_of_length_le (by simp)
 have x0 : ∀ w, (Instr.index 242 (.agg #[.int .i32 0, .int .i32 40, .int .i32 41, .int .i32 42, .int .i32 92]) (.int .i64 0)).run Tryz.prog w = .ok (.int .i32 0) w := fun _ => by kernel_rfl
 have x1 : ∀ w, (Instr.index 242 (.agg #[.int .i32 0, .int .i32 40, .int .i32 41, .int .i32 42, .int .i32 92]) (.int .i64 1)).run Tryz.prog w = .ok (.int .i32 40) w := fun _ => by kernel_rfl
 have x2 : ∀ w, (Instr.index 242 (.agg #[.int .i32 0, .int .i32 40, .int .i32 41, .int .i32 42, .int .i32 92]) (.int .i64 2)).run Tryz.prog w = .ok (.int .i32 41) w := fun _ => by kernel_rfl
 have x3 : ∀ w, (Instr.index 242 (.agg #[.int .i32 0, .int .i32 40, .int .i32 41, .int .i32 42, .int .i32 92]) (.int .i64 3)).run Tryz.prog w = .ok (.int .i32 42) w := fun _ => by kernel_rfl
 have x4 : ∀ w, (Instr.index 242 (.agg #[.int .i32 0, .int .i32 40, .int .i32 41, .int .i32 42, .int .i32 92]) (.int .i64 4)).run Tryz.prog w = .ok (.int .i32 92) w := fun _ => by kernel_rfl
 go_enter Tryz.func157, Tryz.ntmps157
 by_cases h0 : r = 65533
 ·cases hpx : Lib.hasPrefix (s.data.toList.drop p) [239, 191, 189] with
  | false =>
   subst h0
   have HK := Zh (show kindI (s.data.toList.drop p) 65533 = 0 by unfold kindI; rw [if_pos ⟨rfl, hpx⟩])
   go_wp2_with (first | (go_at_call 66; refine (Tryz.strings_HasPrefix _ _ _).mono ?_; rintro e w' ⟨rfl, rfl⟩) | fail)
   go_ret
   exact ⟨by rw [HK.out]; rfl, rfl⟩
  | true =>
   have HK := Zh (show kindI (s.data.toList.drop p) r = if r = 0 ∨ r = 40 ∨ r = 41 ∨ r = 42 ∨ r = 92 then 1 else 2 by unfold kindI; rw [if_neg (by rw [hpx]; simp)])
   go_wp2_with (first | (go_at_call 66; refine (Tryz.strings_HasPrefix _ _ _).mono ?_; rintro e w' ⟨rfl, rfl⟩) | fail)
   go_loopw [20] (fun iv wr => ∃ i : Nat, iv = .int .i64 i ∧ i ≤ 5 ∧ wr = w' ∧ (0 < i → r ≠ 0) ∧ (1 < i → r ≠ 40) ∧ (2 < i → r ≠ 41) ∧ (3 < i → r ≠ 42) ∧ (4 < i → r ≠ 92)) (fun iv _ => 5 - (intOf iv).toNat)
   case atStart => exact ⟨0, rfl, by omega, rfl, by omega, by omega, by omega, by omega, by omega⟩
   case round =>
    obtain ⟨i, rfl, hi, rfl, c0, c1, c2, c3, c4⟩ := hrel
    have C := Zh (Zi c0 (Zi c1 (Zi c2 (Zi c3 c4)))); clear c0 c1 c2 c3 c4
    obtain rfl | rfl | rfl | rfl | rfl | rfl : i = 0 ∨ i = 1 ∨ i = 2 ∨ i = 3 ∨ i = 4 ∨ i = 5 := by omega
    all_goals go_wp2_with fail
    all_goals have c := C.out
    all_goals try simp only [ne_eq] at *
    all_goals first
     | (go_ret; refine ⟨?_, rfl⟩; rw [HK.out, if_pos (by omega)]; rfl)
     | (go_ret; refine ⟨?_, rfl⟩; rw [HK.out, if_neg (by omega)]; rfl)
     | exact ⟨⟨1, rfl, by omega, trivial, by omega, by omega, by omega, by omega, by omega⟩, by decide⟩ | exact ⟨⟨2, rfl, by omega, trivial, by omega, by omega, by omega, by omega, by omega⟩, by decide⟩ | exact ⟨⟨3, rfl, by omega, trivial, by omega, by omega, by omega, by omega, by omega⟩, by decide⟩ | exact ⟨⟨4, rfl, by omega, trivial, by omega, by omega, by omega, by omega, by omega⟩, by decide⟩ | exact ⟨⟨5, rfl, by omega, trivial, by omega, by omega, by omega, by omega, by omega⟩, by decide⟩
     | fail
 ·have HK := Zh (show kindI (s.data.toList.drop p) r = if r = 0 ∨ r = 40 ∨ r = 41 ∨ r = 42 ∨ r = 92 then 1 else 2 by unfold kindI; rw [if_neg (by simp [h0])])
  go_wp2_with fail
  go_loopw [20] (fun iv wr => ∃ i : Nat, iv = .int .i64 i ∧ i ≤ 5 ∧ wr = w ∧ (0 < i → r ≠ 0) ∧ (1 < i → r ≠ 40) ∧ (2 < i → r ≠ 41) ∧ (3 < i → r ≠ 42) ∧ (4 < i → r ≠ 92)) (fun iv _ => 5 - (intOf iv).toNat)
  case atStart => exact ⟨0, rfl, by omega, rfl, by omega, by omega, by omega, by omega, by omega⟩
  case round =>
   obtain ⟨i, rfl, hi, rfl, c0, c1, c2, c3, c4⟩ := hrel
   have C := Zh (Zi c0 (Zi c1 (Zi c2 (Zi c3 c4)))); clear c0 c1 c2 c3 c4
   obtain rfl | rfl | rfl | rfl | rfl | rfl : i = 0 ∨ i = 1 ∨ i = 2 ∨ i = 3 ∨ i = 4 ∨ i = 5 := by omega
   all_goals go_wp2_with fail
   all_goals have c := C.out
   all_goals try simp only [beq_iff_eq, beq_eq_false_iff_ne, ne_eq] at *
   all_goals first
    | (go_ret; refine ⟨?_, rfl⟩; rw [HK.out, if_pos (by omega)]; rfl)
    | (go_ret; refine ⟨?_, rfl⟩; rw [HK.out, if_neg (by omega)]; rfl)
    | exact ⟨⟨1, rfl, by omega, trivial, by omega, by omega, by omega, by omega, by omega⟩, by decide⟩ | exact ⟨⟨2, rfl, by omega, trivial, by omega, by omega, by omega, by omega, by omega⟩, by decide⟩ | exact ⟨⟨3, rfl, by omega, trivial, by omega, by omega, by omega, by omega, by omega⟩, by decide⟩ | exact ⟨⟨4, rfl, by omega, trivial, by omega, by omega, by omega, by omega, by omega⟩, by decide⟩ | exact ⟨⟨5, rfl, by omega, trivial, by omega, by omega, by omega, by omega, by omega⟩, by decide⟩
    | fail
theorem kind_alone (l : List UInt8) (hne : l ≠ []) : kindI l (Lib.decodeL l).1 = 0 ↔ ((Lib.decodeL l).1 = 65533 ∧ (Lib.decodeL l).2 = 1) := by
 constructor
 ·intro h
  have h1 : ((Lib.decodeL l).1 : Int) = 65533 ∧ Lib.hasPrefix l [239, 191, 189] = false := by
   unfold kindI at h
   split at h
   ·assumption
   ·split at h <;> cases h
  by_cases hv : (Lib.decodeL l).1 = 65533 ∧ (Lib.decodeL l).2 = 1
  ·exact hv
  ·exfalso
   have he := Lib.encode_decode l hne hv
   rw [h1.1] at he
   have h2 : l = [239, 191, 189] ++ l.drop (Lib.decodeL l).2 := by
    rw [show ([239, 191, 189] : List UInt8) = Lib.encodeRune 65533 by decide, he, List.take_append_drop]
   have h3 : Lib.hasPrefix l [239, 191, 189] = true := by rw [h2]; rfl
   rw [h3] at h1; cases h1.2
 ·rintro ⟨h1, h2⟩
  unfold kindI
  rw [if_pos]
  refine ⟨by rw [h1]; rfl, ?_⟩
  cases hp : Lib.hasPrefix l [239, 191, 189] with
  | false => rfl
  | true =>
   exfalso
   obtain ⟨t, rfl⟩ : ∃ t, l = 239 :: 191 :: 189 :: t := by
    unfold Lib.hasPrefix at hp
    rw [List.isPrefixOf_iff_prefix] at hp
    obtain ⟨t, ht⟩ := hp
    exact ⟨t, ht.symm⟩
   rw [show Lib.decodeL (239 :: 191 :: 189 :: t) = (65533, 3) by rw [Lib.decodeL_N]; simp [Lib.decodeN]] at h2
   cases h2
theorem validGoD_step (n : Nat) (l : List UInt8) (hne : l ≠ []) (hv : ¬ ((Lib.decodeL l).1 = 65533 ∧ (Lib.decodeL l).2 = 1)) : Lib.validGoD (n + 1) l = Lib.validGoD n (l.drop (Lib.decodeL l).2) := by
 rw [Lib.validGoD, if_neg hne, if_neg hv]
theorem validGoD_bad (n : Nat) (l : List UInt8) (hne : l ≠ []) (hv : (Lib.decodeL l).1 = 65533 ∧ (Lib.decodeL l).2 = 1) : Lib.validGoD (n + 1) l = false := by
 rw [Lib.validGoD, if_neg hne, if_pos hv]
theorem validGoD_nil (n : Nat) : Lib.validGoD n [] = true := by cases n <;> simp [Lib.validGoD]
theorem valid_any (s : ByteArray) (w : World) (hs : s.size ≤ 140737488355328) :
  Calls Tryz.prog 113 #[.string s] w fun e w' => e = .returned (.bool (Lib.validD s.data.toList)) ∧ Below w.heap.size w w' := by
 have hb0 : ∀ pos, Below w.heap.size w (w.iter s pos) := fun pos => (Zl _ w).alloc (Zr _) _
 have HB := Zh hb0; clear hb0
 go_enter Tryz.func113, Tryz.ntmps113
 go_wp2_with fail
 go_loopw [] (fun wr => ∃ pos b : Nat, wr = w.iter s pos ∧ Lib.validD s.data.toList = Lib.validGoD b (s.data.toList.drop pos) ∧ s.size ≤ pos + b) (fun w' => s.size - w'.iterPos w.heap.size)
 case atStart => exact ⟨0, s.size, rfl, by unfold Lib.validD; simp, by omega⟩
 case round =>
  obtain ⟨pos, b, rfl, hv, hb⟩ := hrel
  by_cases hp : pos < s.size
  ·have hne : s.data.toList.drop pos ≠ [] := by rw [drop_at s hp]; simp
   have hnx : ∀ ty, (Instr.next (.pointer (some ⟨w.heap.size, 0, none⟩)) true ty).run Tryz.prog (w.iter s pos) = _ := fun ty => run_next_any w s pos ty hp
   have ha := kind_alone _ hne
   have hst := validGoD_step (b - 1) _ hne
   have hbd := validGoD_bad (b - 1) _ hne
   have hwd := Lib.decodeL_width (s.data.toList.drop pos)
   rw [show b - 1 + 1 = b by omega] at hst hbd
   rw [Lib.decodeL_drop] at ha hst hbd hwd
   have HA := Zh ha; clear ha
   have HS := Zh hst; clear hst
   have HD := Zh hbd; clear hbd
   have HV := Zh hv; clear hv
   generalize hdc : Utf8.decode s pos = d at hnx HA HS HD hwd
   clear hdc hne
   go_wp2_with (first | (go_at_call 157; refine (kind_any s pos _ _ (by omega) hs).mono ?_; rintro e w' ⟨rfl, rfl⟩) | fail)
   ·rename_i h1
    have h2 := HA.out.1 (by simpa using h1)
    go_ret
    refine ⟨?_, HB.out _⟩
    rw [HV.out, HD.out h2]; rfl
   ·rename_i h1
    have h2 : ¬ (d.1 = 65533 ∧ d.2 = 1) := fun h => by have := HA.out.2 h; rw [this] at h1; cases h1
    refine ⟨⟨pos + d.2, b - 1, rfl, ?_, by omega⟩, ?_⟩
    ·rw [HV.out, HS.out h2, List.drop_drop]
    ·simp only [World.iterPos_iter]; omega
  ·have hnx : ∀ ty, (Instr.next (.pointer (some ⟨w.heap.size, 0, none⟩)) true ty).run Tryz.prog (w.iter s pos) = _ := fun ty => run_next_end w s pos ty hp
   go_wp2_with fail
   go_ret
   refine ⟨?_, HB.out pos⟩
   rw [hv, drop_end s hp, validGoD_nil]; rfl
theorem sqz_cons (p : Bool) (b : UInt8) (l : List UInt8) : sqz p (b :: l) = if b = 32 ∧ p = true then sqz true l else b :: sqz (b == 32) l := rfl
set_option maxRecDepth 20000 in
theorem squeeze_any (s : ByteArray) (w : World) (hs : s.size ≤ 140737488355327) :
    Calls Tryz.prog 136 #[.string s] w fun e w' => e = .returned (.string ⟨(sqz false s.data.toList).toArray⟩) ∧ Below w.heap.size w w' := by
  obtain ⟨w1, hr, hB⟩ := make0 w s.size (by omega)
  go_enter Tryz.func136, Tryz.ntmps136
  have HB1 := Zh hB; clear hB
  go_wp2_with fail
  clear hr
  go_loopw [3, 10] (fun sl iv wr => ∃ (i cap g : Nat) (p : Bool) (out : List UInt8), iv = .int .i64 i ∧ sl = .slice (some ⟨g, 0, none⟩) out.length cap ∧ i ≤ s.size ∧ out.length ≤ i ∧ Buf w wr (some g) cap out ∧
      sqz false s.data.toList = out ++ sqz p (s.data.toList.drop i) ∧ ((p = false ∧ (0 < out.length → out[out.length - 1]? ≠ some 32)) ∨ (p = true ∧ 0 < out.length ∧ out[out.length - 1]? = some 32))) (fun _ iv _ => s.size - (intOf iv).toNat)
  case atStart => exact ⟨0, s.size, w.heap.size, false, [], rfl, rfl, Nat.zero_le _, Nat.zero_le _, HB1.out, rfl, .inl ⟨rfl, by simp⟩⟩
  case round =>
    obtain ⟨i, cap, g, p, out, rfl, rfl, hi, hle, hB, hsq, hp⟩ := hrel
    have HB := Zh hB; clear hB
    have HP := Zh hp; clear hp
    by_cases hlt : i < s.size
    · rw [drop_at s hlt, sqz_cons] at hsq
      have HQ := Zh hsq; clear hsq
      generalize hb : s[i] = b at HQ
      have hne : ∀ c : UInt8, c ≠ 32 → ¬ (c.toNat : Int) = 32 := fun c h e => h (UInt8.toNat_inj.1 (by show c.toNat = 32; omega))
      have fin : ∀ (o : List UInt8) (c : UInt8), (o ++ [c])[(o ++ [c]).length - 1]? = some c := fun o c => by simp
      have HF := Zh (Zi hne fin); clear hne fin
      by_cases h32 : b = 32
      · subst h32
        by_cases h0 : 0 < out.length
        · have hc := List.getElem?_eq_getElem (show out.length - 1 < out.length by omega)
          have hcell := HB.out.cell hc
          rcases HP.out with ⟨rfl, hp⟩ | ⟨rfl, _, hp⟩
          ·
            have hn := HF.out.1 out[out.length - 1] (fun e => hp h0 (by rw [hc, e]))
            generalize out[out.length - 1] = c at hcell hn
            clear hc hp
            go_wp2_with (at_builtin; refine HB.out.push rfl (.tmp 31) (.tmp 35) rfl rfl 32 rfl rfl (by omega) ?_; intro g' cap' w' hB')
            have HB' := Zh hB'; clear hB'
            go_wp2_with fail
            refine ⟨⟨i + 1, cap', g', true, out ++ [32], by simp, by simp, by omega, by simp; omega, HB'.out, ?_, .inr ⟨rfl, by simp, HF.out.2 _ _⟩⟩, by simp [intOf]; omega⟩
            rw [HQ.out]; simp
          ·
            rw [hc] at hp
            injection hp with hp
            rw [hp] at hcell
            clear hc hp
            go_wp2_with fail
            refine ⟨⟨i + 1, cap, g, true, out, by simp, rfl, by omega, by omega, HB.out, ?_, HP.out⟩, by simp [intOf]; omega⟩
            rw [HQ.out]; simp
        · have hpf : p = false := by rcases HP.out with ⟨rfl, _⟩ | ⟨_, h, _⟩; · rfl
                                     · omega
          subst hpf
          go_wp2_with (at_builtin; refine HB.out.push rfl (.tmp 31) (.tmp 35) rfl rfl 32 rfl rfl (by omega) ?_; intro g' cap' w' hB')
          have HB' := Zh hB'; clear hB'
          go_wp2_with fail
          refine ⟨⟨i + 1, cap', g', true, out ++ [32], by simp, by simp, by omega, by simp; omega, HB'.out, ?_, .inr ⟨rfl, by simp, HF.out.2 _ _⟩⟩, by simp [intOf]; omega⟩
          rw [HQ.out]; simp
      · have hn := HF.out.1 _ h32
        have HN := Zh h32; clear h32
        go_wp2_with (at_builtin; refine HB.out.push rfl (.tmp 31) (.tmp 35) rfl rfl b rfl rfl (by omega) ?_; intro g' cap' w' hB')
        have HB' := Zh hB'; clear hB'
        go_wp2_with fail
        refine ⟨⟨i + 1, cap', g', false, out ++ [b], by simp, by simp, by omega, by simp; omega, HB'.out, ?_, .inl ⟨rfl, fun _ => by rw [HF.out.2]; intro e; injection e with e; exact HN.out e⟩⟩, by simp [intOf]; omega⟩
        rw [HQ.out]; simp [HN.out, show (b == 32) = false from by simpa using HN.out]
    · rw [drop_end s hlt] at hsq
      have hbk := HB.out.back rfl cap
      go_wp2_with fail
      go_ret
      exact ⟨by rw [hsq]; simp [sqz], HB.out.below⟩
def zapB (c : UInt8) (l : List UInt8) : List UInt8 := l.filter (· != c)
theorem replaceK_zap (c : UInt8) : ∀ s : List UInt8, Lib.replaceK [c] [] (Lib.count s [c]) s = zapB c s
 | [] => by rw [Lib.count_one]; rfl
 | b :: l => by
  have ih := replaceK_zap c l
  by_cases h : b = c
  ·subst h
   rw [Lib.count_cons_eq, Nat.add_comm]
   have h0 : Lib.index (b :: l) [b] = ((0 : Nat) : Int) := by rw [Lib.index_one]; simp [Lib.indexByte]
   rw [Lib.replaceK_hit _ _ _ _ _ h0]
   simp [zapB, ih]
  ·rw [Lib.count_cons_ne b c l h]
   have hz : zapB c (b :: l) = b :: zapB c l := by simp [zapB, h]
   rw [hz]
   cases hk : Lib.count l [c] with
   | zero => rw [hk] at ih; simp only [Lib.replaceK] at ih ⊢; rw [← ih]
   | succ k =>
    rw [hk] at ih
    obtain ⟨i, hi⟩ := Lib.index_of_count (s := l) (old := [c]) (by omega)
    have h1 : Lib.index (b :: l) [c] = ((i + 1 : Nat) : Int) := by
     rw [Lib.index_one] at hi ⊢
     have hb : (b == c) = false := by simpa using h
     unfold Lib.indexByte
     rw [hb, hi]
     simp only [Bool.false_eq_true, if_false]
     rw [if_neg (by simp)]; omega
    rw [Lib.replaceK_hit _ _ _ _ _ h1]
    rw [Lib.replaceK_hit _ _ _ _ _ hi] at ih
    rw [← ih, show i + 1 + [c].length = (i + [c].length) + 1 by simp]
    simp
theorem replaceAll_zap (c : UInt8) (s : List UInt8) : Lib.replaceAll s [c] [] = zapB c s := by
 unfold Lib.replaceAll Lib.replace
 rw [if_neg (by simp)]
 have : Lib.replaceNum s [c] (-1) = Lib.count s [c] := by unfold Lib.replaceNum; rw [if_pos (.inl (by decide))]
 rw [this, replaceK_zap]
theorem zapB_length (c : UInt8) (l : List UInt8) : (zapB c l).length ≤ l.length := List.length_filter_le _ _
end Go.Proofs.YtlmfbjhokkpjhaaGreatDoor
