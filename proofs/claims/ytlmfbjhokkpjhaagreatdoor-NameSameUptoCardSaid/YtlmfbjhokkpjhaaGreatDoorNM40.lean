/- Part 40 of the walks and plain laws, joined: TurnC, NamS. -/
import Derived.Test.YtlmfbjhokkpjhaaGreatDoorNM00
import Derived.Test.YtlmfbjhokkpjhaaGreatDoorNM39
import Derived.Test.YtlmfbjhokkpjhaaGreatDoorNM27
import Derived.Test.YtlmfbjhokkpjhaaGreatDoorNM37
import Derived.Test.YtlmfbjhokkpjhaaGreatDoorNM38
import Derived.Test.YtlmfbjhokkpjhaaGreatDoorNM15
set_option linter.unusedVariables false
set_option linter.unusedSimpArgs false
namespace Go.Proofs.YtlmfbjhokkpjhaaGreatDoor
open Go Go.RowKit
set_option maxRecDepth 20000 in
set_option maxHeartbeats 8000000 in
theorem turned_any (B : Nat) (a : Option Addr) (n c : Nat) (l : PRdn) (turn : Int) (w : World) (h : Avas B w a n c l) (hB : B ≤ w.heap.size) (hn0 : 0 < n) (ht : -9223372036854775808 ≤ turn ∧ turn ≤ 9223372036854775807) :
  Calls Tryz.prog 34 #[.agg #[.slice a n c], .int .i64 turn] w fun e w' => ∃ (go : Option Nat) (cap : Nat), e = .returned (.agg #[sv go n cap]) ∧ Vec 70 2 w w' go n cap (avaV (turnL (turnK turn n) l)) := by
 obtain ⟨hb, x0, x1⟩ := boxes2 w #[.slice a n c] #[.slice none 0 0] 65 65
 have y0 := x0 0
 have hres : ((w.alloc (.cells #[.slice a n c] 65)).alloc (.cells #[.slice none 0 0] 65)).heap[w.heap.size + 1]? = some (.cells #[.slice none 0 0] 65 (0, 0)) := heap_new1 _ _ _
 clear x0 x1
 have k1 := h.keep (hb.mono hB) (Nat.le_trans hB hb.size)
 have hsm := h.small
 have HN := Zh h.len
 obtain ⟨b, o, rfl, _⟩ := h.lies.ptr hn0
 clear h
 have hidx := fun i (hi : i < n) => turn_idx (turn := turn) hn0 hi
 obtain ⟨T, hT⟩ : ∃ T, turn.tmod n = T := ⟨_, rfl⟩
 rw [hT] at hidx
 obtain ⟨K, hK⟩ : ∃ K, turnK turn n = K := ⟨_, rfl⟩
 rw [hK] at hidx ⊢
 have HIDX := Zh hidx
 obtain ⟨hKn, _, hT1, hT2⟩ := hidx 0 hn0
 clear hidx hK
 go_enter Tryz.func34, Tryz.ntmps34
 go_upto_region 1 with fail
 generalize (w.alloc (.cells #[.slice (some ⟨b, o, none⟩) n c] 65)).alloc (.cells #[.slice none 0 0] 65) = w1 at hb y0 hres k1 ⊢
 have y0' : w1.cell? ⟨w.heap.size, 0, none⟩ = some (.slice (some ⟨b, o, none⟩) n c) := y0
 have HV0 := Zh (Zi True.intro (Zi hb (Zi k1 (Zi hres y0'))))
 clear hb k1 hres y0
 go_wp2_with fail
 clear y0'
 go_loopw [5, 7] (fun lv iv wr => ∃ (i : Nat) (go : Option Nat) (cap : Nat), lv = sv go i cap ∧ iv = .int .i64 (i : Nat) ∧ i ≤ n ∧ Vec 70 2 w1 wr go i cap (avaV ((turnL K l).take i))) (fun _ iv _ => n - (intOf iv).toNat)
 case atStart => exact ⟨0, none, 0, rfl, rfl, Nat.zero_le _, Vec.nil _ _ _ (Zl _ _)⟩
 case round =>
  obtain ⟨i, go, cap, rfl, rfl, hin, hv⟩ := hrel
  have HBL := Zh hv.below; have HV := Zh hv; clear hv
  by_cases hi : i < n
  ·have i2 : (i : Int) < (n : Int) := by omega
   have i3 : (0 : Int) ≤ (i : Int) := by omega
   obtain ⟨_, hm, _, _⟩ := HIDX.out i hi
   obtain ⟨k, hk⟩ : ∃ k, (i + K) % n = k := ⟨_, rfl⟩
   rw [hk] at hm
   have hkn : k < n := by rw [← hk]; exact Nat.mod_lt _ hn0
   obtain ⟨x, hx⟩ : ∃ x, l[k]? = some x := ⟨_, List.getElem?_eq_getElem (by have := HN.out; omega)⟩
   obtain ⟨s1, s2⟩ := HV0.out.2.2.1.cell b o rfl k x hx
   have s1 := (HBL.out.cell (Zb _ _ s1)).trans s1
   have s2 := (HBL.out.cell (Zb _ _ s2)).trans s2
   have z0 := (HBL.out.cell (Zb _ _ HV0.out.2.2.2.2)).trans HV0.out.2.2.2.2
   have hta : (turnL K l).take (i + 1) = (turnL K l).take i ++ [x] := by
    rw [List.take_add_one, turnL_at (by have := HN.out; omega) (by have := HN.out; omega), show l.length = n from HN.out.symm, hk, hx]; rfl
   have HTA := Zh hta
   have k2 : (k : Int) < (n : Int) := by omega
   have k3 : (0 : Int) ≤ (k : Int) := by omega
   have hn1 : ((n : Int) == 0) = false := by simp; omega
   clear hta hx hk
   go_wp2_with (first
    | (at_builtin; go_loud (refine HV.out.push eiAva rfl _ _ rfl rfl 1 [.string x.1, .string x.2] #[.string x.1, .string x.2] rfl rfl rfl (fun u hu => by simp at hu; rcases hu with rfl | rfl <;> rfl) (by omega) (i + 1) rfl (by omega) ?_); intro gl cap2 w2 hv2 hg2; have HV2 := Zh (Zi hv2 hg2); clear hv2 hg2)
    | fail)
   exact ⟨⟨i + 1, some gl, cap2, rfl, by simp, by omega, by rw [HTA.out, avaV_app]; exact HV2.out.1⟩, by simp [intOf]; omega⟩
  ·have i2 : ¬ (i : Int) < (n : Int) := by omega
   obtain rfl : i = n := by omega
   obtain ⟨ga, hga⟩ : ∃ ga, ga = go.map (fun g => (⟨g, 0, none⟩ : Addr)) := ⟨_, rfl⟩
   have hsv : sv go i cap = .slice ga i cap := by rw [hga]; rfl
   rw [hsv]
   have hr : wr.heap[w.heap.size + 1]? = some (.cells #[.slice none 0 0] 65 (0, 0)) := (HBL.out.block _ (Array.getElem?_eq_some_iff.1 HV0.out.2.2.2.1).1).trans HV0.out.2.2.2.1
   have c2 : wr.cell? ⟨w.heap.size + 1, 0, none⟩ = some (.slice none 0 0) := (Lib.cell_of_heap hr 0).trans rfl
   have f2 := Lib.frozen_of_heap hr 0
   have hv3 := (HV.out.from HV0.out.2.1).setO (j := 0) hr (by decide) (by omega) (.slice ga i cap)
   have r0 : (wr.setCell ⟨w.heap.size + 1, 0, none⟩ (.slice ga i cap)).cell? ⟨w.heap.size + 1, 0, none⟩ = some (.slice ga i cap) := World.cell?_setCell_same _ _ _ c2
   have HV3 := Zh (Zi hv3 hga); clear hv3 hga hsv hr
   go_wp2_with fail
   clear c2 f2
   refine bodyPost_ret (v := .agg #[.slice ga i cap]) ((results_cell1 rfl _ _ _).trans ?hres) rfl ?_
   case hres => go_simp
   have h3 := HV3.out.1
   rw [List.take_of_length_le (by rw [turnL_len]; have := HN.out; omega)] at h3
   exact ⟨go, cap, by rw [HV3.out.2]; rfl, h3⟩
theorem flat_take {l : List ByteArray} {i : Nat} {x : ByteArray} (h : l[i]? = some x) : ((l.take (i + 1)).map toL).flatten = ((l.take i).map toL).flatten ++ x.data.toList := by
 rw [List.take_add_one, h]
 simp [toL]
theorem flat_len_le (l : List ByteArray) (i : Nat) : ((l.take i).map toL).flatten.length ≤ (l.map toL).flatten.length := by
 have h : l = l.take i ++ l.drop i := (List.take_append_drop i l).symm
 have h2 : (l.map toL).flatten = ((l.take i).map toL).flatten ++ ((l.drop i).map toL).flatten := by
  rw [← List.flatten_append, ← List.map_append, List.take_append_drop]
 rw [h2, List.length_append]; omega
set_option maxRecDepth 20000 in
set_option maxHeartbeats 8000000 in
theorem joined_any (a : Option Addr) (n c : Nat) (l : List ByteArray) (w : World) (hn : n = l.length) (hc : SCells6 w a n l) (hne : ∀ x ∈ l, 0 < x.size) (hb : (l.map toL).flatten.length ≤ 4294967280) (hnb : n ≤ 4294967280) :
  Calls Tryz.prog 36 #[.slice a n c] w fun e w' => e = .returned (.string (baOf (l.map toL).flatten)) ∧ Below w.heap.size w w' := by
 have HN := Zh hn; have HC := Zh hc; have HNE := Zh hne; have HBB := Zh hb
 clear hn hc hne hb
 go_enter Tryz.func36, Tryz.ntmps36
 go_wp2_with fail
 go_loopw [3, 4] (fun lv iv wr => ∃ (i : Nat) (go : Option Nat) (cap : Nat) (L : List UInt8), lv = sv go L.length cap ∧ iv = .int .i64 (i : Nat) ∧ i ≤ n ∧ L = ((l.take i).map toL).flatten ∧ Buf w wr go cap L) (fun _ iv _ => n - (intOf iv).toNat)
 case atStart => exact ⟨0, none, 0, [], rfl, rfl, Nat.zero_le _, by simp, Buf.nil _⟩
 case round =>
  obtain ⟨i, go, cap, L, rfl, rfl, hin, hL, hv⟩ := hrel
  have hLb : L.length ≤ 4294967280 := by have h1 := flat_len_le l i; rw [← hL] at h1; have := HBB.out; omega
  have HL := Zh hL; have HV := Zh hv; clear hL hv
  by_cases hi : i < n
  ·have i2 : (i : Int) < (n : Int) := by omega
   have i3 : (0 : Int) ≤ (i : Int) := by omega
   obtain ⟨b, rfl, hcc⟩ := HC.out (by omega)
   obtain ⟨x, hx⟩ : ∃ x, l[i]? = some x := ⟨_, List.getElem?_eq_getElem (by have := HN.out; omega)⟩
   have q := (HV.out.below.cell (Zb _ _ (hcc i x hx))).trans (hcc i x hx)
   have hxs := HNE.out x (List.mem_of_getElem? hx)
   have hft := flat_take hx
   rw [← HL.out] at hft
   have hlen : L.length + x.size ≤ 4294967280 := by
    have h1 := flat_len_le l (i + 1)
    rw [hft, List.length_append] at h1
    have h2 : x.data.toList.length = x.size := Lib.size_eq x
    have := HBB.out
    omega
   have HFT := Zh hft
   clear hft hx hcc
   go_wp2_with (first
    | (at_builtin; go_loud (refine HV.out.pushS rfl _ _ rfl rfl x hxs rfl (by omega) ?_); intro g cap2 w2 hv2; have HV2 := Zh hv2; clear hv2)
    | fail)
   refine ⟨⟨i + 1, some g, cap2, L ++ x.data.toList, ?_, by simp, by omega, HFT.out.symm, HV2.out⟩, by simp [intOf]; omega⟩
   have h2 : x.data.toList.length = x.size := Lib.size_eq x
   rw [List.length_append, h2]; rfl
  ·have i2 : ¬ (i : Int) < (n : Int) := by omega
   have hfl : L = (l.map toL).flatten := by rw [HL.out, List.take_of_length_le (by have := HN.out; omega)]
   have HF := Zh hfl; clear hfl
   cases go with
   | none =>
    have h0 : L = [] := by have h := HV.out.own.2.1; exact List.eq_nil_of_length_eq_zero h
    subst h0
    have hcap : cap = 0 := HV.out.own.2.2
    subst hcap
    rw [show sv none ([] : List UInt8).length 0 = .slice none 0 0 from rfl]
    have hcv : (convert 115 9 (.slice none 0 0)).run Tryz.prog wr = .ok (.string ⟨#[]⟩) wr := by kernel_rfl
    go_wp2_with fail
    go_ret
    exact ⟨by rw [← HF.out]; rfl, HV.out.below⟩
   | some g =>
    have hbk := HV.out.back (n := L.length) rfl cap
    rw [show sv (some g) L.length cap = .slice (some ⟨g, 0, none⟩) L.length cap from rfl]
    go_wp2_with fail
    go_ret
    exact ⟨by rw [← HF.out]; rfl, HV.out.below⟩
theorem TwinN.snoc {S : PSchema} {n m : PName} {r s : PRdn} (h : TwinN S n m) (k : TwinR S r s) : TwinN S (n ++ [r]) (m ++ [s]) := by
 induction h with
 | nil => exact .cons k .nil
 | cons h _ ih => exact .cons h ih
theorem stepsK_all6 {rd : Str → Str × Bool} {S : PSchema} : ∀ {n : PName}, (stepsK rd S n).1 = 0 → ∀ r ∈ n, (pairsK rd S [] r).1 = 0
 | [], _, r, hr => by cases hr
 | x :: n, h, r, hr => by
  simp only [stepsK] at h
  split at h
  ·rename_i e; simp only at h; exact absurd h e
  ·rename_i e
   rcases List.mem_cons.1 hr with rfl | hr
   ·exact Decidable.not_not.1 e
   ·exact stepsK_all6 h r hr
theorem key_parts {S : PSchema} (hS : OkS S) {n : PName} (hk : (nkeyV S n).2 = 0) : ∀ r ∈ n, r ≠ [] ∧ ∀ a ∈ r, ∃ t, typeAt S (toL a.1) = some t := fun r hr => by
 obtain ⟨_, _, a3, a4, _⟩ := key_steps hS hk
 obtain ⟨_, _, _, l2⟩ := print_ok (n := n) (t := (printV n).1) (by rw [← a4])
 refine ⟨(l2 r hr).1, fun a ha => ?_⟩
 obtain ⟨_, _, i3⟩ := pairsK_to r [] (by simp) (stepsK_all6 a3 r hr)
 obtain ⟨t, ht, _⟩ := i3 a ha
 exact ⟨t, ht⟩
theorem key_bound {S : PSchema} (hS : OkS S) {n : PName} (hk : (nkeyV S n).2 = 0) : (nkeyV S n).1.length ≤ 1076772910 := by
 obtain ⟨_, _, _, a4, _⟩ := key_steps hS hk
 have hp : printV n = ((printV n).1, 0) := by rw [← a4]
 obtain ⟨_, h1, _⟩ := print_ok hp
 have h2 := rdK_ok (S := S) (parse_print hp)
 obtain ⟨h3, _⟩ := rd_len hS _ (printV n).1 (Zr _)
 rw [h2] at h3
 simp only at h3
 omega
theorem renA_one {S : PSchema} {a : PAva} {t : Nat} (h : typeAt S (toL a.1) = some t) : renA S a = ((fullT S t).oid, a.2) := by unfold renA; rw [h]; rfl
def renL (S : PSchema) (r : PRdn) (j : Nat) : PRdn := (r.take j).map (renA S) ++ r.drop j
theorem renL_len (S : PSchema) (r : PRdn) (j : Nat) : (renL S r j).length = r.length := by unfold renL; simp; omega
theorem renL_zero (S : PSchema) (r : PRdn) : renL S r 0 = r := by simp [renL]
theorem renL_end (S : PSchema) {r : PRdn} {j : Nat} (h : r.length ≤ j) : renL S r j = r.map (renA S) := by unfold renL; rw [List.take_of_length_le h, List.drop_of_length_le h]; simp
theorem renL_at (S : PSchema) {r : PRdn} {j : Nat} {a : PAva} (h : r[j]? = some a) : (renL S r j)[j]? = some a := by
 have hj := (List.getElem?_eq_some_iff.1 h).1
 unfold renL
 rw [List.getElem?_append_right (by simp; omega)]
 simp
 rw [show j + (j - min j r.length) = j by omega]
 exact h
theorem renL_next (S : PSchema) {r : PRdn} {j : Nat} {a : PAva} (h : r[j]? = some a) : renL S r (j + 1) = (renL S r j).set j (renA S a) := by
 have hj := (List.getElem?_eq_some_iff.1 h).1
 unfold renL
 have hd : r.drop j = a :: r.drop (j + 1) := by
  rw [List.drop_eq_getElem_cons hj, (List.getElem?_eq_some_iff.1 h).2]
 have e1 : (r.take (j + 1)).map (renA S) = (r.take j).map (renA S) ++ [renA S a] := by
  rw [List.take_add_one, h]; simp
 have e2 : ((r.take j).map (renA S)).length = j := by simp; omega
 rw [e1, hd]
 generalize (r.take j).map (renA S) = X at e2
 subst e2
 simp
theorem avaV_set : ∀ (l : PRdn) (j : Nat) (x : ByteArray) (a : PAva), l[j]? = some a → (avaV l).set (j * 2) (.string x) = avaV (l.set j (x, a.2))
 | [], _, _, _, h => by cases h
 | y :: l, 0, x, a, h => by cases h; rfl
 | y :: l, j + 1, x, a, h => by
  have := avaV_set l j x a h
  show (avaV (y :: l)).set ((j + 1) * 2) _ = avaV (y :: l.set j (x, a.2))
  have e : ∀ m, avaV (y :: m) = Value.string y.1 :: Value.string y.2 :: avaV m := fun _ => rfl
  rw [e, e, show (j + 1) * 2 = j * 2 + 1 + 1 by omega, Z3, Z3, this]
theorem toL_baOf (l : Str) : toL (baOf l) = l := by simp [toL, baOf]
theorem key_list {S : PSchema} (hS : OkS S) {n : PName} (hk : (nkeyV S n).2 = 0) : ∃ vs : List ByteArray, vs.map toL = stepsOf (nkeyV S n).1 ∧ vs.length = n.length ∧ (∀ x ∈ vs, 0 < x.size) ∧ (vs.map toL).flatten = (nkeyV S n).1 := by
 obtain ⟨a1, a2, a3, a4, a5, a6⟩ := key_steps hS hk
 have hm : ((stepsOf (nkeyV S n).1).map baOf).map toL = stepsOf (nkeyV S n).1 := by
  rw [List.map_map]
  exact (List.map_congr_left fun x _ => toL_baOf x).trans (List.map_id _)
 refine ⟨(stepsOf (nkeyV S n).1).map baOf, hm, ?_, fun x hx => ?_, ?_⟩
 ·rw [List.length_map, a2, List.length_reverse, a5]
 ·obtain ⟨y, hy, rfl⟩ := List.mem_map.1 hx
  rw [a2] at hy
  have h1 := a6 y (by simpa using hy)
  have h2 : (baOf y).size = y.length := by simp [baOf, ByteArray.size]
  rw [h2]
  exact List.length_pos_iff.2 h1
 ·rw [hm, a2]; exact a1.symm
theorem key_up {S : PSchema} (hS : OkS S) {r : PRdn} {n : PName} (hk : (nkeyV S (r :: n)).2 = 0) {vs : List ByteArray} (hv : vs.map toL = stepsOf (nkeyV S (r :: n)).1) :
  (nkeyV S n).2 = 0 ∧ ((vs.take n.length).map toL).flatten = (nkeyV S n).1 ∧ liesV (nkeyV S (r :: n)).1 (nkeyV S n).1 = true ∧ liesV (nkeyV S n).1 (nkeyV S (r :: n)).1 = false := by
 obtain ⟨s, _, h2, _, h4, h5, h6, h7, h8⟩ := key_cons hS hk
 refine ⟨h2, ?_, h7, h8⟩
 rw [List.map_take, hv, h4, ← h5, List.take_left, h6]
theorem key_below {S : PSchema} (hS : OkS S) {r : PRdn} {n : PName} (hk : (nkeyV S (r :: n)).2 = 0) : liesV (nkeyV S (r :: n)).1 (nkeyV S n).1 = true ∧ ∃ s, s ≠ [] ∧ (nkeyV S (r :: n)).1 = (nkeyV S n).1 ++ s := by
 obtain ⟨s, h1, _, h3, _, _, _, h7, _⟩ := key_cons hS hk
 exact ⟨h7, s, h1, h3⟩
theorem Own.push {P : Program} {T e : TypeId} {z : Value} {sz bytes : Nat} {w : World} {go : Option Nat} {n cap : Nat} {vs : List Value} (h : Own w e sz go n cap vs) (I : EI P T e z sz bytes) {ops : Array Oper} {rest : List Oper} {o : Oper} {a : Act} {Q : Exit → Act → World → Prop} (hgd : o.guard = none) (s x : Operand)
  (ho : o.op = .call { callee := .builtin .append, args := #[s, x], argTypes := #[T, T] })
  (hs : a.eval s = sv go n cap) (m : Nat) (news : List Value) (cs : Array Value) (hcs : cs.toList = news) (hx : a.eval x = .slice (some ⟨w.heap.size, 0, none⟩) m m) (hl : news.length = m * sz) (h1 : ∀ u ∈ news, u.oneCell' = true) (hm : 0 < m)
  (L : Nat) (hL : n + m = L) (hb : L * bytes ≤ 140737488355328)
  (hk : ∀ g cap' w', Own w' e sz (some g) L cap' (vs ++ news) → (w.alloc (.cells cs e)).grownBy w' go → (go = some g ∨ g = (w.alloc (.cells cs e)).heap.size) → wpList P ops Q rest (a.put o.dst (.slice (some ⟨g, 0, none⟩) L cap')) w') : wpList P ops Q (o :: rest) a (w.alloc (.cells cs e)) := by
 subst hL
 obtain ⟨i, h2, h3, h4, h5⟩ := I.info
 have h' : Own (w.alloc (.cells cs e)) e sz go n cap vs := h.keep fun g hg => by subst hg; exact Below.heap_alloc w _ g h.row.lt
 refine wpList_app0 hgd s x T ho e i z sz bytes I.und h2 h3 h4 h5 I.zs I.sz0 I.b0 go n cap vs hs h' (some ⟨w.heap.size, 0, none⟩) m m news hx (fun h => by cases h) hl (news_new w news cs e hcs) h1 hb fun go' cap' w' hO hG hat => ?_
 cases go' with
 | none => have := hO.2.1; omega
 | some g =>
  refine hk g cap' w' hO hG ?_
  rcases hat with e2 | e2
  ·exact .inl e2.symm
  ·cases e2; exact .inr rfl
end Go.Proofs.YtlmfbjhokkpjhaaGreatDoor
