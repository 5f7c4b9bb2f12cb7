/- Part 10 of the walks and plain laws, joined: SchP2, Ups, Word, Chain, Clones, First, Copied. -/
import Derived.Test.YtlmfbjhokkpjhaaGreatDoorNM00
import Derived.Test.YtlmfbjhokkpjhaaGreatDoorNM09
import Derived.Test.YtlmfbjhokkpjhaaGreatDoorNM01
import Derived.Test.YtlmfbjhokkpjhaaGreatDoorNM06
import Derived.Deep.RegionHeld3
import Derived.Deep.QuietTactic
import Derived.BigQuiet
import Derived.IntWalk
import Derived.Shelf.SlLaysE0
import Derived.Shelf.SlicesE.Clone
set_option linter.unusedVariables false
set_option linter.unusedSimpArgs false
namespace Go.Proofs.YtlmfbjhokkpjhaaGreatDoor
open Go
theorem supsOf_lt {S : PSchema} {c p : Nat} (h : some p ∈ supsOf S c) : p < S.classes.length := by
 unfold supsOf at h
 obtain ⟨n, _, hn⟩ := List.mem_map.1 h
 have := placeOf_lt hn
 simpa [cK] using this
def dstep (S : PSchema) (f : Nat) (s : List Bool) (p : Option Nat) : List Bool := match p with
 | none => s
 | some p => if s.getD p false then s else dfs S f (s.set p true) p
theorem dfs_eq (S : PSchema) (f : Nat) (s : List Bool) (c : Nat) : dfs S (f + 1) s c = (supsOf S c).foldl (dstep S f) s := rfl
theorem dstep_more (S : PSchema) (f : Nat) (s : List Bool) (p : Option Nat) : OnMore s (dstep S f s p) := by
 cases p with
 | none => exact OnMore.refl s
 | some p =>
  unfold dstep
  dsimp only
  split
  ·exact OnMore.refl s
  ·exact (OnMore.set s p).trans (dfs_more S f _ p)
theorem dfs_fuel (S : PSchema) : ∀ (f1 f2 : Nat) (s : List Bool) (c : Nat), s.length = S.classes.length → offs s < f1 → offs s < f2 → dfs S f1 s c = dfs S f2 s c
 | 0, _, _, _, _, h, _ => by omega
 | f1 + 1, 0, _, _, _, _, h => by omega
 | f1 + 1, f2 + 1, s, c, hl, h1, h2 => by
  rw [dfs_eq, dfs_eq]
  have hlt : ∀ p, some p ∈ supsOf S c → p < S.classes.length := fun p hp => supsOf_lt hp
  revert hlt
  generalize supsOf S c = l
  intro hlt
  have key : ∀ (l : List (Option Nat)) (s' : List Bool), (∀ p, some p ∈ l → p < S.classes.length) → s'.length = S.classes.length → offs s' ≤ offs s → l.foldl (dstep S f1) s' = l.foldl (dstep S f2) s' := by
   intro l
   induction l with
   | nil => intro s' _ _ _; rfl
   | cons p l ih =>
    intro s' hlt hl' ho
    rw [List.foldl_cons, List.foldl_cons]
    have e : dstep S f1 s' p = dstep S f2 s' p := by
     cases p with
     | none => rfl
     | some p =>
      unfold dstep
      dsimp only
      by_cases hq : s'.getD p false = true
      ·rw [if_pos hq, if_pos hq]
      ·rw [if_neg hq, if_neg hq]
       have hp := hlt p (List.mem_cons_self ..)
       have hs := offs_set (s := s') (p := p) (by omega) (by simpa using hq)
       exact dfs_fuel S f1 f2 _ p (by simpa using hl') (by omega) (by omega)
    rw [e]
    have hm := dstep_more S f2 s' p
    exact ih _ (fun p hp => hlt p (List.mem_cons_of_mem _ hp)) (hm.1.trans hl') (Nat.le_trans hm.offs ho)
  exact key l s hlt hl (Zr _)
def dfsT (S : PSchema) (s : List Bool) (c : Nat) : List Bool := dfs S (offs s + 1) s c
theorem dfsT_of (S : PSchema) {f : Nat} {s : List Bool} {c : Nat} (hl : s.length = S.classes.length) (h : offs s < f) : dfs S f s c = dfsT S s c := dfs_fuel S f _ s c hl h (Nat.lt_succ_self _)
def tstep (S : PSchema) (s : List Bool) (p : Option Nat) : List Bool := match p with
 | none => s
 | some p => if s.getD p false then s else dfsT S (s.set p true) p
theorem tstep_more (S : PSchema) (s : List Bool) (p : Option Nat) : OnMore s (tstep S s p) := by
 cases p with
 | none => exact OnMore.refl s
 | some p =>
  unfold tstep
  dsimp only
  split
  ·exact OnMore.refl s
  ·exact (OnMore.set s p).trans (dfs_more S _ _ p)
theorem foldT_more (S : PSchema) (l : List (Option Nat)) (s : List Bool) : OnMore s (l.foldl (tstep S) s) := by
 induction l generalizing s with
 | nil => exact OnMore.refl s
 | cons p l ih => rw [List.foldl_cons]; exact (tstep_more S s p).trans (ih _)
theorem dfsT_eq (S : PSchema) {s : List Bool} (c : Nat) (hl : s.length = S.classes.length) : dfsT S s c = (supsOf S c).foldl (tstep S) s := by
 unfold dfsT
 rw [dfs_eq]
 have hlt : ∀ p, some p ∈ supsOf S c → p < S.classes.length := fun p hp => supsOf_lt hp
 revert hlt
 generalize supsOf S c = l
 intro hlt
 have key : ∀ (l : List (Option Nat)) (s' : List Bool), (∀ p, some p ∈ l → p < S.classes.length) → s'.length = S.classes.length → offs s' ≤ offs s → l.foldl (dstep S (offs s)) s' = l.foldl (tstep S) s' := by
  intro l
  induction l with
  | nil => intro s' _ _ _; rfl
  | cons p l ih =>
   intro s' hlt hl' ho
   rw [List.foldl_cons, List.foldl_cons]
   have e : dstep S (offs s) s' p = tstep S s' p := by
    cases p with
    | none => rfl
    | some p =>
     unfold dstep tstep
     dsimp only
     by_cases hq : s'.getD p false = true
     ·rw [if_pos hq, if_pos hq]
     ·rw [if_neg hq, if_neg hq]
      have hp := hlt p (List.mem_cons_self ..)
      have hs := offs_set (s := s') (p := p) (by omega) (by simpa using hq)
      exact dfsT_of S (by simpa using hl') (by omega)
   rw [e]
   have hm := tstep_more S s' p
   exact ih _ (fun p hp => hlt p (List.mem_cons_of_mem _ hp)) (hm.1.trans hl') (Nat.le_trans hm.offs ho)
 exact key l s hlt hl (Zr _)
theorem riseOf_eq (S : PSchema) (c : Nat) : riseOf S c = dfsT S (List.replicate S.classes.length false) c := by
 unfold riseOf
 exact dfsT_of S (by simp) (by unfold offs; simp)
end Go.Proofs.YtlmfbjhokkpjhaaGreatDoor
namespace Go.Proofs.YtlmfbjhokkpjhaaGreatDoor
open Go Go.RowKit Go.Maps
def boolV (b : Bool) : Value := .bool b
structure Ups (w : World) (g lo hi : Nat) (S : PSchema) (j : Nat) (go : Option Nat) (cap : Nat) (vs : List Value) : Prop where
 g6 : w.cell? ⟨g, 6, none⟩ = some (sv go j cap)
 own : Own w 154 1 go j cap vs
 lie : ∀ b, go = some b → lo < b ∧ b < hi
 rows : ∀ i, i < j → ∃ sb, vs[i]? = some (.slice (some ⟨sb, 0, none⟩) S.classes.length S.classes.length) ∧ Row w sb 4 1 S.classes.length ((riseOf S i).map boolV) ∧ lo < sb ∧ sb < hi ∧ go ≠ some sb
section
variable {w w' : World} {g lo hi : Nat} {S : PSchema} {j : Nat} {go : Option Nat} {cap : Nat} {vs : List Value}
theorem Ups.keepAt (h : Ups w g lo hi S j go cap vs) (hb : ∀ b, lo < b → b < hi → w'.heap[b]? = w.heap[b]?) (h6 : w'.cell? ⟨g, 6, none⟩ = w.cell? ⟨g, 6, none⟩) : Ups w' g lo hi S j go cap vs where
 g6 := by rw [h6]; exact h.g6
 own := h.own.keep fun b e => hb b (h.lie b e).1 (h.lie b e).2
 lie := h.lie
 rows := fun i hi => by
  obtain ⟨sb, h1, h2, h3, h4, h5⟩ := h.rows i hi
  exact ⟨sb, h1, h2.keep (hb sb h3 h4), h3, h4, h5⟩
theorem Ups.keep (h : Ups w g lo hi S j go cap vs) (hh : hi ≤ w.heap.size) (k : Below w.heap.size w w') : Ups w' g lo hi S j go cap vs :=
 h.keepAt (fun b _ hb => k.block b (by omega)) (k.cell (Zb w _ h.g6))
end
end Go.Proofs.YtlmfbjhokkpjhaaGreatDoor
namespace Go.Proofs.YtlmfbjhokkpjhaaGreatDoor
open Go Go.RowKit
theorem small_any (s : ByteArray) (w : World) (hs : s.size ≤ 140737488355328) :
  Calls Tryz.prog 89 #[.string s] w fun e w' => e = .returned (.string ⟨(low (toL s)).toArray⟩) ∧ Below w.heap.size w w' := by
 go_enter Tryz.func89, Tryz.ntmps89
 have hc := Lib.run_convert_string_bytes (P := Tryz.prog) w 9 115 5 s Tryz.underlying9 Tryz.underlying115 Tryz.underlying5
 have B0 := below_bytes w 5 s
 have T0 := Bts.conv w s
 generalize Lib.bytesWorld w 5 s = w1 at hc B0 T0
 generalize grownCap w s.size 0 5 = cap at hc
 go_wp2_with fail
 clear hc
 have HB0 := Zh B0; clear B0
 have HT0 := Zh T0; clear T0
 go_loopw [10] (fun iv wr => ∃ i : Nat, iv = .int .i64 i ∧ i ≤ s.size ∧ Below w.heap.size w wr ∧ Bts wr w.heap.size (low (s.data.toList.take i) ++ s.data.toList.drop i)) (fun iv _ => s.size - (intOf iv).toNat)
 case atStart => exact ⟨0, rfl, Nat.zero_le _, HB0.out, by simpa [low] using HT0.out⟩
 case round =>
  clear HB0 HT0
  obtain ⟨i, rfl, hi, hb, ht⟩ := hrel
  have HB := Zh hb; clear hb
  have HT := Zh ht; clear ht
  have hl0 : s.data.toList.length = s.size := by simp
  have hlen : (low (s.data.toList.take i) ++ s.data.toList.drop i).length = s.size := by simp [low]; omega
  by_cases hlt : i < s.size
  ·have hget : (low (s.data.toList.take i) ++ s.data.toList.drop i)[i]? = some s[i] := by
    rw [List.getElem?_append_right (by rw [low, List.length_map, List.length_take]; omega), show i - (low (s.data.toList.take i)).length = 0 by rw [low, List.length_map, List.length_take]; omega, drop_at s hlt]; rfl
   have hcell := HT.out.cell i _ hget
   have hfr := HT.out.fr i (by omega)
   have hst := low_step s.data.toList (by omega : i < s.data.toList.length)
   have hsi : s.data.toList[i]'(by omega) = s[i] := rfl
   rw [hsi] at hst
   have HS := Zh hst; clear hst
   have HN := Zh (low_keep s.data.toList (by omega : i < s.data.toList.length))
   rw [hsi] at HN
   have hset := HT.out.set (i := i) (by omega) (lowB s[i])
   rw [HS.out] at hset
   have HQ := Zh hset; clear hset HS
   clear hget hsi hlen
   generalize s[i] = b at *
   go_wp2_with fail
   ·have e1 := lowB_nat (b := b) (by omega)
    have hq := HQ.out
    rw [show ((lowB b).toNat : Int) = (b.toNat : Int) + 32 by omega] at hq
    exact ⟨⟨i + 1, by simp, by omega, HB.out.setCell (Zr _) _, hq⟩, by simp [intOf]; omega⟩
   all_goals exact ⟨⟨i + 1, by simp, by omega, HB.out, by rw [HN.out (lowB_same (by omega))]; exact HT.out⟩, by simp [intOf]; omega⟩
  ·have hie : i = s.size := by omega
   subst hie
   have hfin := HT.out
   rw [List.take_of_length_le (by omega), List.drop_eq_nil_of_le (by omega), List.append_nil] at hfin
   have hbk := hfin.back (P := Tryz.prog) (src := 115) (dst := 9) (e := 5) (n := s.size) (by simp [low]) cap Tryz.underlying115 Tryz.underlying5 Tryz.underlying9
   clear hfin hlen
   go_wp2_with fail
   go_ret
   exact ⟨rfl, HB.out⟩
theorem let_fin : ∀ n : Fin 256, (decide (97 ≤ bits BinOp.or IntKind.u8 (n.val : Int) 32) && decide (bits BinOp.or IntKind.u8 (n.val : Int) 32 ≤ 122)) = (decide (97 ≤ n.val ∧ n.val ≤ 122) || decide (65 ≤ n.val ∧ n.val ≤ 90)) := by decide +kernel
theorem let_eq (b : UInt8) : (decide (97 ≤ bits BinOp.or IntKind.u8 (b.toNat : Int) 32) && decide (bits BinOp.or IntKind.u8 (b.toNat : Int) 32 ≤ 122)) = isLet b := let_fin ⟨b.toNat, b.toNat_lt⟩
theorem letter_any (b : UInt8) (w : World) : Calls Tryz.prog 187 #[.int .u8 (b.toNat : Int)] w fun e w' => e = .returned (.bool (isLet b)) ∧ w = w' := by
 have he := let_eq b
 generalize isLet b = x at he
 have HE := Zh he; clear he
 go_enter Tryz.func187, Tryz.ntmps187
 go_wp2_with fail
 all_goals
  rename_i h
  go_ret
  refine ⟨?_, rfl⟩
  rw [← HE.out]
  simp [h]
 omega
theorem dig_eq (b : UInt8) : (decide (48 ≤ (b.toNat : Int)) && decide ((b.toNat : Int) ≤ 57)) = dig b := by
 unfold dig; rw [Bool.eq_iff_iff]; simp; omega
theorem digit_any (b : UInt8) (w : World) : Calls Tryz.prog 227 #[.int .u8 (b.toNat : Int)] w fun e w' => e = .returned (.bool (dig b)) ∧ w = w' := by
 have he := dig_eq b
 generalize dig b = x at he
 have HE := Zh he; clear he
 go_enter Tryz.func227, Tryz.ntmps227
 go_wp2_with fail
 all_goals
  rename_i h
  go_ret
  refine ⟨?_, rfl⟩
  rw [← HE.out]
  simp [h]
 omega
theorem tailC_45 (b : UInt8) : (b == 45) = decide ((b.toNat : Int) = 45) := by
 rw [Bool.eq_iff_iff]; simp only [beq_iff_eq, decide_eq_true_eq]
 exact ⟨fun h => by subst h; rfl, fun h => UInt8.toNat_inj.1 (by show b.toNat = 45; omega)⟩
theorem tail_any (s : ByteArray) (w : World) (hs : s.size ≤ 140737488355328) : Calls Tryz.prog 188 #[.string s] w fun e w' => e = .returned (.bool (tailB (toL s))) ∧ w = w' := by
 go_enter Tryz.func188, Tryz.ntmps188
 go_wp2_with fail
 go_loop [6] (fun iv => ∃ i : Nat, iv = .int .i64 i ∧ i ≤ s.size ∧ tailB (toL s) = tailB ((toL s).drop i)) (fun iv => s.size - (intOf iv).toNat)
 case atStart => exact ⟨0, rfl, Nat.zero_le _, rfl⟩
 case round =>
  obtain ⟨i, rfl, hi, ht⟩ := hrel
  have HT := Zh ht; clear ht
  by_cases hlt : i < s.size
  ·have hd : tailB ((toL s).drop i) = (tailC s[i] && tailB ((toL s).drop (i + 1))) := by
    unfold toL; rw [drop_at s hlt]; rfl
   have HD := Zh (HT.out.trans hd); clear hd HT
   have h45 := tailC_45 s[i]
   unfold tailC at HD
   have cl := letter_any s[i]
   have cd := digit_any s[i]
   cases hL : isLet s[i] with
   | true =>
    rw [hL] at cl HD
    have CL := Zh cl; clear cl cd h45 hL
    go_wp2_with (first | (go_at_call 187; with_reducible refine (CL.out _).mono ?_; rintro e w1 ⟨rfl, rfl⟩) | fail)
    exact ⟨⟨i + 1, by simp, by omega, by rw [HD.out]; simp⟩, by simp [intOf]; omega⟩
   | false =>
    rw [hL] at cl HD
    have CL := Zh cl; clear cl hL
    cases hD : dig s[i] with
    | true =>
     rw [hD] at cd HD
     have CD := Zh cd; clear cd h45 hD
     go_wp2_with (first | (go_at_call 187; with_reducible refine (CL.out _).mono ?_; rintro e w1 ⟨rfl, rfl⟩) | (go_at_call 227; with_reducible refine (CD.out _).mono ?_; rintro e w1 ⟨rfl, rfl⟩) | fail)
     exact ⟨⟨i + 1, by simp, by omega, by rw [HD.out]; simp⟩, by simp [intOf]; omega⟩
    | false =>
     rw [hD] at cd HD
     rw [h45] at HD
     have CD := Zh cd; clear cd h45 hD
     by_cases h5 : (s[i].toNat : Int) = 45
     ·rw [decide_eq_true h5] at HD
      have hB : ((s[i].toNat : Int) == 45) = true := by rw [h5]; rfl
      have hN : ((s[i].toNat : Int) != 45) = false := by rw [h5]; rfl
      clear h5
      go_wp2_with (first | (go_at_call 187; with_reducible refine (CL.out _).mono ?_; rintro e w1 ⟨rfl, rfl⟩) | (go_at_call 227; with_reducible refine (CD.out _).mono ?_; rintro e w1 ⟨rfl, rfl⟩) | fail)
      exact ⟨⟨i + 1, by simp, by omega, by rw [HD.out]; simp⟩, by simp [intOf]; omega⟩
     ·rw [decide_eq_false h5] at HD
      go_wp2_with (first | (go_at_call 187; with_reducible refine (CL.out _).mono ?_; rintro e w1 ⟨rfl, rfl⟩) | (go_at_call 227; with_reducible refine (CD.out _).mono ?_; rintro e w1 ⟨rfl, rfl⟩) | fail)
      go_ret
      exact ⟨by rw [HD.out]; rfl, rfl⟩
  ·have hfin : tailB ((toL s).drop i) = true := by unfold toL; rw [drop_end s hlt]; rfl
   have HF := Zh (HT.out.trans hfin); clear hfin HT
   go_wp2_with fail
   go_ret
   exact ⟨by rw [HF.out]; rfl, rfl⟩
end Go.Proofs.YtlmfbjhokkpjhaaGreatDoor
namespace Go.Proofs.YtlmfbjhokkpjhaaGreatDoor
open Go Go.RowKit Go.Maps
def ChainPost (S : PSchema) (t : Nat) (w : World) (e : Ending) (w' : World) : Prop :=
 ∃ gl cap, e = .returned (.tuple #[.slice (some ⟨gl, 0, none⟩) (chainOf S t).1.length cap, .bool (chainOf S t).2]) ∧ Vec 3 1 w w' (some gl) (chainOf S t).1.length cap ((chainOf S t).1.map intV)
def lenOf : Value → Nat
 | .slice _ n _ => n
 | _ => 0
set_option maxRecDepth 20000 in
set_option maxHeartbeats 1000000 in
theorem chain_any (S : PSchema) (g t0 : Nat) (w : World) (h : Mk w g S) (ht : t0 < S.types.length) (hS : S.types.length ≤ 1024) :
  Calls Tryz.prog 47 #[.agg #[.pointer (some ⟨g, 0, none⟩)], .int .i64 (t0 : Int)] w (ChainPost S t0 w) := by
 have hbx : Below w.heap.size w (w.alloc (.cells #[.pointer (some ⟨g, 0, none⟩)] 86)) := (Zl _ w).alloc (Zr _) _
 have hm := h.keep hbx
 have HM := Zh hm; have HT := Zh ht; have HS := Zh hS; have HBX := Zh hbx; clear hm hbx ht
 go_enter Tryz.func47, Tryz.ntmps47
 go_wp2_with fail
 have hmb : (w.alloc (.cells #[.pointer (some ⟨g, 0, none⟩)] 86)).cell? ⟨w.heap.size, 0, none⟩ = some (.pointer (some ⟨g, 0, none⟩)) := by rw [World.cell?_alloc_new]; rfl
 have hml : w.heap.size < (w.alloc (.cells #[.pointer (some ⟨g, 0, none⟩)] 86)).heap.size := by simp
 generalize hw1 : w.alloc (.cells #[.pointer (some ⟨g, 0, none⟩)] 86) = w1 at HBX HM hmb hml ⊢
 have HMB := Zh (Zi hmb hml); clear hmb hml hw1
 generalize hMb : w.heap.size = M at HMB ⊢
 have HMS := Zh hMb; clear hMb
 go_loopw [1, 6] (fun tv lv wr => ∃ (t : Nat) (acc : List Nat) (go : Option Nat) (n cap : Nat), tv = .int .i64 (t : Int) ∧ lv = sv go n cap ∧ n = acc.length ∧ OnChain S t0 acc t ∧ Vec 3 1 w1 wr go n cap (acc.map intV)) (fun _ lv _ => S.types.length + 1 - lenOf lv)
 case atStart => exact ⟨t0, [], none, 0, 0, rfl, rfl, rfl, OnChain.start HT.out, Vec.nil _ _ _ (Zl _ _)⟩
 case round =>
  obtain ⟨t, acc, go, n, cap, rfl, rfl, hn, hch, hv⟩ := hrel
  have hnl := hch.len
  have hns : n ≤ 1024 := by have := HS.out; omega
  have hcon := contains_vec hv hn (by omega) t
  have HN := Zh hn; have HC := Zh hch; have HV := Zh hv
  clear hn hch hv hnl
  cases hq : acc.contains t with
  | true =>
   rw [hq] at hcon
   have HCN := Zh hcon; have HQ := Zh hq; clear hcon hq
   cases go with
   | none =>
    have := HV.out.own.2.1
    have : acc = [] := List.eq_nil_of_length_eq_zero (by have := HN.out; omega)
    subst this
    have := HQ.out; cases this
   | some gl =>
    go_wp2_with (first | (go_at_call 94; refine (HCN.out).mono ?_; rintro e w2 ⟨rfl, rfl⟩) | fail)
    go_ret2
    have hf := HC.out.twice HQ.out
    have hv := HV.out.from HBX.out
    rw [HN.out] at hv
    refine ⟨gl, cap, ?_, ?_⟩
    ·rw [hf, ← HN.out]; rfl
    ·rw [hf]; exact hv
  | false =>
   rw [hq] at hcon
   have HCN := Zh hcon; have HQ := Zh hq; clear hcon hq
   have hv2 := fun ops rest o a Q => HV.out.push (P := Tryz.prog) eiInt (ops := ops) (rest := rest) (o := o) (a := a) (Q := Q)
   have HP := Zh hv2; clear hv2
   go_wp2_with (first
    | (go_at_call 94; refine (HCN.out).mono ?_; rintro e w2 ⟨rfl, rfl⟩)
    | (at_builtin; refine HP.out _ _ _ _ _ rfl _ _ rfl rfl 1 [.int .i64 (t : Int)] #[.int .i64 (t : Int)] rfl rfl rfl (fun u hu => by simp at hu; subst hu; rfl) (by omega) (n + 1) rfl (by omega) ?_; intro gl cap2 w2 hv3 hg3)
    | fail)
   have hv4 : Vec 3 1 w1 w2 (some gl) (n + 1) cap2 ((acc ++ [t]).map intV) := by rw [List.map_append]; exact hv3
   have hm2 := HM.out.keep hv4.below
   have hmc : w2.cell? ⟨M, 0, none⟩ = some (.pointer (some ⟨g, 0, none⟩)) := by rw [hv4.below.cell (by exact HMB.out.2)]; exact HMB.out.1
   obtain ⟨a0, n0, c0, hc0, ht0⟩ := hm2.types
   obtain ⟨m, N, hc2, hmlt, hmap⟩ := hm2.tm
   have htl := HC.out.tlt
   obtain ⟨tb, tx, rfl, htb⟩ := ht0.lies.ptr (by have := ht0.len; omega)
   have hta := ht0.cell tb tx rfl t _ (List.getElem?_eq_getElem htl)
   have hok := ht0.ok _ (List.getElem_mem htl)
   have hsup : tyAt S t = S.types[t] := by unfold tyAt; simp [List.getD, htl]
   rw [← hsup] at hta hok
   have hq2 := hta.c2
   have hsz := hok.sup
   have htn : (t : Int) < (n0 : Int) := by have := ht0.len; omega
   generalize hsu : (tyAt S t).sup = su at hq2 hsz
   obtain ⟨pp, hpp⟩ : ∃ pp, placeOf (tK S) (low (toL su)) = pp := ⟨_, rfl⟩
   have hlk : ∀ w3, Below w2.heap.size w2 w3 → (Instr.lookup 80 (.map (some m)) (.string ⟨(low (toL su)).toArray⟩) true).run Tryz.prog w3 = .ok (.tuple #[.int .i64 (pp.getD 0 : Nat), .bool pp.isSome]) w3 := fun w3 hb => by
    rw [← hpp]; exact (hmap.keep hb hmap.lt).look_ok (s := ⟨(low (toL su)).toArray⟩) (by rw [low_size]; unfold maxLen; omega)
   have hcells : ∀ w3, Below w2.heap.size w2 w3 → w3.cell? ⟨M, 0, none⟩ = some (.pointer (some ⟨g, 0, none⟩)) ∧ w3.cell? ⟨g, 0, none⟩ = some (.slice (some ⟨tb, tx, none⟩) n0 c0) ∧ w3.cell? ⟨g, 2, none⟩ = some (.map (some m)) ∧ w3.cell? ⟨tb, tx + t * 9 + 2, none⟩ = some (.string su) := fun w3 hb =>
    ⟨by rw [hb.cell (Zb w2 _ hmc)]; exact hmc, by rw [hb.cell (Zb w2 _ hc0)]; exact hc0, by rw [hb.cell (Zb w2 _ hc2)]; exact hc2, by rw [hb.cell (Zb w2 _ hq2)]; exact hq2⟩
   obtain ⟨e0, e1, e2, e3⟩ := hcells w2 (Zl _ _)
   have HK := Zh hlk; have HCL := Zh hcells; have HV4 := Zh hv4; have HSU := Zh (Zi hsu hpp)
   have hti : (0 : Int) ≤ (t : Int) := by omega
   have hsml := fun w3 => small_any su w3 (by omega)
   have HSM := Zh hsml
   clear hlk hcells hmc hc0 hc2 hq2 hv4 hv3 hg3 hm2 ht0 hmap hta hok hsup hsu hpp htl hmlt htb hsml hsz HP
   go_region_held3 (fun w3 => w3.cell? ⟨M, 0, none⟩ = some (.pointer (some ⟨g, 0, none⟩)) ∧ w3.cell? ⟨g, 0, none⟩ = some (.slice (some ⟨tb, tx, none⟩) n0 c0) ∧ w3.cell? ⟨g, 2, none⟩ = some (.map (some m)) ∧ w3.cell? ⟨tb, tx + t * 9 + 2, none⟩ = some (.string su) )
    (first | exact ⟨e0, e1, e2, e3⟩ | exact ⟨i0, i1, i2, i3⟩)
    (first
     | (go_at_call 89; with_reducible refine (HSM.out _).mono ?_; rintro e w5 ⟨rfl, hb5⟩; have hb6 := bnext ((Zl _ w2).drew) hb5; obtain ⟨i0, i1, i2, i3⟩ := HCL.out w5 hb6; have ik := HK.out w5 hb6; have H5 := Zh hb6; clear hb5 hb6))
   have fin : upT S t = none → ∀ w5, Below w2.heap.size w2 w5 → ChainPost S t0 w (.returned (.tuple #[.slice (some ⟨gl, 0, none⟩) (n + 1) cap2, .bool true])) w5 := fun hu w5 h5 => by
    have hf := HC.out.last HQ.out hu
    have hv := (HV4.out.next h5).from HBX.out
    have h1 : (chainOf S t0).1 = acc ++ [t] := by rw [hf]
    have h2 : (chainOf S t0).2 = true := by rw [hf]
    have h3 : (chainOf S t0).1.length = n + 1 := by rw [h1]; simp [HN.out]
    refine ⟨gl, cap2, ?_, ?_⟩
    ·rw [h2, h3]
    ·rw [h3, h1]; exact hv
   have HF := Zh fin; clear fin
   cases pp with
   | none =>
    have hu : upT S t = none := by unfold upT typeAt; rw [HSU.out.1, HSU.out.2]; simp
    have HU := Zh hu; clear hu
    go_wp2_with fail
    go_ret2
    exact HF.out HU.out _ H5.out
   | some u =>
    by_cases hsu : toL su = []
    ·have hu : upT S t = none := by unfold upT typeAt; rw [HSU.out.1, if_pos hsu]
     have HU := Zh hu; clear hu
     obtain rfl := empty_of su hsu
     clear hsu
     go_wp2_with fail
     go_ret2
     exact HF.out HU.out _ H5.out
    ·have hu : upT S t = some u := by unfold upT typeAt; rw [HSU.out.1, if_neg hsu, HSU.out.2]
     obtain ⟨z1, z2, z3⟩ := nonempty_of su hsu
     have HU := Zh hu; clear hu hsu
     go_wp2_with fail
     refine ⟨⟨u, acc ++ [t], some gl, n + 1, cap2, rfl, rfl, by simp [HN.out], HC.out.next HQ.out HU.out, HV4.out.next H5.out⟩, ?_⟩
     have := HS.out
     have := HC.out.len
     have := HN.out
     have e : ∀ a c : Nat, ∀ go, lenOf (sv go a c) = a := fun _ _ _ => rfl
     simp [lenOf, sv]; omega
def layT_ren : Go.Shelf.Ren := ⟨fun | 41 => 87 | n => n, fun | 22 => 22 | 23 => 46 | 4 => 4 | n => n, fun | n => n⟩
theorem layT : Go.Proofs.SlLaysE0.n41 Tryz.prog layT_ren := {
 mixed := by kernel_rfl
 f41 := ⟨Tryz.f87.name, by decide, Tryz.func87.trans (congrArg some (by kernel_rfl))⟩
 t4 := Tryz.underlying4
 a4 := Tryz.isAgg4
 z4 := Tryz.sizeOf4
 v4 := Tryz.zeroValue4
 t22 := Tryz.underlying22
 a22 := Tryz.isAgg22
 z22 := Tryz.sizeOf22
 v22 := Tryz.zeroValue22 }
def layC_ren : Go.Shelf.Ren := ⟨fun | 41 => 88 | n => n, fun | 22 => 23 | 23 => 89 | 4 => 4 | n => n, fun | n => n⟩
theorem layC : Go.Proofs.SlLaysE0.n41 Tryz.prog layC_ren := {
 mixed := by kernel_rfl
 f41 := ⟨Tryz.f88.name, by decide, Tryz.func88.trans (congrArg some (by kernel_rfl))⟩
 t4 := Tryz.underlying4
 a4 := Tryz.isAgg4
 z4 := Tryz.sizeOf4
 v4 := Tryz.zeroValue4
 t22 := Tryz.underlying23
 a22 := Tryz.isAgg23
 z22 := Tryz.sizeOf23
 v22 := Tryz.zeroValue23 }
theorem eiStr : EI Tryz.prog 44 9 (.string ByteArray.empty) 1 16 := EI.of Tryz.underlying44 (by kernel_rfl) rfl (by decide) (by decide)
def strV (l : List ByteArray) : List Value := l.map .string
theorem strV_one (l : List ByteArray) : ∀ u ∈ strV l, u.oneCell' = true := fun u hu => by
 obtain ⟨s, _, rfl⟩ := List.mem_map.1 hu; rfl
theorem strV_get {l : List ByteArray} {i : Nat} (h : i < l.length) : (strV l)[i]? = some (.string l[i]) := by
 simp [strV, h]
theorem Texts.news {B : Nat} {w : World} {a : Option Addr} {n c : Nat} {l : List ByteArray} (h : Texts B w a n c l) : ∀ ad, a = some ad → ∀ (j : Nat) (u : Value), (strV l)[j]? = some u → ad.block < B ∧ w.cell? (ad.add j) = some u := by
 intro ad e j u hu
 simp only [strV, List.getElem?_map, Option.map_eq_some_iff] at hu
 obtain ⟨s, hs, rfl⟩ := hu
 have hn : 0 < n := by have := (List.getElem?_eq_some_iff.1 hs).1; have := h.len; omega
 obtain ⟨b, o, e2, hb⟩ := h.lies.ptr hn
 rw [e] at e2; cases e2
 rw [Addr.add_lit]
 exact ⟨hb, h.cell b o e j s hs⟩
theorem Texts.len0 {B : Nat} {w : World} {a : Option Addr} {n c : Nat} {l : List ByteArray} (h : Texts B w a n c l) : a = none → n = 0 ∧ c = 0 := h.lies.len0
theorem Chg.of_below {S : Nat → Prop} {w w' : World} (h : Below w.heap.size w w') : Chg S w w' := ⟨h.os, h.tape, h.output, h.size, fun k hk _ => h.block k hk⟩
def keysN (oid : ByteArray) (names : List ByteArray) : List Str := (oid :: names).map fun s => low (toL s)
theorem keys_take {oid : ByteArray} {names : List ByteArray} {i : Nat} (h : i < (oid :: names).length) : (keysN oid names).take (i + 1) = (keysN oid names).take i ++ [low (toL (oid :: names)[i])] := by
 have h2 : i < (keysN oid names).length := by simpa [keysN] using h
 rw [List.take_succ_eq_append_getElem h2]
 have : (keysN oid names)[i] = low (toL (oid :: names)[i]) := by simp only [keysN, List.getElem_map]
 rw [this]
set_option maxHeartbeats 1000000 in
theorem first_any (B N mb place : Nat) (f : Str → Option Nat) (oid : ByteArray) (a : Option Addr) (n c : Nat) (names : List ByteArray) (w : World) (h : Texts B w a n c names) (ho : oid.size ≤ 4294967280)
    (hm : MapIs w mb N f) (hB : B ≤ w.heap.size) (hN : N + n + 1 < maxLen) (hp : place ≤ maxLen) :
    Calls Tryz.prog 44 #[.map (some mb), .int .i64 (place : Int), .string oid, .slice a n c] w fun e w' => e = .returned (.tuple #[]) ∧ MapIs w' mb (N + n + 1) (addKeys f place (keysN oid names)) ∧ Chg (· = mb) w w' := by
  have hnl := h.len
  have hsm := h.small
  have hlt := hm.lt
  obtain ⟨L, hL⟩ : ∃ L, 1 + n = L := ⟨_, rfl⟩
  have hLp : 0 < L := by omega
  have hLs : L ≤ 4294967281 := by omega
  have hV := Vec.made w (Zl _ w) 9 1 1 #[.string oid] rfl (by unfold maxLen; omega)
  have hal : Below w.heap.size w (w.alloc (.cells #[.string oid] 9)) := (Zl _ w).alloc (Zr _) _
  have hnews : ∀ ad, a = some ad → ∀ (j : Nat) (u : Value), (strV names)[j]? = some u → (w.alloc (.cells #[.string oid] 9)).cell? (ad.add j) = some u := fun ad e j u hu => by
    have := h.news ad e j u hu; rw [hal.cell (p := ad.add j) (by rw [block_add]; exact Nat.lt_of_lt_of_le this.1 hB)]; exact this.2
  have hbt : L * 16 ≤ 140737488355328 := by omega
  have hsl : (strV names).length = n * 1 := by simp [strV, hnl]
  have hl0 := h.len0
  have hLn : L = names.length + 1 ∧ L = n + 1 := by omega
  have hsz : ∀ x ∈ oid :: names, x.size ≤ 4294967280 := fun x hx => by
    rcases List.mem_cons.1 hx with e | e
    · rw [e]; exact ho
    · exact h.size _ e
  have HV := Zh hV; have HN := Zh hnews; have HS := Zh (Zi hbt hsl); have HM := Zh hm; have HL0 := Zh hl0; have HL := Zh hL; have HZ := Zh hsz; have HC := Zh (Zi hLn (Zi hN hp)); have HAL := Zh hal
  clear h hV hal hm hl0 hnl hsm hnews hbt hsl hL hsz hLn hN hp ho hB
  go_enter Tryz.func44, Tryz.ntmps44
  go_wp2_with (at_builtin; refine HV.out.app1 eiStr rfl _ _ rfl rfl a n c (strV names) rfl HL0.out HS.out.2 HN.out (strV_one _) L HL.out HS.out.1 hLp ?_; intro g' cap' w1 hV1 hG1; have HV1 := Zh (Zi hV1 hG1); clear hV1 hG1)
  have hgf : w.heap.size ≤ g' := HV1.out.1.fresh g' rfl
  have HO1 : Hid (Own w1 9 1 (some g') L cap' (strV (oid :: names))) := Zh HV1.out.1.own
  have HB1 := Zh HV1.out.1.below
  clear HV1 HV HN HS HL0 HL HAL
  go_loopw [17] (fun iv wr => ∃ i : Nat, iv = .int .i64 i ∧ i ≤ L ∧ MapIs wr mb (N + i) (addKeys f place ((keysN oid names).take i)) ∧ Own wr 9 1 (some g') L cap' (strV (oid :: names)) ∧ Chg (· = mb) w wr) (fun iv _ => L - (intOf iv).toNat)
  case atStart => exact ⟨0, rfl, Nat.zero_le _, by simpa [addKeys_nil] using HM.out.keep HB1.out hlt, HO1.out, Chg.of_below HB1.out⟩
  case round =>
    clear HO1 HB1
    obtain ⟨i, rfl, hi, hmi, hown, hchg⟩ := hrel
    have hgne : g' ≠ mb := by omega
    by_cases hlt2 : i < L
    · have hli : i < (oid :: names).length := by simp only [List.length_cons]; have := HC.out.1.1; omega
      have hc := hown.row.cell (strV_get hli)
      have hsz := HZ.out _ (List.getElem_mem hli)
      have htk := keys_take hli
      have hNi : N + i + 1 < maxLen := by have := HC.out; omega
      generalize (oid :: names)[i] = s at hc hsz htk
      have HR := Zh (Zi hmi (Zi hown (Zi hchg (Zi htk hNi)))); clear hmi hown hchg htk hNi
      have HLK := Zh (fun w2 hb => (HR.out.1.keep (B := wr.heap.size) (w' := w2) hb HR.out.1.lt))
      have ho2 : ∀ w2, Below wr.heap.size wr w2 → Own w2 9 1 (some g') L cap' (strV (oid :: names)) := fun w2 hb => HR.out.2.1.keep fun k hk => by cases hk; exact hb.block _ HR.out.2.1.row.lt
      have HO2 := Zh ho2; clear ho2
      have hls : (ByteArray.mk (low (toL s)).toArray).size ≤ maxLen := by rw [low_size]; unfold maxLen; omega
      have hlk : ∀ w2, Below wr.heap.size wr w2 → (Instr.lookup 80 (.map (some mb)) (.string ⟨(low (toL s)).toArray⟩) true).run Tryz.prog w2 = .ok (.tuple #[.int .i64 (((addKeys f place ((keysN oid names).take i)) (low (toL s))).getD 0 : Nat), .bool ((addKeys f place ((keysN oid names).take i)) (low (toL s))).isSome]) w2 :=
        fun w2 hb => (HLK.out w2 hb).look_ok hls
      have HK2 := Zh hlk; clear hlk
      have HLS := Zh hls; clear hls
      cases hq : (addKeys f place ((keysN oid names).take i)) (low (toL s)) with
      | some q =>
        have hk2 : ∀ w2, Below wr.heap.size wr w2 → (Instr.lookup 80 (.map (some mb)) (.string ⟨(low (toL s)).toArray⟩) true).run Tryz.prog w2 = .ok (.tuple #[.int .i64 (q : Int), .bool true]) w2 := fun w2 hb => by
          have := HK2.out w2 hb; rw [hq] at this; exact this
        have HK3 := Zh hk2; have HQ := Zh hq; clear hk2 hq HK2
        go_wp2_with (first
          | (go_at_call 89; refine (small_any s _ (by omega)).mono ?_; rintro e w2 ⟨rfl, hb2⟩
             have hk3 := HK3.out w2 hb2
             have HB2 := Zh hb2; clear hb2)
          | fail)
        refine ⟨⟨i + 1, by simp, by omega, ?_, HO2.out _ HB2.out, HR.out.2.2.1.trans (Chg.of_below HB2.out)⟩, by simp [intOf]; omega⟩
        rw [HR.out.2.2.2.1, addKeys_snoc, addKeys_one_some (by rw [HQ.out]; rfl)]
        exact (HLK.out _ HB2.out).mono (by omega)
      | none =>
        have hk2 : ∀ w2, Below wr.heap.size wr w2 → (Instr.lookup 80 (.map (some mb)) (.string ⟨(low (toL s)).toArray⟩) true).run Tryz.prog w2 = .ok (.tuple #[.int .i64 0, .bool false]) w2 := fun w2 hb => by
          have := HK2.out w2 hb; rw [hq] at this; exact this
        have HK3 := Zh hk2; have HQ := Zh hq; clear hk2 hq HK2
        go_wp2_with (first
          | (go_at_call 89; refine (small_any s _ (by omega)).mono ?_; rintro e w2 ⟨rfl, hb2⟩
             have hk3 := HK3.out w2 hb2
             have HB2 := Zh hb2; clear hb2 HK3)
          | (go_at_call 89; refine (small_any s _ (by omega)).mono ?_; rintro e w3 ⟨rfl, hb3⟩
             have HB3 := Zh (bnext HB2.out hb3); clear hb3)
          | (at_mapUpdate; refine (HLK.out _ HB3.out).wp_put rfl _ _ _ rfl rfl ⟨(low (toL s)).toArray⟩ rfl place rfl (by have := HR.out.2.2.2.2; omega) HLS.out HC.out.2.2 ?_; intro w4 hm4 hg4; have H4 := Zh (Zi hm4 hg4); clear hm4 hg4)
          | fail)
        refine ⟨⟨i + 1, by simp, by omega, ?_, ?_, ?_⟩, by simp [intOf]; omega⟩
        · rw [HR.out.2.2.2.1, addKeys_snoc, addKeys_one_none (by rw [HQ.out]; rfl)]
          exact H4.out.1
        · exact (HO2.out _ HB3.out).keep fun k hk => by cases hk; exact H4.out.2.block _ (HO2.out _ HB3.out).row.lt (by simpa using hgne)
        · exact (HR.out.2.2.1.trans (Chg.of_below HB3.out)).grown H4.out.2 (fun k hk _ => by cases hk; rfl)
    · have hie : i = L := by omega
      subst hie
      have htk : (keysN oid names).take i = keysN oid names := List.take_of_length_le (by simp [keysN, HC.out.1.1])
      rw [htk] at hmi
      rw [show N + i = N + n + 1 by have := HC.out.1.2; omega] at hmi
      have HR := Zh (Zi hmi hchg); clear hmi hchg hown htk
      go_wp2_with fail
      go_end0
      exact ⟨rfl, HR.out⟩
def Copy (l : List ByteArray) (w : World) (v : Value) (w' : World) : Prop :=
 ∃ a n c, v = .slice a n c ∧ Texts w'.heap.size w' a n c l ∧ (∀ ad, a = some ad → w.heap.size ≤ ad.block) ∧ Below w.heap.size w w'
theorem Texts.of_owns {w' : World} {base e : Nat} {v : Value} {l : List ByteArray} (h : w'.ownsRow base e 1 v l.length (strV l)) (hs : l.length ≤ 4294967280) (hz : ∀ s ∈ l, s.size ≤ 4294967280) :
  ∃ a n c, v = .slice a n c ∧ Texts w'.heap.size w' a n c l ∧ (∀ ad, a = some ad → base ≤ ad.block) := by
 obtain ⟨hl, h2⟩ := h
 rcases h2 with ⟨rfl, h3⟩ | ⟨g, cap, cur, rfl, hb, hh, hn, hm, hc, ht⟩
 ·have : l = [] := List.eq_nil_of_length_eq_zero (by simpa using h3)
  subst this
  exact ⟨none, 0, 0, rfl, ⟨rfl, ⟨Zr _, Nat.zero_le _, fun _ => rfl, (fun ad h => by cases h), (fun ad h => by cases h)⟩, Nat.zero_le _, (fun b o h => by cases h), (fun s h => by cases h)⟩, fun ad h => by cases h⟩
 ·refine ⟨some ⟨g, 0, none⟩, l.length, cap, rfl, ⟨rfl, ⟨hn, hm, fun h => (by cases h), fun ad h _ => ?_, fun ad h _ => ?_⟩, hs, ?_, hz⟩, fun ad h => by cases h; exact hb⟩
  ·cases h; exact (Array.getElem?_eq_some_iff.1 hh).1
  ·cases h; rfl
  ·intro b o h i s hi
   cases h
   rw [Nat.zero_add, cell_of_row w' g i _ e (0, 0) hh]
   have : (strV l)[i]? = some (.string s) := by simp [strV, hi]
   rw [← ht] at this
   rw [← Array.getElem?_toList]
   rw [List.getElem?_take] at this
   split at this
   ·exact this
   ·cases this
theorem copied_any (B : Nat) (a : Option Addr) (n c : Nat) (l : List ByteArray) (w : World) (h : Texts B w a n c l) :
  Calls Tryz.prog 63 #[.slice a n c] w fun e w' => ∃ v, e = .returned v ∧ Copy l w v w' := by
 have key : Calls Tryz.prog 107 #[.slice a n c] w fun e w' => ∃ v, e = .returned v ∧ Copy l w v w' := by
  have hn := h.len
  cases ha : a with
  | none =>
   have h0 := (h.lies.len0 ha).1
   have : l = [] := List.eq_nil_of_length_eq_zero (by omega)
   subst this
   refine (Tryz.slices_Clone_string_nil n c w).mono fun e w' ⟨he, hw⟩ => ⟨_, he, none, 0, 0, rfl, ⟨rfl, ⟨Zr _, Nat.zero_le _, fun _ => rfl, (fun ad h => by cases h), (fun ad h => by cases h)⟩, Nat.zero_le _, (fun b o h => by cases h), (fun s h => by cases h)⟩, (fun ad h => by cases h), by rw [hw]; exact Zl _ _⟩
  | some ad =>
   have hsm := h.small
   by_cases h0 : n = 0
   ·subst h0
    have : l = [] := List.eq_nil_of_length_eq_zero (by omega)
    subst this
    refine (Tryz.slices_Clone_string_zero ad c w).mono fun e w' ⟨v, he, ho, _, hb⟩ => ⟨v, he, ?_⟩
    obtain ⟨a', n', c', e1, e2, e3⟩ := Texts.of_owns (l := []) ho (by simp) (by simp)
    exact ⟨a', n', c', e1, e2, e3, hb⟩
   ·obtain ⟨b, o, e, hb⟩ := h.lies.ptr (by omega)
    rw [ha] at e; cases e
    refine (Tryz.slices_Clone_string b o n c l w (by omega) (by omega) (fun j hj => ?_)).mono fun e w' ⟨v, he, ho, _, hb⟩ => ⟨v, he, ?_⟩
    ·have := h.cell b o ha j l[j] (List.getElem?_eq_getElem hj)
     rw [this]; simp [List.getD, hj]
    ·rw [List.take_of_length_le (by omega), hn] at ho
     obtain ⟨a', n', c', e1, e2, e3⟩ := Texts.of_owns (l := l) ho (by omega) h.size
     exact ⟨a', n', c', e1, e2, e3, hb⟩
 have K := Zh key; clear key h
 go_enter Tryz.func63, Tryz.ntmps63
 go_wp2_with (first | (go_at_call 107; refine (K.out).mono ?_; rintro e w1 ⟨v, rfl, hv⟩; have HV := Zh hv; clear hv) | fail)
 go_ret
 exact ⟨v, rfl, HV.out⟩
end Go.Proofs.YtlmfbjhokkpjhaaGreatDoor
