/- Part 12 of the walks and plain laws, joined: SchP2, Ups, Chain, Clones, Copied, TwinM. -/
import Derived.Test.YtlmfbjhokkpjhaaGreatDoorML00
import Derived.Test.YtlmfbjhokkpjhaaGreatDoorML07
import Derived.Test.YtlmfbjhokkpjhaaGreatDoorML11
import Derived.Test.YtlmfbjhokkpjhaaGreatDoorML10
import Derived.Deep.RegionHeld3
import Derived.Deep.QuietTactic
import Derived.BigQuiet
import Derived.IntWalk
import Derived.Shelf.SlLaysE0
import Derived.Shelf.SlicesE.Clone
namespace Go.Proofs.YtlmfbjhokkpjhaaGreatDoor
open Go
theorem supsOf_lt {S : PSchema} {c p : Nat} (h : some p ∈ supsOf S c) : p < S.classes.length := by
 unfold supsOf at h
 obtain ⟨n, _, hn⟩ := List.mem_map.1 h
 have := placeOf_lt hn
 simpa [cK] using this
def dstep (S : PSchema) (f : Nat) (s : List Bool) (p : Option Nat) : List Bool := match p with
 | none => s
 | some p => if s.getD p false then s else dfs S f (s.set p true) p
theorem dfs_eq (S : PSchema) (f : Nat) (s : List Bool) (c : Nat) : dfs S (f + 1) s c = (supsOf S c).foldl (dstep S f) s := rfl
theorem dstep_more (S : PSchema) (f : Nat) (s : List Bool) (p : Option Nat) : OnMore s (dstep S f s p) := by
 cases p with
 | none => exact OnMore.refl s
 | some p =>
  unfold dstep
  dsimp only
  split
  ·exact OnMore.refl s
  ·exact (OnMore.set s p).trans (dfs_more S f _ p)
theorem dfs_fuel (S : PSchema) : ∀ (f1 f2 : Nat) (s : List Bool) (c : Nat), s.length = S.classes.length → offs s < f1 → offs s < f2 → dfs S f1 s c = dfs S f2 s c
 | 0, _, _, _, _, h, _ => by omega
 | f1 + 1, 0, _, _, _, _, h => by omega
 | f1 + 1, f2 + 1, s, c, hl, h1, h2 => by
  rw [dfs_eq, dfs_eq]
  have hlt : ∀ p, some p ∈ supsOf S c → p < S.classes.length := fun p hp => supsOf_lt hp
  revert hlt
  generalize supsOf S c = l
  intro hlt
  have key : ∀ (l : List (Option Nat)) (s' : List Bool), (∀ p, some p ∈ l → p < S.classes.length) → s'.length = S.classes.length → offs s' ≤ offs s → l.foldl (dstep S f1) s' = l.foldl (dstep S f2) s' := by
   intro l
   induction l with
   | nil => intro s' _ _ _; rfl
   | cons p l ih =>
    intro s' hlt hl' ho
    rw [List.foldl_cons, List.foldl_cons]
    have e : dstep S f1 s' p = dstep S f2 s' p := by
     cases p with
     | none => rfl
     | some p =>
      unfold dstep
      dsimp only
      by_cases hq : s'.getD p false = true
      ·rw [if_pos hq, if_pos hq]
      ·rw [if_neg hq, if_neg hq]
       have hp := hlt p (List.mem_cons_self ..)
       have hs := offs_set (s := s') (p := p) (by omega) (by simpa using hq)
       exact dfs_fuel S f1 f2 _ p (by simpa using hl') (by omega) (by omega)
    rw [e]
    have hm := dstep_more S f2 s' p
    exact ih _ (fun p hp => hlt p (List.mem_cons_of_mem _ hp)) (hm.1.trans hl') (Nat.le_trans hm.offs ho)
  exact key l s hlt hl (Zr _)
def dfsT (S : PSchema) (s : List Bool) (c : Nat) : List Bool := dfs S (offs s + 1) s c
theorem dfsT_of (S : PSchema) {f : Nat} {s : List Bool} {c : Nat} (hl : s.length = S.classes.length) (h : offs s < f) : dfs S f s c = dfsT S s c := dfs_fuel S f _ s c hl h (Nat.lt_succ_self _)
def tstep (S : PSchema) (s : List Bool) (p : Option Nat) : List Bool := match p with
 | none => s
 | some p => if s.getD p false then s else dfsT S (s.set p true) p
theorem tstep_more (S : PSchema) (s : List Bool) (p : Option Nat) : OnMore s (tstep S s p) := by
 cases p with
 | none => exact OnMore.refl s
 | some p =>
  unfold tstep
  dsimp only
  split
  ·exact OnMore.refl s
  ·exact (OnMore.set s p).trans (dfs_more S _ _ p)
theorem foldT_more (S : PSchema) (l : List (Option Nat)) (s : List Bool) : OnMore s (l.foldl (tstep S) s) := by
 induction l generalizing s with
 | nil => exact OnMore.refl s
 | cons p l ih => rw [List.foldl_cons]; exact (tstep_more S s p).trans (ih _)
theorem dfsT_eq (S : PSchema) {s : List Bool} (c : Nat) (hl : s.length = S.classes.length) : dfsT S s c = (supsOf S c).foldl (tstep S) s := by
 unfold dfsT
 rw [dfs_eq]
 have hlt : ∀ p, some p ∈ supsOf S c → p < S.classes.length := fun p hp => supsOf_lt hp
 revert hlt
 generalize supsOf S c = l
 intro hlt
 have key : ∀ (l : List (Option Nat)) (s' : List Bool), (∀ p, some p ∈ l → p < S.classes.length) → s'.length = S.classes.length → offs s' ≤ offs s → l.foldl (dstep S (offs s)) s' = l.foldl (tstep S) s' := by
  intro l
  induction l with
  | nil => intro s' _ _ _; rfl
  | cons p l ih =>
   intro s' hlt hl' ho
   rw [List.foldl_cons, List.foldl_cons]
   have e : dstep S (offs s) s' p = tstep S s' p := by
    cases p with
    | none => rfl
    | some p =>
     unfold dstep tstep
     dsimp only
     by_cases hq : s'.getD p false = true
     ·rw [if_pos hq, if_pos hq]
     ·rw [if_neg hq, if_neg hq]
      have hp := hlt p (List.mem_cons_self ..)
      have hs := offs_set (s := s') (p := p) (by omega) (by simpa using hq)
      exact dfsT_of S (by simpa using hl') (by omega)
   rw [e]
   have hm := tstep_more S s' p
   exact ih _ (fun p hp => hlt p (List.mem_cons_of_mem _ hp)) (hm.1.trans hl') (Nat.le_trans hm.offs ho)
 exact key l s hlt hl (Zr _)
theorem riseOf_eq (S : PSchema) (c : Nat) : riseOf S c = dfsT S (List.replicate S.classes.length false) c := by
 unfold riseOf
 exact dfsT_of S (by simp) (by unfold offs; simp)
end Go.Proofs.YtlmfbjhokkpjhaaGreatDoor
namespace Go.Proofs.YtlmfbjhokkpjhaaGreatDoor
open Go Go.RowKit Go.Maps
def boolV (b : Bool) : Value := .bool b
structure Ups (w : World) (g lo hi : Nat) (S : PSchema) (j : Nat) (go : Option Nat) (cap : Nat) (vs : List Value) : Prop where
 g6 : w.cell? ⟨g, 6, none⟩ = some (sv go j cap)
 own : Own w 154 1 go j cap vs
 lie : ∀ b, go = some b → lo < b ∧ b < hi
 rows : ∀ i, i < j → ∃ sb, vs[i]? = some (.slice (some ⟨sb, 0, none⟩) S.classes.length S.classes.length) ∧ Row w sb 4 1 S.classes.length ((riseOf S i).map boolV) ∧ lo < sb ∧ sb < hi ∧ go ≠ some sb
section
variable {w w' : World} {g lo hi : Nat} {S : PSchema} {j : Nat} {go : Option Nat} {cap : Nat} {vs : List Value}
theorem Ups.keepAt (h : Ups w g lo hi S j go cap vs) (hb : ∀ b, lo < b → b < hi → w'.heap[b]? = w.heap[b]?) (h6 : w'.cell? ⟨g, 6, none⟩ = w.cell? ⟨g, 6, none⟩) : Ups w' g lo hi S j go cap vs where
 g6 := by rw [h6]; exact h.g6
 own := h.own.keep fun b e => hb b (h.lie b e).1 (h.lie b e).2
 lie := h.lie
 rows := fun i hi => by
  obtain ⟨sb, h1, h2, h3, h4, h5⟩ := h.rows i hi
  exact ⟨sb, h1, h2.keep (hb sb h3 h4), h3, h4, h5⟩
theorem Ups.keep (h : Ups w g lo hi S j go cap vs) (hh : hi ≤ w.heap.size) (k : Below w.heap.size w w') : Ups w' g lo hi S j go cap vs :=
 h.keepAt (fun b _ hb => k.block b (by omega)) (k.cell (Zb w _ h.g6))
end
end Go.Proofs.YtlmfbjhokkpjhaaGreatDoor
namespace Go.Proofs.YtlmfbjhokkpjhaaGreatDoor
open Go Go.RowKit Go.Maps
def ChainPost (S : PSchema) (t : Nat) (w : World) (e : Ending) (w' : World) : Prop :=
 ∃ gl cap, e = .returned (.tuple #[.slice (some ⟨gl, 0, none⟩) (chainOf S t).1.length cap, .bool (chainOf S t).2]) ∧ Vec 3 1 w w' (some gl) (chainOf S t).1.length cap ((chainOf S t).1.map intV)
def lenOf : Value → Nat
 | .slice _ n _ => n
 | _ => 0
set_option maxRecDepth 20000 in
set_option maxHeartbeats 1000000 in
theorem chain_any (S : PSchema) (g t0 : Nat) (w : World) (h : Mk w g S) (ht : t0 < S.types.length) (hS : S.types.length ≤ 1024) :
  Calls Tryz.prog 47 #[.agg #[.pointer (some ⟨g, 0, none⟩)], .int .i64 (t0 : Int)] w (ChainPost S t0 w) := by
 have hbx : Below w.heap.size w (w.alloc (.cells #[.pointer (some ⟨g, 0, none⟩)] 86)) := (Zl _ w).alloc (Zr _) _
 have hm := h.keep hbx
 have HM := Zh hm; have HT := Zh ht; have HS := Zh hS; have HBX := Zh hbx; clear hm hbx ht
 go_enter Tryz.func47, Tryz.ntmps47
 go_wp2_with fail
 have hmb : (w.alloc (.cells #[.pointer (some ⟨g, 0, none⟩)] 86)).cell? ⟨w.heap.size, 0, none⟩ = some (.pointer (some ⟨g, 0, none⟩)) := by rw [World.cell?_alloc_new]; rfl
 have hml : w.heap.size < (w.alloc (.cells #[.pointer (some ⟨g, 0, none⟩)] 86)).heap.size := by simp
 generalize hw1 : w.alloc (.cells #[.pointer (some ⟨g, 0, none⟩)] 86) = w1 at HBX HM hmb hml ⊢
 have HMB := Zh (Zi hmb hml); clear hmb hml hw1
 generalize hMb : w.heap.size = M at HMB ⊢
 have HMS := Zh hMb; clear hMb
 go_loopw [1, 6] (fun tv lv wr => ∃ (t : Nat) (acc : List Nat) (go : Option Nat) (n cap : Nat), tv = .int .i64 (t : Int) ∧ lv = sv go n cap ∧ n = acc.length ∧ OnChain S t0 acc t ∧ Vec 3 1 w1 wr go n cap (acc.map intV)) (fun _ lv _ => S.types.length + 1 - lenOf lv)
 case atStart => exact ⟨t0, [], none, 0, 0, rfl, rfl, rfl, OnChain.start HT.out, Vec.nil _ _ _ (Zl _ _)⟩
 case round =>
  obtain ⟨t, acc, go, n, cap, rfl, rfl, hn, hch, hv⟩ := hrel
  have hnl := hch.len
  have hns : n ≤ 1024 := by have := HS.out; omega
  have hcon := contains_vec hv hn (by omega) t
  have HN := Zh hn; have HC := Zh hch; have HV := Zh hv
  clear hn hch hv hnl
  cases hq : acc.contains t with
  | true =>
   rw [hq] at hcon
   have HCN := Zh hcon; have HQ := Zh hq; clear hcon hq
   cases go with
   | none =>
    have := HV.out.own.2.1
    have : acc = [] := List.eq_nil_of_length_eq_zero (by have := HN.out; omega)
    subst this
    have := HQ.out; cases this
   | some gl =>
    go_wp2_with (first | (go_at_call 94; refine (HCN.out).mono ?_; rintro e w2 ⟨rfl, rfl⟩) | fail)
    go_ret2
    have hf := HC.out.twice HQ.out
    have hv := HV.out.from HBX.out
    rw [HN.out] at hv
    refine ⟨gl, cap, ?_, ?_⟩
    ·rw [hf, ← HN.out]; rfl
    ·rw [hf]; exact hv
  | false =>
   rw [hq] at hcon
   have HCN := Zh hcon; have HQ := Zh hq; clear hcon hq
   have hv2 := fun ops rest o a Q => HV.out.push (P := Tryz.prog) eiInt (ops := ops) (rest := rest) (o := o) (a := a) (Q := Q)
   have HP := Zh hv2; clear hv2
   go_wp2_with (first
    | (go_at_call 94; refine (HCN.out).mono ?_; rintro e w2 ⟨rfl, rfl⟩)
    | (at_builtin; refine HP.out _ _ _ _ _ rfl _ _ rfl rfl 1 [.int .i64 (t : Int)] #[.int .i64 (t : Int)] rfl rfl rfl (fun u hu => by simp at hu; subst hu; rfl) (by omega) (n + 1) rfl (by omega) ?_; intro gl cap2 w2 hv3 hg3)
    | fail)
   have hv4 : Vec 3 1 w1 w2 (some gl) (n + 1) cap2 ((acc ++ [t]).map intV) := by rw [List.map_append]; exact hv3
   have hm2 := HM.out.keep hv4.below
   have hmc : w2.cell? ⟨M, 0, none⟩ = some (.pointer (some ⟨g, 0, none⟩)) := by rw [hv4.below.cell (by exact HMB.out.2)]; exact HMB.out.1
   obtain ⟨a0, n0, c0, hc0, ht0⟩ := hm2.types
   obtain ⟨m, N, hc2, hmlt, hmap⟩ := hm2.tm
   have htl := HC.out.tlt
   obtain ⟨tb, tx, rfl, htb⟩ := ht0.lies.ptr (by have := ht0.len; omega)
   have hta := ht0.cell tb tx rfl t _ (List.getElem?_eq_getElem htl)
   have hok := ht0.ok _ (List.getElem_mem htl)
   have hsup : tyAt S t = S.types[t] := by unfold tyAt; simp [List.getD, htl]
   rw [← hsup] at hta hok
   have hq2 := hta.c2
   have hsz := hok.sup
   have htn : (t : Int) < (n0 : Int) := by have := ht0.len; omega
   generalize hsu : (tyAt S t).sup = su at hq2 hsz
   obtain ⟨pp, hpp⟩ : ∃ pp, placeOf (tK S) (low (toL su)) = pp := ⟨_, rfl⟩
   have hlk : ∀ w3, Below w2.heap.size w2 w3 → (Instr.lookup 80 (.map (some m)) (.string ⟨(low (toL su)).toArray⟩) true).run Tryz.prog w3 = .ok (.tuple #[.int .i64 (pp.getD 0 : Nat), .bool pp.isSome]) w3 := fun w3 hb => by
    rw [← hpp]; exact (hmap.keep hb hmap.lt).look_ok (s := ⟨(low (toL su)).toArray⟩) (by rw [low_size]; unfold maxLen; omega)
   have hcells : ∀ w3, Below w2.heap.size w2 w3 → w3.cell? ⟨M, 0, none⟩ = some (.pointer (some ⟨g, 0, none⟩)) ∧ w3.cell? ⟨g, 0, none⟩ = some (.slice (some ⟨tb, tx, none⟩) n0 c0) ∧ w3.cell? ⟨g, 2, none⟩ = some (.map (some m)) ∧ w3.cell? ⟨tb, tx + t * 9 + 2, none⟩ = some (.string su) := fun w3 hb =>
    ⟨by rw [hb.cell (Zb w2 _ hmc)]; exact hmc, by rw [hb.cell (Zb w2 _ hc0)]; exact hc0, by rw [hb.cell (Zb w2 _ hc2)]; exact hc2, by rw [hb.cell (Zb w2 _ hq2)]; exact hq2⟩
   obtain ⟨e0, e1, e2, e3⟩ := hcells w2 (Zl _ _)
   have HK := Zh hlk; have HCL := Zh hcells; have HV4 := Zh hv4; have HSU := Zh (Zi hsu hpp)
   have hti : (0 : Int) ≤ (t : Int) := by omega
   have hsml := fun w3 => small_any su w3 (by omega)
   have HSM := Zh hsml
   clear hlk hcells hmc hc0 hc2 hq2 hv4 hv3 hg3 hm2 ht0 hmap hta hok hsup hsu hpp htl hmlt htb hsml hsz HP
   go_region_held3 (fun w3 => w3.cell? ⟨M, 0, none⟩ = some (.pointer (some ⟨g, 0, none⟩)) ∧ w3.cell? ⟨g, 0, none⟩ = some (.slice (some ⟨tb, tx, none⟩) n0 c0) ∧ w3.cell? ⟨g, 2, none⟩ = some (.map (some m)) ∧ w3.cell? ⟨tb, tx + t * 9 + 2, none⟩ = some (.string su) )
    (first | exact ⟨e0, e1, e2, e3⟩ | exact ⟨i0, i1, i2, i3⟩)
    (first
     | (go_at_call 89; with_reducible refine (HSM.out _).mono ?_; rintro e w5 ⟨rfl, hb5⟩; have hb6 := bnext ((Zl _ w2).drew) hb5; obtain ⟨i0, i1, i2, i3⟩ := HCL.out w5 hb6; have ik := HK.out w5 hb6; have H5 := Zh hb6; clear hb5 hb6))
   have fin : upT S t = none → ∀ w5, Below w2.heap.size w2 w5 → ChainPost S t0 w (.returned (.tuple #[.slice (some ⟨gl, 0, none⟩) (n + 1) cap2, .bool true])) w5 := fun hu w5 h5 => by
    have hf := HC.out.last HQ.out hu
    have hv := (HV4.out.next h5).from HBX.out
    have h1 : (chainOf S t0).1 = acc ++ [t] := by rw [hf]
    have h2 : (chainOf S t0).2 = true := by rw [hf]
    have h3 : (chainOf S t0).1.length = n + 1 := by rw [h1]; simp [HN.out]
    refine ⟨gl, cap2, ?_, ?_⟩
    ·rw [h2, h3]
    ·rw [h3, h1]; exact hv
   have HF := Zh fin; clear fin
   cases pp with
   | none =>
    have hu : upT S t = none := by unfold upT typeAt; rw [HSU.out.1, HSU.out.2]; simp
    have HU := Zh hu; clear hu
    go_wp2_with fail
    go_ret2
    exact HF.out HU.out _ H5.out
   | some u =>
    by_cases hsu : toL su = []
    ·have hu : upT S t = none := by unfold upT typeAt; rw [HSU.out.1, if_pos hsu]
     have HU := Zh hu; clear hu
     obtain rfl := empty_of su hsu
     clear hsu
     go_wp2_with fail
     go_ret2
     exact HF.out HU.out _ H5.out
    ·have hu : upT S t = some u := by unfold upT typeAt; rw [HSU.out.1, if_neg hsu, HSU.out.2]
     obtain ⟨z1, z2, z3⟩ := nonempty_of su hsu
     have HU := Zh hu; clear hu hsu
     go_wp2_with fail
     refine ⟨⟨u, acc ++ [t], some gl, n + 1, cap2, rfl, rfl, by simp [HN.out], HC.out.next HQ.out HU.out, HV4.out.next H5.out⟩, ?_⟩
     have := HS.out
     have := HC.out.len
     have := HN.out
     have e : ∀ a c : Nat, ∀ go, lenOf (sv go a c) = a := fun _ _ _ => rfl
     simp [lenOf, sv]; omega
end Go.Proofs.YtlmfbjhokkpjhaaGreatDoor
namespace Go.Proofs.YtlmfbjhokkpjhaaGreatDoor
open Go Go.RowKit Go.Maps
def layT_ren : Go.Shelf.Ren := ⟨fun | 41 => 87 | n => n, fun | 22 => 22 | 23 => 46 | 4 => 4 | n => n, fun | n => n⟩
theorem layT : Go.Proofs.SlLaysE0.n41 Tryz.prog layT_ren := {
 mixed := by kernel_rfl
 f41 := ⟨Tryz.f87.name, by decide, Tryz.func87.trans (congrArg some (by kernel_rfl))⟩
 t4 := Tryz.underlying4
 a4 := Tryz.isAgg4
 z4 := Tryz.sizeOf4
 v4 := Tryz.zeroValue4
 t22 := Tryz.underlying22
 a22 := Tryz.isAgg22
 z22 := Tryz.sizeOf22
 v22 := Tryz.zeroValue22 }
def layC_ren : Go.Shelf.Ren := ⟨fun | 41 => 88 | n => n, fun | 22 => 23 | 23 => 89 | 4 => 4 | n => n, fun | n => n⟩
theorem layC : Go.Proofs.SlLaysE0.n41 Tryz.prog layC_ren := {
 mixed := by kernel_rfl
 f41 := ⟨Tryz.f88.name, by decide, Tryz.func88.trans (congrArg some (by kernel_rfl))⟩
 t4 := Tryz.underlying4
 a4 := Tryz.isAgg4
 z4 := Tryz.sizeOf4
 v4 := Tryz.zeroValue4
 t22 := Tryz.underlying23
 a22 := Tryz.isAgg23
 z22 := Tryz.sizeOf23
 v22 := Tryz.zeroValue23 }
end Go.Proofs.YtlmfbjhokkpjhaaGreatDoor
namespace Go.Proofs.YtlmfbjhokkpjhaaGreatDoor
open Go Go.RowKit Go.Maps
def Copy (l : List ByteArray) (w : World) (v : Value) (w' : World) : Prop :=
 ∃ a n c, v = .slice a n c ∧ Texts w'.heap.size w' a n c l ∧ (∀ ad, a = some ad → w.heap.size ≤ ad.block) ∧ Below w.heap.size w w'
theorem Texts.of_owns {w' : World} {base e : Nat} {v : Value} {l : List ByteArray} (h : w'.ownsRow base e 1 v l.length (strV l)) (hs : l.length ≤ 4294967280) (hz : ∀ s ∈ l, s.size ≤ 4294967280) :
  ∃ a n c, v = .slice a n c ∧ Texts w'.heap.size w' a n c l ∧ (∀ ad, a = some ad → base ≤ ad.block) := by
 obtain ⟨hl, h2⟩ := h
 rcases h2 with ⟨rfl, h3⟩ | ⟨g, cap, cur, rfl, hb, hh, hn, hm, hc, ht⟩
 ·have : l = [] := List.eq_nil_of_length_eq_zero (by simpa using h3)
  subst this
  exact ⟨none, 0, 0, rfl, ⟨rfl, ⟨Zr _, Nat.zero_le _, fun _ => rfl, (fun ad h => by cases h), (fun ad h => by cases h)⟩, Nat.zero_le _, (fun b o h => by cases h), (fun s h => by cases h)⟩, fun ad h => by cases h⟩
 ·refine ⟨some ⟨g, 0, none⟩, l.length, cap, rfl, ⟨rfl, ⟨hn, hm, fun h => (by cases h), fun ad h _ => ?_, fun ad h _ => ?_⟩, hs, ?_, hz⟩, fun ad h => by cases h; exact hb⟩
  ·cases h; exact (Array.getElem?_eq_some_iff.1 hh).1
  ·cases h; rfl
  ·intro b o h i s hi
   cases h
   rw [Nat.zero_add, cell_of_row w' g i _ e (0, 0) hh]
   have : (strV l)[i]? = some (.string s) := by simp [strV, hi]
   rw [← ht] at this
   rw [← Array.getElem?_toList]
   rw [List.getElem?_take] at this
   split at this
   ·exact this
   ·cases this
theorem copied_any (B : Nat) (a : Option Addr) (n c : Nat) (l : List ByteArray) (w : World) (h : Texts B w a n c l) :
  Calls Tryz.prog 63 #[.slice a n c] w fun e w' => ∃ v, e = .returned v ∧ Copy l w v w' := by
 have key : Calls Tryz.prog 107 #[.slice a n c] w fun e w' => ∃ v, e = .returned v ∧ Copy l w v w' := by
  have hn := h.len
  cases ha : a with
  | none =>
   have h0 := (h.lies.len0 ha).1
   have : l = [] := List.eq_nil_of_length_eq_zero (by omega)
   subst this
   refine (Tryz.slices_Clone_string_nil n c w).mono fun e w' ⟨he, hw⟩ => ⟨_, he, none, 0, 0, rfl, ⟨rfl, ⟨Zr _, Nat.zero_le _, fun _ => rfl, (fun ad h => by cases h), (fun ad h => by cases h)⟩, Nat.zero_le _, (fun b o h => by cases h), (fun s h => by cases h)⟩, (fun ad h => by cases h), by rw [hw]; exact Zl _ _⟩
  | some ad =>
   have hsm := h.small
   by_cases h0 : n = 0
   ·subst h0
    have : l = [] := List.eq_nil_of_length_eq_zero (by omega)
    subst this
    refine (Tryz.slices_Clone_string_zero ad c w).mono fun e w' ⟨v, he, ho, _, hb⟩ => ⟨v, he, ?_⟩
    obtain ⟨a', n', c', e1, e2, e3⟩ := Texts.of_owns (l := []) ho (by simp) (by simp)
    exact ⟨a', n', c', e1, e2, e3, hb⟩
   ·obtain ⟨b, o, e, hb⟩ := h.lies.ptr (by omega)
    rw [ha] at e; cases e
    refine (Tryz.slices_Clone_string b o n c l w (by omega) (by omega) (fun j hj => ?_)).mono fun e w' ⟨v, he, ho, _, hb⟩ => ⟨v, he, ?_⟩
    ·have := h.cell b o ha j l[j] (List.getElem?_eq_getElem hj)
     rw [this]; simp [List.getD, hj]
    ·rw [List.take_of_length_le (by omega), hn] at ho
     obtain ⟨a', n', c', e1, e2, e3⟩ := Texts.of_owns (l := l) ho (by omega) h.size
     exact ⟨a', n', c', e1, e2, e3, hb⟩
 have K := Zh key; clear key h
 go_enter Tryz.func63, Tryz.ntmps63
 go_wp2_with (first | (go_at_call 107; refine (K.out).mono ?_; rintro e w1 ⟨v, rfl, hv⟩; have HV := Zh hv; clear hv) | fail)
 go_ret
 exact ⟨v, rfl, HV.out⟩
end Go.Proofs.YtlmfbjhokkpjhaaGreatDoor
namespace Go.Proofs.YtlmfbjhokkpjhaaGreatDoor
open Go Go.RowKit Go.Maps
theorem cells_read {w : World} {b o m : Nat} (h : ∀ j, j < m → ∃ u, w.cell? ⟨b, o + j, none⟩ = some u ∧ u.oneCell' = true) :
  ∃ news : List Value, news.length = m ∧ (∀ (j : Nat) u, news[j]? = some u → w.cell? ⟨b, o + j, none⟩ = some u) ∧ (∀ u ∈ news, u.oneCell' = true) ∧ ∀ j, j < m → news[j]? = w.cell? ⟨b, o + j, none⟩ := by
 refine ⟨(List.range m).map fun j => (w.cell? ⟨b, o + j, none⟩).getD undef, by simp, ?_, ?_, ?_⟩
 ·intro j u hj
  simp only [List.getElem?_map, Option.map_eq_some_iff] at hj
  obtain ⟨k, hk, rfl⟩ := hj
  have hk' := List.getElem?_eq_some_iff.1 hk
  obtain ⟨hlt, hk2⟩ := hk'
  simp at hk2 hlt
  subst hk2
  obtain ⟨u, hu, _⟩ := h j hlt
  rw [hu]; rfl
 ·intro u hu
  obtain ⟨j, hj, rfl⟩ := List.mem_map.1 hu
  obtain ⟨v, hv, h1⟩ := h j (by simpa using hj)
  rw [hv]; exact h1
 ·intro j hj
  obtain ⟨v, hv, h1⟩ := h j hj
  simp [hj, hv]
theorem TypeAt.cells {B : Nat} {w : World} {b o : Nat} {x : PType} (h : TypeAt B w b o x) : ∀ k, k < 9 → ∃ u, w.cell? ⟨b, o + k, none⟩ = some u ∧ u.oneCell' = true := by
 obtain ⟨a, n, c, h1, _⟩ := h.c1
 intro k hk
 match k, hk with
 | 0, _ => exact ⟨_, h.c0, rfl⟩
 | 1, _ => exact ⟨_, h1, rfl⟩
 | 2, _ => exact ⟨_, h.c2, rfl⟩
 | 3, _ => exact ⟨_, h.c3, rfl⟩
 | 4, _ => exact ⟨_, h.c4, rfl⟩
 | 5, _ => exact ⟨_, h.c5, rfl⟩
 | 6, _ => exact ⟨_, h.c6, rfl⟩
 | 7, _ => exact ⟨_, h.c7, rfl⟩
 | 8, _ => exact ⟨_, h.c8, rfl⟩
theorem ClassAt.cells {B : Nat} {w : World} {b o : Nat} {x : PClass} (h : ClassAt B w b o x) : ∀ k, k < 6 → ∃ u, w.cell? ⟨b, o + k, none⟩ = some u ∧ u.oneCell' = true := by
 obtain ⟨a, n, c, h1, _⟩ := h.c1
 obtain ⟨a2, n2, c2, h2, _⟩ := h.c2
 obtain ⟨a4, n4, c4, h4, _⟩ := h.c4
 obtain ⟨a5, n5, c5, h5, _⟩ := h.c5
 intro k hk
 match k, hk with
 | 0, _ => exact ⟨_, h.c0, rfl⟩
 | 1, _ => exact ⟨_, h1, rfl⟩
 | 2, _ => exact ⟨_, h2, rfl⟩
 | 3, _ => exact ⟨_, h.c3, rfl⟩
 | 4, _ => exact ⟨_, h4, rfl⟩
 | 5, _ => exact ⟨_, h5, rfl⟩
theorem TypeAt.move {B B' : Nat} {w w' : World} {b o b' o' : Nat} {x : PType} (h : TypeAt B w b o x) (k : Below B w w') (hb : B ≤ B') (e : ∀ k, k < 9 → w'.cell? ⟨b', o' + k, none⟩ = w.cell? ⟨b, o + k, none⟩) : TypeAt B' w' b' o' x where
 c0 := (e 0 (by omega)).trans h.c0
 c1 := by obtain ⟨a, n, c, h1, h2⟩ := h.c1; exact ⟨a, n, c, (e 1 (by omega)).trans h1, h2.keep k hb⟩
 c2 := (e 2 (by omega)).trans h.c2
 c3 := (e 3 (by omega)).trans h.c3
 c4 := (e 4 (by omega)).trans h.c4
 c5 := (e 5 (by omega)).trans h.c5
 c6 := (e 6 (by omega)).trans h.c6
 c7 := (e 7 (by omega)).trans h.c7
 c8 := (e 8 (by omega)).trans h.c8
theorem ClassAt.move {B B' : Nat} {w w' : World} {b o b' o' : Nat} {x : PClass} (h : ClassAt B w b o x) (k : Below B w w') (hb : B ≤ B') (e : ∀ k, k < 6 → w'.cell? ⟨b', o' + k, none⟩ = w.cell? ⟨b, o + k, none⟩) : ClassAt B' w' b' o' x where
 c0 := (e 0 (by omega)).trans h.c0
 c1 := by obtain ⟨a, n, c, h1, h2⟩ := h.c1; exact ⟨a, n, c, (e 1 (by omega)).trans h1, h2.keep k hb⟩
 c2 := by obtain ⟨a, n, c, h1, h2⟩ := h.c2; exact ⟨a, n, c, (e 2 (by omega)).trans h1, h2.keep k hb⟩
 c3 := (e 3 (by omega)).trans h.c3
 c4 := by obtain ⟨a, n, c, h1, h2⟩ := h.c4; exact ⟨a, n, c, (e 4 (by omega)).trans h1, h2.keep k hb⟩
 c5 := by obtain ⟨a, n, c, h1, h2⟩ := h.c5; exact ⟨a, n, c, (e 5 (by omega)).trans h1, h2.keep k hb⟩
theorem infoT : ∃ i z, Tryz.prog.info? 46 = some i ∧ i.zero = some z ∧ i.size = 9 ∧ i.bytes = 64 ∧ z.cells.size = 9 := by
 have h : (Tryz.prog.info? 46).map (fun i => (i.zero.map (·.cells.size), i.size, i.bytes)) = some (some 9, 9, 64) := by kernel_rfl
 cases hi : Tryz.prog.info? 46 with
 | none => rw [hi] at h; cases h
 | some i =>
  rw [hi] at h
  simp only [Option.map_some, Option.some.injEq, Prod.mk.injEq] at h
  obtain ⟨h1, h2, h3⟩ := h
  cases hz : i.zero with
  | none => rw [hz] at h1; cases h1
  | some z => rw [hz] at h1; exact ⟨i, z, rfl, hz, h2, h3, by simpa using h1⟩
theorem infoC : ∃ i z, Tryz.prog.info? 89 = some i ∧ i.zero = some z ∧ i.size = 6 ∧ i.bytes = 120 ∧ z.cells.size = 6 := by
 have h : (Tryz.prog.info? 89).map (fun i => (i.zero.map (·.cells.size), i.size, i.bytes)) = some (some 6, 6, 120) := by kernel_rfl
 cases hi : Tryz.prog.info? 89 with
 | none => rw [hi] at h; cases h
 | some i =>
  rw [hi] at h
  simp only [Option.map_some, Option.some.injEq, Prod.mk.injEq] at h
  obtain ⟨h1, h2, h3⟩ := h
  cases hz : i.zero with
  | none => rw [hz] at h1; cases h1
  | some z => rw [hz] at h1; exact ⟨i, z, rfl, hz, h2, h3, by simpa using h1⟩
theorem cloneT_any (B : Nat) (a : Option Addr) (n c : Nat) (l : List PType) (w : World) (h : Types B w a n c l) (hB : B ≤ w.heap.size) (hn : n ≤ 1024) :
  Calls Tryz.prog 87 #[.slice a n c] w fun e w' => ∃ a' c', e = .returned (.slice a' n c') ∧ Below w.heap.size w w' ∧ Types w'.heap.size w' a' n c' l ∧ (∀ ad, a' = some ad → w.heap.size ≤ ad.block ∧ ∀ j, w'.frozen? ⟨ad.block, j, none⟩ = false) := by
 obtain ⟨i0, z, hi, hz0, hz1, hz2, hzs⟩ := infoT
 have hl := h.len
 cases ha : a with
 | none =>
  have h0 := (h.lies.len0 ha).1
  have hl0 : l = [] := List.eq_nil_of_length_eq_zero (by omega)
  subst hl0; subst h0
  refine (AnyE.slices_Clone_nil layT 0 c w).mono fun e w' ⟨he, hw⟩ => ⟨none, 0, he, by rw [hw]; exact Zl _ _, ⟨rfl, ⟨Zr _, Nat.zero_le _, fun _ => rfl, (fun ad h => by cases h), (fun ad h => by cases h)⟩, (fun b o h => by cases h), (fun s h => by cases h), (fun ad h => by cases h)⟩, (fun ad h => by cases h)⟩
 | some ad =>
  obtain ⟨b, o, sp⟩ := ad
  have hsp := h.top _ ha
  simp only at hsp; subst hsp
  have hcell : ∀ j, j < n * 9 → ∃ u, w.cell? ⟨b, o + j, none⟩ = some u ∧ u.oneCell' = true := fun j hj => by
   have hli : j / 9 < l.length := by omega
   have h1 := (h.cell b o ha (j / 9) _ (List.getElem?_eq_getElem hli)).cells (j % 9) (Nat.mod_lt _ (by omega))
   rw [show o + j / 9 * 9 + j % 9 = o + j by omega] at h1
   exact h1
  obtain ⟨news, hnl, hn1, hn2, hn3⟩ := cells_read hcell
  refine (AnyE.slices_Clone layT i0 z 9 64 hi hz0 hz1 hz2 hzs (by decide) (fun w => by kernel_rfl) b o n c news w hnl (by unfold maxLen; omega) (by omega) hn1 hn2).mono fun e w' ⟨v, he, ho, hnn, hb⟩ => ?_
  obtain ⟨hl2, h2⟩ := ho
  rcases h2 with ⟨rfl, h3⟩ | ⟨g, cap, cur, rfl, hgb, hh, hnc, hm, hc, ht⟩
  ·exact absurd rfl hnn
  ·refine ⟨some ⟨g, 0, none⟩, cap, he, hb, ⟨hl, ⟨hnc, hm, (fun h => by cases h), (fun ad h => by cases h; exact (Array.getElem?_eq_some_iff.1 hh).1), (fun ad h _ => by cases h; rfl)⟩, ?_, h.ok, (fun ad h => by cases h; rfl)⟩, fun ad h => by cases h; exact ⟨hgb, fun j => frozen_of_row w' g j _ _ hh⟩⟩
   intro b' o' e' i x hx
   cases e'
   have hil := (List.getElem?_eq_some_iff.1 hx).1
   refine (h.cell b o ha i x hx).move (hb.mono hB) (Nat.le_trans hB hb.size) fun k hk => ?_
   ·rw [Nat.zero_add, cell_of_row w' g (i * 9 + k) _ _ (0, 0) hh]
    rw [show o + i * 9 + k = o + (i * 9 + k) by omega, ← hn3 (i * 9 + k) (by omega), ← ht]
    rw [← Array.getElem?_toList, List.getElem?_take, if_pos (by omega)]
theorem cloneC_any (B : Nat) (a : Option Addr) (n c : Nat) (l : List PClass) (w : World) (h : Classes B w a n c l) (hB : B ≤ w.heap.size) (hn : n ≤ 1024) :
  Calls Tryz.prog 88 #[.slice a n c] w fun e w' => ∃ a' c', e = .returned (.slice a' n c') ∧ Below w.heap.size w w' ∧ Classes w'.heap.size w' a' n c' l ∧ (∀ ad, a' = some ad → w.heap.size ≤ ad.block ∧ ∀ j, w'.frozen? ⟨ad.block, j, none⟩ = false) := by
 obtain ⟨i0, z, hi, hz0, hz1, hz2, hzs⟩ := infoC
 have hl := h.len
 cases ha : a with
 | none =>
  have h0 := (h.lies.len0 ha).1
  have hl0 : l = [] := List.eq_nil_of_length_eq_zero (by omega)
  subst hl0; subst h0
  refine (AnyE.slices_Clone_nil layC 0 c w).mono fun e w' ⟨he, hw⟩ => ⟨none, 0, he, by rw [hw]; exact Zl _ _, ⟨rfl, ⟨Zr _, Nat.zero_le _, fun _ => rfl, (fun ad h => by cases h), (fun ad h => by cases h)⟩, (fun b o h => by cases h), (fun s h => by cases h), (fun ad h => by cases h)⟩, (fun ad h => by cases h)⟩
 | some ad =>
  obtain ⟨b, o, sp⟩ := ad
  have hsp := h.top _ ha
  simp only at hsp; subst hsp
  have hcell : ∀ j, j < n * 6 → ∃ u, w.cell? ⟨b, o + j, none⟩ = some u ∧ u.oneCell' = true := fun j hj => by
   have hli : j / 6 < l.length := by omega
   have h1 := (h.cell b o ha (j / 6) _ (List.getElem?_eq_getElem hli)).cells (j % 6) (Nat.mod_lt _ (by omega))
   rw [show o + j / 6 * 6 + j % 6 = o + j by omega] at h1
   exact h1
  obtain ⟨news, hnl, hn1, hn2, hn3⟩ := cells_read hcell
  refine (AnyE.slices_Clone layC i0 z 6 120 hi hz0 hz1 hz2 hzs (by decide) (fun w => by kernel_rfl) b o n c news w hnl (by unfold maxLen; omega) (by omega) hn1 hn2).mono fun e w' ⟨v, he, ho, hnn, hb⟩ => ?_
  obtain ⟨hl2, h2⟩ := ho
  rcases h2 with ⟨rfl, h3⟩ | ⟨g, cap, cur, rfl, hgb, hh, hnc, hm, hc, ht⟩
  ·exact absurd rfl hnn
  ·refine ⟨some ⟨g, 0, none⟩, cap, he, hb, ⟨hl, ⟨hnc, hm, (fun h => by cases h), (fun ad h => by cases h; exact (Array.getElem?_eq_some_iff.1 hh).1), (fun ad h _ => by cases h; rfl)⟩, ?_, h.ok, (fun ad h => by cases h; rfl)⟩, fun ad h => by cases h; exact ⟨hgb, fun j => frozen_of_row w' g j _ _ hh⟩⟩
   intro b' o' e' i x hx
   cases e'
   have hil := (List.getElem?_eq_some_iff.1 hx).1
   refine (h.cell b o ha i x hx).move (hb.mono hB) (Nat.le_trans hB hb.size) fun k hk => ?_
   ·rw [Nat.zero_add, cell_of_row w' g (i * 6 + k) _ _ (0, 0) hh]
    rw [show o + i * 6 + k = o + (i * 6 + k) by omega, ← hn3 (i * 6 + k) (by omega), ← ht]
    rw [← Array.getElem?_toList, List.getElem?_take, if_pos (by omega)]
end Go.Proofs.YtlmfbjhokkpjhaaGreatDoor
