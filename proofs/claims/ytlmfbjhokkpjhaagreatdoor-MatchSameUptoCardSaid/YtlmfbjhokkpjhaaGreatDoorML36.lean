/- Part 36 of the walks and plain laws, joined: SameV, SortC, RegionQ, NTyped. -/
import Derived.Test.YtlmfbjhokkpjhaaGreatDoorML35
import Derived.Test.YtlmfbjhokkpjhaaGreatDoorML19
import Derived.Test.YtlmfbjhokkpjhaaGreatDoorShelfM
import Derived.Test.YtlmfbjhokkpjhaaGreatDoorML26
import Derived.Test.YtlmfbjhokkpjhaaGreatDoorML00
import Derived.Test.YtlmfbjhokkpjhaaGreatDoorML14
import Derived.Test.YtlmfbjhokkpjhaaGreatDoorML31
import Derived.Shelf.GgSortFunc.SmallK
import Derived.Shelf.GgSortFunc.Tiny
import Derived.Lib.ReflectliteSwap
import Derived.Deep.DeepCutAuto
import Derived.BigQuiet
set_option linter.unusedVariables false
set_option linter.unusedSimpArgs false
namespace Go.Proofs.YtlmfbjhokkpjhaaGreatDoor
open Go Go.RowKit
def prP (rd : Str → Str × Bool) (S : PSchema) (a : PAva) : KPair := ((typeAt S (toL a.1)).getD 0, (valK rd S (fullT S ((typeAt S (toL a.1)).getD 0)) (toL a.2)).1)
def OkA (rd : Str → Str × Bool) (S : PSchema) (a : PAva) : Prop := ∃ t, typeAt S (toL a.1) = some t ∧ (valK rd S (fullT S t) (toL a.2)).2 = true
theorem pairsK_to {rd : Str → Str × Bool} {S : PSchema} : ∀ (l : PRdn) (acc : List KPair), (acc.map (·.1)).Nodup → (pairsK rd S acc l).1 = 0 → pairsK rd S acc l = (0, acc ++ l.map (prP rd S)) ∧ ((acc ++ l.map (prP rd S)).map (·.1)).Nodup ∧ ∀ a ∈ l, OkA rd S a
 | [], acc, h, _ => ⟨by simp [pairsK], by simpa using h, fun a ha => by cases ha⟩
 | a :: l, acc, h, h0 => by
  simp only [pairsK] at h0 ⊢
  cases ht : typeAt S (toL a.1) with
  | none => rw [ht] at h0; simp at h0
  | some t =>
   rw [ht] at h0
   simp only at h0 ⊢
   split at h0
   ·simp at h0
   ·rename_i h1
    rw [if_neg h1]
    split at h0
    ·rename_i h2
     rw [if_pos h2]
     have hpr : prP rd S a = (t, (valK rd S (fullT S t) (toL a.2)).1) := by unfold prP; rw [ht]; rfl
     have hn : ((acc ++ [(t, (valK rd S (fullT S t) (toL a.2)).1)]).map (·.1)).Nodup := by
      rw [List.map_append, List.nodup_append]
      refine ⟨h, by simp, fun x hx y hy e => ?_⟩
      simp at hy
      subst hy
      subst e
      obtain ⟨q, hq, e⟩ := List.mem_map.1 hx
      exact h1 (List.any_eq_true.2 ⟨q, hq, by simp [e]⟩)
     obtain ⟨i1, i2, i3⟩ := pairsK_to l _ hn h0
     refine ⟨by rw [i1, ← hpr]; simp, by rw [← hpr] at i2; simpa using i2, fun x hx => ?_⟩
     rcases List.mem_cons.1 hx with rfl | hx
     ·exact ⟨t, ht, h2⟩
     ·exact i3 x hx
    ·simp at h0
def renA (S : PSchema) (a : PAva) : PAva := ((fullT S ((typeAt S (toL a.1)).getD 0)).oid, a.2)
def TwinR (S : PSchema) (r s : PRdn) : Prop := ∃ r' : PRdn, List.Perm r' r ∧ s = r'.map (renA S)
theorem TwinR.len {S : PSchema} {r s : PRdn} (h : TwinR S r s) : s.length = r.length := by
 obtain ⟨r', h1, rfl⟩ := h
 rw [List.length_map, h1.length_eq]
inductive TwinN (S : PSchema) : PName → PName → Prop
 | nil : TwinN S [] []
 | cons {r s : PRdn} {n m : PName} (h : TwinR S r s) (t : TwinN S n m) : TwinN S (r :: n) (s :: m)
theorem TwinN.len {S : PSchema} {n m : PName} (h : TwinN S n m) : m.length = n.length := by
 induction h with
 | nil => rfl
 | cons _ _ ih => simp [ih]
theorem print_short {n : PName} (h : (printV n).2 = 0) : ∀ r ∈ n, ∀ a ∈ r, a.2.size ≤ 65536 := by
 unfold printV at h
 split at h
 ·simp at h
 ·split at h
  ·simp at h
  ·split at h
   ·simp at h
   ·rename_i h3
    intro r hr a ha
    by_cases e : 65536 < a.2.size
    ·exact absurd (.inl (List.any_eq_true.2 ⟨r, hr, List.any_eq_true.2 ⟨a, ha, by simp [e]⟩⟩)) h3
    ·omega
end Go.Proofs.YtlmfbjhokkpjhaaGreatDoor
namespace Go.Proofs.YtlmfbjhokkpjhaaGreatDoor
open Go Go.Shelf Go.RowKit Go.Lib Go.Sort
def encP (p : KPair) : List Value := [.int .i64 (p.1 : Nat), .string (baOf p.2)]
noncomputable def svT : TypeInfo := (Tryz.prog.info? 130).get (by kernel_rfl)
noncomputable def svE : TypeInfo := (Tryz.prog.info? 136).get (by kernel_rfl)
theorem svK (n : Nat) (h2 : 2 ≤ n) : Lib.swapperK n svE 25 = 9 := by
 have a : svE.hasPointers = true := by kernel_rfl
 have b : svE.bytes = 24 := by kernel_rfl
 have c : (n == 0) = false := by simp; omega
 have d : (n == 1) = false := by simp; omega
 simp [Lib.swapperK, a, b, c, d]
set_option maxRecDepth 20000 in
set_option maxHeartbeats 2000000 in
theorem less_any (blk off c Bs size : Nat) (W : World) (G : Nat → Int) (hs : W.cell? ⟨Bs, 0, none⟩ = some (.slice (some ⟨blk, off, none⟩) size c))
  (hc : ∀ t, t < size → W.cell? ⟨blk, off + t * 2, none⟩ = some (.int .i64 (G t))) (i j : Nat) (hi : i < size) (hj : j < size) (_hsz : size < 4611686018427387904) :
  Calls Tryz.prog 79 #[.int .i64 i, .int .i64 j, .pointer (some ⟨Bs, 0, none⟩)] W fun e w' => e = .returned (.bool (decide (G i < G j))) ∧ ∃ q, w' = W.drewN q := by
 have ci := hc i hi
 have cj := hc j hj
 go_enter Tryz.func79, Tryz.ntmps79
 go_wp2
 go_quiet (fail)
 go_wp2
 go_ret
 exact ⟨rfl, nq, rfl⟩
theorem chg_sorted (w : World) (n blk off : Nat) (d : Array KPair) (os : Array Obj) (hb : blk < w.heap.size) : Chg (· = blk) w (grow (putRowK encP 2 (Sort.ahead w n) blk off d) os) := by
 have hz : (putRowK encP 2 (Sort.ahead w n) blk off d).heap.size = w.heap.size := by unfold putRowK; simp
 refine ⟨rfl, rfl, rfl, by rw [Go.Sort.size_grow, hz]; omega, fun k hk hn => ?_⟩
 rw [heap_grow_old _ _ (by rw [hz]; exact hk)]
 have hn : k ≠ blk := hn
 show (w.heap.modify blk _)[k]? = w.heap[k]?
 rw [Array.getElem?_modify, if_neg (fun e => hn e.symm)]
def SortPost (blk off : Nat) (d : Array KPair) (w : World) (e : Ending) (w' : World) : Prop :=
 e = .returned (.tuple #[]) ∧ Chg (· = blk) w w' ∧ ∃ d' : Array KPair, d'.toList = sortP d.toList ∧ HoldsK encP 2 w' blk off d'
set_option maxRecDepth 100000 in
set_option maxHeartbeats 4000000 in
theorem sort_key (blk off c Bs : Nat) (d : Array KPair) (h2 : 2 ≤ d.size) (h12 : d.size ≤ 12) (w : World) (hH : HoldsK encP 2 w blk off d) (hblk : blk < w.heap.size)
  (hBs : w.cell? ⟨Bs, 0, none⟩ = some (.slice (some ⟨blk, off, none⟩) d.size c)) (hB1 : Bs < w.heap.size) (hB2 : Bs ≠ blk) (hn : (d.toList.map (·.1)).Nodup) :
  Calls Tryz.prog 78 #[.iface 130 (.slice (some ⟨blk, off, none⟩) d.size c), .func (.func 79) #[] #[.pointer (some ⟨Bs, 0, none⟩)]] w (SortPost blk off d w) := by
 have hless : LessReadsK Tryz.prog 79 #[.pointer (some ⟨Bs, 0, none⟩)] encP 2 ltP blk off d.size w := by
  intro m os dk hs i j hi hj
  have e : sortWorldK encP 2 w blk off m dk os = putRowK encP 2 (grow (Sort.ahead w m) os) blk off dk := by
   unfold sortWorldK; rw [putRowK_grow _ _ (Sort.ahead w m) _ blk off _ hblk]
  have hHg : HoldsK encP 2 (grow (Sort.ahead w m) os) blk off d := holdsK_grow _ _ _ _ blk off d hblk (holdsK_ahead _ _ _ _ _ _ _ hH)
  refine (less_any blk off c Bs d.size _ (fun t => (dk[t]!.1 : Nat)) ?_ (fun t ht => ?_) i j hi hj (by omega)).mono fun e w' ⟨h1, h3⟩ => ⟨?_, h3⟩
  ·rw [e, cell?_putRowK_other _ _ _ blk off dk _ (by exact hB2), cell?_grow _ _ _ (by exact hB1)]; exact hBs
  ·rw [e]; exact ((holdsK_putRowK _ _ _ blk off d dk hHg hs).cell (i := t) (c := 0) (by omega) (by omega)).1
  ·rw [h1]
   unfold ltP
   simp only [Int.ofNat_lt]
 refine (Any.sort_Slice_small_cells_sorted Tryz.laysGg6 130 136 svT svE (by kernel_rfl) (by kernel_rfl) (by kernel_rfl) (by kernel_rfl) 25 (fun _ => by kernel_rfl) encP 2 (fun _ => rfl) (by kernel_rfl) (fun _ => by kernel_rfl)
  (fun x v hv => by simp [encP] at hv; rcases hv with rfl | rfl <;> rfl) ltP ltP_swo 79 _
  (enters_of Tryz.func79 (by kernel_rfl) rfl) blk off c d h2 h12 169 (by rw [svK _ h2]; kernel_rfl) false
  (fun args W => run_callFunc_extern Tryz.func169 (by kernel_rfl) (by kernel_rfl) (by kernel_rfl) (e := Extern.ReflectliteSwapper.swap false) (by kernel_rfl) args W) w hless hH hblk).mono ?_
 rintro e w' ⟨h1, d', n, os, hp, hs, rfl⟩
 have hsz : d'.size = d.size := hp.1
 refine ⟨h1, chg_sorted w n blk off d' os hblk, d', sorted_arr hp hs hn, ?_⟩
 exact holdsK_grow _ _ _ _ blk off d' (by unfold putRowK; simp; exact hblk) (holdsK_putRowK _ _ _ blk off d d' (holdsK_ahead _ _ _ _ _ _ _ hH) hsz)
theorem sortP_one {l : List KPair} (h : l.length = 1) : sortP l = l := by
 match l, h with
 | [x], _ => rfl
theorem chg_grow (S : Nat → Prop) (w : World) (os : Array Obj) : Chg S w (grow w os) :=
 ⟨rfl, rfl, rfl, by rw [Go.Sort.size_grow]; omega, fun k hk _ => heap_grow_old _ _ hk⟩
theorem svK1 : Lib.swapperK 1 svE 25 = 2 := by simp [Lib.swapperK]
set_option maxRecDepth 100000 in
set_option maxHeartbeats 4000000 in
theorem sort_key1 (blk off c Bs : Nat) (d : Array KPair) (h1 : d.size = 1) (w : World) (hH : HoldsK encP 2 w blk off d) (hblk : blk < w.heap.size) :
  Calls Tryz.prog 78 #[.iface 130 (.slice (some ⟨blk, off, none⟩) d.size c), .func (.func 79) #[] #[.pointer (some ⟨Bs, 0, none⟩)]] w (SortPost blk off d w) := by
 rw [h1]
 refine (Any.sort_Slice_tiny Tryz.laysGg6 130 136 svT svE (by kernel_rfl) (by kernel_rfl) (by kernel_rfl) (by kernel_rfl) 25 (fun _ => by kernel_rfl) (some ⟨blk, off, none⟩) 1 c (Zr _) 162 (by rw [svK1]; kernel_rfl) (.func 79) #[] #[.pointer (some ⟨Bs, 0, none⟩)] w).mono ?_
 rintro e w' ⟨h2, os, rfl⟩
 exact ⟨h2, chg_grow _ _ _, d, (sortP_one (by simpa using h1)).symm, holdsK_grow _ _ _ _ blk off d hblk hH⟩
theorem sort_any (blk off c Bs : Nat) (d : Array KPair) (h1 : 1 ≤ d.size) (h12 : d.size ≤ 12) (w : World) (hH : HoldsK encP 2 w blk off d) (hblk : blk < w.heap.size)
  (hBs : w.cell? ⟨Bs, 0, none⟩ = some (.slice (some ⟨blk, off, none⟩) d.size c)) (hB1 : Bs < w.heap.size) (hB2 : Bs ≠ blk) (hn : (d.toList.map (·.1)).Nodup) :
  Calls Tryz.prog 78 #[.iface 130 (.slice (some ⟨blk, off, none⟩) d.size c), .func (.func 79) #[] #[.pointer (some ⟨Bs, 0, none⟩)]] w (SortPost blk off d w) := by
 by_cases h : d.size = 1
 ·exact sort_key1 blk off c Bs d h w hH hblk
 ·exact sort_key blk off c Bs d (by omega) h12 w hH hblk hBs hB1 hB2 hn
end Go.Proofs.YtlmfbjhokkpjhaaGreatDoor
namespace Go.Proofs.YtlmfbjhokkpjhaaGreatDoor
open Go
section
variable {P : Program} {ops : Array Oper} {Q : Exit → Act → World → Prop} {md : Region.Mode} {C C' : World → Prop} {s0 : Nat}
theorem wpC_of_any : ∀ (fuel : Nat) (listed : Array Bool) (a : Act) (w : World), listed.getD s0 true = true → wpAny P md ops Q fuel listed a w → wpC P md ops Q C s0 fuel listed a w
 | 0, _, _, _, _, h => h
 | fuel + 1, listed, a, w, hl, h => ⟨h.1, fun i hi => wpOp_mono (fun a' w' h' => by
   have hl' : (listed.setIfInBounds i true).getD s0 true = true := by
    by_cases e : i = s0
    ·subst e
     by_cases hb : i < listed.size
     ·simp [hb]
     ·simp [hb]
    ·rw [getD_set_ne true e]; exact hl
   exact ⟨fun h0 => absurd (h0.symm.trans hl') (by decide), wpC_of_any fuel _ a' w' hl' h'⟩) (h.2 i hi)⟩
theorem wpC_lex {l : List Oper} {k : Nat} {listed : Array Bool} {a : Act} {w : World} (hs0 : listed.getD s0 true = true) (hs : Region.noSelect ops = true) (hl : l = ops.toList.drop k)
  (hB : Region.lexFrom md ops l.length k listed = true) (hC : C' w) (h : wpQuiet P ops C' (fun a' => ∀ w', C' w' → Q .normal a' w') l a) : wpC P md ops Q C s0 l.length listed a w := by
 refine wpC_of_any _ _ _ _ hs0 (wpAny_of_quiet (Q := fun a' => ∀ w', C' w' → Q .normal a' w') (fun _ w' hw' h => h w' hw') _ _ _ _ hC ?_)
 exact wpAnyQ_lex hs l k listed a (fun j => by rw [hl, List.getElem?_drop]; simp) hB h
end
end Go.Proofs.YtlmfbjhokkpjhaaGreatDoor
namespace Go.Proofs.YtlmfbjhokkpjhaaGreatDoor
open Go Go.RowKit
set_option maxHeartbeats 1000000 in
theorem nword_any (v : ByteArray) (w : World) (hE : Env w) : Calls Tryz.prog 111 #[.string v] w fun e w' => e = .returned (.bool (wordOk (toL v))) ∧ Below w.heap.size w w' := by
 have hk := key_any 8 v w hE
 have hw : wordOk (toL v) = (keyL 8 v.data.toList).2 := rfl
 rw [hw]
 generalize keyL 8 v.data.toList = k at hk ⊢
 obtain ⟨k1, k2⟩ := k
 simp only [ret2] at hk
 have HK := Zh hk; clear hk hw hE
 go_enter Tryz.func111, Tryz.ntmps111
 go_wp2_with (go_at_call 52; with_reducible refine HK.out.mono ?_; rintro e w1 ⟨rfl, h1⟩)
 go_ret
 exact ⟨rfl, h1⟩
theorem typed_long {v : ByteArray} (h : 65536 < v.size) : typedV (toL v) = (kindN ((toL v) ++ [61]) == (v.size, true)) := by
 have hz : (toL v).length = v.size := Lib.size_eq v
 unfold typedV
 rw [hz, if_neg (by omega)]
theorem bytes_ne {a b : ByteArray} (h : ¬ a = b) : (a.toList == b.toList) = false := by
 rw [Lib.toList_data, Lib.toList_data]
 refine beq_false_of_ne fun e => h ?_
 cases a; cases b
 simp only [ByteArray.mk.injEq]
 exact Array.toList_inj.1 e
theorem pairb (k : Nat × Bool) (n : Nat) : (k == (n, true)) = (k.2 && decide (k.1 = n)) := by
 obtain ⟨a, b⟩ := k
 show (a == n && b == true) = (b && decide (a = n))
 cases b <;> by_cases h : a = n <;> simp [h]
theorem fin_ok {g : Nat} {w w' : World} (hg : w.heap.size ≤ g) (h : Chg (· = g) w w') : Below w.heap.size w w' := h.below (Zr _) fun k hk e => by have e : k = g := e; omega
set_option maxRecDepth 20000 in
set_option maxHeartbeats 4000000 in
theorem ntyped_any (v : ByteArray) (w : World) (hE : Env w) (hv : v.size ≤ 4294967280) : Calls Tryz.prog 68 #[.string v] w fun e w' => e = .returned (.bool (typedV (toL v))) ∧ Below w.heap.size w w' := by
  have hz : (toL v).length = v.size := Lib.size_eq v
  by_cases hs : v.size ≤ 65536
  · have ht : typedV (toL v) = wordOk (toL v) := by unfold typedV; rw [hz, if_pos hs]
    rw [ht]
    have hk := nword_any v w hE
    have HK := Zh hk; clear hk ht hE hz
    have i1 : (v.size : Int) ≤ 65536 := by omega
    go_enter Tryz.func68, Tryz.ntmps68
    go_wp2_with (go_at_call 111; with_reducible refine HK.out.mono ?_; rintro e w1 ⟨rfl, h1⟩)
    go_ret
    exact ⟨rfl, h1⟩
  · rw [typed_long (by omega)]
    have i1 : ¬ (v.size : Int) ≤ 65536 := by omega
    clear hE hz
    have hsz : (v ++ ⟨#[61]⟩ : ByteArray).size = v.size + 1 := by rw [ByteArray.size_append]; rfl
    have hl2 : toL (v ++ ⟨#[61]⟩ : ByteArray) = toL v ++ [61] := by unfold toL; simp [ByteArray.data_append]
    have hx : (v ++ ⟨#[61]⟩ : ByteArray).extract 0 v.size = v := ByteArray.extract_append_eq_left rfl
    have hkn := fun w1 h1 => nkind_any w.heap.size (v ++ ⟨#[61]⟩) 0 none w1 h1
    have hrd : Rd (w.alloc (.cells #[.string (v ++ ⟨#[61]⟩), .int .i64 0, .pointer none] 128)) w.heap.size (v ++ ⟨#[61]⟩) 0 none :=
      ⟨by rw [World.cell?_alloc_new]; rfl, by rw [World.cell?_alloc_new]; rfl, by rw [World.cell?_alloc_new]; rfl, fun j => frozen_of_row _ _ j _ _ (heap_alloc_new w _), Nat.zero_le _, by omega⟩
    rw [← hl2]
    rw [List.drop_zero] at hkn
    have hch : Chg (· = w.heap.size) w (w.alloc (.cells #[.string (v ++ ⟨#[61]⟩), .int .i64 0, .pointer none] 128)) := (Chg.refl _ _).alloc _
    generalize hs2 : (v ++ ⟨#[61]⟩ : ByteArray) = s2 at hsz hl2 hx hkn hrd hch ⊢
    rw [pairb]
    generalize kindN (toL s2) = k at hkn ⊢
    have HKN := Zh hkn; have HX := Zh hx; have HSZ := Zh hsz; have HRD := Zh (Zi hrd hch); clear hkn hx hsz hl2 hrd hch
    go_enter Tryz.func68, Tryz.ntmps68
    go_wp2_with fail
    clear hs2
    obtain ⟨hrd, hch⟩ := HRD.out
    clear HRD
    generalize w.alloc (.cells #[.string s2, .int .i64 0, .pointer none] 128) = w1 at hrd hch ⊢
    generalize hg : w.heap.size = g at hrd hch HKN ⊢
    have HG := Zh hg; clear hg
    refine wp_region_C (s0 := 1) (C := fun w' => Rd w' g s2 0 none) (by kernel_rfl) (hrd.drewN 1) (fun hC => ?_)
    have hch2 := hch.drewN 1
    change Chg _ _ w1.drew at hch2
    clear hrd hch
    generalize w1.drew = w2 at hC hch2 ⊢
    have HC2 := Zh hch2; clear hch2
    refine Zu (i := 0) rfl (fun _ => hC) ?r0
    (try simp only [Act.put, Z1, Z2, Z3, Z4, Z5])
    refine Zu (i := 2) rfl (fun _ => hC) ?r2
    (try simp only [Act.put, Z1, Z2, Z3, Z4, Z5, Z6])
    refine wpC_step (i := 1) (by kernel_rfl) rfl (fun K1 hK1 => ?_)
    go_simp
    go_at_call 74
    with_reducible refine (HKN.out _ hC).mono ?_
    intro e w3 hpost
    cases hk2 : k.2 with
    | false =>
      obtain ⟨rfl, hbad⟩ := hpost.2 hk2
      have hne : ¬ (⟨#[]⟩ : ByteArray) = v := fun e => by have : (⟨#[]⟩ : ByteArray).size = v.size := by rw [e]
                                                          have h0 : (⟨#[]⟩ : ByteArray).size = 0 := rfl
                                                          omega
      obtain ⟨_, _, _, _, _, hch3⟩ := hbad
      have HF := Zh (HC2.out.trans hch3)
      have HK2 := Zh hk2
      clear hpost hk2 hch3
      generalize (⟨#[]⟩ : ByteArray) = v2 at hne ⊢
      have hneb := bytes_ne hne
      clear hne
      go_wp2_with fail
      refine hK1.out _ _ (fun h => absurd (h.symm.trans (by kernel_rfl : _ = true)) (by decide)) ?_
      clear hK1 K1 hC
      (try simp only [Act.put, Z1, Z2, Z3, Z4, Z5, Z6])
      refine wpC_lex (k := 3) (C' := fun w' => ∃ n, w' = w3.drewN n) (by kernel_rfl) (by kernel_rfl) rfl (by kernel_rfl) ⟨0, rfl⟩ ?_
      repeat (go_big_quiet_step (fail))
      refine wpQuiet_nil ?_
      intro _ hw'
      obtain ⟨nq, hw''⟩ := hw'
      subst hw''
      go_wp2_with fail
      go_ret
      exact ⟨by rw [HK2.out]; rfl, fin_ok (HG.out ▸ Zr _) (HF.out.drewN _)⟩
    | true =>
      obtain ⟨rfl, hrd3, hch3⟩ := hpost.1 hk2
      have HF := Zh (HC2.out.trans hch3)
      have HK2 := Zh hk2
      clear hpost hk2 hch3
      by_cases hkz : k.1 = v.size
      · have hx : s2.extract 0 (0 + k.1) = v := by rw [Nat.zero_add, hkz]; exact HX.out
        rw [hx]
        have e0 := hrd3.c0
        have e1 := hrd3.c1
        rw [hkz, Nat.zero_add] at e1
        have hzz : (((v.size + 1 : Nat)) : Int) = (s2.size : Int) := by have := HSZ.out; omega
        rw [hzz] at e1
        have hdk : decide (k.1 = v.size) = true := decide_eq_true hkz
        have HDK := Zh hdk
        clear hx hrd3 hdk hzz hkz
        go_wp2_with fail
        refine hK1.out _ _ (fun h => absurd (h.symm.trans (by kernel_rfl : _ = true)) (by decide)) ?_
        clear hK1 K1 hC
        (try simp only [Act.put, Z1, Z2, Z3, Z4, Z5, Z6])
        refine wpC_lex (k := 3) (C' := fun w' => ∃ n, w' = w3.drewN n) (by kernel_rfl) (by kernel_rfl) rfl (by kernel_rfl) ⟨0, rfl⟩ ?_
        repeat (go_big_quiet_step (fail))
        refine wpQuiet_nil ?_
        intro _ hw'
        obtain ⟨nq, hw''⟩ := hw'
        subst hw''
        go_wp2_with fail
        go_ret
        exact ⟨by rw [HK2.out, HDK.out]; rfl, fin_ok (HG.out ▸ Zr _) (HF.out.drewN _)⟩
      · have hle := hrd3.le
        have hne : ¬ s2.extract 0 (0 + k.1) = v := fun e => hkz (by
          have h1 : (s2.extract 0 (0 + k.1)).size = v.size := by rw [e]
          rw [ByteArray.size_extract] at h1
          omega)
        generalize s2.extract 0 (0 + k.1) = v2 at hne ⊢
        have hneb := bytes_ne hne
        clear hne
        have hdk : decide (k.1 = v.size) = false := decide_eq_false hkz
        have HDK := Zh hdk
        clear hrd3 hdk hkz
        go_wp2_with fail
        refine hK1.out _ _ (fun h => absurd (h.symm.trans (by kernel_rfl : _ = true)) (by decide)) ?_
        clear hK1 K1 hC
        (try simp only [Act.put, Z1, Z2, Z3, Z4, Z5, Z6])
        refine wpC_lex (k := 3) (C' := fun w' => ∃ n, w' = w3.drewN n) (by kernel_rfl) (by kernel_rfl) rfl (by kernel_rfl) ⟨0, rfl⟩ ?_
        repeat (go_big_quiet_step (fail))
        refine wpQuiet_nil ?_
        intro _ hw'
        obtain ⟨nq, hw''⟩ := hw'
        subst hw''
        go_wp2_with fail
        go_ret
        exact ⟨by rw [HK2.out, HDK.out]; rfl, fin_ok (HG.out ▸ Zr _) (HF.out.drewN _)⟩
end Go.Proofs.YtlmfbjhokkpjhaaGreatDoor
