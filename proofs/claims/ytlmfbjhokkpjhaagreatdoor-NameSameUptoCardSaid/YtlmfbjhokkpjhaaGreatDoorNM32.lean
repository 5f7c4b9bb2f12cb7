/- Part 32 of the walks and plain laws, joined: SortC, RegionQ, NTyped, ShowV, BldW, Bld2, HexC. -/
import Derived.Test.YtlmfbjhokkpjhaaGreatDoorShelfS
import Derived.Test.YtlmfbjhokkpjhaaGreatDoorNM22
import Derived.Test.YtlmfbjhokkpjhaaGreatDoorNM00
import Derived.Test.YtlmfbjhokkpjhaaGreatDoorNM13
import Derived.Test.YtlmfbjhokkpjhaaGreatDoorNM25
import Derived.Test.YtlmfbjhokkpjhaaGreatDoorNM08
import Derived.Test.YtlmfbjhokkpjhaaGreatDoorNM01
import Derived.Shelf.GgSortFunc.SmallK
import Derived.Shelf.GgSortFunc.Tiny
import Derived.Lib.ReflectliteSwap
import Derived.Deep.DeepCutAuto
import Derived.BigQuiet
import Derived.Lib.OthersKept
import Derived.Lib.FrozenHead2
import Derived.Lib.AppendStr
import Derived.Lib.UnsafeStr
import Derived.Lib.Hide
import Derived.LaidEqlPtr
import Derived.WalkKit
import Derived.Laws.Externs
set_option linter.unusedVariables false
set_option linter.unusedSimpArgs false
namespace Go.Proofs.YtlmfbjhokkpjhaaGreatDoor
open Go Go.Shelf Go.RowKit Go.Lib Go.Sort
def encP (p : KPair) : List Value := [.int .i64 (p.1 : Nat), .string (baOf p.2)]
noncomputable def svT : TypeInfo := (Tryz.prog.info? 130).get (by kernel_rfl)
noncomputable def svE : TypeInfo := (Tryz.prog.info? 136).get (by kernel_rfl)
theorem svK (n : Nat) (h2 : 2 ≤ n) : Lib.swapperK n svE 25 = 9 := by
 have a : svE.hasPointers = true := by kernel_rfl
 have b : svE.bytes = 24 := by kernel_rfl
 have c : (n == 0) = false := by simp; omega
 have d : (n == 1) = false := by simp; omega
 simp [Lib.swapperK, a, b, c, d]
set_option maxRecDepth 20000 in
set_option maxHeartbeats 2000000 in
theorem less_any (blk off c Bs size : Nat) (W : World) (G : Nat → Int) (hs : W.cell? ⟨Bs, 0, none⟩ = some (.slice (some ⟨blk, off, none⟩) size c))
  (hc : ∀ t, t < size → W.cell? ⟨blk, off + t * 2, none⟩ = some (.int .i64 (G t))) (i j : Nat) (hi : i < size) (hj : j < size) (_hsz : size < 4611686018427387904) :
  Calls Tryz.prog 79 #[.int .i64 i, .int .i64 j, .pointer (some ⟨Bs, 0, none⟩)] W fun e w' => e = .returned (.bool (decide (G i < G j))) ∧ ∃ q, w' = W.drewN q := by
 have ci := hc i hi
 have cj := hc j hj
 go_enter Tryz.func79, Tryz.ntmps79
 go_wp2
 go_quiet (fail)
 go_wp2
 go_ret
 exact ⟨rfl, nq, rfl⟩
theorem chg_sorted (w : World) (n blk off : Nat) (d : Array KPair) (os : Array Obj) (hb : blk < w.heap.size) : Chg (· = blk) w (grow (putRowK encP 2 (Sort.ahead w n) blk off d) os) := by
 have hz : (putRowK encP 2 (Sort.ahead w n) blk off d).heap.size = w.heap.size := by unfold putRowK; simp
 refine ⟨rfl, rfl, rfl, by rw [Go.Sort.size_grow, hz]; omega, fun k hk hn => ?_⟩
 rw [heap_grow_old _ _ (by rw [hz]; exact hk)]
 have hn : k ≠ blk := hn
 show (w.heap.modify blk _)[k]? = w.heap[k]?
 rw [Array.getElem?_modify, if_neg (fun e => hn e.symm)]
def SortPost (blk off : Nat) (d : Array KPair) (w : World) (e : Ending) (w' : World) : Prop :=
 e = .returned (.tuple #[]) ∧ Chg (· = blk) w w' ∧ ∃ d' : Array KPair, d'.toList = sortP d.toList ∧ HoldsK encP 2 w' blk off d'
set_option maxRecDepth 100000 in
set_option maxHeartbeats 4000000 in
theorem sort_key (blk off c Bs : Nat) (d : Array KPair) (h2 : 2 ≤ d.size) (h12 : d.size ≤ 12) (w : World) (hH : HoldsK encP 2 w blk off d) (hblk : blk < w.heap.size)
  (hBs : w.cell? ⟨Bs, 0, none⟩ = some (.slice (some ⟨blk, off, none⟩) d.size c)) (hB1 : Bs < w.heap.size) (hB2 : Bs ≠ blk) (hn : (d.toList.map (·.1)).Nodup) :
  Calls Tryz.prog 78 #[.iface 130 (.slice (some ⟨blk, off, none⟩) d.size c), .func (.func 79) #[] #[.pointer (some ⟨Bs, 0, none⟩)]] w (SortPost blk off d w) := by
 have hless : LessReadsK Tryz.prog 79 #[.pointer (some ⟨Bs, 0, none⟩)] encP 2 ltP blk off d.size w := by
  intro m os dk hs i j hi hj
  have e : sortWorldK encP 2 w blk off m dk os = putRowK encP 2 (grow (Sort.ahead w m) os) blk off dk := by
   unfold sortWorldK; rw [putRowK_grow _ _ (Sort.ahead w m) _ blk off _ hblk]
  have hHg : HoldsK encP 2 (grow (Sort.ahead w m) os) blk off d := holdsK_grow _ _ _ _ blk off d hblk (holdsK_ahead _ _ _ _ _ _ _ hH)
  refine (less_any blk off c Bs d.size _ (fun t => (dk[t]!.1 : Nat)) ?_ (fun t ht => ?_) i j hi hj (by omega)).mono fun e w' ⟨h1, h3⟩ => ⟨?_, h3⟩
  ·rw [e, cell?_putRowK_other _ _ _ blk off dk _ (by exact hB2), cell?_grow _ _ _ (by exact hB1)]; exact hBs
  ·rw [e]; exact ((holdsK_putRowK _ _ _ blk off d dk hHg hs).cell (i := t) (c := 0) (by omega) (by omega)).1
  ·rw [h1]
   unfold ltP
   simp only [Int.ofNat_lt]
 refine (Any.sort_Slice_small_cells_sorted Tryz.laysGg6 130 136 svT svE (by kernel_rfl) (by kernel_rfl) (by kernel_rfl) (by kernel_rfl) 25 (fun _ => by kernel_rfl) encP 2 (fun _ => rfl) (by kernel_rfl) (fun _ => by kernel_rfl)
  (fun x v hv => by simp [encP] at hv; rcases hv with rfl | rfl <;> rfl) ltP ltP_swo 79 _
  (enters_of Tryz.func79 (by kernel_rfl) rfl) blk off c d h2 h12 169 (by rw [svK _ h2]; kernel_rfl) false
  (fun args W => run_callFunc_extern Tryz.func169 (by kernel_rfl) (by kernel_rfl) (by kernel_rfl) (e := Extern.ReflectliteSwapper.swap false) (by kernel_rfl) args W) w hless hH hblk).mono ?_
 rintro e w' ⟨h1, d', n, os, hp, hs, rfl⟩
 have hsz : d'.size = d.size := hp.1
 refine ⟨h1, chg_sorted w n blk off d' os hblk, d', sorted_arr hp hs hn, ?_⟩
 exact holdsK_grow _ _ _ _ blk off d' (by unfold putRowK; simp; exact hblk) (holdsK_putRowK _ _ _ blk off d d' (holdsK_ahead _ _ _ _ _ _ _ hH) hsz)
theorem sortP_one {l : List KPair} (h : l.length = 1) : sortP l = l := by
 match l, h with
 | [x], _ => rfl
theorem chg_grow (S : Nat → Prop) (w : World) (os : Array Obj) : Chg S w (grow w os) :=
 ⟨rfl, rfl, rfl, by rw [Go.Sort.size_grow]; omega, fun k hk _ => heap_grow_old _ _ hk⟩
theorem svK1 : Lib.swapperK 1 svE 25 = 2 := by simp [Lib.swapperK]
set_option maxRecDepth 100000 in
set_option maxHeartbeats 4000000 in
theorem sort_key1 (blk off c Bs : Nat) (d : Array KPair) (h1 : d.size = 1) (w : World) (hH : HoldsK encP 2 w blk off d) (hblk : blk < w.heap.size) :
  Calls Tryz.prog 78 #[.iface 130 (.slice (some ⟨blk, off, none⟩) d.size c), .func (.func 79) #[] #[.pointer (some ⟨Bs, 0, none⟩)]] w (SortPost blk off d w) := by
 rw [h1]
 refine (Any.sort_Slice_tiny Tryz.laysGg6 130 136 svT svE (by kernel_rfl) (by kernel_rfl) (by kernel_rfl) (by kernel_rfl) 25 (fun _ => by kernel_rfl) (some ⟨blk, off, none⟩) 1 c (Zr _) 162 (by rw [svK1]; kernel_rfl) (.func 79) #[] #[.pointer (some ⟨Bs, 0, none⟩)] w).mono ?_
 rintro e w' ⟨h2, os, rfl⟩
 exact ⟨h2, chg_grow _ _ _, d, (sortP_one (by simpa using h1)).symm, holdsK_grow _ _ _ _ blk off d hblk hH⟩
theorem sort_any (blk off c Bs : Nat) (d : Array KPair) (h1 : 1 ≤ d.size) (h12 : d.size ≤ 12) (w : World) (hH : HoldsK encP 2 w blk off d) (hblk : blk < w.heap.size)
  (hBs : w.cell? ⟨Bs, 0, none⟩ = some (.slice (some ⟨blk, off, none⟩) d.size c)) (hB1 : Bs < w.heap.size) (hB2 : Bs ≠ blk) (hn : (d.toList.map (·.1)).Nodup) :
  Calls Tryz.prog 78 #[.iface 130 (.slice (some ⟨blk, off, none⟩) d.size c), .func (.func 79) #[] #[.pointer (some ⟨Bs, 0, none⟩)]] w (SortPost blk off d w) := by
 by_cases h : d.size = 1
 ·exact sort_key1 blk off c Bs d h w hH hblk
 ·exact sort_key blk off c Bs d (by omega) h12 w hH hblk hBs hB1 hB2 hn
end Go.Proofs.YtlmfbjhokkpjhaaGreatDoor
namespace Go.Proofs.YtlmfbjhokkpjhaaGreatDoor
open Go
section
variable {P : Program} {ops : Array Oper} {Q : Exit → Act → World → Prop} {md : Region.Mode} {C C' : World → Prop} {s0 : Nat}
theorem wpC_of_any : ∀ (fuel : Nat) (listed : Array Bool) (a : Act) (w : World), listed.getD s0 true = true → wpAny P md ops Q fuel listed a w → wpC P md ops Q C s0 fuel listed a w
 | 0, _, _, _, _, h => h
 | fuel + 1, listed, a, w, hl, h => ⟨h.1, fun i hi => wpOp_mono (fun a' w' h' => by
   have hl' : (listed.setIfInBounds i true).getD s0 true = true := by
    by_cases e : i = s0
    ·subst e
     by_cases hb : i < listed.size
     ·simp [hb]
     ·simp [hb]
    ·rw [getD_set_ne true e]; exact hl
   exact ⟨fun h0 => absurd (h0.symm.trans hl') (by decide), wpC_of_any fuel _ a' w' hl' h'⟩) (h.2 i hi)⟩
theorem wpC_lex {l : List Oper} {k : Nat} {listed : Array Bool} {a : Act} {w : World} (hs0 : listed.getD s0 true = true) (hs : Region.noSelect ops = true) (hl : l = ops.toList.drop k)
  (hB : Region.lexFrom md ops l.length k listed = true) (hC : C' w) (h : wpQuiet P ops C' (fun a' => ∀ w', C' w' → Q .normal a' w') l a) : wpC P md ops Q C s0 l.length listed a w := by
 refine wpC_of_any _ _ _ _ hs0 (wpAny_of_quiet (Q := fun a' => ∀ w', C' w' → Q .normal a' w') (fun _ w' hw' h => h w' hw') _ _ _ _ hC ?_)
 exact wpAnyQ_lex hs l k listed a (fun j => by rw [hl, List.getElem?_drop]; simp) hB h
end
end Go.Proofs.YtlmfbjhokkpjhaaGreatDoor
namespace Go.Proofs.YtlmfbjhokkpjhaaGreatDoor
open Go Go.RowKit
set_option maxHeartbeats 1000000 in
theorem nword_any (v : ByteArray) (w : World) (hE : Env w) : Calls Tryz.prog 111 #[.string v] w fun e w' => e = .returned (.bool (wordOk (toL v))) ∧ Below w.heap.size w w' := by
 have hk := key_any 8 v w hE
 have hw : wordOk (toL v) = (keyL 8 v.data.toList).2 := rfl
 rw [hw]
 generalize keyL 8 v.data.toList = k at hk ⊢
 obtain ⟨k1, k2⟩ := k
 simp only [ret2] at hk
 have HK := Zh hk; clear hk hw hE
 go_enter Tryz.func111, Tryz.ntmps111
 go_wp2_with (go_at_call 52; with_reducible refine HK.out.mono ?_; rintro e w1 ⟨rfl, h1⟩)
 go_ret
 exact ⟨rfl, h1⟩
theorem typed_long {v : ByteArray} (h : 65536 < v.size) : typedV (toL v) = (kindN ((toL v) ++ [61]) == (v.size, true)) := by
 have hz : (toL v).length = v.size := Lib.size_eq v
 unfold typedV
 rw [hz, if_neg (by omega)]
theorem bytes_ne {a b : ByteArray} (h : ¬ a = b) : (a.toList == b.toList) = false := by
 rw [Lib.toList_data, Lib.toList_data]
 refine beq_false_of_ne fun e => h ?_
 cases a; cases b
 simp only [ByteArray.mk.injEq]
 exact Array.toList_inj.1 e
theorem pairb (k : Nat × Bool) (n : Nat) : (k == (n, true)) = (k.2 && decide (k.1 = n)) := by
 obtain ⟨a, b⟩ := k
 show (a == n && b == true) = (b && decide (a = n))
 cases b <;> by_cases h : a = n <;> simp [h]
theorem fin_ok {g : Nat} {w w' : World} (hg : w.heap.size ≤ g) (h : Chg (· = g) w w') : Below w.heap.size w w' := h.below (Zr _) fun k hk e => by have e : k = g := e; omega
set_option maxRecDepth 20000 in
set_option maxHeartbeats 4000000 in
theorem ntyped_any (v : ByteArray) (w : World) (hE : Env w) (hv : v.size ≤ 4294967280) : Calls Tryz.prog 68 #[.string v] w fun e w' => e = .returned (.bool (typedV (toL v))) ∧ Below w.heap.size w w' := by
  have hz : (toL v).length = v.size := Lib.size_eq v
  by_cases hs : v.size ≤ 65536
  · have ht : typedV (toL v) = wordOk (toL v) := by unfold typedV; rw [hz, if_pos hs]
    rw [ht]
    have hk := nword_any v w hE
    have HK := Zh hk; clear hk ht hE hz
    have i1 : (v.size : Int) ≤ 65536 := by omega
    go_enter Tryz.func68, Tryz.ntmps68
    go_wp2_with (go_at_call 111; with_reducible refine HK.out.mono ?_; rintro e w1 ⟨rfl, h1⟩)
    go_ret
    exact ⟨rfl, h1⟩
  · rw [typed_long (by omega)]
    have i1 : ¬ (v.size : Int) ≤ 65536 := by omega
    clear hE hz
    have hsz : (v ++ ⟨#[61]⟩ : ByteArray).size = v.size + 1 := by rw [ByteArray.size_append]; rfl
    have hl2 : toL (v ++ ⟨#[61]⟩ : ByteArray) = toL v ++ [61] := by unfold toL; simp [ByteArray.data_append]
    have hx : (v ++ ⟨#[61]⟩ : ByteArray).extract 0 v.size = v := ByteArray.extract_append_eq_left rfl
    have hkn := fun w1 h1 => nkind_any w.heap.size (v ++ ⟨#[61]⟩) 0 none w1 h1
    have hrd : Rd (w.alloc (.cells #[.string (v ++ ⟨#[61]⟩), .int .i64 0, .pointer none] 128)) w.heap.size (v ++ ⟨#[61]⟩) 0 none :=
      ⟨by rw [World.cell?_alloc_new]; rfl, by rw [World.cell?_alloc_new]; rfl, by rw [World.cell?_alloc_new]; rfl, fun j => frozen_of_row _ _ j _ _ (heap_alloc_new w _), Nat.zero_le _, by omega⟩
    rw [← hl2]
    rw [List.drop_zero] at hkn
    have hch : Chg (· = w.heap.size) w (w.alloc (.cells #[.string (v ++ ⟨#[61]⟩), .int .i64 0, .pointer none] 128)) := (Chg.refl _ _).alloc _
    generalize hs2 : (v ++ ⟨#[61]⟩ : ByteArray) = s2 at hsz hl2 hx hkn hrd hch ⊢
    rw [pairb]
    generalize kindN (toL s2) = k at hkn ⊢
    have HKN := Zh hkn; have HX := Zh hx; have HSZ := Zh hsz; have HRD := Zh (Zi hrd hch); clear hkn hx hsz hl2 hrd hch
    go_enter Tryz.func68, Tryz.ntmps68
    go_wp2_with fail
    clear hs2
    obtain ⟨hrd, hch⟩ := HRD.out
    clear HRD
    generalize w.alloc (.cells #[.string s2, .int .i64 0, .pointer none] 128) = w1 at hrd hch ⊢
    generalize hg : w.heap.size = g at hrd hch HKN ⊢
    have HG := Zh hg; clear hg
    refine wp_region_C (s0 := 1) (C := fun w' => Rd w' g s2 0 none) (by kernel_rfl) (hrd.drewN 1) (fun hC => ?_)
    have hch2 := hch.drewN 1
    change Chg _ _ w1.drew at hch2
    clear hrd hch
    generalize w1.drew = w2 at hC hch2 ⊢
    have HC2 := Zh hch2; clear hch2
    refine Zu (i := 0) rfl (fun _ => hC) ?r0
    (try simp only [Act.put, Z1, Z2, Z3, Z4, Z5])
    refine Zu (i := 2) rfl (fun _ => hC) ?r2
    (try simp only [Act.put, Z1, Z2, Z3, Z4, Z5, Z6])
    refine wpC_step (i := 1) (by kernel_rfl) rfl (fun K1 hK1 => ?_)
    go_simp
    go_at_call 74
    with_reducible refine (HKN.out _ hC).mono ?_
    intro e w3 hpost
    cases hk2 : k.2 with
    | false =>
      obtain ⟨rfl, hbad⟩ := hpost.2 hk2
      have hne : ¬ (⟨#[]⟩ : ByteArray) = v := fun e => by have : (⟨#[]⟩ : ByteArray).size = v.size := by rw [e]
                                                          have h0 : (⟨#[]⟩ : ByteArray).size = 0 := rfl
                                                          omega
      obtain ⟨_, _, _, _, _, hch3⟩ := hbad
      have HF := Zh (HC2.out.trans hch3)
      have HK2 := Zh hk2
      clear hpost hk2 hch3
      generalize (⟨#[]⟩ : ByteArray) = v2 at hne ⊢
      have hneb := bytes_ne hne
      clear hne
      go_wp2_with fail
      refine hK1.out _ _ (fun h => absurd (h.symm.trans (by kernel_rfl : _ = true)) (by decide)) ?_
      clear hK1 K1 hC
      (try simp only [Act.put, Z1, Z2, Z3, Z4, Z5, Z6])
      refine wpC_lex (k := 3) (C' := fun w' => ∃ n, w' = w3.drewN n) (by kernel_rfl) (by kernel_rfl) rfl (by kernel_rfl) ⟨0, rfl⟩ ?_
      repeat (go_big_quiet_step (fail))
      refine wpQuiet_nil ?_
      intro _ hw'
      obtain ⟨nq, hw''⟩ := hw'
      subst hw''
      go_wp2_with fail
      go_ret
      exact ⟨by rw [HK2.out]; rfl, fin_ok (HG.out ▸ Zr _) (HF.out.drewN _)⟩
    | true =>
      obtain ⟨rfl, hrd3, hch3⟩ := hpost.1 hk2
      have HF := Zh (HC2.out.trans hch3)
      have HK2 := Zh hk2
      clear hpost hk2 hch3
      by_cases hkz : k.1 = v.size
      · have hx : s2.extract 0 (0 + k.1) = v := by rw [Nat.zero_add, hkz]; exact HX.out
        rw [hx]
        have e0 := hrd3.c0
        have e1 := hrd3.c1
        rw [hkz, Nat.zero_add] at e1
        have hzz : (((v.size + 1 : Nat)) : Int) = (s2.size : Int) := by have := HSZ.out; omega
        rw [hzz] at e1
        have hdk : decide (k.1 = v.size) = true := decide_eq_true hkz
        have HDK := Zh hdk
        clear hx hrd3 hdk hzz hkz
        go_wp2_with fail
        refine hK1.out _ _ (fun h => absurd (h.symm.trans (by kernel_rfl : _ = true)) (by decide)) ?_
        clear hK1 K1 hC
        (try simp only [Act.put, Z1, Z2, Z3, Z4, Z5, Z6])
        refine wpC_lex (k := 3) (C' := fun w' => ∃ n, w' = w3.drewN n) (by kernel_rfl) (by kernel_rfl) rfl (by kernel_rfl) ⟨0, rfl⟩ ?_
        repeat (go_big_quiet_step (fail))
        refine wpQuiet_nil ?_
        intro _ hw'
        obtain ⟨nq, hw''⟩ := hw'
        subst hw''
        go_wp2_with fail
        go_ret
        exact ⟨by rw [HK2.out, HDK.out]; rfl, fin_ok (HG.out ▸ Zr _) (HF.out.drewN _)⟩
      · have hle := hrd3.le
        have hne : ¬ s2.extract 0 (0 + k.1) = v := fun e => hkz (by
          have h1 : (s2.extract 0 (0 + k.1)).size = v.size := by rw [e]
          rw [ByteArray.size_extract] at h1
          omega)
        generalize s2.extract 0 (0 + k.1) = v2 at hne ⊢
        have hneb := bytes_ne hne
        clear hne
        have hdk : decide (k.1 = v.size) = false := decide_eq_false hkz
        have HDK := Zh hdk
        clear hrd3 hdk hkz
        go_wp2_with fail
        refine hK1.out _ _ (fun h => absurd (h.symm.trans (by kernel_rfl : _ = true)) (by decide)) ?_
        clear hK1 K1 hC
        (try simp only [Act.put, Z1, Z2, Z3, Z4, Z5, Z6])
        refine wpC_lex (k := 3) (C' := fun w' => ∃ n, w' = w3.drewN n) (by kernel_rfl) (by kernel_rfl) rfl (by kernel_rfl) ⟨0, rfl⟩ ?_
        repeat (go_big_quiet_step (fail))
        refine wpQuiet_nil ?_
        intro _ hw'
        obtain ⟨nq, hw''⟩ := hw'
        subst hw''
        go_wp2_with fail
        go_ret
        exact ⟨by rw [HK2.out, HDK.out]; rfl, fin_ok (HG.out ▸ Zr _) (HF.out.drewN _)⟩
end Go.Proofs.YtlmfbjhokkpjhaaGreatDoor
namespace Go.Proofs.YtlmfbjhokkpjhaaGreatDoor
open Go
structure Sh (v : ByteArray) (i : Nat) (out : Str) : Prop where
 eq : out ++ showK (i == 0) ((toL v).drop i) 0 = showV (toL v)
 le : i ≤ v.size
 len : out.length ≤ 3 * i
theorem Sh.start (v : ByteArray) : Sh v 0 [] := ⟨rfl, Nat.zero_le _, Zr _⟩
theorem Sh.stop {v : ByteArray} {i : Nat} {out : Str} (h : Sh v i out) (hi : ¬ i < v.size) : out = showV (toL v) := by
 have hz : (toL v).length = v.size := Lib.size_eq v
 have e := h.eq
 rw [List.drop_eq_nil_of_le (by omega)] at e
 simpa [showK] using e
theorem drop_get {v : ByteArray} {i : Nat} (hi : i < v.size) : (toL v).drop i = v[i] :: (toL v).drop (i + 1) := by unfold toL; exact drop_at v hi
theorem succ_fst (i : Nat) : (i + 1 == 0) = false := rfl
theorem Sh.hex {v : ByteArray} {i : Nat} {out : Str} (h : Sh v i out) (hi : i < v.size) (hc : chN ((toL v).drop i) = 0 ∨ (v[i].toNat < 32 ∨ v[i] = 127)) : Sh v (i + 1) (out ++ hexB v[i]) := by
 refine ⟨?_, hi, by have := h.len; simp [hexB]; omega⟩
 rw [succ_fst, ← h.eq, List.append_assoc]
 congr 1
 rcases hc with hc | hc
 ·rw [drop_get hi] at hc ⊢
  rw [showK, if_pos hc]
 ·have h1 : chN ((toL v).drop i) = 1 := by
   rw [drop_get hi]
   refine chN_low _ ?_
   rcases hc with h | h
   ·omega
   ·rw [h]; decide
  rw [drop_get hi] at h1 ⊢
  rw [showK, if_neg (by omega), if_pos hc, h1]
theorem Sh.esc {v : ByteArray} {i : Nat} {out : Str} (h : Sh v i out) (hi : i < v.size) (hn : ¬ (v[i].toNat < 32 ∨ v[i] = 127))
  (hc : [34, 43, 44, 59, 60, 62, 92].contains v[i] = true ∨ (v[i] = 32 ∧ (i = 0 ∨ i + 1 = v.size)) ∨ (v[i] = 35 ∧ i = 0)) : Sh v (i + 1) (out ++ [92, v[i]]) ∧ chN ((toL v).drop i) = 1 := by
 have h1 : chN ((toL v).drop i) = 1 := by
  rw [drop_get hi]
  refine chN_low _ ?_
  have key : ∀ n : Fin 256, ([34, 43, 44, 59, 60, 62, 92].contains (UInt8.ofNat n.val) = true ∨ UInt8.ofNat n.val = 32 ∨ UInt8.ofNat n.val = 35) → n.val < 128 := by decide +kernel
  have := key ⟨v[i].toNat, v[i].toNat_lt⟩
  simp only [UInt8.ofNat_toNat] at this
  exact this (by
   rcases hc with h | ⟨h, _⟩ | ⟨h, _⟩
   ·exact .inl h
   ·exact .inr (.inl h)
   ·exact .inr (.inr h))
 refine ⟨⟨?_, hi, by have := h.len; simp; omega⟩, h1⟩
 rw [succ_fst, ← h.eq, List.append_assoc]
 congr 1
 have hz : (toL v).length = v.size := Lib.size_eq v
 rw [drop_get hi] at h1 ⊢
 rw [showK, if_neg (by omega), if_neg hn, if_pos, h1]
 rcases hc with h | ⟨h, h2⟩ | ⟨h, h2⟩
 ·exact .inl h
 ·refine .inr (.inl ⟨h, ?_⟩)
  rcases h2 with h2 | h2
  ·left; rw [h2]; rfl
  ·right; exact List.drop_eq_nil_of_le (by omega)
 ·exact .inr (.inr ⟨h, by rw [h2]; rfl⟩)
theorem Sh.raw {v : ByteArray} {i n : Nat} {out : Str} (h : Sh v i out) (hi : i < v.size) (hch : chN ((toL v).drop i) = n) (hn1 : 1 ≤ n) (hn2 : i + n ≤ v.size) (hn : ¬ (v[i].toNat < 32 ∨ v[i] = 127))
  (hc : ¬ ([34, 43, 44, 59, 60, 62, 92].contains v[i] = true ∨ (v[i] = 32 ∧ (i = 0 ∨ i + 1 = v.size)) ∨ (v[i] = 35 ∧ i = 0))) : Sh v (i + n) (out ++ ((toL v).drop i).take n) := by
 have hz : (toL v).length = v.size := Lib.size_eq v
 refine ⟨?_, hn2, by have := h.len; simp; omega⟩
 have hf : (i + n == 0) = false := by simp; omega
 rw [hf, ← h.eq, List.append_assoc]
 congr 1
 have hd := drop_get hi
 have e : ((toL v).drop i).drop n = (toL v).drop (i + n) := by rw [List.drop_drop]
 rw [← e]
 rw [hd] at hch ⊢
 obtain ⟨m, rfl⟩ : ∃ m, n = m + 1 := ⟨n - 1, by omega⟩
 rw [showK, if_neg (by omega), if_neg hn, if_neg, hch]
 ·rw [List.take_succ_cons, List.drop_succ_cons]
  show _ = v[i] :: showK false _ m
  rw [List.cons_append]
  congr 1
  by_cases hm : m = 0
  ·subst hm; simp
  ·rw [showK_copy m _ false (by omega)]
 ·intro h2
  refine hc ?_
  rcases h2 with h | ⟨h, h2⟩ | ⟨h, h2⟩
  ·exact .inl h
  ·refine .inr (.inl ⟨h, ?_⟩)
   rcases h2 with h2 | h2
   ·left; simpa using h2
   ·right
    have := congrArg List.length h2
    simp at this
    omega
  ·exact .inr (.inr ⟨h, by simpa using h2⟩)
theorem chN_bad {l : Str} {n : Nat} (h : ∀ m, 1 ≤ m → m < n → Lib.validD (l.take m) = false) (hn : 4 < n ∨ l.length < n) : chN l = 0 := by
 rcases chN_spec l with ⟨h0, _⟩ | ⟨h1, h2, h3, h4, _⟩
 ·exact h0
 ·have := h _ h1 (by omega)
  rw [h4] at this; cases this
theorem chN_good {l : Str} {n : Nat} (h : ∀ m, 1 ≤ m → m < n → Lib.validD (l.take m) = false) (h1 : 1 ≤ n) (h2 : n ≤ 4) (h3 : n ≤ l.length) (hv : Lib.validD (l.take n) = true) : chN l = n := by
 rcases chN_spec l with ⟨_, h0⟩ | ⟨k1, k2, k3, k4, k5⟩
 ·have := h0 n h1 h2 h3
  rw [hv] at this; cases this
 ·rcases Nat.lt_trichotomy (chN l) n with hlt | heq | hgt
  ·have := h _ k1 hlt
   rw [k4] at this; cases this
  ·exact heq
  ·have := k5 n h1 hgt
   rw [hv] at this; cases this
end Go.Proofs.YtlmfbjhokkpjhaaGreatDoor
namespace Go.Proofs.YtlmfbjhokkpjhaaGreatDoor
open Go Go.RowKit
abbrev BldF (B b : Nat) (l : List UInt8) (w : World) : Prop := Lib.IsBuilderF 117 5 B b (Lib.byteCells l) w
set_option maxHeartbeats 1000000 in
set_option maxRecDepth 100000 in
theorem bcheck_used (b : Nat) (w : World) (h0 : w.cell? ⟨b, 0, none⟩ = some (.pointer (some ⟨b, 0, none⟩))) :
  Calls Tryz.prog 112 #[.pointer (some ⟨b, 0, none⟩)] w fun e w' => e = .returned (.tuple #[]) ∧ w' = w := by
 obtain ⟨j, hj, _⟩ := Option.map_eq_some_iff.1 (show (Tryz.prog.info? 117).map (·.size) = some 2 by kernel_rfl)
 go_enter Tryz.func112, Tryz.ntmps112
 go_wp2
 rw [Lib.run_neq_ptr_same w _ Tryz.underlying114 hj]
 go_wp2
 go_end0
 exact ⟨rfl, rfl⟩
set_option maxHeartbeats 1000000 in
set_option maxRecDepth 100000 in
theorem bcheck_fresh (b : Nat) (w : World) (h0 : w.cell? ⟨b, 0, none⟩ = some (.pointer none)) (hsh : w.shape? b = some (117, 2)) (hfz : w.frozen? ⟨b, 0, none⟩ = false) :
  Calls Tryz.prog 112 #[.pointer (some ⟨b, 0, none⟩)] w fun e w' => e = .returned (.tuple #[]) ∧ w' = w.setCell ⟨b, 0, none⟩ (.pointer (some ⟨b, 0, none⟩)) := by
 obtain ⟨j, hj, hjs⟩ := Option.map_eq_some_iff.1 (show (Tryz.prog.info? 117).map (·.size) = some 2 by kernel_rfl)
 go_enter Tryz.func112, Tryz.ntmps112
 go_wp2
 rw [Lib.run_to_unsafe w ⟨b, 0, none⟩ Tryz.underlying114 Tryz.underlying185 hj (by rw [hjs]; decide) hsh (Nat.zero_lt_succ 1)]
 simp only [Result.andThen]
 rw [Oper.upon_value]
 go_wp2
 rw [run_callFunc_extern Tryz.func156 (by kernel_rfl) (by kernel_rfl) (by kernel_rfl) (e := Extern.AbiNoEscape.same) (by kernel_rfl)]
 rw [Lib.run_noEscape]
 simp only [Result.andThen]
 rw [Oper.upon_value]
 go_wp2
 rw [Lib.run_from_unsafe w ⟨b, 0, none⟩ Tryz.underlying185 Tryz.underlying114 hj hsh (by kernel_rfl)]
 simp only [Result.andThen]
 rw [Oper.upon_value]
 go_wp2
 go_end0
 exact ⟨rfl, rfl⟩
def BldPost (B b : Nat) (bs : List Value) (w w' : World) : Prop :=
 Lib.BuilderAtF 117 5 B b (.pointer (some ⟨b, 0, none⟩)) bs w' ∧ Below B w w' ∧ Lib.OthersKept 5 (some b) w w'
theorem bcheck_any (B b : Nat) (bs : List Value) (w : World) (h : Lib.IsBuilderF 117 5 B b bs w) :
  Calls Tryz.prog 112 #[.pointer (some ⟨b, 0, none⟩)] w fun e w' => e = .returned (.tuple #[]) ∧ BldPost B b bs w w' := by
 rcases h with h | h
 ·refine (bcheck_fresh b w h.cell0 h.shape h.frozen0).mono ?_
  rintro e w' ⟨rfl, rfl⟩
  exact ⟨rfl, h.used _, (Zl B w).setCell (p := ⟨b, 0, none⟩) h.1 _, (Lib.OthersKept.refl _ _ w).setCell ⟨b, 0, none⟩ rfl _⟩
 ·refine (bcheck_used b w h.cell0).mono ?_
  rintro e w' ⟨rfl, rfl⟩
  exact ⟨rfl, h, Zl B _, Lib.OthersKept.refl _ _ _⟩
theorem byte_info : ∃ i, Tryz.prog.info? 5 = some i ∧ i.zero = some (.int .u8 0) ∧ i.size = 1 ∧ i.bytes = 1 := by
 have h : (Tryz.prog.info? 5).map (fun i => (i.zero, i.size, i.bytes)) = some (some (.int .u8 0), 1, 1) := by kernel_rfl
 cases hi : Tryz.prog.info? 5 with
 | none => rw [hi] at h; cases h
 | some i =>
  rw [hi] at h
  simp only [Option.map_some, Option.some.injEq, Prod.mk.injEq] at h
  exact ⟨i, rfl, h.1, h.2.1, h.2.2⟩
theorem bld_put {B b : Nat} {bs : List Value} {w w2 : World} {v : Value} {g n cap : Nat} (hB : B ≤ b) (hb2 : w2.heap[b]? = some (.cells #[.pointer (some ⟨b, 0, none⟩), v] 117 (0, 0))) (hn : n = bs.length)
  (hown : w2.ownsRowF B 5 1 (.slice (some ⟨g, 0, none⟩) n cap) n bs) (hb : Below B w w2) (hk : Lib.OthersKept 5 (some b) w w2) :
  BldPost B b bs w (w2.setCell ⟨b, 1, none⟩ (.slice (some ⟨g, 0, none⟩) n cap)) := by
 subst hn
 exact ⟨Lib.BuilderAtF.put hB hb2 (bs' := bs) hown (by decide), hb.setCell (p := ⟨b, 1, none⟩) hB _, hk.setCell ⟨b, 1, none⟩ rfl _⟩
set_option maxHeartbeats 2000000 in
set_option maxRecDepth 100000 in
theorem bbyte_any (B b : Nat) (bs : List Value) (c : Int) (w : World) (h : Lib.IsBuilderF 117 5 B b bs w) (hlen : bs.length + 1 ≤ 140737488355328) (hBw : B ≤ w.heap.size) :
  Calls Tryz.prog 69 #[.pointer (some ⟨b, 0, none⟩), .int .u8 c] w fun e w' => e = .returned .nilIface ∧ BldPost B b (bs ++ [.int .u8 c]) w w' := by
 obtain ⟨i0, hi, hz0, hz1, hz2⟩ := byte_info
 have hck := bcheck_any B b bs w h
 have HCK := Zh hck; clear hck h
 go_enter Tryz.func69, Tryz.ntmps69
 go_wp2_with (go_at_call 112; refine (HCK.out).mono ?_)
 rintro e w1 ⟨rfl, h1, hb1, hk1⟩
 obtain ⟨hB, v, hbk, hown, hne⟩ := h1
 obtain ⟨ao, cap0, rfl⟩ : ∃ ao cap0, v = .slice ao bs.length cap0 := by
  rcases hown.2 with ⟨hv, h0⟩ | ⟨g, cap, cur, fz, hv, _⟩
  ·exact ⟨none, 0, by rw [hv, h0]⟩
  ·exact ⟨_, _, hv⟩
 have c0 : w1.cell? ⟨b, 0, none⟩ = some (.pointer (some ⟨b, 0, none⟩)) := by rw [Lib.cell_of_heap hbk]; rfl
 have c1 : w1.cell? ⟨b, 1, none⟩ = some (.slice ao bs.length cap0) := by rw [Lib.cell_of_heap hbk]; rfl
 go_wp2_with (at_builtin; refine wpList_append_ownF _ rfl _ _ 115 rfl B 5 i0 (.int .u8 0) 1 1 Tryz.underlying115 hi hz0 hz1 hz2 rfl (by decide) _ _ _ rfl (hown.alloc _) ⟨w1.heap.size, 0, none⟩ 1 1 [.int .u8 c] rfl rfl ?c1 ?c2 ?c3 ?c4 ?c5 ?_)
 case c1 =>
  intro j u hj
  match j, hj with
  | 0, hj => simp at hj; subst hj; simp [Addr.add]
 case c2 => intro u hu; simp at hu; subst hu; rfl
 case c3 => unfold maxLen; omega
 case c4 => omega
 case c5 => have := hb1.size; simp; omega
 intro v' w2 hown' hgrow _
 have hlt : b < w1.heap.size := (Array.getElem?_eq_some_iff.1 hbk).1
 have hb2 : w2.heap[b]? = some (.cells #[.pointer (some ⟨b, 0, none⟩), .slice ao bs.length cap0] 117 (0, 0)) := by
  rw [hgrow.block b (by simp; omega) (fun e => hne e.symm), Lib.alloc_old w1 _ b hlt]
  exact hbk
 have d0 : w2.cell? ⟨b, 0, none⟩ = some (.pointer (some ⟨b, 0, none⟩)) := by rw [Lib.cell_of_heap hb2]; rfl
 have d1 : w2.cell? ⟨b, 1, none⟩ = some (.slice ao bs.length cap0) := by rw [Lib.cell_of_heap hb2]; rfl
 have f1 : w2.frozen? ⟨b, 1, none⟩ = false := Lib.frozen_of_heap hb2 1
 obtain ⟨g, cap, rfl⟩ : ∃ g cap, v' = .slice (some ⟨g, 0, none⟩) (bs.length + 1) cap := by
  rcases hown'.2 with ⟨_, h0⟩ | ⟨g, cap, cur, fz, hv, _⟩
  ·omega
  ·exact ⟨g, cap, hv⟩
 have hfin := bld_put (w := w) hB hb2 (bs := bs ++ [.int .u8 c]) (by simp) hown' ((hb1.alloc (by have := hb1.size; omega) _).grown hgrow (by have := hb1.size; simp; omega) (fun k hk => (hown.lt k hk).1)) ((hk1.alloc _).grown hgrow (Lib.ownsRowF_kind (hown.alloc _)))
 have HF := Zh hfin
 clear hfin hown' hgrow hb1 hk1 hown
 go_wp2_with fail
 go_ret
 exact ⟨rfl, HF.out⟩
set_option maxHeartbeats 2000000 in
set_option maxRecDepth 100000 in
theorem bstr_any (B b : Nat) (bs : List Value) (s : ByteArray) (w : World) (h : Lib.IsBuilderF 117 5 B b bs w) (hlen : bs.length + s.size ≤ 140737488355328) (hBw : B ≤ w.heap.size) :
  Calls Tryz.prog 70 #[.pointer (some ⟨b, 0, none⟩), .string s] w fun e w' => e = .returned (.tuple #[.int .i64 s.size, .nilIface]) ∧ BldPost B b (bs ++ Lib.strCells s) w w' := by
 obtain ⟨i0, hi, hz0, hz1, hz2⟩ := byte_info
 have hck := bcheck_any B b bs w h
 have HCK := Zh hck; clear hck h
 go_enter Tryz.func70, Tryz.ntmps70
 go_wp2_with (go_at_call 112; refine (HCK.out).mono ?_)
 rintro e w1 ⟨rfl, h1, hb1, hk1⟩
 obtain ⟨hB, v, hbk, hown, hne⟩ := h1
 obtain ⟨ao, cap0, rfl⟩ : ∃ ao cap0, v = .slice ao bs.length cap0 := by
  rcases hown.2 with ⟨hv, h0⟩ | ⟨g, cap, cur, fz, hv, _⟩
  ·exact ⟨none, 0, by rw [hv, h0]⟩
  ·exact ⟨_, _, hv⟩
 have c0 : w1.cell? ⟨b, 0, none⟩ = some (.pointer (some ⟨b, 0, none⟩)) := by rw [Lib.cell_of_heap hbk]; rfl
 have c1 : w1.cell? ⟨b, 1, none⟩ = some (.slice ao bs.length cap0) := by rw [Lib.cell_of_heap hbk]; rfl
 go_wp2_with (at_builtin; refine Lib.wpList_append_own_stringF _ rfl _ _ 115 9 rfl B 5 i0 Tryz.underlying115 Tryz.underlying9 hi hz0 hz1 hz2 _ _ _ rfl hown s rfl ?c3 ?c4 ?c5 ?_)
 case c3 => unfold maxLen; omega
 case c4 => omega
 case c5 => have := hb1.size; omega
 intro v' w2 hown' hgrow _
 have hlt : b < w1.heap.size := (Array.getElem?_eq_some_iff.1 hbk).1
 have hb2 : w2.heap[b]? = some (.cells #[.pointer (some ⟨b, 0, none⟩), .slice ao bs.length cap0] 117 (0, 0)) := by
  rw [hgrow.block b hlt (fun e => hne e.symm)]
  exact hbk
 have d0 : w2.cell? ⟨b, 0, none⟩ = some (.pointer (some ⟨b, 0, none⟩)) := by rw [Lib.cell_of_heap hb2]; rfl
 have d1 : w2.cell? ⟨b, 1, none⟩ = some (.slice ao bs.length cap0) := by rw [Lib.cell_of_heap hb2]; rfl
 have f1 : w2.frozen? ⟨b, 1, none⟩ = false := Lib.frozen_of_heap hb2 1
 have hsl : (Lib.strCells s).length = s.size := Lib.strCells_length s
 obtain ⟨ao', n', cap', rfl⟩ : ∃ ao n' cap, v' = .slice ao n' cap := by
  rcases hown'.2 with ⟨hv, _⟩ | ⟨g, cap, cur, fz, hv, _⟩
  ·exact ⟨_, _, _, hv⟩
  ·exact ⟨_, _, _, hv⟩
 have hfin : BldPost B b (bs ++ Lib.strCells s) w (w2.setCell ⟨b, 1, none⟩ (.slice ao' n' cap')) :=
  ⟨Lib.BuilderAtF.put hB hb2 (bs' := bs ++ Lib.strCells s) (by simpa [Lib.strCells_length] using hown') (by decide), (hb1.grown hgrow (by have := hb1.size; omega) (fun k hk => (hown.lt k hk).1)).setCell (p := ⟨b, 1, none⟩) hB _, (hk1.grown hgrow (Lib.ownsRowF_kind hown)).setCell ⟨b, 1, none⟩ rfl _⟩
 have HF := Zh hfin
 clear hfin hown' hgrow hb1 hk1 hown
 go_wp2_with fail
 go_ret2
 exact ⟨rfl, HF.out⟩
theorem BldF.keep {B b : Nat} {l : List UInt8} {w w' : World} (h : BldF B b l w) (k : Below w.heap.size w w') : BldF B b l w' := by
 have one : ∀ p, Lib.BuilderAtF 117 5 B b p (Lib.byteCells l) w → Lib.BuilderAtF 117 5 B b p (Lib.byteCells l) w' := by
  rintro p ⟨hB, v, hb, ⟨hl, hv⟩, hne⟩
  refine ⟨hB, v, ?_, ⟨hl, ?_⟩, hne⟩
  ·rw [k.block b (Array.getElem?_eq_some_iff.1 hb).1]; exact hb
  ·rcases hv with h | ⟨g, cap, cur, fz, e, h1, h2, h3⟩
   ·exact .inl h
   ·exact .inr ⟨g, cap, cur, fz, e, h1, by rw [k.block g (Array.getElem?_eq_some_iff.1 h2).1]; exact h2, h3⟩
 exact h.elim (fun x => .inl (one _ x)) (fun x => .inr (one _ x))
theorem BldF.lt {B b : Nat} {l : List UInt8} {w : World} (h : BldF B b l w) : b < w.heap.size := by
 rcases h with h | h <;> exact h.lt
theorem BldF.le {B b : Nat} {l : List UInt8} {w : World} (h : BldF B b l w) : B ≤ b := by
 rcases h with h | h <;> exact h.1
theorem BldF.made (w : World) : BldF w.heap.size w.heap.size [] (w.alloc (.cells #[.pointer none, .slice none 0 0] 117)) :=
 Lib.IsBuilderF.of (Lib.fresh_isBuilder 117 5 w)
abbrev BldK (b : Nat) (w w' : World) : Prop := Lib.OthersKept 5 (some b) w w'
theorem bbyteL (B b : Nat) (l : List UInt8) (c : UInt8) (w : World) (h : BldF B b l w) (hlen : l.length + 1 ≤ 140737488355328) (hBw : B ≤ w.heap.size) :
  Calls Tryz.prog 69 #[.pointer (some ⟨b, 0, none⟩), .int .u8 (c.toNat : Int)] w fun e w' => e = .returned .nilIface ∧ BldF B b (l ++ [c]) w' ∧ Below B w w' ∧ BldK b w w' := by
 refine (bbyte_any B b (Lib.byteCells l) c.toNat w h (by rw [Lib.byteCells_length]; exact hlen) hBw).mono ?_
 rintro e w' ⟨rfl, h1, h2, h3⟩
 refine ⟨rfl, .inr ?_, h2, h3⟩
 rw [Lib.byteCells_append]
 exact h1
theorem bbyteX (B b : Nat) (l : List UInt8) (c : UInt8) (x : Int) (hx : x = (c.toNat : Int)) (w : World) (h : BldF B b l w) (hlen : l.length + 1 ≤ 140737488355328) (hBw : B ≤ w.heap.size) :
  Calls Tryz.prog 69 #[.pointer (some ⟨b, 0, none⟩), .int .u8 x] w fun e w' => e = .returned .nilIface ∧ BldF B b (l ++ [c]) w' ∧ Below B w w' ∧ BldK b w w' := by
 subst hx; exact bbyteL B b l c w h hlen hBw
theorem bstrL (B b : Nat) (l : List UInt8) (s : ByteArray) (w : World) (h : BldF B b l w) (hlen : l.length + s.size ≤ 140737488355328) (hBw : B ≤ w.heap.size) :
  Calls Tryz.prog 70 #[.pointer (some ⟨b, 0, none⟩), .string s] w fun e w' => e = .returned (.tuple #[.int .i64 s.size, .nilIface]) ∧ BldF B b (l ++ s.data.toList) w' ∧ Below B w w' ∧ BldK b w w' := by
 refine (bstr_any B b (Lib.byteCells l) s w h (by rw [Lib.byteCells_length]; exact hlen) hBw).mono ?_
 rintro e w' ⟨rfl, h1, h2, h3⟩
 refine ⟨rfl, .inr ?_, h2, h3⟩
 rw [Lib.byteCells_append]
 exact h1
theorem bstringL (B b : Nat) (l : List UInt8) (w : World) (h : BldF B b l w) (hBw : B ≤ w.heap.size) :
  Calls Tryz.prog 73 #[.pointer (some ⟨b, 0, none⟩)] w fun e w' => e = .returned (.string ⟨l.toArray⟩) ∧ Below B w w' := by
 refine (Tryz.Builder_String_any_f B b l w h hBw).mono ?_
 rintro e w' ⟨rfl, h1, h2⟩
 exact ⟨rfl, h2⟩
theorem blenL (B b : Nat) (l : List UInt8) (w : World) (h : BldF B b l w) :
  Calls Tryz.prog 72 #[.pointer (some ⟨b, 0, none⟩)] w fun e w' => e = .returned (.int .i64 l.length) ∧ w' = w := by
 have := Tryz.Builder_Len_f B b (Lib.byteCells l) w h
 rw [Lib.byteCells_length] at this
 exact this
def hexS : ByteArray := ⟨#[48, 49, 50, 51, 52, 53, 54, 55, 56, 57, 97, 98, 99, 100, 101, 102]⟩
theorem hexS_at (k : Nat) (hk : k < 16) (h : k < hexS.size) : hexS[k]'h = hexC k := by
 have key : ∀ k : Fin 16, hexS[k.val]'(by have := k.isLt; exact this) = hexC k.val := by decide +kernel
 exact key ⟨k, hk⟩
set_option maxRecDepth 20000 in
set_option maxHeartbeats 1000000 in
theorem hex_any (c : UInt8) (w : World) :
  Calls Tryz.prog 114 #[.string ⟨#[c]⟩] w fun e w' => e = .returned (.string ⟨#[hexC (c.toNat / 16), hexC (c.toNat % 16)]⟩) ∧ Below w.heap.size w w' := by
 have hs1 : (⟨#[c]⟩ : ByteArray).size = 1 := rfl
 have hs2 : ∀ h, (⟨#[c]⟩ : ByteArray)[0]'h = c := fun _ => rfl
 have hn := c.toNat_lt
 generalize (⟨#[c]⟩ : ByteArray) = s1 at hs1 hs2 ⊢
 have hs3 : ∀ h, (s1[0]'h).toNat = c.toNat := fun h => by rw [hs2 h]
 have i1 : (0 : Int) < (s1.size : Int) := by omega
 have i2 : (c.toNat : Int) / 16 < 16 := by omega
 have i3 : (0 : Int) ≤ (c.toNat : Int) / 16 := by omega
 clear hs2
 have hmk := BldF.made w
 have hbm : Below w.heap.size w (w.alloc (.cells #[.pointer none, .slice none 0 0] 117)) := (Zl _ w).alloc (Zr _) _
 have HM := Zh (Zi hmk hbm); clear hmk hbm
 go_enter Tryz.func114, Tryz.ntmps114
 go_wp2_with fail
 go_loopw [7] (fun iv wr => ∃ i : Nat, iv = .int .i64 i ∧ i ≤ 1 ∧ BldF w.heap.size w.heap.size (if i = 0 then [] else [hexC (c.toNat / 16), hexC (c.toNat % 16)]) wr ∧ Below w.heap.size w wr) (fun iv _ => 1 - (intOf iv).toNat)
 case atStart => exact ⟨0, rfl, by omega, HM.out.1, HM.out.2⟩
 case round =>
  obtain ⟨i, rfl, hi, hb, hbl⟩ := hrel
  have hBw := hbl.size
  have H1 := Zh hbl; clear hbl
  rcases (by omega : i = 0 ∨ i = 1) with rfl | rfl
  ·rw [if_pos rfl] at hb
   have HB := Zh hb; clear hb
   go_wp2_with (go_at_call 69; with_reducible refine (bbyteL _ _ _ _ _ HB.out (by simp) hBw).mono ?_; rintro e w2 ⟨rfl, hf2, hb2, _⟩)
   have HF2 := Zh hf2; have HB2 := Zh hb2; clear hf2 hb2
   go_at_call 69
   with_reducible refine (bbyteL _ _ _ _ _ HF2.out (by simp) (by have := HB2.out.size; omega)).mono ?_
   rintro e w3 ⟨rfl, hf3, hb3, _⟩
   have HF3 := Zh (Zi hf3 hb3); clear hf3 hb3
   go_wp2_with fail
   refine ⟨⟨1, rfl, by omega, ?_, H1.out.trans (HB2.out.trans HF3.out.2)⟩, by simp [intOf]⟩
   have h := HF3.out.1
   rw [if_neg (by omega)]
   have e1 := hexS_at (c.toNat / 16) (by omega) (by have : hexS.size = 16 := rfl; omega)
   have e2 := hexS_at (c.toNat % 16) (by omega) (by have : hexS.size = 16 := rfl; omega)
   rw [← e1, ← e2]
   exact h
  ·rw [if_neg (by omega)] at hb
   have HB := Zh hb; clear hb
   go_wp2_with (go_at_call 73; with_reducible refine (bstringL _ _ _ _ HB.out hBw).mono ?_; rintro e w2 ⟨rfl, hb2⟩)
   go_ret
   exact ⟨rfl, H1.out.trans hb2⟩
end Go.Proofs.YtlmfbjhokkpjhaaGreatDoor
