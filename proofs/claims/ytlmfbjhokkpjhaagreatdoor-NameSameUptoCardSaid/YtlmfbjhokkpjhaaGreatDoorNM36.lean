/- Part 36 of the walks and plain laws, joined: KeyE. -/
import Derived.Test.YtlmfbjhokkpjhaaGreatDoorNM00
import Derived.Test.YtlmfbjhokkpjhaaGreatDoorNM35
import Derived.Test.YtlmfbjhokkpjhaaGreatDoorNM13
import Derived.Test.YtlmfbjhokkpjhaaGreatDoorNM15
import Derived.Test.YtlmfbjhokkpjhaaGreatDoorNM28
import Derived.Deep.DeepCutAuto
import Derived.IntWalk
set_option linter.unusedVariables false
set_option linter.unusedSimpArgs false
namespace Go.Proofs.YtlmfbjhokkpjhaaGreatDoor
open Go Go.RowKit Go.Maps Go.Sort
set_option maxRecDepth 100000 in
theorem frame_k1 {f : Nat → Value} {x0 x3 x4 x5 x8 x37 x38 x39 : Value} (h0 : f 0 = x0) (h3 : f 3 = x3) (h4 : f 4 = x4) (h5 : f 5 = x5) (h8 : f 8 = x8) (h37 : f 37 = x37) (h38 : f 38 = x38) (h39 : f 39 = x39) : frame 145 f = [x0, f 1, f 2, x3, x4, x5, f 6, f 7, x8, f 9, f 10, f 11, f 12, f 13, f 14, f 15, f 16, f 17, f 18, f 19, f 20, f 21, f 22, f 23, f 24, f 25, f 26, f 27, f 28, f 29, f 30, f 31, f 32, f 33, f 34, f 35, f 36, x37, x38, x39, f 40, f 41, f 42, f 43, f 44, f 45, f 46, f 47, f 48, f 49, f 50, f 51, f 52, f 53, f 54, f 55, f 56, f 57, f 58, f 59, f 60, f 61, f 62, f 63, f 64, f 65, f 66, f 67, f 68, f 69, f 70, f 71, f 72, f 73, f 74, f 75, f 76, f 77, f 78, f 79, f 80, f 81, f 82, f 83, f 84, f 85, f 86, f 87, f 88, f 89, f 90, f 91, f 92, f 93, f 94, f 95, f 96, f 97, f 98, f 99, f 100, f 101, f 102, f 103, f 104, f 105, f 106, f 107, f 108, f 109, f 110, f 111, f 112, f 113, f 114, f 115, f 116, f 117, f 118, f 119, f 120, f 121, f 122, f 123, f 124, f 125, f 126, f 127, f 128, f 129, f 130, f 131, f 132, f 133, f 134, f 135, f 136, f 137, f 138, f 139, f 140, f 141, f 142, f 143, f 144].toArray := by
 subst h0 h3 h4 h5 h8 h37 h38 h39
 rfl
set_option maxRecDepth 100000 in
theorem frame_k2 {f : Nat → Value} {x0 x3 x4 x5 x8 x9 x11 x12 x37 x38 x39 x46 x47 x48 : Value} (h0 : f 0 = x0) (h3 : f 3 = x3) (h4 : f 4 = x4) (h5 : f 5 = x5) (h8 : f 8 = x8) (h9 : f 9 = x9) (h11 : f 11 = x11) (h12 : f 12 = x12) (h37 : f 37 = x37) (h38 : f 38 = x38) (h39 : f 39 = x39) (h46 : f 46 = x46) (h47 : f 47 = x47) (h48 : f 48 = x48) : frame 145 f = [x0, f 1, f 2, x3, x4, x5, f 6, f 7, x8, x9, f 10, x11, x12, f 13, f 14, f 15, f 16, f 17, f 18, f 19, f 20, f 21, f 22, f 23, f 24, f 25, f 26, f 27, f 28, f 29, f 30, f 31, f 32, f 33, f 34, f 35, f 36, x37, x38, x39, f 40, f 41, f 42, f 43, f 44, f 45, x46, x47, x48, f 49, f 50, f 51, f 52, f 53, f 54, f 55, f 56, f 57, f 58, f 59, f 60, f 61, f 62, f 63, f 64, f 65, f 66, f 67, f 68, f 69, f 70, f 71, f 72, f 73, f 74, f 75, f 76, f 77, f 78, f 79, f 80, f 81, f 82, f 83, f 84, f 85, f 86, f 87, f 88, f 89, f 90, f 91, f 92, f 93, f 94, f 95, f 96, f 97, f 98, f 99, f 100, f 101, f 102, f 103, f 104, f 105, f 106, f 107, f 108, f 109, f 110, f 111, f 112, f 113, f 114, f 115, f 116, f 117, f 118, f 119, f 120, f 121, f 122, f 123, f 124, f 125, f 126, f 127, f 128, f 129, f 130, f 131, f 132, f 133, f 134, f 135, f 136, f 137, f 138, f 139, f 140, f 141, f 142, f 143, f 144].toArray := by
 subst h0 h3 h4 h5 h8 h9 h11 h12 h37 h38 h39 h46 h47 h48
 rfl
set_option maxRecDepth 100000 in
theorem frame_k3 {f : Nat → Value} {x0 x3 x4 x5 x8 x9 x37 x38 x39 x89 x90 x91 : Value} (h0 : f 0 = x0) (h3 : f 3 = x3) (h4 : f 4 = x4) (h5 : f 5 = x5) (h8 : f 8 = x8) (h9 : f 9 = x9) (h37 : f 37 = x37) (h38 : f 38 = x38) (h39 : f 39 = x39) (h89 : f 89 = x89) (h90 : f 90 = x90) (h91 : f 91 = x91) : frame 145 f = [x0, f 1, f 2, x3, x4, x5, f 6, f 7, x8, x9, f 10, f 11, f 12, f 13, f 14, f 15, f 16, f 17, f 18, f 19, f 20, f 21, f 22, f 23, f 24, f 25, f 26, f 27, f 28, f 29, f 30, f 31, f 32, f 33, f 34, f 35, f 36, x37, x38, x39, f 40, f 41, f 42, f 43, f 44, f 45, f 46, f 47, f 48, f 49, f 50, f 51, f 52, f 53, f 54, f 55, f 56, f 57, f 58, f 59, f 60, f 61, f 62, f 63, f 64, f 65, f 66, f 67, f 68, f 69, f 70, f 71, f 72, f 73, f 74, f 75, f 76, f 77, f 78, f 79, f 80, f 81, f 82, f 83, f 84, f 85, f 86, f 87, f 88, x89, x90, x91, f 92, f 93, f 94, f 95, f 96, f 97, f 98, f 99, f 100, f 101, f 102, f 103, f 104, f 105, f 106, f 107, f 108, f 109, f 110, f 111, f 112, f 113, f 114, f 115, f 116, f 117, f 118, f 119, f 120, f 121, f 122, f 123, f 124, f 125, f 126, f 127, f 128, f 129, f 130, f 131, f 132, f 133, f 134, f 135, f 136, f 137, f 138, f 139, f 140, f 141, f 142, f 143, f 144].toArray := by
 subst h0 h3 h4 h5 h8 h9 h37 h38 h39 h89 h90 h91
 rfl
structure FrK (g b3 st n : Nat) (a : Option Addr) (c i : Nat) (f : Nat → Value) : Prop where
 s0 : f 0 = .pointer (some ⟨g, 0, none⟩)
 s3 : f 3 = .pointer (some ⟨b3, 0, none⟩)
 s4 : f 4 = .string ⟨#[]⟩
 s5 : f 5 = .int .i64 0
 s8 : f 8 = .slice (some ⟨st, 0, none⟩) n n
 s37 : f 37 = .slice a n c
 s38 : f 38 = .int .i64 (n : Nat)
 s39 : f 39 = .int .i64 (i : Nat)
def RelK1 (S : PSchema) (l : PName) (w : World) (g b3 st n : Nat) (a : Option Addr) (c : Nat) (f : Nat → Value) (wr : World) : Prop :=
 ∃ i, FrK g b3 st n a c i f ∧ i ≤ n ∧ Below w.heap.size w wr ∧ SC wr st n (rowF S l n i) ∧ ∀ q, q < i → (pairsK (rdK S) S [] (l.getD q [])).1 = 0
def RelK2 (S : PSchema) (r : PRdn) (wb : World) (g b3 st n : Nat) (a : Option Addr) (c i lb mb : Nat) (ra : Option Addr) (rn rc : Nat) (f : Nat → Value) (wr : World) : Prop :=
 FrK g b3 st n a c i f ∧ f 9 = .int .i64 (i : Nat) ∧ f 11 = .pointer (some ⟨lb, 0, none⟩) ∧ f 12 = .map (some mb) ∧ f 46 = .slice ra rn rc ∧ f 47 = .int .i64 (rn : Nat) ∧
  ∃ (k cap : Nat) (go : Option Nat) (acc : List KPair), f 48 = .int .i64 (k : Nat) ∧ k ≤ rn ∧ acc.length = k ∧ InM wb wr lb mb go cap acc ∧ pairsK (rdK S) S acc (r.drop k) = pairsK (rdK S) S [] r
def RelK3 (S : PSchema) (l : PName) (m : List KPair) (ws : World) (g b3 st n : Nat) (a : Option Addr) (c i g2 al cap : Nat) (f : Nat → Value) (wr : World) : Prop :=
 FrK g b3 st n a c i f ∧ f 9 = .int .i64 (i : Nat) ∧ f 89 = .slice (some ⟨g2, 0, none⟩) al cap ∧ f 90 = .int .i64 (al : Nat) ∧
  ∃ q : Nat, f 91 = .int .i64 (q : Nat) ∧ q ≤ al ∧ Chg (· = st) ws wr ∧ SC wr st n (fun j => if j = n - 1 - i then baOf (joinP 43 ((m.map pairS).take q)) else rowF S l n i j)
theorem key_err {S : PSchema} {l : PName} {i : Nat} {r : PRdn} {e : Int} (hk : nkeyV S l = if (stepsK (rdK S) S l).1 ≠ 0 then ([], (stepsK (rdK S) S l).1) else ((stepsK (rdK S) S l).2.reverse.flatten, 0)) (hq : ∀ q, q < i → (pairsK (rdK S) S [] (l.getD q [])).1 = 0) (hr : l[i]? = some r) (he : (pairsK (rdK S) S [] r).1 = e) (h0 : e ≠ 0) : nkeyV S l = ([], e) := by
 have hg : l.getD i [] = r := by rw [List.getD_eq_getElem?_getD, hr]; rfl
 have h1 := stepsK_err l i hq (List.getElem?_eq_some_iff.1 hr).1 (by rw [hg, he]; exact h0)
 rw [hg, he] at h1
 rw [hk, h1, if_pos h0]
def KeyPost (K : Str × Int) (w : World) (e : Ending) (w' : World) : Prop := e = .returned (.tuple #[.string (baOf K.1), .int .i64 K.2]) ∧ Below w.heap.size w w'
set_option maxRecDepth 100000 in
set_option maxHeartbeats 8000000 in
theorem nkey_any0 (S : PSchema) (g B : Nat) (a : Option Addr) (n c : Nat) (l : PName) (w : World) (h : Sch w g S) (hE : EnvK w) (hl : Rdns B w a n c l) (hB : B ≤ w.heap.size) (hr : ∀ r ∈ l, ∀ x ∈ r, ReadAt S g w (toL x.2)) :
    Calls Tryz.prog 33 #[.pointer (some ⟨g, 0, none⟩), .agg #[.slice a n c]] w (KeyPost (nkeyV S l) w) := by
  have hok : OkS S := newE_ok (by rw [h.ok])
  have hn := hl.len
  have hb1 : Below w.heap.size w (w.alloc (.cells #[.slice a n c] 53)) := (Zl _ _).alloc (Zr _) _
  have hpr := print_any B a n c l (w.alloc (.cells #[.slice a n c] 53)) (hl.keep (hb1.mono hB) (Zr _)) (Nat.le_trans hB hb1.size) (hE.e.next hb1)
  have hkv : nkeyV S l = if (printV l).2 ≠ 0 then ([], (printV l).2) else if (stepsK (rdK S) S l).1 ≠ 0 then ([], (stepsK (rdK S) S l).1) else ((stepsK (rdK S) S l).2.reverse.flatten, 0) := rfl
  have hpk := print_ok (n := l) (t := (printV l).1)
  have hps := print_short (n := l)
  unfold PrintPost at hpr
  by_cases hp : (printV l).2 = 0
  · obtain ⟨_, _, l64, lr⟩ := hpk (by rw [← hp])
    have lz := hps hp
    have hpr2 := hpr.mono (R' := fun e w' => (∃ t, e = .returned (.tuple #[.string t, .int .i64 0])) ∧ Below (w.alloc (.cells #[.slice a n c] 53)).heap.size (w.alloc (.cells #[.slice a n c] 53)) w') fun e w' h => ⟨⟨baOf (printV l).1, by rw [h.1, hp]⟩, h.2⟩
    rw [if_neg (by rw [hp]; simp)] at hkv
    have HP := Zh hpr2
    have HK := Zh hkv
    have HH := Zh (Zi h (Zi hE (Zi hl (Zi hB (Zi hr (Zi hok hn))))))
    have HL := Zh (Zi lr lz)
    clear hpr hpr2 hkv hpk hps h hE hl hB hr hok lr lz hb1 hp
    have hn64 : n ≤ 64 := by have := HH.out.2.2.2.2.2.2; omega
    clear hn l64
    go_enter Tryz.func33, Tryz.ntmps33
    go_upto_region 6 with (go_at_call 30; (with_reducible refine HP.out.mono ?_); rintro e w2 ⟨⟨t, rfl⟩, hb2⟩; have k3 := Lib.cell_of_heap ((hb2.block _ (by simp)).trans (heap_alloc_new w (.cells #[.slice a n c] 53))) 0; have H2 := Zh (((Zl w.heap.size w).alloc (Zr _) (.cells #[.slice a n c] 53)).trans (hb2.mono (by simp))); clear hb2)
    obtain ⟨w3, hmk, hsc, hb3⟩ := makeStrs n (by omega) w2
    have k4 := (hb3.cell (Zb _ _ k3)).trans k3
    have H3 := Zh (Zi hsc (H2.out.trans (hb3.mono H2.out.size)))
    have hst := H2.out.size
    generalize w2.heap.size = st at hmk hsc hst H3
    clear hsc hb3
    go_wp2_with fail
    refine wp_loopG 145 (RelK1 S l w g w.heap.size st n a c) (fun f _ => n - (intOf (f 39)).toNat) ⟨rfl, rfl, ⟨0, ⟨rfl, rfl, rfl, rfl, rfl, rfl, rfl, rfl⟩, Nat.zero_le _, H3.out.2, H3.out.1.congr (fun j _ => by unfold rowF; rw [if_neg (by omega)]), fun q hq => by omega⟩⟩ ?_
    clear k3 k4 hmk H2 H3 HP
    intro f wr hrel
    obtain ⟨i, hf, hi, hbw, hsc, hq⟩ := hrel
    rw [frame_k1 hf.s0 hf.s3 hf.s4 hf.s5 hf.s8 hf.s37 hf.s38 hf.s39]
    have HF := Zh hf
    have HO := Zh (Zi hbw (Zi hsc hq))
    clear hf hbw hsc hq
    by_cases hlt : i < n
    · obtain ⟨b, o, rfl, hbB⟩ := HH.out.2.2.1.lies.ptr (by omega)
      obtain ⟨r, hr⟩ : ∃ r, l[i]? = some r := by
        have := HH.out.2.2.2.2.2.2
        exact ⟨l[i]'(by omega), List.getElem?_eq_getElem _⟩
      have hrk := HH.out.2.2.1.keep (HO.out.1.mono HH.out.2.2.2.1) (Zr _)
      obtain ⟨ra, rn, rc, hcell, hav⟩ := hrk.cell b o rfl i r hr
      have hrl := hav.len
      have hrm := List.mem_of_getElem? hr
      obtain ⟨r0, r8, _⟩ := HL.out.1 r hrm
      have hr1 := List.length_pos_iff.2 r0
      have hrz := HL.out.2 r hrm
      have HA := Zh (Zi hav (Zi hr (Zi hrm hrz)))
      have i1 : (i : Int) < (n : Int) := by omega
      have i2 : (0 : Int) ≤ (i : Int) := by omega
      have hmm := @run_makeMap Tryz.prog
      have HRL := Zh hrl
      clear hrk hr hav hrm hrz r0 hrl
      obtain ⟨rb, ro, rfl, _⟩ := HA.out.1.lies.ptr (by rw [HRL.out]; exact hr1)
      have hrn8 : rn ≤ 8 := by rw [HRL.out]; exact r8
      go_upto_region 12 with fail
      clear hmm hcell
      obtain ⟨w4, hw4⟩ : ∃ w4, w4 = (((wr.alloc (.cells #[.slice (some ⟨rb, ro, none⟩) rn rc] 65)).alloc (.cells #[.slice none 0 0] 130)).alloc (.map #[] 0)) := ⟨_, rfl⟩
      have hb4 : Below wr.heap.size wr w4 := by rw [hw4]; exact (((Zl _ _).alloc (Zr _) _).alloc (by simp) _).alloc (by simp; omega) _
      have hz4 : w4.heap.size = wr.heap.size + 1 + 1 + 1 := by rw [hw4]; simp
      have d0 : w4.heap[wr.heap.size]? = some (.cells #[.slice (some ⟨rb, ro, none⟩) rn rc] 65 (0, 0)) := by
        rw [hw4, Below.heap_alloc _ _ _ (by simp; omega), Below.heap_alloc _ _ _ (by simp)]; exact heap_alloc_new _ _
      have d1 : w4.heap[wr.heap.size + 1]? = some (.cells #[.slice none 0 0] 130 (0, 0)) := by
        rw [hw4, Below.heap_alloc _ _ _ (by simp)]; exact heap_new1 _ _ _
      have d2 : w4.heap[wr.heap.size + 1 + 1]? = some (.map #[] 0) := by
        rw [hw4]
        have h := heap_alloc_new ((wr.alloc (.cells #[.slice (some ⟨rb, ro, none⟩) rn rc] 65)).alloc (.cells #[.slice none 0 0] 130)) (.map #[] 0)
        rw [show ((wr.alloc (.cells #[.slice (some ⟨rb, ro, none⟩) rn rc] 65)).alloc (.cells #[.slice none 0 0] 130)).heap.size = wr.heap.size + 1 + 1 by simp] at h
        exact h
      have k10 := Lib.cell_of_heap d0 0
      rw [← hw4]
      obtain ⟨lb, hlb⟩ : ∃ x, x = wr.heap.size + 1 := ⟨_, rfl⟩
      obtain ⟨mb, hmb⟩ : ∃ x, x = wr.heap.size + 1 + 1 := ⟨_, rfl⟩
      rw [← hlb] at d1
      rw [← hmb] at d2
      rw [← hmb, ← hlb]
      have HI := Zh (show InM wr w4 lb mb none 0 [] from ⟨hb4, d1, Own.nil _ _ _, (fun q e => by cases e), d2, by omega, by omega, by omega⟩)
      have hlbw : wr.heap.size < lb ∧ lb < mb := by omega
      clear hw4 hb4 hz4 d0 d1 d2 hlb hmb
      go_wp2_with fail
      refine wp_loopG 145 (RelK2 S r wr g w.heap.size st n (some ⟨b, o, none⟩) c i lb mb (some ⟨rb, ro, none⟩) rn rc) (fun f _ => rn - (intOf (f 48)).toNat) ⟨rfl, rfl, ⟨⟨rfl, rfl, rfl, rfl, rfl, rfl, rfl, rfl⟩, rfl, rfl, rfl, rfl, rfl, 0, 0, none, [], rfl, Nat.zero_le _, rfl, HI.out, rfl⟩⟩ ?_
      clear k10 HI
      intro f2 wq hrel2
      obtain ⟨hf2, h9, h11, h12, h46, h47, k, cap, go, acc, h48, hk, hak, him, hpk⟩ := hrel2
      rw [frame_k2 hf2.s0 hf2.s3 hf2.s4 hf2.s5 hf2.s8 h9 h11 h12 hf2.s37 hf2.s38 hf2.s39 h46 h47 h48]
      have HF2 := Zh (Zi hf2 (Zi h9 (Zi h11 (Zi h12 (Zi h46 (Zi h47 h48))))))
      have HI := Zh (Zi him (Zi hak hpk))
      clear hf2 h9 h11 h12 h46 h47 h48 him hak hpk
      by_cases hkr : k < rn
      · have hav := HA.out.1.keep (B' := B) (HI.out.1.below.mono (Nat.le_trans HH.out.2.2.2.1 HO.out.1.size)) (Zr _)
        obtain ⟨x, hx⟩ : ∃ x, r[k]? = some x := by
          have := HRL.out
          exact ⟨r[k]'(by omega), List.getElem?_eq_getElem _⟩
        obtain ⟨c1, c2⟩ := hav.cell rb ro rfl k x hx
        have hdrop : r.drop k = x :: r.drop (k + 1) := by
          obtain ⟨hk1, hk2⟩ := List.getElem?_eq_some_iff.1 hx
          rw [List.drop_eq_getElem_cons hk1, hk2]
        have hxz := hav.size x (List.mem_of_getElem? hx)
        have HX := Zh (Zi hx (Zi hdrop hxz))
        have j1 : (k : Int) < (rn : Int) := by omega
        have j2 : (0 : Int) ≤ (k : Int) := by omega
        clear hav hx hdrop hxz
        go_upto_region 15 with fail
        have hb5 : Below wq.heap.size wq (wq.alloc (.cells #[.string x.1, .string x.2] 70)) := (Zl _ _).alloc (Zr _) _
        have hh5 := heap_alloc_new wq (.cells #[.string x.1, .string x.2] 70)
        generalize wq.alloc (.cells #[.string x.1, .string x.2] 70) = w5 at hb5 hh5 ⊢
        have him5 := HI.out.1.keep hb5
        have k50 := Lib.cell_of_heap hh5 0
        obtain ⟨xb, hxb⟩ : ∃ xb, xb = wq.heap.size := ⟨_, rfl⟩
        rw [← hxb] at hh5 k50 ⊢
        have hw5 := HO.out.1.trans (him5.below.mono HO.out.1.size)
        have hty := type_any S g x.1 w5 (HH.out.1.keep hw5) (by have := HX.out.2.2.1; omega)
        have hpk := HI.out.2.2
        rw [HX.out.2.1] at hpk
        simp only [pairsK] at hpk
        have HW5 := Zh (Zi him5 (Zi hh5 hw5))
        clear hb5 hh5 him5 hxb hw5 c1 c2
        cases hta : typeAt S (toL x.1) with
        | none =>
          rw [hta] at hty hpk
          have HERR := Zh (key_err HK.out HO.out.2.2 HA.out.2.1 (by rw [← hpk]) (by decide : (80 : Int) ≠ 0))
          have HTY := Zh hty
          clear hty hpk hta
          go_wp2_with (go_at_call 35; (with_reducible refine HTY.out.mono ?_); rintro e w6 ⟨rfl, hb6⟩; have HB6 := Zh (HW5.out.2.2.trans (hb6.mono HW5.out.2.2.size)); clear hb6; unfold placeI)
          go_ret2
          exact ⟨by rw [HERR.out]; rfl, HB6.out⟩
        | some t =>
          rw [hta] at hty hpk
          simp only at hpk
          have htl := typeAt_lt hta
          have t0 : ¬ (t : Int) < 0 := by omega
          cases hany : acc.any (fun p => p.1 == t) with
          | true =>
            rw [hany, if_pos rfl] at hpk
            have HERR := Zh (key_err HK.out HO.out.2.2 HA.out.2.1 (by rw [← hpk]) (by decide : (52 : Int) ≠ 0))
            have HTY := Zh hty
            have HANY := Zh hany
            clear hty hpk hta hany
            go_wp2_with (go_at_call 35; (with_reducible refine HTY.out.mono ?_); rintro e w6 ⟨rfl, hb6⟩; have hlk := look_met (HW5.out.1.keep hb6) t true HANY.out; have HB6 := Zh (HW5.out.2.2.trans (hb6.mono HW5.out.2.2.size)); clear hb6; unfold placeI)
            go_ret2
            exact ⟨by rw [HERR.out]; rfl, HB6.out.alloc HB6.out.size _⟩
          | false =>
            rw [hany, if_neg (by simp)] at hpk
            have HTY := Zh hty
            have HANY := Zh hany
            clear hty hta hany
            go_upto_region 21 with (go_at_call 35; (with_reducible refine HTY.out.mono ?_); rintro e w6 ⟨rfl, hb6⟩; have hlk := look_met (HW5.out.1.keep hb6) t false HANY.out; have HB6 := Zh hb6; clear hb6; unfold placeI)
            have him7 := (HW5.out.1.keep HB6.out).keep ((Zl w6.heap.size w6).alloc (Zr _) (.cells #[] 132))
            have hx7 : (w6.alloc (.cells #[] 132)).heap[xb]? = some (.cells #[.string x.1, .string x.2] 70 (0, 0)) := by
              have hxl := (Array.getElem?_eq_some_iff.1 HW5.out.2.1).1
              rw [Below.heap_alloc _ _ _ (Nat.lt_of_lt_of_le hxl HB6.out.size), HB6.out.block xb hxl]; exact HW5.out.2.1
            generalize w6.alloc (.cells #[] 132) = w7 at him7 hx7 ⊢
            obtain ⟨w8, hmu, hin8, hot⟩ := him7.met t (valK (rdK S) S (fullT S t) (toL x.2)).1 HANY.out
            have hxm : xb ≠ mb := fun e => by rw [e, him7.map] at hx7; cases hx7
            have hx8 := (hot xb hxm).trans hx7
            have k81 := Lib.cell_of_heap hx8 1
            have hw8 := HO.out.1.trans (hin8.below.mono HO.out.1.size)
            have hke := nkey_of S g t x.2 w8 (HH.out.1.keep hw8) (HH.out.2.1.next hw8) htl ((HH.out.2.2.2.2.1 r HA.out.2.2.1 x (List.mem_of_getElem? HX.out.1)).next hw8)
            generalize valK (rdK S) S (fullT S t) (toL x.2) = K at hpk hin8 hke
            obtain ⟨kv, ok⟩ := K
            unfold ret2 at hke
            have HKE := Zh hke
            have H8 := Zh (Zi hin8 hw8)
            clear him7 hx7 hx8 hot hxm hke hin8 hw8 hlk k50
            cases ok with
            | false =>
              rw [if_neg (by simp)] at hpk
              have HERR := Zh (key_err HK.out HO.out.2.2 HA.out.2.1 (by rw [← hpk]) (by decide : (81 : Int) ≠ 0))
              clear hpk
              go_wp2_with (go_at_call 77; (with_reducible refine HKE.out.mono ?_); rintro e w9 ⟨rfl, hb9⟩; have HB9 := Zh (H8.out.2.trans (hb9.mono H8.out.2.size)); clear hb9)
              go_ret2
              exact ⟨by rw [HERR.out]; rfl, HB9.out⟩
            | true =>
              rw [if_pos rfl] at hpk
              have HPK := Zh hpk
              obtain ⟨ga, hga⟩ : ∃ ga : Option Addr, ga = go.map (fun q => (⟨q, 0, none⟩ : Addr)) := ⟨_, rfl⟩
              have HGA := Zh hga
              obtain ⟨al, hal⟩ : ∃ al, al = acc.length := ⟨_, rfl⟩
              have hal8 : al ≤ 8 := by have := HI.out.2.1; omega
              have HAL := Zh hal
              clear hpk hga hal
              go_wp2_with (first
                | (go_at_call 77; (with_reducible refine HKE.out.mono ?_); rintro e w9 ⟨rfl, hb9⟩; have hin9 := H8.out.1.keep hb9; have l9 : w9.cell? ⟨lb, 0, none⟩ = some (.slice ga al cap) := (by rw [Lib.cell_of_heap hin9.lbh, HGA.out, HAL.out]; rfl); have H9 := Zh hin9; clear hb9 hin9)
                | (at_builtin; go_loud (refine own_push eiPair H9.out.own rfl (.tmp 78) (.tmp 82) rfl (by show Value.slice ga al cap = _; rw [HGA.out, HAL.out]; rfl) [.int .i64 (t : Nat), .string ⟨kv.toArray⟩] #[.int .i64 (t : Nat), .string ⟨kv.toArray⟩] rfl rfl rfl (fun y hy => by simp at hy; rcases hy with rfl | rfl <;> rfl) (by rw [← HAL.out]; omega) ?_); intro g11 cap11 w11 own11 gr11 at11; have hP := H9.out.push (p := (t, kv)) own11 gr11 at11; have p0 := Lib.cell_of_heap hP.1 0; have pf := Lib.frozen_of_heap hP.1 0; have HP := Zh hP.2; clear hP own11 gr11 at11)
                | fail)
              refine ⟨⟨rfl, rfl, ⟨⟨rfl, rfl, rfl, rfl, rfl, rfl, rfl, rfl⟩, rfl, rfl, rfl, rfl, rfl, k + 1, cap11, some g11, acc ++ [(t, kv)], (by show Value.int .i64 ((k : Int) + 1) = _; simp), by omega, (by simp [HI.out.2.1]), HP.out, HPK.out⟩⟩, ?_⟩
              show rn - (intOf (.int .i64 ((k : Int) + 1))).toNat < rn - (intOf (f2 48)).toNat
              rw [HF2.out.2.2.2.2.2.2]
              simp [intOf]
              omega
      · obtain rfl : k = rn := by omega
        have hpk := HI.out.2.2
        rw [List.drop_eq_nil_of_le (by rw [HRL.out]; exact Zr _)] at hpk
        simp only [pairsK] at hpk
        have h3 := pairsK_to (rd := rdK S) (S := S) r [] (by simp) (by rw [← hpk])
        have hnd : (acc.map (·.1)).Nodup := by rw [(Prod.mk.inj (hpk.trans h3.1)).2]; exact h3.2.1
        have hpl : ∀ p ∈ acc, p.1 < 1024 := fun p hp => pairsK_place HH.out.2.2.2.2.2.1.types (rdK S) r [] (fun p hp => by cases hp) p (by rw [← hpk]; exact hp)
        have hkw : kw acc ≤ 9000000000 := by
          have := kw_bound HH.out.2.2.2.2.2.1 r8 HA.out.2.2.2
          rw [← hpk] at this
          exact this
        obtain ⟨al, hal⟩ : ∃ al, al = acc.length := ⟨_, rfl⟩
        have hal8 : al ≤ 8 := by have := HI.out.2.1; omega
        have hal1 : 1 ≤ al := by have := HI.out.2.1; have := HRL.out; omega
        have him := HI.out.1
        obtain ⟨g2, rfl⟩ : ∃ g2, go = some g2 := by
          cases go with
          | none => have := him.own.2.1; omega
          | some g2 => exact ⟨g2, rfl⟩
        have hg2 := him.fr g2 rfl
        have hg2l := him.own.row.lt
        have ho2 := him.o2
        have ho3 := him.o3
        have ho1 := him.o1
        have lq : wq.cell? ⟨lb, 0, none⟩ = some (.slice (some ⟨g2, 0, none⟩) al cap) := by rw [Lib.cell_of_heap him.lbh, hal]; rfl
        have hso := sort_any g2 0 cap lb acc.toArray (by simpa [← hal] using hal1) (by simp [← hal]; omega) wq (holds_own him.own) hg2l (by rw [lq, hal]; simp) (by omega) (by omega) hnd
        rw [show acc.toArray.size = al by simp [hal]] at hso
        obtain ⟨m, hm⟩ : ∃ m, m = sortP acc := ⟨_, rfl⟩
        have hso2 := hso.mono (R' := fun e w' => e = .returned (.tuple #[]) ∧ Chg (· = g2) wq w' ∧ ∃ d' : Array KPair, d'.toList = m ∧ HoldsK encP 2 w' g2 0 d') fun e w' h => by
          obtain ⟨q1, q2, d', q3, q4⟩ := h
          exact ⟨q1, q2, d', by rw [q3, hm], q4⟩
        have HSO := Zh hso2
        have hml : m.length = al := by rw [hm, hal]; exact (sortP_perm acc).length_eq
        have hmp : ∀ p ∈ m, p.1 < 1000000000 := fun p hp => by rw [hm] at hp; have := hpl p ((sortP_perm acc).mem_iff.1 hp); omega
        have hmk : kw m ≤ 9000000000 := by rw [hm, kw_perm (sortP_perm acc)]; exact hkw
        have hstp : stpA S l i = baOf (joinP 43 (m.map pairS) ++ [59]) := by
          unfold stpA
          have hg : l.getD i [] = r := by rw [List.getD_eq_getElem?_getD, HA.out.2.1]; rfl
          rw [hg, ← hpk, hm]; rfl
        have HM := Zh (Zi hm (Zi hml (Zi hmp (Zi hmk (Zi hstp (Zi him hpk))))))
        have hstw : st < wr.heap.size := HO.out.2.1.lt
        clear hpk h3 hnd hpl hkw him hso hso2 hm hml hmp hmk hstp hal
        have k1 : ¬ (k : Int) < (k : Int) := by omega
        go_upto_region 29 with (go_at_call 78; (with_reducible refine HSO.out.mono ?_); rintro e ws ⟨rfl, hch, d', hd, hho⟩; have ls : ws.cell? ⟨lb, 0, none⟩ = some (.slice (some ⟨g2, 0, none⟩) al cap) := (by unfold World.cell?; rw [hch.block lb (by omega) (fun e => by have e : lb = g2 := e; omega)]; exact lq); have HS := Zh (Zi hch (Zi hd hho)); clear hch hd hho)
        have hscs : SC ws st n (fun j => if j = n - 1 - i then baOf (joinP 43 ((m.map pairS).take 0)) else rowF S l n i j) :=
          ((HO.out.2.1.keep HI.out.1.below).chg HS.out.1 (fun e => by have e : st = g2 := e; omega)).congr fun j hj => by
            by_cases e : j = n - 1 - i
            · rw [if_pos e]; unfold rowF; rw [if_neg (by omega)]; rfl
            · rw [if_neg e]
        refine wp_loopG 145 (RelK3 S l m ws g w.heap.size st n (some ⟨b, o, none⟩) c i g2 al cap) (fun f _ => al - (intOf (f 91)).toNat) ⟨rfl, rfl, ⟨⟨rfl, rfl, rfl, rfl, rfl, rfl, rfl, rfl⟩, rfl, rfl, rfl, 0, rfl, Nat.zero_le _, Chg.refl _ _, hscs⟩⟩ ?_
        clear ls lq hscs
        intro f3 wt hrel3
        obtain ⟨hf3, h9, h89, h90, q, h91, hq, hch, hsct⟩ := hrel3
        rw [frame_k3 hf3.s0 hf3.s3 hf3.s4 hf3.s5 hf3.s8 h9 hf3.s37 hf3.s38 hf3.s39 h89 h90 h91]
        have HF3 := Zh (Zi hf3 h91)
        have HT := Zh (Zi hch hsct)
        clear hf3 h9 h89 h90 h91 hch hsct
        obtain ⟨J, hJ⟩ : ∃ J, J = n - 1 - i := ⟨_, rfl⟩
        have hJn : J < n := by omega
        have r1 : (n : Int) - 1 - (i : Int) = (J : Int) := by omega
        have r2 : (J : Int) < (n : Int) := by omega
        have r3 : (0 : Int) ≤ (J : Int) := by omega
        have HJ := Zh hJ
        clear hJ
        by_cases hqa : q < al
        · obtain ⟨p, hp⟩ : ∃ p, m[q]? = some p := by
            have := HM.out.2.1
            exact ⟨m[q]'(by omega), List.getElem?_eq_getElem _⟩
          have hho := holds_keep HS.out.2.2 (HT.out.1.block g2 (by have := HS.out.1.size; omega) (fun e => by have e : g2 = st := e; omega))
          obtain ⟨c1, c2⟩ := holds_cells hho HS.out.2.1 hp
          rw [Nat.zero_add] at c1 c2
          have hpmem := List.mem_of_getElem? hp
          obtain ⟨hpl, hpa⟩ := part_len HM.out.2.2.1 HM.out.2.2.2.1 q
          obtain ⟨hl1, hl2, hl3⟩ := hpa p hpmem
          have hp1 := HM.out.2.2.1 p hpmem
          have hLq : (m.map pairS)[q]? = some (pairS p) := by rw [List.getElem?_map, hp]; rfl
          have hnx := preP_join hLq
          obtain ⟨p1, V0⟩ := p
          simp only at c1 c2 hl1 hl2 hl3 hp1
          have hpre : (preP 43 (m.map pairS) q).length ≤ 9000000001 := by unfold preP; split <;> (simp; try omega)
          have hprq : q ≠ 0 → preP 43 (m.map pairS) q = joinP 43 ((m.map pairS).take q) ++ [43] := fun h => by unfold preP; rw [if_neg h]
          have hpr0 : q = 0 → preP 43 (m.map pairS) q = [] := fun h => by unfold preP; rw [if_pos h]
          have HPP := Zh (Zi hnx (Zi hprq (Zi hpr0 (Zi hpre hpl))))
          clear hho hp hpmem hLq hnx hprq hpr0 hpl hpre
          have j1 : (q : Int) < (al : Int) := by omega
          have j2 : (0 : Int) ≤ (q : Int) := by omega
          obtain ⟨V, hV⟩ : ∃ V, V = baOf V0 := ⟨_, rfl⟩
          rw [← hV] at c2
          have hVs : V.size = V0.length := by rw [hV, sz_baOf]
          have HV := Zh (Zi hV hVs)
          have hVl : V.size ≤ 9000000000 := by omega
          clear hV hVs
          go_upto_region 31 with fail
          have hb31 : Below wt.heap.size wt (wt.alloc (.cells #[.int .i64 (p1 : Nat), .string V] 136)) := (Zl _ _).alloc (Zr _) _
          have hh31 := heap_alloc_new wt (.cells #[.int .i64 (p1 : Nat), .string V] 136)
          generalize wt.alloc (.cells #[.int .i64 (p1 : Nat), .string V] 136) = w31 at hb31 hh31 ⊢
          obtain ⟨pb, hpb⟩ : ∃ pb, pb = wt.heap.size := ⟨_, rfl⟩
          have hpbs : st < pb := by have := HT.out.2.lt; omega
          rw [← hpb] at hh31 ⊢
          have H31 := Zh (Zi hb31 (Zi hh31 hpb))
          clear hb31 hh31 hpb c1 c2
          by_cases hq0 : q = 0
          · have n1 : ¬ (0 : Int) < (q : Int) := by omega
            have HQ0 := Zh hq0
            clear hq0
            go_upto_region 33 with fail
            obtain ⟨PQ, hPQe⟩ : ∃ PQ, PQ = baOf (preP 43 (m.map pairS) q) := ⟨_, rfl⟩
            have hPQs : PQ.size ≤ 9000000001 := by rw [hPQe, sz_baOf]; exact HPP.out.2.2.2.1
            have hW : SC w31 st n (fun j => if j = J then PQ else rowF S l n i j) ∧ Chg (· = st) wt w31 ∧ w31.heap[pb]? = some (.cells #[.int .i64 (p1 : Nat), .string V] 136 (0, 0)) :=
              ⟨(HT.out.2.keep H31.out.1).congr (fun j hj => by
                by_cases e : j = J
                · rw [if_pos e, if_pos (e.trans HJ.out), hPQe, HPP.out.2.2.1 HQ0.out, HQ0.out]; rfl
                · rw [if_neg e, if_neg (fun e2 => e (e2.trans HJ.out.symm))]), Chg.of_below H31.out.1, H31.out.2.1⟩
            generalize w31 = W at hW ⊢
            have HW := Zh hW
            have HPQ := Zh hPQe
            clear hW hPQe
            have hWB : Below w.heap.size w W := (((HO.out.1.trans (HI.out.1.below.mono HO.out.1.size)).trans (HS.out.1.below (B := w.heap.size) (by have := HO.out.1.size; have := HI.out.1.below.size; omega) (fun b hb e => by have e : b = g2 := e; have := HO.out.1.size; omega)))).trans ((HT.out.1.trans HW.out.2.1).below (B := w.heap.size) (by have := HO.out.1.size; have := HI.out.1.below.size; have := HS.out.1.size; omega) (fun b hb e => by have e : b = st := e; omega))
            have hW0 := HW.out.1.cell J hJn
            rw [if_pos rfl] at hW0
            have hW1 : W.cell? ⟨pb, 0, none⟩ = some (.int .i64 (p1 : Nat)) := by rw [Lib.cell_of_heap HW.out.2.2]; rfl
            have hW2 : W.cell? ⟨pb, 1, none⟩ = some (.string V) := by rw [Lib.cell_of_heap HW.out.2.2]; rfl
            have hCP : ∀ wz, Below W.heap.size W wz → (wz.cell? ⟨st, J, none⟩ = some (.string PQ) ∧ wz.cell? ⟨pb, 0, none⟩ = some (.int .i64 (p1 : Nat)) ∧ wz.cell? ⟨pb, 1, none⟩ = some (.string V)) ∧ wz.frozen? ⟨st, J, none⟩ = false := fun wz hb =>
              ⟨⟨(hb.cell (Zb _ _ hW0)).trans hW0, (hb.cell (Zb _ _ hW1)).trans hW1, (hb.cell (Zb _ _ hW2)).trans hW2⟩, (hb.frozen (Zb _ _ hW0)).trans (HW.out.1.fr J)⟩
            have HCP := Zh hCP
            have HE := Zh (HH.out.2.1.e.next hWB)
            have HVZ := Zh (show V0.length < 1000000000000000000 by omega)
            obtain ⟨D1, hD1⟩ : ∃ D1, D1 = baOf (decS p1) := ⟨_, rfl⟩
            obtain ⟨D2, hD2⟩ : ∃ D2, D2 = baOf (decS V0.length) := ⟨_, rfl⟩
            have hd1 : D1.size ≤ 20 := by rw [hD1, sz_baOf]; exact hl1
            have hd2 : D2.size ≤ 20 := by rw [hD2, sz_baOf]; exact hl2
            have e1 : ¬ 9223372036854775807 < D1.size + 1 := by omega
            have e2 : ¬ 9223372036854775807 < D1.size + 1 + D2.size := by omega
            have e3 : ¬ 9223372036854775807 < D1.size + 1 + D2.size + 1 := by omega
            have e4 : ¬ 9223372036854775807 < D1.size + 1 + D2.size + 1 + V.size := by omega
            have e5 : ¬ 9223372036854775807 < PQ.size + (D1.size + 1 + D2.size + 1 + V.size) := by omega
            have HI1 := Zh (fun wz (hb : Below W.heap.size W wz) => by have h := itoa_any p1 (by omega) wz (HE.out.next hb); rw [← hD1] at h; exact h)
            have HI2 := Zh (fun wz (hb : Below W.heap.size W wz) => by have h := itoa_any V0.length HVZ.out wz (HE.out.next hb); rw [← hD2, ← HV.out.2] at h; exact h)
            have HD := Zh (Zi hD1 hD2)
            clear hWB hW0 hW1 hW2 hCP hD1 hD2 hd1 hd2
            have k9 : IntKind.i64.wrap (IntKind.i64.wrap ((n : Int) - 1) - (i : Int)) = (J : Int) := by rw [IntWalk.i64_in ((n : Int) - 1) (by omega), IntWalk.i64_in _ (by omega)]; exact r1
            have k8 : ((J : Int)).toNat = J := by simp
            refine wp_region_C (s0 := 23) (C := fun wz => wz.cell? ⟨st, J, none⟩ = some (.string PQ) ∧ wz.cell? ⟨pb, 0, none⟩ = some (.int .i64 (p1 : Nat)) ∧ wz.cell? ⟨pb, 1, none⟩ = some (.string V)) (by kernel_rfl) ((HCP.out _ ((Zl W.heap.size W).drew)).1) (fun hC => ?_)
            (try simp only [Act.put, Z1, Z2, Z3, Z4, Z5, Z6])
            refine Zu (i := 0) rfl (fun _ => hC) ?rz0
            (try simp only [Act.put, Z1, Z2, Z3, Z4, Z5, Z6])
            refine Zu (i := 1) rfl (fun _ => hC) ?rz1
            (try simp only [Act.put, Z1, Z2, Z3, Z4, Z5, Z6])
            refine Zu (i := 2) rfl (fun _ => hC) ?rz2
            (try simp only [Act.put, Z1, Z2, Z3, Z4, Z5, Z6])
            refine Zu (i := 3) rfl (fun _ => hC) ?rz3
            (try simp only [Act.put, Z1, Z2, Z3, Z4, Z5, Z6])
            refine Zu (i := 4) rfl (fun _ => hC) ?rz4
            (try simp only [Act.put, Z1, Z2, Z3, Z4, Z5, Z6])
            refine Zu (i := 5) rfl (fun _ => hC) ?rz5
            (try simp only [Act.put, Z1, Z2, Z3, Z4, Z5, Z6])
            refine Zu (i := 6) rfl (fun _ => hC) ?rz6
            (try simp only [Act.put, Z1, Z2, Z3, Z4, Z5, Z6])
            refine Zv (i := 7) rfl rfl hC ?rz7
            (try simp only [Act.put, Z1, Z2, Z3, Z4, Z5, Z6])
            refine Zu (i := 8) rfl (fun _ => hC) ?rz8
            (try simp only [Act.put, Z1, Z2, Z3, Z4, Z5, Z6])
            refine Zv (i := 9) rfl rfl hC ?rz9
            (try simp only [Act.put, Z1, Z2, Z3, Z4, Z5, Z6])
            refine Zu (i := 12) rfl (fun _ => hC) ?rz12
            (try simp only [Act.put, Z1, Z2, Z3, Z4, Z5, Z6])
            refine Zv (i := 13) rfl rfl hC ?rz13
            (try simp only [Act.put, Z1, Z2, Z3, Z4, Z5, Z6])
            refine Zu (i := 14) rfl (fun _ => hC) ?rz14
            (try simp only [Act.put, Z1, Z2, Z3, Z4, Z5, Z6])
            refine Zu (i := 18) rfl (fun _ => hC) ?rz18
            (try simp only [Act.put, Z1, Z2, Z3, Z4, Z5, Z6])
            refine Zv (i := 19) rfl rfl hC ?rz19
            (try simp only [Act.put, Z1, Z2, Z3, Z4, Z5, Z6])
            refine wpC_step (i := 10) (by kernel_rfl) rfl (fun K1 hK1 => ?_)
            go_simp
            go_at_call 80; ((with_reducible refine (HI1.out _ ((Zl W.heap.size W).drew)).mono ?_); rintro e w41 ⟨rfl, hb41⟩; have H41 := Zh (((Zl W.heap.size W).drew).trans hb41); clear hb41)
            go_wp2_with fail
            refine hK1.out _ _ (fun _ => (HCP.out w41 H41.out).1) ?_
            clear hK1 K1 hC
            have hC := (HCP.out w41 H41.out).1
            (try simp only [Act.put, Z1, Z2, Z3, Z4, Z5, Z6])
            refine Zu (i := 11) rfl (fun _ => hC) ?rz11
            (try simp only [Act.put, Z1, Z2, Z3, Z4, Z5, Z6])
            refine wpC_step (i := 15) (by kernel_rfl) rfl (fun K1 hK1 => ?_)
            go_simp
            go_at_call 80; ((with_reducible refine (HI2.out w41 H41.out).mono ?_); rintro e w42 ⟨rfl, hb42⟩; have H42 := Zh (H41.out.trans (hb42.mono H41.out.size)); clear hb42)
            go_wp2_with fail
            refine hK1.out _ _ (fun _ => (HCP.out w42 H42.out).1) ?_
            clear hK1 K1 hC
            have hC := (HCP.out w42 H42.out).1
            (try simp only [Act.put, Z1, Z2, Z3, Z4, Z5, Z6])
            refine Zu (i := 16) rfl (fun _ => hC) ?rz16
            (try simp only [Act.put, Z1, Z2, Z3, Z4, Z5, Z6])
            refine Zu (i := 17) rfl (fun _ => hC) ?rz17
            (try simp only [Act.put, Z1, Z2, Z3, Z4, Z5, Z6])
            refine Zu (i := 20) rfl (fun _ => hC) ?rz20
            (try simp only [Act.put, Z1, Z2, Z3, Z4, Z5, Z6])
            refine Zu (i := 21) rfl (fun _ => hC) ?rz21
            (try simp only [Act.put, Z1, Z2, Z3, Z4, Z5, Z6])
            refine Zu (i := 22) rfl (fun _ => hC) ?rz22
            (try simp only [Act.put, Z1, Z2, Z3, Z4, Z5, Z6])
            refine wpC_step (i := 23) (by kernel_rfl) rfl (fun K1 hK1 => ?_)
            have lf := (HCP.out w42 H42.out).2
            obtain ⟨l1, l2, l3⟩ := hC
            go_simp
            refine hK1.out _ _ (fun h => absurd (h.symm.trans (by kernel_rfl : _ = true)) (by decide)) ?_
            clear hK1 K1
            (try simp only [Act.put, Z1, Z2, Z3, Z4, Z5, Z6])
            refine wpC_done (by kernel_rfl) ?_ _
            go_wp2_with fail
            have hX : PQ ++ (D1 ++ (⟨#[61]⟩ : ByteArray) ++ D2 ++ (⟨#[58]⟩ : ByteArray) ++ V) = baOf (joinP 43 ((m.map pairS).take (q + 1))) := by
              rw [HPQ.out, HD.out.1, HD.out.2, HV.out.1, pair_cat, HPP.out.1]; rfl
            refine ⟨⟨rfl, rfl, ⟨⟨rfl, rfl, rfl, rfl, rfl, rfl, rfl, rfl⟩, rfl, rfl, rfl, q + 1, (by show Value.int .i64 ((q : Int) + 1) = _; simp), by omega, ((HT.out.1.trans HW.out.2.1).trans (Chg.of_below H42.out)).setCell (p := ⟨st, J, none⟩) (fun _ => rfl) _, ((HW.out.1.keep H42.out).set hJn _).congr (fun j hj => by
              by_cases e : j = J
              · rw [if_pos e, if_pos (e.trans HJ.out)]; exact hX
              · rw [if_neg e, if_neg e, if_neg (fun e2 => e (e2.trans HJ.out.symm))])⟩⟩, ?_⟩
            show al - (intOf (.int .i64 ((q : Int) + 1))).toNat < al - (intOf (f3 91)).toNat
            rw [HF3.out.2]
            simp [intOf]
            omega
          · have n1 : (0 : Int) < (q : Int) := by omega
            have hsc31 := HT.out.2.keep H31.out.1
            have cst := hsc31.cell J hJn
            have fst' := hsc31.fr J
            rw [if_pos HJ.out] at cst
            obtain ⟨P, hP⟩ : ∃ P, P = baOf (joinP 43 ((m.map pairS).take q)) := ⟨_, rfl⟩
            rw [← hP] at cst
            have hPs : P.size ≤ 9000000000 := by rw [hP, sz_baOf]; exact HPP.out.2.2.2.2
            have q1 : ¬ 9223372036854775807 < P.size + 1 := by omega
            have HPE := Zh hP
            clear hP hsc31
            go_upto_region 33 with fail
            have hW : SC (w31.setCell ⟨st, J, none⟩ (.string (P ++ ⟨#[43]⟩))) st n (fun j => if j = J then P ++ ⟨#[43]⟩ else rowF S l n i j) ∧ Chg (· = st) wt (w31.setCell ⟨st, J, none⟩ (.string (P ++ ⟨#[43]⟩))) ∧ (w31.setCell ⟨st, J, none⟩ (.string (P ++ ⟨#[43]⟩))).heap[pb]? = some (.cells #[.int .i64 (p1 : Nat), .string V] 136 (0, 0)) :=
              ⟨((HT.out.2.keep H31.out.1).set hJn (P ++ ⟨#[43]⟩)).congr (fun j hj => by by_cases e : j = J <;> simp [e, ← HJ.out]), (Chg.of_below H31.out.1 : Chg (· = st) wt w31).setCell (p := ⟨st, J, none⟩) (fun _ => rfl) _, by rw [Below.heap_setCell w31 ⟨st, J, none⟩ _ pb (by show ¬ pb = st; omega)]; exact H31.out.2.1⟩
            obtain ⟨PQ, hPQ⟩ : ∃ PQ, PQ = P ++ ⟨#[43]⟩ := ⟨_, rfl⟩
            rw [← hPQ] at hW ⊢
            generalize w31.setCell ⟨st, J, none⟩ (.string PQ) = W at hW ⊢
            have hPQs : PQ.size ≤ 9000000001 := by rw [hPQ, ByteArray.size_append]; show P.size + 1 ≤ _; omega
            have hPQe : PQ = baOf (preP 43 (m.map pairS) q) := by
              rw [hPQ, HPE.out, HPP.out.2.1 hq0]
              exact bapp2 _ [43]
            have HW := Zh hW
            have HPQ := Zh hPQe
            clear hW hPQ hPQe cst fst'
            have hWB : Below w.heap.size w W := (((HO.out.1.trans (HI.out.1.below.mono HO.out.1.size)).trans (HS.out.1.below (B := w.heap.size) (by have := HO.out.1.size; have := HI.out.1.below.size; omega) (fun b hb e => by have e : b = g2 := e; have := HO.out.1.size; omega)))).trans ((HT.out.1.trans HW.out.2.1).below (B := w.heap.size) (by have := HO.out.1.size; have := HI.out.1.below.size; have := HS.out.1.size; omega) (fun b hb e => by have e : b = st := e; omega))
            have hW0 := HW.out.1.cell J hJn
            rw [if_pos rfl] at hW0
            have hW1 : W.cell? ⟨pb, 0, none⟩ = some (.int .i64 (p1 : Nat)) := by rw [Lib.cell_of_heap HW.out.2.2]; rfl
            have hW2 : W.cell? ⟨pb, 1, none⟩ = some (.string V) := by rw [Lib.cell_of_heap HW.out.2.2]; rfl
            have hCP : ∀ wz, Below W.heap.size W wz → (wz.cell? ⟨st, J, none⟩ = some (.string PQ) ∧ wz.cell? ⟨pb, 0, none⟩ = some (.int .i64 (p1 : Nat)) ∧ wz.cell? ⟨pb, 1, none⟩ = some (.string V)) ∧ wz.frozen? ⟨st, J, none⟩ = false := fun wz hb =>
              ⟨⟨(hb.cell (Zb _ _ hW0)).trans hW0, (hb.cell (Zb _ _ hW1)).trans hW1, (hb.cell (Zb _ _ hW2)).trans hW2⟩, (hb.frozen (Zb _ _ hW0)).trans (HW.out.1.fr J)⟩
            have HCP := Zh hCP
            have HE := Zh (HH.out.2.1.e.next hWB)
            have HVZ := Zh (show V0.length < 1000000000000000000 by omega)
            obtain ⟨D1, hD1⟩ : ∃ D1, D1 = baOf (decS p1) := ⟨_, rfl⟩
            obtain ⟨D2, hD2⟩ : ∃ D2, D2 = baOf (decS V0.length) := ⟨_, rfl⟩
            have hd1 : D1.size ≤ 20 := by rw [hD1, sz_baOf]; exact hl1
            have hd2 : D2.size ≤ 20 := by rw [hD2, sz_baOf]; exact hl2
            have e1 : ¬ 9223372036854775807 < D1.size + 1 := by omega
            have e2 : ¬ 9223372036854775807 < D1.size + 1 + D2.size := by omega
            have e3 : ¬ 9223372036854775807 < D1.size + 1 + D2.size + 1 := by omega
            have e4 : ¬ 9223372036854775807 < D1.size + 1 + D2.size + 1 + V.size := by omega
            have e5 : ¬ 9223372036854775807 < PQ.size + (D1.size + 1 + D2.size + 1 + V.size) := by omega
            have HI1 := Zh (fun wz (hb : Below W.heap.size W wz) => by have h := itoa_any p1 (by omega) wz (HE.out.next hb); rw [← hD1] at h; exact h)
            have HI2 := Zh (fun wz (hb : Below W.heap.size W wz) => by have h := itoa_any V0.length HVZ.out wz (HE.out.next hb); rw [← hD2, ← HV.out.2] at h; exact h)
            have HD := Zh (Zi hD1 hD2)
            clear hWB hW0 hW1 hW2 hCP hD1 hD2 hd1 hd2
            have k9 : IntKind.i64.wrap (IntKind.i64.wrap ((n : Int) - 1) - (i : Int)) = (J : Int) := by rw [IntWalk.i64_in ((n : Int) - 1) (by omega), IntWalk.i64_in _ (by omega)]; exact r1
            have k8 : ((J : Int)).toNat = J := by simp
            refine wp_region_C (s0 := 23) (C := fun wz => wz.cell? ⟨st, J, none⟩ = some (.string PQ) ∧ wz.cell? ⟨pb, 0, none⟩ = some (.int .i64 (p1 : Nat)) ∧ wz.cell? ⟨pb, 1, none⟩ = some (.string V)) (by kernel_rfl) ((HCP.out _ ((Zl W.heap.size W).drew)).1) (fun hC => ?_)
            (try simp only [Act.put, Z1, Z2, Z3, Z4, Z5, Z6])
            refine Zu (i := 0) rfl (fun _ => hC) ?rq0
            (try simp only [Act.put, Z1, Z2, Z3, Z4, Z5, Z6])
            refine Zu (i := 1) rfl (fun _ => hC) ?rq1
            (try simp only [Act.put, Z1, Z2, Z3, Z4, Z5, Z6])
            refine Zu (i := 2) rfl (fun _ => hC) ?rq2
            (try simp only [Act.put, Z1, Z2, Z3, Z4, Z5, Z6])
            refine Zu (i := 3) rfl (fun _ => hC) ?rq3
            (try simp only [Act.put, Z1, Z2, Z3, Z4, Z5, Z6])
            refine Zu (i := 4) rfl (fun _ => hC) ?rq4
            (try simp only [Act.put, Z1, Z2, Z3, Z4, Z5, Z6])
            refine Zu (i := 5) rfl (fun _ => hC) ?rq5
            (try simp only [Act.put, Z1, Z2, Z3, Z4, Z5, Z6])
            refine Zu (i := 6) rfl (fun _ => hC) ?rq6
            (try simp only [Act.put, Z1, Z2, Z3, Z4, Z5, Z6])
            refine Zv (i := 7) rfl rfl hC ?rq7
            (try simp only [Act.put, Z1, Z2, Z3, Z4, Z5, Z6])
            refine Zu (i := 8) rfl (fun _ => hC) ?rq8
            (try simp only [Act.put, Z1, Z2, Z3, Z4, Z5, Z6])
            refine Zv (i := 9) rfl rfl hC ?rq9
            (try simp only [Act.put, Z1, Z2, Z3, Z4, Z5, Z6])
            refine Zu (i := 12) rfl (fun _ => hC) ?rq12
            (try simp only [Act.put, Z1, Z2, Z3, Z4, Z5, Z6])
            refine Zv (i := 13) rfl rfl hC ?rq13
            (try simp only [Act.put, Z1, Z2, Z3, Z4, Z5, Z6])
            refine Zu (i := 14) rfl (fun _ => hC) ?rq14
            (try simp only [Act.put, Z1, Z2, Z3, Z4, Z5, Z6])
            refine Zu (i := 18) rfl (fun _ => hC) ?rq18
            (try simp only [Act.put, Z1, Z2, Z3, Z4, Z5, Z6])
            refine Zv (i := 19) rfl rfl hC ?rq19
            (try simp only [Act.put, Z1, Z2, Z3, Z4, Z5, Z6])
            refine wpC_step (i := 10) (by kernel_rfl) rfl (fun K1 hK1 => ?_)
            go_simp
            go_at_call 80; ((with_reducible refine (HI1.out _ ((Zl W.heap.size W).drew)).mono ?_); rintro e w41 ⟨rfl, hb41⟩; have H41 := Zh (((Zl W.heap.size W).drew).trans hb41); clear hb41)
            go_wp2_with fail
            refine hK1.out _ _ (fun _ => (HCP.out w41 H41.out).1) ?_
            clear hK1 K1 hC
            have hC := (HCP.out w41 H41.out).1
            (try simp only [Act.put, Z1, Z2, Z3, Z4, Z5, Z6])
            refine Zu (i := 11) rfl (fun _ => hC) ?rq11
            (try simp only [Act.put, Z1, Z2, Z3, Z4, Z5, Z6])
            refine wpC_step (i := 15) (by kernel_rfl) rfl (fun K1 hK1 => ?_)
            go_simp
            go_at_call 80; ((with_reducible refine (HI2.out w41 H41.out).mono ?_); rintro e w42 ⟨rfl, hb42⟩; have H42 := Zh (H41.out.trans (hb42.mono H41.out.size)); clear hb42)
            go_wp2_with fail
            refine hK1.out _ _ (fun _ => (HCP.out w42 H42.out).1) ?_
            clear hK1 K1 hC
            have hC := (HCP.out w42 H42.out).1
            (try simp only [Act.put, Z1, Z2, Z3, Z4, Z5, Z6])
            refine Zu (i := 16) rfl (fun _ => hC) ?rq16
            (try simp only [Act.put, Z1, Z2, Z3, Z4, Z5, Z6])
            refine Zu (i := 17) rfl (fun _ => hC) ?rq17
            (try simp only [Act.put, Z1, Z2, Z3, Z4, Z5, Z6])
            refine Zu (i := 20) rfl (fun _ => hC) ?rq20
            (try simp only [Act.put, Z1, Z2, Z3, Z4, Z5, Z6])
            refine Zu (i := 21) rfl (fun _ => hC) ?rq21
            (try simp only [Act.put, Z1, Z2, Z3, Z4, Z5, Z6])
            refine Zu (i := 22) rfl (fun _ => hC) ?rq22
            (try simp only [Act.put, Z1, Z2, Z3, Z4, Z5, Z6])
            refine wpC_step (i := 23) (by kernel_rfl) rfl (fun K1 hK1 => ?_)
            have lf := (HCP.out w42 H42.out).2
            obtain ⟨l1, l2, l3⟩ := hC
            go_simp
            refine hK1.out _ _ (fun h => absurd (h.symm.trans (by kernel_rfl : _ = true)) (by decide)) ?_
            clear hK1 K1
            (try simp only [Act.put, Z1, Z2, Z3, Z4, Z5, Z6])
            refine wpC_done (by kernel_rfl) ?_ _
            go_wp2_with fail
            have hX : PQ ++ (D1 ++ (⟨#[61]⟩ : ByteArray) ++ D2 ++ (⟨#[58]⟩ : ByteArray) ++ V) = baOf (joinP 43 ((m.map pairS).take (q + 1))) := by
              rw [HPQ.out, HD.out.1, HD.out.2, HV.out.1, pair_cat, HPP.out.1]; rfl
            refine ⟨⟨rfl, rfl, ⟨⟨rfl, rfl, rfl, rfl, rfl, rfl, rfl, rfl⟩, rfl, rfl, rfl, q + 1, (by show Value.int .i64 ((q : Int) + 1) = _; simp), by omega, ((HT.out.1.trans HW.out.2.1).trans (Chg.of_below H42.out)).setCell (p := ⟨st, J, none⟩) (fun _ => rfl) _, ((HW.out.1.keep H42.out).set hJn _).congr (fun j hj => by
              by_cases e : j = J
              · rw [if_pos e, if_pos (e.trans HJ.out)]; exact hX
              · rw [if_neg e, if_neg e, if_neg (fun e2 => e (e2.trans HJ.out.symm))])⟩⟩, ?_⟩
            show al - (intOf (.int .i64 ((q : Int) + 1))).toNat < al - (intOf (f3 91)).toNat
            rw [HF3.out.2]
            simp [intOf]
            omega
        · obtain rfl : q = al := by omega
          have cst := HT.out.2.cell J hJn
          have fst' := HT.out.2.fr J
          rw [if_pos HJ.out, List.take_of_length_le (by rw [List.length_map, HM.out.2.1]; exact Zr _)] at cst
          have hpl := (part_len HM.out.2.2.1 HM.out.2.2.2.1 q).1
          rw [List.take_of_length_le (by rw [List.length_map, HM.out.2.1]; exact Zr _)] at hpl
          obtain ⟨P, hP⟩ : ∃ P, P = baOf (joinP 43 (m.map pairS)) := ⟨_, rfl⟩
          rw [← hP] at cst
          have hPs : P.size ≤ 9000000000 := by rw [hP, sz_baOf]; exact hpl
          have q1 : ¬ 9223372036854775807 < P.size + 1 := by omega
          have q2 : ¬ (q : Int) < (q : Int) := by omega
          have HPE := Zh hP
          clear hP hpl
          go_wp2_with fail
          have hWB : Below w.heap.size w wt := ((HO.out.1.trans (HI.out.1.below.mono HO.out.1.size)).trans (HS.out.1.below (B := w.heap.size) (by have := HO.out.1.size; have := HI.out.1.below.size; omega) (fun b hb e => by have e : b = g2 := e; have := HO.out.1.size; omega))).trans (HT.out.1.below (B := w.heap.size) (by have := HO.out.1.size; have := HI.out.1.below.size; have := HS.out.1.size; omega) (fun b hb e => by have e : b = st := e; omega))
          refine ⟨⟨rfl, rfl, ⟨i + 1, ⟨rfl, rfl, rfl, rfl, rfl, rfl, rfl, (by show Value.int .i64 ((i : Int) + 1) = _; simp)⟩, by omega, hWB.setCell (p := ⟨st, J, none⟩) hst _, (HT.out.2.set hJn (P ++ ⟨#[59]⟩)).congr (fun j hj => by
            rw [rowF_next S l hlt j hj]
            by_cases e : j = J
            · rw [if_pos e, if_pos (e.trans HJ.out), HM.out.2.2.2.2.1, HPE.out]; exact bapp2 _ [59]
            · rw [if_neg e, if_neg (fun e2 => e (e2.trans HJ.out.symm)), if_neg (fun e2 => e (e2.trans HJ.out.symm))]), fun z hz => ?_⟩⟩, ?_⟩
          · by_cases e : z = i
            · subst e
              have hg : l.getD z [] = r := by rw [List.getD_eq_getElem?_getD, HA.out.2.1]; rfl
              rw [hg, ← HM.out.2.2.2.2.2.2]
            · exact HO.out.2.2 z (by omega)
          · show n - (intOf (.int .i64 ((i : Int) + 1))).toNat < n - (intOf (f 39)).toNat
            rw [HF.out.s39]
            simp [intOf]
            omega
    · obtain rfl : i = n := by omega
      have hln := HH.out.2.2.2.2.2.2
      obtain ⟨hj1, hj2⟩ := key_rows hln fun q hq => HO.out.2.2 q (by omega)
      have hxl : ((List.range i).map (rowF S l i i)).length = i := by simp
      have hjo := Tryz.strings_Join st 0 i ((List.range i).map (rowF S l i i)) ⟨#[]⟩ wr (fun j x hx => by
          rw [List.getElem?_map] at hx
          by_cases hj : j < i
          · rw [List.getElem?_range hj] at hx
            cases hx
            rw [Nat.zero_add]
            exact HO.out.2.1.cell j hj
          · rw [List.getElem?_eq_none (by simp; omega)] at hx; cases hx) HO.out.2.1.lt (by rw [hxl]; omega) (by rw [hxl]; exact Zr _) (by
          show (Lib.join _ ([] : Str)).length ≤ _
          rw [joinE]
          have h1 := flat_le (c := 9000000001) (((List.range i).map (rowF S l i i)).map fun x => x.data.toList) (fun y hy => by
            obtain ⟨z, hz, rfl⟩ := List.mem_map.1 hy
            obtain ⟨j, _, rfl⟩ := List.mem_map.1 hz
            have h2 := rowF_len HH.out.2.2.2.2.2.1 (fun r hr => (HL.out.1 r hr).2.1) HL.out.2 i i j
            have h3 : (rowF S l i i j).data.toList.length = (rowF S l i i j).size := Lib.size_eq _
            omega)
          have h4 : (((List.range i).map (rowF S l i i)).map fun x => x.data.toList).length = i := by simp
          rw [h4] at h1
          have : i * 9000000001 ≤ 64 * 9000000001 := Nat.mul_le_mul_right _ hn64
          omega)
      rw [hxl] at hjo
      have hres : nkeyV S l = ((stepsK (rdK S) S l).2.reverse.flatten, 0) := by rw [HK.out, hj2, if_neg (by simp)]
      have hjo2 := hjo.mono (R' := fun e w' => e = .returned (.string (baOf (nkeyV S l).1)) ∧ Below wr.heap.size wr w') fun e w' h => ⟨by rw [h.1, hres]; show _ = Ending.returned (.string (baOf (stepsK (rdK S) S l).2.reverse.flatten)); rw [← hj1]; rfl, h.2⟩
      have HJO := Zh hjo2
      have HRES := Zh (show (nkeyV S l).2 = 0 by rw [hres])
      clear hln hj1 hj2 hxl hjo hjo2 hres
      have q2 : ¬ (i : Int) < (i : Int) := by omega
      go_wp2_with (go_at_call 81; (with_reducible refine HJO.out.mono ?_); rintro e w9 ⟨rfl, hb9⟩; have HB9 := Zh (HO.out.1.trans (hb9.mono HO.out.1.size)); clear hb9)
      go_ret2
      exact ⟨by rw [HRES.out]; rfl, HB9.out⟩
  · have hpr2 := hpr.mono (R' := fun e w' => e = .returned (.tuple #[.string (baOf (printV l).1), .int .i64 (printV l).2]) ∧ Below w.heap.size w w') fun e w' h => ⟨h.1, hb1.trans (h.2.mono hb1.size)⟩
    rw [if_pos hp] at hkv
    have hnz : ((printV l).2 != 0) = true := by simp [hp]
    obtain ⟨pt, pe⟩ : ∃ K, K = printV l := ⟨_, rfl⟩
    rw [← pe] at hpr2 hkv hnz
    have HP := Zh hpr2
    have HK := Zh hkv
    clear hpr hpr2 hkv hpk hps h hE hl hB hr hok hb1 hp pe hn
    obtain ⟨ps, pe⟩ := pt
    go_enter Tryz.func33, Tryz.ntmps33
    go_wp2_with (go_at_call 30; (with_reducible refine HP.out.mono ?_); rintro e w2 ⟨rfl, hb2⟩; have HB2 := Zh hb2; clear hb2)
    go_ret2
    exact ⟨by rw [HK.out]; rfl, HB2.out⟩
end Go.Proofs.YtlmfbjhokkpjhaaGreatDoor
