/- Part 21 of the walks and plain laws, joined: New. -/
import Derived.Test.YtlmfbjhokkpjhaaGreatDoorNM00
import Derived.Test.YtlmfbjhokkpjhaaGreatDoorNM15
import Derived.Test.YtlmfbjhokkpjhaaGreatDoorNM20
import Derived.Test.YtlmfbjhokkpjhaaGreatDoorNM17
import Derived.Test.YtlmfbjhokkpjhaaGreatDoorNM13
import Derived.Laws.MakeOwn
set_option linter.unusedVariables false
set_option linter.unusedSimpArgs false
namespace Go.Proofs.YtlmfbjhokkpjhaaGreatDoor
open Go Go.RowKit Go.Maps
set_option maxRecDepth 40000 in
set_option maxHeartbeats 40000000 in
theorem new_any (S : PSchema) (B : Nat) (a a2 : Option Addr) (n c n2 c2 : Nat) (w : World) (E : EnvS w) (h : Types B w a n c S.types) (h2 : Classes B w a2 n2 c2 S.classes) (hB : B ≤ w.heap.size) :
  Calls Tryz.prog 9 #[.agg #[.slice a n c, .slice a2 n2 c2]] w (NewPost S w) := by
 have hn := h.len
 have hn2 := h2.len
 have HN := Zh (Zi hn hn2)
 clear hn hn2
 by_cases hbig : 1024 < n ∨ 1024 < n2
 ·have hE : newE S = (3, 0) := newE_big (by rw [← HN.out.1, ← HN.out.2]; exact hbig)
  have HE := Zh hE; clear hE
  by_cases h1 : (1024 : Int) < n
  ·clear hbig h h2 E hB
   go_enter Tryz.func9, Tryz.ntmps9
   go_wp2_with fail
   go_ret3
   exact ⟨(Zl _ w).alloc (Zr _) _, .inr ⟨by rw [HE.out]; simp, by rw [HE.out]; rfl⟩⟩
  ·have h1b : (1024 : Int) < n2 := by omega
   clear hbig h h2 E hB
   go_enter Tryz.func9, Tryz.ntmps9
   go_wp2_with fail
   go_ret3
   exact ⟨(Zl _ w).alloc (Zr _) _, .inr ⟨by rw [HE.out]; simp, by rw [HE.out]; rfl⟩⟩
 ·have hnb : (n : Int) ≤ 1024 := by omega
  have hnb2 : (n2 : Int) ≤ 1024 := by omega
  have hnot : ¬ (1024 < S.types.length ∨ 1024 < S.classes.length) := by rw [← HN.out.1, ← HN.out.2]; exact hbig
  have HNOT := Zh hnot; clear hnot hbig
  have HBX := Zh ((Zl w.heap.size w).alloc (Zr _) (.cells #[.slice a n c, .slice a2 n2 c2] 25))
  have htw := twin_any S B a a2 n c n2 c2 (w.alloc (.cells #[.slice a n c, .slice a2 n2 c2] 25)) (h.keep (HBX.out.mono hB) (Zr _)) (h2.keep (HBX.out.mono hB) (Zr _)) (Nat.le_trans hB HBX.out.size) (by omega) (by omega)
  have HTW := Zh htw; have HI := Zh (Zi h (Zi h2 hB)); have HEN := Zh E
  clear htw h h2 hB E
  have hmk := @run_makeMap Tryz.prog
  go_enter Tryz.func9, Tryz.ntmps9
  go_upto_region 4 with (first | (go_at_call 43; refine (HTW.out).mono ?_; rintro e w2 ⟨a', c', a2', c2', rfl, ht', hc', hb2⟩; have H2 := Zh (Zi ht' (Zi hc' hb2)); clear ht' hc' hb2) | fail)
  clear hmk
  have h0 := New0.made S HI.out.2.2 HI.out.1 HI.out.2.1 H2.out.2.2 H2.out.1 H2.out.2.1
  unfold laidN at h0
  generalize (((w2.alloc (.map #[] 0)).alloc (.map #[] 0)).alloc (.cells #[.slice a' n c', .slice a2' n2 c2', .map (some w2.heap.size), .map (some (w2.heap.size + 1)), .slice none 0 0, .slice none 0 0, .slice none 0 0] 84)).alloc (.cells #[.pointer (some ⟨w2.heap.size + 1 + 1, 0, none⟩)] 86) = w3 at h0 ⊢
  generalize w2.heap.size = mt at h0 ⊢
  generalize hb0 : w.heap.size = b0 at h0 ⊢
  clear hb0 HTW H2 HBX HI
  have H0 := Zh h0; clear h0
  have e0 := H0.out.s0
  go_wp2_with fail
  clear e0
  go_loopw [41] (fun iv wr => ∃ i : Nat, iv = .int .i64 i ∧ i ≤ n ∧ New0 S w wr B b0 (mt + 1 + 1 + 1) (mt + 1 + 1) mt (mt + 1) a a2 a' a2' n c n2 c2 c' c2' (i * 4294967281) 0 (placeOf ((tK S).take i)) (placeOf ((cK S).take 0))) (fun iv _ => n - (intOf iv).toNat)
  case atStart => exact ⟨0, rfl, Nat.zero_le _, by rw [Nat.zero_mul]; exact H0.out⟩
  case round =>
   clear H0
   obtain ⟨i, rfl, hi, hx⟩ := hrel
   have HX := Zh hx; clear hx
   by_cases hlt : i < n
   ·obtain ⟨tb, tx, rfl, _⟩ := HX.out.ty.lies.ptr (by omega)
    have hli : i < S.types.length := by have := HN.out; omega
    have hT := HX.out.ty.cell tb tx rfl i _ (List.getElem?_eq_getElem hli)
    have hok := HX.out.ty.ok _ (List.getElem_mem hli)
    have hkk := take_keysT S hli
    generalize S.types[i] = x at hT hok hkk
    obtain ⟨na, nn, nc, f1, hte⟩ := hT.c1
    have f2 := hT.c2
    have f0 := hT.c0
    have f3 := hT.c3
    have f4 := hT.c4
    have f5 := hT.c5
    have f6 := hT.c6
    have f7 := hT.c7
    have f8 := hT.c8
    have hti : (0 : Int) ≤ (i : Int) := by omega
    have HTE := Zh (Zi hte (Zi hok.oid hkk)); clear hte hok hkk hT
    go_upto_region 7 with fail
    clear f0 f1 f2 f3 f4 f5 f6 f7 f8
    have ha4 : Below wr.heap.size wr (wr.alloc (.cells #[.string x.oid, .slice na nn nc, .string x.sup, .int .i8 x.syn, .int .i8 x.eq, .int .i8 x.ord, .int .i8 x.part, .bool x.single, .int .u8 x.index] 46)) := (Zl _ wr).alloc (Zr _) _
    have hblk := TyBlk.made wr x (.slice na nn nc) 46
    unfold tyAgg at hblk
    generalize wr.alloc (.cells #[.string x.oid, .slice na nn nc, .string x.sup, .int .i8 x.syn, .int .i8 x.eq, .int .i8 x.ord, .int .i8 x.part, .bool x.single, .int .u8 x.index] 46) = w4 at ha4 hblk ⊢
    generalize hXe : wr.heap.size = X at hblk ⊢
    have H4 := Zh (Zi ha4 (Zi hblk hXe)); clear ha4 hblk hXe
    have hq := HX.out.keep H4.out.1
    have e0 := hq.m
    have e1 := hq.g2
    have e2 := H4.out.2.1.c0
    have e3 := H4.out.2.1.c1
    have hsm := HTE.out.1.small
    have hfst : ∀ wq, Below wr.heap.size wr wq → Calls Tryz.prog 44 #[.map (some mt), .int .i64 (i : Int), .string x.oid, .slice na nn nc] wq fun e w' => e = .returned (.tuple #[]) ∧ MapIs w' mt ((i + 1) * 4294967281) (placeOf ((tK S).take (i + 1))) ∧ Chg (· = mt) wq w' := fun wq hb => by
     have hq := HX.out.keep hb
     refine (first_any B (i * 4294967281) mt i (placeOf ((tK S).take i)) x.oid na nn nc x.names wq (HTE.out.1.keep (hb.mono (by have := HX.out.b0e; omega)) (Zr _)) HTE.out.2.1 hq.mapT (by have := hq.b0e; omega) (by unfold maxLen; omega) (by unfold maxLen; omega)).mono fun e w' ⟨h1, h2, h3⟩ => ⟨h1, ?_, h3⟩
     rw [HTE.out.2.2]
     exact h2.mono (by omega)
    have HF := Zh hfst; clear hfst hq hsm
    go_region_held3 (fun w5 => w5.cell? ⟨mt + 1 + 1 + 1, 0, none⟩ = some (.pointer (some ⟨mt + 1 + 1, 0, none⟩)) ∧ w5.cell? ⟨mt + 1 + 1, 2, none⟩ = some (.map (some mt)) ∧ w5.cell? ⟨X, 0, none⟩ = some (.string x.oid) ∧ w5.cell? ⟨X, 1, none⟩ = some (.slice na nn nc))
     (first | exact ⟨e0, e1, e2, e3⟩ | exact ⟨i0, i1, i2, i3⟩ | fail)
     (first
      | (go_at_call 44; refine (HF.out _ (H4.out.1.drew)).mono ?_; rintro e w5 ⟨rfl, hm5, hc5⟩; have hq4 := HX.out.keep H4.out.1.drew; have hlt5 := hq4.b0e; have hXl : mt < X := (by have h6 := HX.out.b0e; have h7 := H4.out.2.2; omega); have i0 := cell_chg hc5 hq4.m (by show ¬ mt + 1 + 1 + 1 = mt; omega); have i1 := cell_chg hc5 hq4.g2 (by show ¬ mt + 1 + 1 = mt; omega); have i2 := cell_chg hc5 (v := .string x.oid) e2 (by show ¬ X = mt; omega); have i3 := cell_chg hc5 (v := .slice na nn nc) e3 (by show ¬ X = mt; omega); have H5 := Zh (hq4.putT hc5 hm5); clear hm5 hc5 hq4 hlt5 hXl)
      | fail)
    clear i0 i1 i2 i3
    go_wp2_with fail
    exact ⟨⟨i + 1, by simp, by omega, H5.out⟩, by simp [intOf]; omega⟩
   ·obtain rfl : i = n := by omega
    have e1 := HX.out.s1
    go_wp2_with fail
    clear e1
    have htn : (tK S).take i = tK S := List.take_of_length_le (by have := HN.out.1; simp [tK]; omega)
    have h1 := HX.out
    rw [htn] at h1
    have H1 := Zh h1; clear h1 htn HX
    go_loopw [61] (fun iv wr => ∃ j : Nat, iv = .int .i64 j ∧ j ≤ n2 ∧ New0 S w wr B b0 (mt + 1 + 1 + 1) (mt + 1 + 1) mt (mt + 1) a a2 a' a2' i c n2 c2 c' c2' (i * 4294967281) (j * 4294967281) (placeOf (tK S)) (placeOf ((cK S).take j))) (fun iv _ => n2 - (intOf iv).toNat)
    case atStart => exact ⟨0, rfl, Nat.zero_le _, by rw [Nat.zero_mul]; exact H1.out⟩
    case round =>
     clear H1
     obtain ⟨j, rfl, hj, hx⟩ := hrel
     have HX := Zh hx; clear hx
     by_cases hlt : j < n2
     ·obtain ⟨tb, tx, rfl, _⟩ := HX.out.cl.lies.ptr (by omega)
      have hli : j < S.classes.length := by have := HN.out; omega
      have hT := HX.out.cl.cell tb tx rfl j _ (List.getElem?_eq_getElem hli)
      have hok := HX.out.cl.ok _ (List.getElem_mem hli)
      have hkk := take_keysC S hli
      generalize S.classes[j] = x at hT hok hkk
      obtain ⟨na, nn, nc, f1, hte⟩ := hT.c1
      obtain ⟨sa, sn, sc, f2, _⟩ := hT.c2
      obtain ⟨ma, mn, mc, f4, _⟩ := hT.c4
      obtain ⟨ya, yn, yc, f5, _⟩ := hT.c5
      have f0 := hT.c0
      have f3 := hT.c3
      have hti : (0 : Int) ≤ (j : Int) := by omega
      have HTE := Zh (Zi hte (Zi hok.oid hkk)); clear hte hok hkk hT
      go_upto_region 12 with fail
      clear f0 f1 f2 f3 f4 f5
      have ha4 : Below wr.heap.size wr (wr.alloc (.cells #[.string x.oid, .slice na nn nc, .slice sa sn sc, .int .i8 x.kind, .slice ma mn mc, .slice ya yn yc] 89)) := (Zl _ wr).alloc (Zr _) _
      have hcc : ∀ k v, (#[.string x.oid, .slice na nn nc, .slice sa sn sc, .int .i8 x.kind, .slice ma mn mc, .slice ya yn yc] : Array Value)[k]? = some v → (wr.alloc (.cells #[.string x.oid, .slice na nn nc, .slice sa sn sc, .int .i8 x.kind, .slice ma mn mc, .slice ya yn yc] 89)).cell? ⟨wr.heap.size, k, none⟩ = some v := fun k v h => by rw [World.cell?_alloc_new]; exact h
      have e2 := hcc 0 _ rfl
      have e3 := hcc 1 _ rfl
      clear hcc
      generalize wr.alloc (.cells #[.string x.oid, .slice na nn nc, .slice sa sn sc, .int .i8 x.kind, .slice ma mn mc, .slice ya yn yc] 89) = w4 at ha4 e2 e3 ⊢
      generalize hXe : wr.heap.size = X at e2 e3 ⊢
      have H4 := Zh (Zi ha4 hXe); clear ha4 hXe
      have hq := HX.out.keep H4.out.1
      have e0 := hq.m
      have e1 := hq.g3
      have hsm := HTE.out.1.small
      have hfst : ∀ wq, Below wr.heap.size wr wq → Calls Tryz.prog 44 #[.map (some (mt + 1)), .int .i64 (j : Int), .string x.oid, .slice na nn nc] wq fun e w' => e = .returned (.tuple #[]) ∧ MapIs w' (mt + 1) ((j + 1) * 4294967281) (placeOf ((cK S).take (j + 1))) ∧ Chg (· = mt + 1) wq w' := fun wq hb => by
       have hq := HX.out.keep hb
       refine (first_any B (j * 4294967281) (mt + 1) j (placeOf ((cK S).take j)) x.oid na nn nc x.names wq (HTE.out.1.keep (hb.mono (by have := HX.out.b0e; omega)) (Zr _)) HTE.out.2.1 hq.mapC (by have := hq.b0e; omega) (by unfold maxLen; omega) (by unfold maxLen; omega)).mono fun e w' ⟨h1, h2, h3⟩ => ⟨h1, ?_, h3⟩
       rw [HTE.out.2.2]
       exact h2.mono (by omega)
      have HF := Zh hfst; clear hfst hq hsm
      go_region_held3 (fun w5 => w5.cell? ⟨mt + 1 + 1 + 1, 0, none⟩ = some (.pointer (some ⟨mt + 1 + 1, 0, none⟩)) ∧ w5.cell? ⟨mt + 1 + 1, 3, none⟩ = some (.map (some (mt + 1))) ∧ w5.cell? ⟨X, 0, none⟩ = some (.string x.oid) ∧ w5.cell? ⟨X, 1, none⟩ = some (.slice na nn nc))
       (first | exact ⟨e0, e1, e2, e3⟩ | exact ⟨i0, i1, i2, i3⟩ | fail)
       (first
        | (go_at_call 44; refine (HF.out _ (H4.out.1.drew)).mono ?_; rintro e w5 ⟨rfl, hm5, hc5⟩; have hq4 := HX.out.keep H4.out.1.drew; have hlt5 := hq4.b0e; have hXl : mt + 1 < X := (by have h6 := HX.out.b0e; have h7 := H4.out.2; omega); have i0 := cell_chg hc5 hq4.m (by show ¬ mt + 1 + 1 + 1 = mt + 1; omega); have i1 := cell_chg hc5 hq4.g3 (by show ¬ mt + 1 + 1 = mt + 1; omega); have i2 := cell_chg hc5 (v := .string x.oid) e2 (by show ¬ X = mt + 1; omega); have i3 := cell_chg hc5 (v := .slice na nn nc) e3 (by show ¬ X = mt + 1; omega); have H5 := Zh (hq4.putC hc5 hm5); clear hm5 hc5 hq4 hlt5 hXl)
        | fail)
      clear i0 i1 i2 i3
      go_wp2_with fail
      exact ⟨⟨j + 1, by simp, by omega, H5.out⟩, by simp [intOf]; omega⟩
     ·obtain rfl : j = n2 := by omega
      have e0 := HX.out.s0
      go_wp2_with fail
      clear e0
      have hcn : (cK S).take j = cK S := List.take_of_length_le (by have := HN.out.2; simp [cK]; omega)
      have h1 := HX.out
      rw [hcn] at h1
      have hes := HEN.out.next h1.hb
      have H1 := Zh h1; have HES := Zh hes; clear h1 hes hcn HX
      obtain ⟨wo, rfl⟩ : ∃ wo : World, wo = wr := ⟨_, rfl⟩
      have hi10 : i ≤ 1024 := by omega
      go_loopw [81] (fun iv wr => ∃ k : Nat, iv = .int .i64 k ∧ k ≤ i ∧ firstE (typeE S) 0 i = firstE (typeE S) k (i - k) ∧ Below wo.heap.size wo wr) (fun iv _ => i - (intOf iv).toNat)
      case atStart => exact ⟨0, rfl, Nat.zero_le _, rfl, Zl _ _⟩
      case round =>
       obtain ⟨k, rfl, hk, hfe, hbk⟩ := hrel
       have HFE := Zh hfe; have HBK := Zh hbk; clear hfe hbk
       by_cases hlt3 : k < i
       ·have hty := typed_any S (mt + 1 + 1) k wr (H1.out.keep HBK.out).base (HES.out.next HBK.out) (by have := HN.out; omega) (by have := HN.out; omega)
        obtain ⟨te, hte⟩ : ∃ te, typeE S k = te := ⟨_, rfl⟩
        rw [hte] at hty
        have hik : i - k = (i - (k + 1)) + 1 := by omega
        have hfe := HFE.out
        rw [hik] at hfe
        have e0 := (H1.out.keep HBK.out).m
        have HTY := Zh hty; clear hty hik
        by_cases h0 : te = 0
        ·subst h0
         rw [firstE_at _ _ _ hte] at hfe
         have HF2 := Zh hfe; clear hfe hte HFE
         go_wp2_with (first | (go_at_call 45; refine (HTY.out).mono ?_; rintro e w5 ⟨rfl, hb5⟩; have HB5 := Zh (bnext HBK.out hb5); clear hb5) | fail)
         exact ⟨⟨k + 1, by simp, by omega, HF2.out, HB5.out⟩, by simp [intOf]; omega⟩
        ·rw [firstE_hit _ _ _ (by rw [hte]; exact h0), hte] at hfe
         have hnew : newE S = (te, k) := newE_type HNOT.out (by rw [← HN.out.1]; exact hfe)
         have hn0 : (te != 0) = true := by simpa using h0
         have HNW := Zh hnew; have HT0 := Zh h0; clear hnew hfe hte h0 HFE
         go_wp2_with (first | (go_at_call 45; refine (HTY.out).mono ?_; rintro e w5 ⟨rfl, hb5⟩; have HB5 := Zh (bnext HBK.out hb5); clear hb5) | fail)
         go_ret3
         exact ⟨(H1.out.keep HB5.out).hb, .inr ⟨by rw [HNW.out]; exact HT0.out, by rw [HNW.out]; rfl⟩⟩
       ·obtain rfl : k = i := by omega
        have hft : firstE (typeE S) 0 S.types.length = none := by rw [← HN.out.1, HFE.out, Nat.sub_self]; rfl
        have h2 := H1.out.keep HBK.out
        have hes := HES.out.next HBK.out
        have H2 := Zh h2; have HE2 := Zh hes; have HFT := Zh hft; clear hes h2 hft H1 HES HFE HBK
        have e1 := H2.out.s1
        go_wp2_with fail
        clear e1
        have h40 := New4.zero H2.out
        have H40 := Zh h40; clear h40 HE2
        go_loopw [95] (fun iv wr => ∃ (q hi : Nat) (go : Option Nat) (cap : Nat) (vs : List Value), iv = .int .i64 q ∧ q ≤ j ∧ firstE (classE S) 0 j = firstE (classE S) q (j - q) ∧ New4 S w wr b0 (mt + 1 + 1 + 1) (mt + 1 + 1) a a2 k c j c2 hi q go cap vs) (fun iv _ => j - (intOf iv).toNat)
        case atStart => exact ⟨0, _, none, 0, [], rfl, Nat.zero_le _, rfl, H40.out⟩
        case round =>
         obtain ⟨q, hi4, go, cap, vs, rfl, hq, hfe, h4⟩ := hrel
         have HFE := Zh hfe; have H4 := Zh h4; clear hfe h4
         by_cases hlt4 : q < j
         ·have hcl := classed_any S (mt + 1 + 1) q wr H4.out.five.base (HEN.out.next H4.out.five.hb) (by have := HN.out; omega) (by have := HN.out; omega) go q cap vs H4.out.ups.g6 H4.out.ups.own (fun b e => by have := (H4.out.ups.lie b e).1; omega) (by omega) (H4.out.five.fr 6)
          unfold ClassedPost at hcl
          obtain ⟨ce, hce⟩ : ∃ ce, classE S q = ce := ⟨_, rfl⟩
          rw [hce] at hcl
          have hik : j - q = (j - (q + 1)) + 1 := by omega
          have hfe := HFE.out
          rw [hik] at hfe
          have e0 := H4.out.five.m
          have HTY := Zh hcl; clear hcl hik
          by_cases h0 : ce = 0
          ·subst h0
           rw [firstE_at _ _ _ hce] at hfe
           have HF2 := Zh hfe; clear hfe hce HFE
           go_wp2_with (first | (go_at_call 46; refine (HTY.out).mono ?_; rintro e w5 ⟨rfl, -, hnew⟩; have HB5 := Zh (H4.out.next (hnew rfl)); clear hnew) | fail)
           obtain ⟨go', cap', vs', h5⟩ := HB5.out
           exact ⟨⟨q + 1, _, go', cap', vs', by simp, by omega, HF2.out, h5⟩, by simp [intOf]; omega⟩
          ·rw [firstE_hit _ _ _ (by rw [hce]; exact h0), hce] at hfe
           have hnew : newE S = (ce, S.types.length + q) := newE_class HNOT.out HFT.out (by rw [← HN.out.2]; exact hfe)
           have hn0 : (ce != 0) = true := by simpa using h0
           have HNW := Zh hnew; have HT0 := Zh h0; clear hnew hfe hce h0 HFE
           go_upto_region 25 with (first | (go_at_call 46; refine (HTY.out).mono ?_; rintro e w5 ⟨rfl, hbelow, -⟩; have HB5 := Zh (hbelow HT0.out); clear hbelow) | fail)
           clear e0
           have e1 := (H4.out.keep HB5.out).five.s0
           have hkb : q ≤ 1024 := by have := HN.out; have := HNOT.out; omega
           go_upto_region 26 with fail
           clear hn0
           go_quiet (fail)
           go_wp2_with fail
           go_ret3
           exact ⟨⟨(H4.out.keep HB5.out).five.hb.os, (H4.out.keep HB5.out).five.hb.tape, (H4.out.keep HB5.out).five.hb.output, (H4.out.keep HB5.out).five.hb.size, (H4.out.keep HB5.out).five.hb.block⟩, .inr ⟨by rw [HNW.out]; exact HT0.out, by rw [HNW.out, ← HN.out.1]; rfl⟩⟩
         obtain rfl : j = q := by omega
         obtain ⟨wq, rfl⟩ : ∃ wq : World, wq = wr := ⟨_, rfl⟩
         have hfc : firstE (classE S) 0 S.classes.length = none := by rw [← HN.out.2, HFE.out, Nat.sub_self]; rfl
         have hno : newE S = (objE S, 0) := newE_obj HNOT.out HFT.out hfc
         have HNO := Zh (Zi hno hfc); clear hno hfc HFT HFE
         go_upto_region 28 with fail
         clear hlt4
         obtain ⟨cs, hcs, hmk⟩ := makeBel k hi10
         have HCS := Zh hcs; clear hcs
         have e0 := H4.out.five.m
         have e1 := H4.out.five.s0
         have e2 := H4.out.g5
         have hfr := H4.out.five.fr 5
         have hkp : ∀ w5, Below wq.heap.size wq w5 → w5.cell? ⟨mt + 1 + 1 + 1, 0, none⟩ = some (.pointer (some ⟨mt + 1 + 1, 0, none⟩)) ∧ w5.cell? ⟨b0, 0, none⟩ = some (.slice a k c) := fun w5 hb => ⟨(hb.cell (Zb wq _ e0)).trans e0, (hb.cell (Zb wq _ e1)).trans e1⟩
         have HKP := Zh hkp; clear hkp
         refine wp_region_C (s0 := 8) (C := fun w5 => w5.cell? ⟨mt + 1 + 1 + 1, 0, none⟩ = some (.pointer (some ⟨mt + 1 + 1, 0, none⟩)) ∧ w5.cell? ⟨b0, 0, none⟩ = some (.slice a k c)) (by kernel_rfl) (⟨e0, e1⟩) (fun hC => ?_)
         (try simp only [Act.put, Z1, Z2, Z3, Z4, Z5, Z6])
         refine Zu (i := 0) rfl (fun _ => hC) ?rp0
         (try simp only [Act.put, Z1, Z2, Z3, Z4, Z5])
         refine Zv (i := 1) rfl rfl hC ?rp1
         (try simp only [Act.put, Z1, Z2, Z3, Z4, Z5, Z6])
         refine Zu (i := 2) rfl (fun _ => hC) ?rp2
         (try simp only [Act.put, Z1, Z2, Z3, Z4, Z5, Z6])
         refine Zv (i := 3) rfl rfl hC ?rp3
         (try simp only [Act.put, Z1, Z2, Z3, Z4, Z5, Z6])
         refine Zu (i := 4) rfl (fun _ => hC) ?rp4
         (try simp only [Act.put, Z1, Z2, Z3, Z4, Z5, Z6])
         refine wpC_step (i := 5) (by kernel_rfl) rfl (fun K1 hK1 => ?_)
         go_simp
         have hb5 : Below wq.heap.size wq ((wq.alloc (.cells cs 91)).drew) := ((Zl _ wq).alloc (Zr _) _).drew
         have l5 := (hb5.cell (Zb wq _ e2)).trans e2
         have lf := (hb5.frozen (Zb wq _ e2)).trans hfr
         have hC2 := HKP.out _ hb5
         generalize hwx : (wq.alloc (.cells cs 91)).drew = wx at l5 lf hC2 ⊢
         have HWX := Zh hwx; clear hwx hb5
         refine hK1.out _ _ (fun _ => hC2) ?_
         clear hK1 K1 hC
         have hC := hC2
         (try simp only [Act.put, Z1, Z2, Z3, Z4, Z5, Z6])
         refine Zu (i := 6) rfl (fun _ => hC) ?rp6
         (try simp only [Act.put, Z1, Z2, Z3, Z4, Z5, Z6])
         refine Zu (i := 7) rfl (fun _ => hC) ?rp7
         (try simp only [Act.put, Z1, Z2, Z3, Z4, Z5, Z6])
         refine wpC_step (i := 8) (by kernel_rfl) rfl (fun K1 hK1 => ?_)
         go_simp
         refine hK1.out _ _ (fun h => absurd (h.symm.trans (by kernel_rfl : _ = true)) (by decide)) ?_
         clear hK1 K1
         (try simp only [Act.put, Z1, Z2, Z3, Z4, Z5, Z6])
         refine wpC_done (by kernel_rfl) ?_ _
         go_wp2_with fail
         have hw7 : wq.drew.alloc (.cells cs 91) = wx := HWX.out ▸ rfl
         have h45 := H4.out.keep ((Zl _ wq).drew)
         have h6 := New6.start h45 HN.out.2 HCS.out
         rw [hw7] at h6
         change New6 S w (wx.setCell ⟨mt + 1 + 1, 5, none⟩ (.slice (some ⟨wq.heap.size, 0, none⟩) k k)) b0 (mt + 1 + 1 + 1) (mt + 1 + 1) a a2 k c j c2 wq.heap.size 0 none 0 (fun _ => .slice none 0 0) (belowI S 0) (fun _ => (none, 0)) at h6
         have H6 := Zh h6
         clear h6 h45 hw7 HWX hC hC2 l5 lf e0 e1 e2 hfr HKP hmk HCS H4 H40 H2
         generalize wx.setCell ⟨mt + 1 + 1, 5, none⟩ (.slice (some ⟨wq.heap.size, 0, none⟩) k k) = wy at H6 ⊢
         generalize wq.heap.size = bb at H6 ⊢
         go_loopw [121] (fun iv wr => ∃ (q : Nat) (go : Option Nat) (cap : Nat) (nv : Nat → Value) (f : Nat → Option Nat × Nat), iv = .int .i64 q ∧ q ≤ k ∧ New6 S w wr b0 (mt + 1 + 1 + 1) (mt + 1 + 1) a a2 k c j c2 bb q go cap nv (belowI S q) f) (fun iv _ => k - (intOf iv).toNat)
         case atStart => exact ⟨0, none, 0, _, _, rfl, Nat.zero_le _, H6.out⟩
         case round =>
          clear H6
          obtain ⟨q, go, cap, nv, f, rfl, hq, hx⟩ := hrel
          have HX := Zh hx; clear hx
          by_cases hlt4 : q < k
          ·have hqt : q < S.types.length := by have := HN.out; omega
           have hch := chain_any S (mt + 1 + 1) q wr HX.out.five.base hqt (by have := HN.out; omega)
           unfold ChainPost at hch
           have hcf := chainOf_facts S hqt
           have hful : inheritT S q (chainOf S q).1 = fullT S q := rfl
           have hbf := belowK_full S q
           have hbs := belowK_succ S q
           obtain ⟨l, b, hlb⟩ : ∃ l b, chainOf S q = (l, b) := ⟨_, _, rfl⟩
           rw [hlb] at hch hcf hful hbf hbs
           obtain ⟨n1, hn1⟩ : ∃ n1, l.length = n1 := ⟨_, rfl⟩
           simp only [hn1] at hch
           have hn1b : 1 ≤ n1 ∧ n1 ≤ 1024 := by
            obtain ⟨h1, h2, l', h3⟩ := hcf
            have := nodup_le _ _ h1 h2
            have h4 := HN.out
            simp only at h3 this
            rw [h3] at hn1 this
            simp at hn1 this
            omega
           obtain ⟨hn1a, hn1c⟩ := hn1b
           have HCH := Zh hch; have HLB := Zh (Zi hn1 (Zi hcf (Zi hful (Zi hbf hbs)))); have HQT := Zh hqt
           clear hch hlb hn1 hcf hful hbf hbs hqt
           have e0 := HX.out.five.m
           go_upto_region 33 with (first | (go_at_call 47; refine (HCH.out).mono ?_; rintro e w5 ⟨gl, cl, rfl, hv5⟩; have HV5 := Zh hv5; clear hv5) | fail)
           clear e0 HCH
           have hx5 := HX.out.keep HV5.out.below
           have e0 := hx5.five.m
           have e1 := hx5.g4
           have hfr := hx5.five.fr 4
           have H5 := Zh hx5; clear hx5
           have hinh : ∀ wz, Below w5.heap.size w5 wz → Calls Tryz.prog 48 #[.agg #[.pointer (some ⟨mt + 1 + 1, 0, none⟩)], .int .i64 (q : Int), .slice (some ⟨gl, 0, none⟩) n1 cl] wz (InhPost S (mt + 1 + 1) (fullT S q) wz) := fun wz hb => by
            have h1 := inherit_any S (mt + 1 + 1) q gl n1 cl l wz (H5.out.keep hb).five.base HQT.out HLB.out.1.symm hn1a hn1c HV5.out.own.le HLB.out.2.1.2.1 (fun i hi => by
             have hil : i < l.length := by rw [HLB.out.1]; exact hi
             rw [hb.cell (p := ⟨gl, i, none⟩) HV5.out.own.row.lt, HV5.out.cell (intV_get hil)]; simp [List.getD, hil]) (Nat.lt_of_lt_of_le HV5.out.own.row.lt hb.size)
            rw [show inheritT S q l = fullT S q from HLB.out.2.2.1] at h1
            exact h1
           unfold InhPost tyAgg at hinh
           have hkp : ∀ wz, Below w5.heap.size w5 wz → wz.cell? ⟨mt + 1 + 1 + 1, 0, none⟩ = some (.pointer (some ⟨mt + 1 + 1, 0, none⟩)) ∧ wz.cell? ⟨mt + 1 + 1, 4, none⟩ = some (sv go q cap) := fun wz hb => ⟨(hb.cell (Zb w5 _ e0)).trans e0, (hb.cell (Zb w5 _ e1)).trans e1⟩
           obtain ⟨ft, hft⟩ : ∃ ft, fullT S q = ft := ⟨_, rfl⟩
           rw [hft] at hinh
           have HINH := Zh hinh; have HKP := Zh hkp; have HFT := Zh hft; clear hinh hkp hft
           refine wp_region_C (s0 := 15) (C := fun wz => wz.cell? ⟨mt + 1 + 1 + 1, 0, none⟩ = some (.pointer (some ⟨mt + 1 + 1, 0, none⟩)) ∧ wz.cell? ⟨mt + 1 + 1, 4, none⟩ = some (sv go q cap)) (by kernel_rfl) (HKP.out _ ((Zl _ w5).drew)) (fun hC => ?_)
           (try simp only [Act.put, Z1, Z2, Z3, Z4, Z5, Z6])
           refine Zu (i := 0) rfl (fun _ => hC) ?rq0
           (try simp only [Act.put, Z1, Z2, Z3, Z4, Z5])
           refine Zv (i := 1) rfl rfl hC ?rq1
           (try simp only [Act.put, Z1, Z2, Z3, Z4, Z5, Z6])
           refine Zu (i := 2) rfl (fun _ => hC) ?rq2
           (try simp only [Act.put, Z1, Z2, Z3, Z4, Z5, Z6])
           refine Zv (i := 3) rfl rfl hC ?rq3
           (try simp only [Act.put, Z1, Z2, Z3, Z4, Z5, Z6])
           refine Zu (i := 4) rfl (fun _ => hC) ?rq4
           (try simp only [Act.put, Z1, Z2, Z3, Z4, Z5, Z6])
           refine Zu (i := 5) rfl (fun _ => hC) ?rq5
           (try simp only [Act.put, Z1, Z2, Z3, Z4, Z5, Z6])
           refine Zv (i := 6) rfl rfl hC ?rq6
           (try simp only [Act.put, Z1, Z2, Z3, Z4, Z5, Z6])
           refine Zv (i := 7) rfl rfl hC ?rq7
           (try simp only [Act.put, Z1, Z2, Z3, Z4, Z5, Z6])
           refine Zu (i := 8) rfl (fun _ => hC) ?rq8
           (try simp only [Act.put, Z1, Z2, Z3, Z4, Z5, Z6])
           refine Zu (i := 9) rfl (fun _ => hC) ?rq9
           (try simp only [Act.put, Z1, Z2, Z3, Z4, Z5, Z6])
           refine wpC_step (i := 10) (by kernel_rfl) rfl (fun K1 hK1 => ?_)
           go_simp
           go_at_call 48; refine (HINH.out _ ((Zl _ w5).drew)).mono ?_; rintro e w6 ⟨fa, fn, fc, rfl, hft, hb6⟩; have hb7 := bnext ((Zl _ w5).drew) hb6; have HW6 := Zh (Zi hb7 (Zi hft hb6)); clear hb6 hft
           go_wp2_with fail
           refine hK1.out _ _ (fun _ => HKP.out w6 HW6.out.1) ?_
           clear hK1 K1 hC
           have hC := HKP.out w6 HW6.out.1
           (try simp only [Act.put, Z1, Z2, Z3, Z4, Z5, Z6])
           refine wpC_step (i := 11) (by kernel_rfl) rfl (fun K1 hK1 => ?_)
           go_simp
           have hb8 := HW6.out.1.alloc HW6.out.1.size (.cells #[.string ft.oid, .slice fa fn fc, .string ft.sup, .int .i8 ft.syn, .int .i8 ft.eq, .int .i8 ft.ord, .int .i8 ft.part, .bool ft.single, .int .u8 ft.index] 46)
           have hnw := news_new w6 _ #[.string ft.oid, .slice fa fn fc, .string ft.sup, .int .i8 ft.syn, .int .i8 ft.eq, .int .i8 ft.ord, .int .i8 ft.part, .bool ft.single, .int .u8 ft.index] 46 rfl
           have hsz7 : (w6.alloc (.cells #[.string ft.oid, .slice fa fn fc, .string ft.sup, .int .i8 ft.syn, .int .i8 ft.eq, .int .i8 ft.ord, .int .i8 ft.part, .bool ft.single, .int .u8 ft.index] 46)).heap.size = w6.heap.size + 1 := by simp
           have ht7 := HW6.out.2.1.keep (B' := mt + 1 + 1) ((HW6.out.2.2.alloc HW6.out.2.2.size (.cells #[.string ft.oid, .slice fa fn fc, .string ft.sup, .int .i8 ft.syn, .int .i8 ft.eq, .int .i8 ft.ord, .int .i8 ft.part, .bool ft.single, .int .u8 ft.index] 46)).mono (Nat.le_of_lt H5.out.five.base.lt)) (Zr _)
           generalize w6.alloc (.cells #[.string ft.oid, .slice fa fn fc, .string ft.sup, .int .i8 ft.syn, .int .i8 ft.eq, .int .i8 ft.ord, .int .i8 ft.part, .bool ft.single, .int .u8 ft.index] 46) = w7 at hb8 hnw hsz7 ht7 ⊢
           have HW7 := Zh (Zi hb8 (Zi hnw (Zi hsz7 ht7))); clear hb8 hnw hsz7 ht7
           refine hK1.out _ _ (fun _ => HKP.out w7 HW7.out.1) ?_
           clear hK1 K1 hC
           have hC := HKP.out w7 HW7.out.1
           (try simp only [Act.put, Z1, Z2, Z3, Z4, Z5, Z6])
           refine wpC_step (i := 12) (by kernel_rfl) rfl (fun K1 hK1 => ?_)
           refine step_appE eiTyp ?h1 (.tmp 136) (.tmp 141) ?h2 go q cap (fullCells S nv q) ?h3 (H5.out.keep HW7.out.1).own (some ⟨w6.heap.size, 0, none⟩) 1 1 _ ?h4 (fun h => by cases h) rfl HW7.out.2.1 (tyAgg_one ft rfl) (q + 1) rfl (by omega) (by omega) ?_
           case h1 => rfl
           case h2 => rfl
           case h3 => rfl
           case h4 => rfl
           intro g8 cap8 w8 o8 gr8 at8
           have HW8 := Zh (Zi o8 (Zi gr8 at8)); clear o8 gr8 at8
           have hx7 := H5.out.keep HW7.out.1
           have hgn : ∀ b, go = some b → mt + 1 + 1 + 1 < b := fun b e => (hx7.lo.2 b e).1
           have l0 := cell_chg (chg_grown HW8.out.2.1) hx7.five.m (fun e => by have := hgn _ e; simp only at this; omega)
           have l4 := cell_chg (chg_grown HW8.out.2.1) hx7.g4 (fun e => by have := hgn _ e; simp only at this; omega)
           have lf : w8.frozen? ⟨mt + 1 + 1, 4, none⟩ = false := by rw [World.frozen?_of_block (a := ⟨mt + 1 + 1, 4, none⟩) (HW8.out.2.1.block (mt + 1 + 1) hx7.five.base.lt (fun e => by have := hgn _ e.symm; omega))]; exact hx7.five.fr 4
           clear hx7 hgn
           refine hK1.out _ _ (fun _ => Zi l0 l4) ?_
           clear hK1 K1 hC
           have hC := Zi l0 l4
           (try simp only [Act.put, Z1, Z2, Z3, Z4, Z5, Z6])
           refine Zu (i := 13) rfl (fun _ => hC) ?rq13
           (try simp only [Act.put, Z1, Z2, Z3, Z4, Z5, Z6])
           refine Zu (i := 14) rfl (fun _ => hC) ?rq14
           (try simp only [Act.put, Z1, Z2, Z3, Z4, Z5, Z6])
           refine wpC_step (i := 15) (by kernel_rfl) rfl (fun K1 hK1 => ?_)
           go_simp
           refine hK1.out _ _ (fun h => absurd (h.symm.trans (by kernel_rfl : _ = true)) (by decide)) ?_
           clear hK1 K1
           (try simp only [Act.put, Z1, Z2, Z3, Z4, Z5, Z6])
           refine wpC_done (by kernel_rfl) ?_ _
           have ho7 : Own w7 3 1 (some gl) n1 cl (l.map intV) := HV5.out.own.keep fun b hb => HW7.out.1.block b (by cases hb; exact HV5.out.own.row.lt)
           have hglw : wr.heap.size ≤ gl := HV5.out.fresh gl rfl
           have hbr : bb < wr.heap.size := HX.out.bel.lt
           have hgog : ∀ b, go = some b → b ≠ gl := fun b e => by have := HX.out.own; rw [e] at this; have := this.row.lt; omega
           have ho8 : Own w8 3 1 (some gl) n1 cl (l.map intV) := ho7.keep fun b hb => HW8.out.2.1.block b (by cases hb; exact ho7.row.lt) (fun e => by cases hb; exact hgog _ e.symm rfl)
           have hggl : mt + 1 + 1 < wr.heap.size := HX.out.five.base.lt
           have ho9 : Own (w8.setCell ⟨mt + 1 + 1, 4, none⟩ (.slice (some ⟨g8, 0, none⟩) (q + 1) cap8)) 3 1 (some gl) n1 cl (l.map intV) := ho8.keep fun b hb => Below.heap_setCell w8 ⟨mt + 1 + 1, 4, none⟩ _ b (by cases hb; show gl ≠ mt + 1 + 1; omega)
           have hfgl : ∀ p, p < k → (f p).1 ≠ some gl := fun p hp e => by have := HX.out.bel.ptr hp e; omega
           have h8 := H5.out.pushFull HW7.out.1 (na := fa) (nn := fn) (nc := fc) (g' := g8) (cap' := cap8) (by rw [HFT.out]; exact HW8.out.1) HW8.out.2.1 HW8.out.2.2 (by rw [HFT.out]; exact HW7.out.2.2.2)
           have H8 := Zh (Zi h8 (Zi ho9 (Zi hfgl (show gl ≠ bb by omega))))
           clear ho7 hglw hbr hgog ho8 hggl ho9 hfgl h8 hC l0 l4 lf e0 e1 hfr
           go_wp2_with fail
           generalize w8.setCell ⟨mt + 1 + 1, 4, none⟩ (.slice (some ⟨g8, 0, none⟩) (q + 1) cap8) = w9 at H8 ⊢
           clear HW8 HW7 HW6 HKP HINH H5 HV5 HX
           generalize hnv : (fun t => if t = q then (.slice fa fn fc : Value) else nv t) = nv2 at H8
           clear hnv
           go_loopw [147] (fun iv wr => ∃ (r : Nat) (f : Nat → Option Nat × Nat), iv = .int .i64 r ∧ r ≤ n1 ∧ New6 S w wr b0 (mt + 1 + 1 + 1) (mt + 1 + 1) a a2 k c j c2 bb (q + 1) (some g8) cap8 nv2 (belowK S q r) f ∧ Own wr 3 1 (some gl) n1 cl (l.map intV) ∧ (∀ p, p < k → (f p).1 ≠ some gl) ∧ gl ≠ bb) (fun iv _ => n1 - (intOf iv).toNat)
           case atStart => exact ⟨0, f, rfl, Nat.zero_le _, by rw [belowK_zero]; exact H8.out.1, H8.out.2⟩
           case round =>
            clear H8 f
            obtain ⟨r, f, rfl, hr, hx⟩ := hrel
            have HX := Zh hx; clear hx
            by_cases hlt5 : r < n1
            ·have hrl : r < l.length := by rw [HLB.out.1]; exact hlt5
             have hc0 := HX.out.2.1.row.cell (intV_get hrl)
             have hpk : l[r] < k := by have := HLB.out.2.1.2.1 _ (List.getElem_mem hrl); have := HN.out.1; omega
             have hbs := HLB.out.2.2.2.2 r HLB.out.2.1.1 hrl
             try simp only at hbs
             generalize l[r] = p at hc0 hpk hbs
             have hpi : (0 : Int) ≤ (p : Int) := by omega
             have hpki : (p : Int) < (k : Int) := by omega
             go_upto_region 37 with fail
             clear hc0
             have hfl := belowK_len S q r p
             obtain ⟨fg, hfg⟩ : ∃ fg, (f p).1 = fg := ⟨_, rfl⟩
             obtain ⟨fc2, hfc⟩ : ∃ fc2, (f p).2 = fc2 := ⟨_, rfl⟩
             obtain ⟨fl, hfl2⟩ : ∃ fl, (belowK S q r p).length = fl := ⟨_, rfl⟩
             have hfl3 : fl ≤ 1025 := by omega
             have hc1 := HX.out.1.bel.cell p hpk
             rw [hfg, hfc, hfl2] at hc1
             have hbo : (∀ wz, Below wr.heap.size wr wz → Own wz 3 1 fg fl fc2 ((belowK S q r p).map intV)) ∧ fl = (belowK S q r p).length ∧ ∀ b, fg = some b → bb < b := ⟨fun wz hb => by
              have h1 := (HX.out.1.bel.keep hb).own p hpk
              rw [hfg, hfc, hfl2] at h1; exact h1, hfl2.symm, fun b e => HX.out.1.bel.up p hpk b (hfg.trans e)⟩
             have HBO := Zh hbo
             have e0 := HX.out.1.five.m
             have e1 := HX.out.1.g5
             have hkp : ∀ wz, Below wr.heap.size wr wz → wz.cell? ⟨mt + 1 + 1 + 1, 0, none⟩ = some (.pointer (some ⟨mt + 1 + 1, 0, none⟩)) ∧ wz.cell? ⟨mt + 1 + 1, 5, none⟩ = some (.slice (some ⟨bb, 0, none⟩) k k) ∧ wz.cell? ⟨bb, p, none⟩ = some (sv fg fl fc2) := fun wz hb => ⟨(hb.cell (Zb wr _ e0)).trans e0, (hb.cell (Zb wr _ e1)).trans e1, (hb.cell (Zb wr _ hc1)).trans hc1⟩
             have HKP := Zh hkp; have HFE := Zh (Zi hfg hfc); have HBS := Zh hbs
             clear hkp hbo e0 e1 hc1 hfl hfl2 hfg hfc hbs
             refine wp_region_C (s0 := 18) (C := fun wz => wz.cell? ⟨mt + 1 + 1 + 1, 0, none⟩ = some (.pointer (some ⟨mt + 1 + 1, 0, none⟩)) ∧ wz.cell? ⟨mt + 1 + 1, 5, none⟩ = some (.slice (some ⟨bb, 0, none⟩) k k) ∧ wz.cell? ⟨bb, p, none⟩ = some (sv fg fl fc2)) (by kernel_rfl) (HKP.out _ ((Zl _ wr).drew)) (fun hC => ?_)
             (try simp only [Act.put, Z1, Z2, Z3, Z4, Z5, Z6])
             refine Zu (i := 0) rfl (fun _ => hC) ?rs0
             (try simp only [Act.put, Z1, Z2, Z3, Z4, Z5])
             refine Zv (i := 1) rfl rfl hC ?rs1
             (try simp only [Act.put, Z1, Z2, Z3, Z4, Z5, Z6])
             refine Zu (i := 2) rfl (fun _ => hC) ?rs2
             (try simp only [Act.put, Z1, Z2, Z3, Z4, Z5, Z6])
             refine Zu (i := 3) rfl (fun _ => hC) ?rs3
             (try simp only [Act.put, Z1, Z2, Z3, Z4, Z5, Z6])
             refine Zv (i := 4) rfl rfl hC ?rs4
             (try simp only [Act.put, Z1, Z2, Z3, Z4, Z5, Z6])
             refine Zu (i := 5) rfl (fun _ => hC) ?rs5
             (try simp only [Act.put, Z1, Z2, Z3, Z4, Z5, Z6])
             refine Zu (i := 6) rfl (fun _ => hC) ?rs6
             (try simp only [Act.put, Z1, Z2, Z3, Z4, Z5, Z6])
             refine Zv (i := 7) rfl rfl hC ?rs7
             (try simp only [Act.put, Z1, Z2, Z3, Z4, Z5, Z6])
             refine Zu (i := 8) rfl (fun _ => hC) ?rs8
             (try simp only [Act.put, Z1, Z2, Z3, Z4, Z5, Z6])
             refine Zu (i := 9) rfl (fun _ => hC) ?rs9
             (try simp only [Act.put, Z1, Z2, Z3, Z4, Z5, Z6])
             refine Zv (i := 10) rfl rfl hC ?rs10
             (try simp only [Act.put, Z1, Z2, Z3, Z4, Z5, Z6])
             refine Zu (i := 11) rfl (fun _ => hC) ?rs11
             (try simp only [Act.put, Z1, Z2, Z3, Z4, Z5, Z6])
             refine Zu (i := 12) rfl (fun _ => hC) ?rs12
             (try simp only [Act.put, Z1, Z2, Z3, Z4, Z5, Z6])
             refine Zv (i := 13) rfl rfl hC ?rs13
             (try simp only [Act.put, Z1, Z2, Z3, Z4, Z5, Z6])
             refine Zu (i := 14) rfl (fun _ => hC) ?rs14
             (try simp only [Act.put, Z1, Z2, Z3, Z4, Z5, Z6])
             refine wpC_step (i := 15) (by kernel_rfl) rfl (fun K1 hK1 => ?_)
             go_simp
             have hb8 := ((Zl wr.heap.size wr).alloc (Zr _) (.cells #[.int .i64 (q : Int)] 3)).drew
             have hnw : ∀ ad, some (⟨wr.heap.size, 0, none⟩ : Addr) = some ad → ∀ j u, ([.int .i64 (q : Int)] : List Value)[j]? = some u → ((wr.alloc (.cells #[.int .i64 (q : Int)] 3)).drew).cell? (ad.add j) = some u := news_new wr _ #[.int .i64 (q : Int)] 3 rfl
             generalize (wr.alloc (.cells #[.int .i64 (q : Int)] 3)).drew = wa at hb8 hnw ⊢
             have HWA := Zh (Zi hb8 hnw); clear hb8 hnw
             refine hK1.out _ _ (fun _ => HKP.out wa HWA.out.1) ?_
             clear hK1 K1 hC
             have hC := HKP.out wa HWA.out.1
             (try simp only [Act.put, Z1, Z2, Z3, Z4, Z5, Z6])
             refine wpC_step (i := 16) (by kernel_rfl) rfl (fun K1 hK1 => ?_)
             refine step_appE eiInt ?h1 (.tmp 164) (.tmp 166) ?h2 fg fl fc2 ((belowK S q r p).map intV) ?h3 (HBO.out.1 wa HWA.out.1) (some ⟨wr.heap.size, 0, none⟩) 1 1 [.int .i64 (q : Int)] ?h4 (fun h => by cases h) rfl HWA.out.2 (fun u hu => by simp at hu; subst hu; rfl) (fl + 1) rfl (by omega) (by omega) ?_
             case h1 => rfl
             case h2 => rfl
             case h3 => rfl
             case h4 => rfl
             intro g9 cap9 w9 o9 gr9 at9
             have HW9 := Zh (Zi o9 (Zi gr9 at9)); clear o9 gr9 at9
             have hxa := HX.out.1.keep HWA.out.1
             have hgn : ∀ b, fg = some b → bb < b := HBO.out.2.2
             have hbl := hxa.bel.lt
             have hlo := hxa.lo.1
             have l0 := cell_chg (chg_grown HW9.out.2.1) hxa.five.m (fun e => by have := hgn _ e; simp only at this; omega)
             have l5 := cell_chg (chg_grown HW9.out.2.1) hxa.g5 (fun e => by have := hgn _ e; simp only at this; omega)
             have l6 := cell_chg (chg_grown HW9.out.2.1) (HKP.out wa HWA.out.1).2.2 (fun e => by have := hgn _ e; simp only at this; omega)
             have lf : w9.frozen? ⟨bb, p, none⟩ = false := by rw [World.frozen?_of_block (a := ⟨bb, p, none⟩) (HW9.out.2.1.block bb hbl (fun e => by have := hgn _ e.symm; omega))]; exact hxa.bel.fr p
             clear hxa hgn hbl hlo
             refine hK1.out _ _ (fun _ => Zi l0 (Zi l5 l6)) ?_
             clear hK1 K1 hC
             have hC := Zi l0 (Zi l5 l6)
             (try simp only [Act.put, Z1, Z2, Z3, Z4, Z5, Z6])
             refine Zu (i := 17) rfl (fun _ => hC) ?rs17
             (try simp only [Act.put, Z1, Z2, Z3, Z4, Z5, Z6])
             refine wpC_step (i := 18) (by kernel_rfl) rfl (fun K1 hK1 => ?_)
             go_simp
             refine hK1.out _ _ (fun h => absurd (h.symm.trans (by kernel_rfl : _ = true)) (by decide)) ?_
             clear hK1 K1
             (try simp only [Act.put, Z1, Z2, Z3, Z4, Z5, Z6])
             refine wpC_done (by kernel_rfl) ?_ _
             have h9 := HX.out.1.pushBel HWA.out.1 hpk (g' := g9) (cap' := cap9) (i := q) (q := fl + 1) (by rw [HBO.out.2.1]) HW9.out.1 (by rw [HFE.out.1]; exact HW9.out.2.1) (by rw [HFE.out.1]; exact HW9.out.2.2)
             rw [HBS.out] at h9
             have hoa : Own wa 3 1 (some gl) n1 cl (l.map intV) := HX.out.2.1.keep fun b hb => HWA.out.1.block b (by cases hb; exact HX.out.2.1.row.lt)
             have hob : Own w9 3 1 (some gl) n1 cl (l.map intV) := hoa.keep fun b hb => HW9.out.2.1.block b (by cases hb; exact hoa.row.lt) (fun e => by cases hb; exact HX.out.2.2.1 p hpk (HFE.out.1.trans e.symm))
             have hoc : Own (w9.setCell ⟨bb, p, none⟩ (.slice (some ⟨g9, 0, none⟩) (fl + 1) cap9)) 3 1 (some gl) n1 cl (l.map intV) := hob.keep fun b hb => Below.heap_setCell w9 ⟨bb, p, none⟩ _ b (by cases hb; exact HX.out.2.2.2)
             have hg9 : g9 ≠ gl := fun e => by
              rcases HW9.out.2.2 with h | h
              ·exact HX.out.2.2.1 p hpk (HFE.out.1.trans (h.trans (by rw [e])))
              ·have := hoa.row.lt; omega
             have H9 := Zh (Zi h9 (Zi hoc hg9))
             clear h9 hoa hob hoc hg9 hC l0 l5 l6 lf
             go_wp2_with fail
             refine ⟨⟨r + 1, _, by simp, by omega, H9.out.1, H9.out.2.1, fun p' hp' e => ?_, HX.out.2.2.2⟩, by simp [intOf]; omega⟩
             by_cases e2 : p' = p
             ·simp only [if_pos e2] at e; cases e; exact H9.out.2.2 rfl
             ·simp only [if_neg e2] at e; exact HX.out.2.2.1 p' hp' e
            ·obtain rfl : r = n1 := by omega
             have h6 := HX.out.1
             have hbf := HLB.out.2.2.2.1
             rw [HLB.out.1] at hbf
             rw [hbf] at h6
             have H6 := Zh h6; clear h6 hbf HX
             go_wp2_with fail
             exact ⟨⟨q + 1, some g8, cap8, nv2, f, by simp, by omega, H6.out⟩, by simp [intOf]; omega⟩
          ·obtain rfl : q = k := by omega
           obtain ⟨m, N, e2, _, hmap⟩ := HX.out.five.base.tm
           have hlk := hmap.look_ok (s := ⟨#[111, 98, 106, 101, 99, 116, 99, 108, 97, 115, 115]⟩) (by decide)
           obtain ⟨pp, hpp⟩ : ∃ pp, placeOf (tK S) (bytesOf "objectclass") = pp := ⟨_, rfl⟩
           rw [show toL ⟨#[111, 98, 106, 101, 99, 116, 99, 108, 97, 115, 115]⟩ = bytesOf "objectclass" by decide +kernel, hpp] at hlk
           have e0 := HX.out.five.m
           have e4 := HX.out.g4
           have HPP := Zh hpp; clear hpp hmap
           cases pp with
           | none =>
            have hno : newE S = (80, 0) := by rw [HNO.out.1, objE_none HPP.out]
            have HNN := Zh hno; clear hno
            simp only [Option.getD_none, Option.isSome_none] at hlk
            go_wp2_with fail
            go_ret3
            exact ⟨HX.out.five.hb, .inr ⟨by rw [HNN.out]; simp, by rw [HNN.out]; rfl⟩⟩
           | some u =>
            simp only [Option.getD_some, Option.isSome_some] at hlk
            have HOB := Zh (objE_some HPP.out)
            have hu : u < q := by have := placeOf_lt HPP.out; have := HN.out.1; simp [tK] at *; omega
            obtain ⟨gf, rfl⟩ : ∃ gf, go = some gf := by
             cases go with
             | none => have := HX.out.own.2.1; omega
             | some gf => exact ⟨gf, rfl⟩
            change wr.cell? _ = some (.slice (some ⟨gf, 0, none⟩) q cap) at e4
            have h3 : wr.cell? ⟨gf, u * 9 + 3, none⟩ = some (.int .i8 (fullT S u).syn) := HX.out.own.row.cell ((fullCells_get S nv hu (j := 3) (by omega)).trans rfl)
            have h4 : wr.cell? ⟨gf, u * 9 + 4, none⟩ = some (.int .i8 (fullT S u).eq) := HX.out.own.row.cell ((fullCells_get S nv hu (j := 4) (by omega)).trans rfl)
            have h7 : wr.cell? ⟨gf, u * 9 + 7, none⟩ = some (.bool (fullT S u).single) := HX.out.own.row.cell ((fullCells_get S nv hu (j := 7) (by omega)).trans rfl)
            have hui : (0 : Int) ≤ (u : Int) := by omega
            have huq : (u : Int) < (q : Int) := by omega
            obtain ⟨ft, hft⟩ : ∃ ft, fullT S u = ft := ⟨_, rfl⟩
            simp only [hft] at h3 h4 h7 HOB
            have HFU := Zh hft; clear hft
            by_cases hs : ft.syn = 8
            ·by_cases hq2 : ft.eq = 20
             ·cases hsg : ft.single with
              | false =>
               have hno : newE S = (0, 0) := by rw [HNO.out.1, HOB.out, if_pos ⟨hs, hq2, hsg⟩]
               have HNN := Zh hno; clear hno
               rw [hs] at h3; rw [hq2] at h4; rw [hsg] at h7
               clear hs hq2 hsg
               go_wp2_with fail
               go_ret3
               exact ⟨HX.out.five.hb, .inl ⟨HNN.out, mt + 1 + 1, rfl, HX.out.sch HN.out.1 hi10 (by have := HNOT.out; omega) HNN.out⟩⟩
              | true =>
               have hno : newE S = (80, 0) := by rw [HNO.out.1, HOB.out, if_neg (by rintro ⟨_, _, h⟩; rw [hsg] at h; cases h)]
               have HNN := Zh hno; clear hno
               rw [hs] at h3; rw [hq2] at h4; rw [hsg] at h7
               clear hs hq2 hsg
               go_wp2_with fail
               go_ret3
               exact ⟨HX.out.five.hb, .inr ⟨by rw [HNN.out]; simp, by rw [HNN.out]; rfl⟩⟩
             ·have hno : newE S = (80, 0) := by rw [HNO.out.1, HOB.out, if_neg (by rintro ⟨_, h, _⟩; exact hq2 h)]
              have HNN := Zh hno; clear hno
              have hb2 : (ft.eq != 20) = true := by simpa using hq2
              rw [hs] at h3
              clear hs hq2
              generalize ft.eq = fe at h4 hb2
              go_wp2_with fail
              go_ret3
              exact ⟨HX.out.five.hb, .inr ⟨by rw [HNN.out]; simp, by rw [HNN.out]; rfl⟩⟩
            ·have hno : newE S = (80, 0) := by rw [HNO.out.1, HOB.out, if_neg (by rintro ⟨h, _, _⟩; exact hs h)]
             have HNN := Zh hno; clear hno
             have hb2 : (ft.syn != 8) = true := by simpa using hs
             clear hs
             generalize ft.syn = fe at h3 hb2
             go_wp2_with fail
             go_ret3
             exact ⟨HX.out.five.hb, .inr ⟨by rw [HNN.out]; simp, by rw [HNN.out]; rfl⟩⟩
end Go.Proofs.YtlmfbjhokkpjhaaGreatDoor
