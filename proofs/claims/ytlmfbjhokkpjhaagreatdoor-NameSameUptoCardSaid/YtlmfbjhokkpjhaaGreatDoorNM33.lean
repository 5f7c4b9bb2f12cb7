/- Part 33 of the walks and plain laws, joined: ShowC. -/
import Derived.Test.YtlmfbjhokkpjhaaGreatDoorNM00
import Derived.Test.YtlmfbjhokkpjhaaGreatDoorNM32
set_option linter.unusedVariables false
set_option linter.unusedSimpArgs false
namespace Go.Proofs.YtlmfbjhokkpjhaaGreatDoor
open Go Go.RowKit
theorem hexs_size (c : UInt8) : (⟨#[92]⟩ ++ ⟨#[hexC (c.toNat / 16), hexC (c.toNat % 16)]⟩ : ByteArray).size = 3 := rfl
theorem hexs_list (c : UInt8) : (⟨#[92]⟩ ++ ⟨#[hexC (c.toNat / 16), hexC (c.toNat % 16)]⟩ : ByteArray).data.toList = hexB c := rfl
theorem index_spec (c : UInt8) : decide (0 ≤ Lib.indexByte (⟨#[34, 43, 44, 59, 60, 62, 92]⟩ : ByteArray).data.toList ((c.toNat : Nat) : Int).toNat.toUInt8) = [34, 43, 44, 59, 60, 62, 92].contains c := by
 have key : ∀ n : Fin 256, decide (0 ≤ Lib.indexByte (⟨#[34, 43, 44, 59, 60, 62, 92]⟩ : ByteArray).data.toList ((n.val : Nat) : Int).toNat.toUInt8) = [34, 43, 44, 59, 60, 62, 92].contains (UInt8.ofNat n.val) := by decide +kernel
 have := key ⟨c.toNat, c.toNat_lt⟩
 simp only [UInt8.ofNat_toNat] at this
 exact this
set_option maxRecDepth 20000 in
set_option maxHeartbeats 8000000 in
theorem show_any (v : ByteArray) (w : World) (hv : v.size ≤ 4294967280) :
  Calls Tryz.prog 71 #[.string v] w fun e w' => e = .returned (.string (baOf (showV (toL v)))) ∧ Below w.heap.size w w' := by
 have hz : (toL v).length = v.size := Lib.size_eq v
 have hmk := BldF.made w
 have hbm : Below w.heap.size w (w.alloc (.cells #[.pointer none, .slice none 0 0] 117)) := (Zl _ w).alloc (Zr _) _
 have HM := Zh (Zi hmk hbm); clear hmk hbm
 have HZ := Zh hz; clear hz
 go_enter Tryz.func71, Tryz.ntmps71
 go_wp2_with fail
 go_loopw [4] (fun iv wr => ∃ (i : Nat) (out : Str), iv = .int .i64 (i : Nat) ∧ BldF w.heap.size w.heap.size out wr ∧ Below w.heap.size w wr ∧ Sh v i out) (fun iv _ => v.size - (intOf iv).toNat)
 case atStart => exact ⟨0, [], rfl, HM.out.1, HM.out.2, Sh.start v⟩
 case round =>
  obtain ⟨i, out, rfl, hb, hbl, hsh⟩ := hrel
  clear HM
  have HS := Zh hsh; clear hsh
  have H1 := Zh (Zi hb hbl); clear hb
  have hBw := hbl.size; clear hbl
  by_cases hi : i < v.size
  ·have i1 : (i : Int) < (v.size : Int) := by omega
   go_wp2_with fail
   go_loopw [5] (fun nv wq => ∃ n : Nat, nv = .int .i64 (n : Nat) ∧ 1 ≤ n ∧ n ≤ 5 ∧ BldF w.heap.size w.heap.size out wq ∧ Below w.heap.size w wq ∧ ∀ m, 1 ≤ m → m < n → Lib.validD (((toL v).drop i).take m) = false) (fun nv _ => 5 - (intOf nv).toNat)
   case atStart => exact ⟨1, rfl, by omega, by omega, H1.out.1, H1.out.2, fun m h1 h2 => by omega⟩
   case round =>
    obtain ⟨n, rfl, hn1, hn5, hb, hbl, hall⟩ := hrel
    clear H1
    have HA := Zh hall; clear hall
    have H1 := Zh (Zi hb hbl); clear hb
    clear hBw
    have hBw := hbl.size; clear hbl
    by_cases h4 : n ≤ 4
    ·have j1 : (n : Int) ≤ 4 := by omega
     have j2 : ¬ (4 : Int) < (n : Int) := by omega
     have j2b : decide ((4 : Int) < (n : Int)) = false := decide_eq_false j2
     by_cases hin : i + n ≤ v.size
     ·have j3 : (i : Int) + (n : Int) ≤ (v.size : Int) := by omega
      have j3b : decide ((v.size : Int) < (i : Int) + (n : Int)) = false := decide_eq_false (by omega)
      have hx : (v.extract i (i + n)).data.toList = ((toL v).drop i).take n := by
       rw [Lib.extract_eq, Nat.add_sub_cancel_left]
      have hval := fun w => valid_any (v.extract i (i + n)) w (by rw [ByteArray.size_extract]; omega)
      rw [hx] at hval
      cases hvb : Lib.validD (((toL v).drop i).take n) with
      | false =>
       rw [hvb] at hval
       have HV := Zh hval; have HVB := Zh hvb; clear hval hvb hx
       go_wp2_with (go_at_call 113; with_reducible refine (HV.out _).mono ?_; rintro e w1 ⟨rfl, hb1⟩)
       refine ⟨⟨n + 1, by simp, by omega, by omega, H1.out.1.keep hb1, H1.out.2.trans (hb1.mono (by have := H1.out.2.size; omega)), fun m h1 h2 => ?_⟩, ?_⟩
       ·by_cases h : m = n
        ·subst h; exact HVB.out
        ·exact HA.out m h1 (by omega)
       ·simp [intOf]; omega
      | true =>
       rw [hvb] at hval
       have hch := chN_good HA.out hn1 h4 (by rw [List.length_drop, HZ.out]; omega) hvb
       have HV := Zh hval; have HCH := Zh hch; clear hval hvb hx hch HA
       go_upto_region 10 with (go_at_call 113; with_reducible refine (HV.out _).mono ?_; rintro e w1 ⟨rfl, hb1⟩)
       have hk1 := H1.out.1.keep hb1
       have hk2 := H1.out.2.trans (hb1.mono (by have := H1.out.2.size; omega))
       clear H1 hb1 HV hBw
       have H1 := Zh (Zi hk1 hk2); clear hk1
       have hBw := hk2.size; clear hk2
       have hix := fun w => Tryz.strings_IndexByte ⟨#[34, 43, 44, 59, 60, 62, 92]⟩ ((v[i]'hi).toNat : Int) w
       have hir := index_spec (v[i]'hi)
       generalize Lib.indexByte (⟨#[34, 43, 44, 59, 60, 62, 92]⟩ : ByteArray).data.toList ((v[i]'hi).toNat : Int).toNat.toUInt8 = r at hix hir
       generalize hbb : v[i]'hi = c at hix hir
       have HIX := Zh hix; clear hix
       by_cases c1 : c.toNat < 32
       ·have k1 : (c.toNat : Int) < 32 := by omega
        clear hir
        have hn1' : n = 1 := by
         rw [← HCH.out, drop_get hi]
         refine chN_low _ ?_
         rw [hbb]; omega
        obtain rfl := hn1'
        go_wp2_with (go_at_call 114; rw [extract_one hi, hbb]; with_reducible refine (hex_any _ _).mono ?_; rintro e wh ⟨rfl, hbh⟩)
        have hfh := H1.out.1.keep hbh
        have hbw2 := H1.out.2.trans (hbh.mono (by have := H1.out.2.size; omega))
        have HH := Zh (Zi hfh hbw2); clear hfh hbw2 hbh
        go_at_call 70
        with_reducible refine (bstrL _ _ _ _ _ HH.out.1 (by have := HS.out.len; rw [hexs_size]; omega) HH.out.2.size).mono ?_
        rintro e w2 ⟨rfl, hf2, hb2, _⟩
        have HF2 := Zh (Zi hf2 (HH.out.2.trans hb2)); clear hf2 hb2
        go_wp2_with fail
        subst hbb
        refine ⟨⟨i + 1, out ++ hexB v[i], by simp, hexs_list (v[i]'hi) ▸ HF2.out.1, HF2.out.2, HS.out.hex hi (.inr (.inl c1))⟩, ?_⟩
        simp [intOf]; omega
       ·have k1 : ¬ (c.toNat : Int) < 32 := by omega
        by_cases c2 : c = 127
        ·have k2 : (((c.toNat : Nat) : Int) == 127) = true := by rw [c2]; rfl
         have C2 := Zh c2; clear hir c2
         have hn1' : n = 1 := by
          rw [← HCH.out, drop_get hi]
          refine chN_low _ ?_
          rw [hbb, C2.out]; decide
         obtain rfl := hn1'
         go_wp2_with (go_at_call 114; rw [extract_one hi, hbb]; with_reducible refine (hex_any _ _).mono ?_; rintro e wh ⟨rfl, hbh⟩)
         have hfh := H1.out.1.keep hbh
         have hbw2 := H1.out.2.trans (hbh.mono (by have := H1.out.2.size; omega))
         have HH := Zh (Zi hfh hbw2); clear hfh hbw2 hbh
         go_at_call 70
         with_reducible refine (bstrL _ _ _ _ _ HH.out.1 (by have := HS.out.len; rw [hexs_size]; omega) HH.out.2.size).mono ?_
         rintro e w2 ⟨rfl, hf2, hb2, _⟩
         have HF2 := Zh (Zi hf2 (HH.out.2.trans hb2)); clear hf2 hb2
         go_wp2_with fail
         subst hbb
         refine ⟨⟨i + 1, out ++ hexB v[i], by simp, hexs_list (v[i]'hi) ▸ HF2.out.1, HF2.out.2, HS.out.hex hi (.inr (.inr C2.out))⟩, ?_⟩
         simp [intOf]; omega
        ·have k2 : (((c.toNat : Nat) : Int) == 127) = false := u8_ne (c := 127) c2
         have HN := Zh (show ¬ (c.toNat < 32 ∨ c = 127) from fun h => h.elim c1 c2); clear c1 c2
         cases hcc : [34, 43, 44, 59, 60, 62, 92].contains c with
         | true =>
          rw [hcc] at hir
          have kr : (0 : Int) ≤ r := of_decide_eq_true hir
          have HCC := Zh hcc; clear hir hcc
          have hesc := HS.out.esc hi (by rw [hbb]; exact HN.out) (by rw [hbb]; exact .inl HCC.out)
          have hn1' : n = 1 := HCH.out.symm.trans hesc.2
          obtain rfl := hn1'
          have HE := Zh hesc.1; clear hesc
          go_wp2_with (first | (go_at_call 115; with_reducible refine (HIX.out _).mono ?_; rintro e wj ⟨rfl, rfl⟩) | (go_at_call 69; with_reducible refine (bbyteX _ _ _ 92 92 rfl _ H1.out.1 (by have := HS.out.len; omega) hBw).mono ?_; rintro e w2 ⟨rfl, hf2, hb2, _⟩))
          have HF2 := Zh (Zi hf2 (H1.out.2.trans hb2)); clear hf2 hb2
          go_at_call 69
          with_reducible refine (bbyteL _ _ _ c _ HF2.out.1 (by have := HS.out.len; simp; omega) HF2.out.2.size).mono ?_
          rintro e w3 ⟨rfl, hf3, hb3, _⟩
          have HF3 := Zh (Zi hf3 (HF2.out.2.trans hb3)); clear hf3 hb3
          go_wp2_with fail
          subst hbb
          refine ⟨⟨i + 1, out ++ [92, v[i]], by simp, by have := HF3.out.1; rw [List.append_assoc] at this; exact this, HF3.out.2, HE.out⟩, ?_⟩
          simp [intOf]; omega
         | false =>
          rw [hcc] at hir
          have kr : ¬ (0 : Int) ≤ r := of_decide_eq_false hir
          have kr2 : r < 0 := by omega
          have HCC := Zh hcc; clear hir hcc
          by_cases c3 : c = 32
          ·have k32 : (((c.toNat : Nat) : Int) == 32) = true := by rw [c3]; rfl
           have k35 : (((c.toNat : Nat) : Int) == 35) = false := by rw [c3]; rfl
           have C3 := Zh c3; clear c3
           by_cases c4 : i = 0
           ·have z0 : ((i : Int) == 0) = true := by simp; omega
            have C4 := Zh c4; clear c4
            have hesc := HS.out.esc hi (by rw [hbb]; exact HN.out) (by rw [hbb]; exact .inr (.inl ⟨C3.out, .inl C4.out⟩))
            have hn1' : n = 1 := HCH.out.symm.trans hesc.2
            obtain rfl := hn1'
            have HE := Zh hesc.1; clear hesc
            go_wp2_with (first | (go_at_call 115; with_reducible refine (HIX.out _).mono ?_; rintro e wj ⟨rfl, rfl⟩) | (go_at_call 69; with_reducible refine (bbyteX _ _ _ 92 92 rfl _ H1.out.1 (by have := HS.out.len; omega) hBw).mono ?_; rintro e w2 ⟨rfl, hf2, hb2, _⟩))
            have HF2 := Zh (Zi hf2 (H1.out.2.trans hb2)); clear hf2 hb2
            go_at_call 69
            with_reducible refine (bbyteL _ _ _ c _ HF2.out.1 (by have := HS.out.len; simp; omega) HF2.out.2.size).mono ?_
            rintro e w3 ⟨rfl, hf3, hb3, _⟩
            have HF3 := Zh (Zi hf3 (HF2.out.2.trans hb3)); clear hf3 hb3
            go_wp2_with fail
            subst hbb
            refine ⟨⟨i + 1, out ++ [92, v[i]], by simp, by have := HF3.out.1; rw [List.append_assoc] at this; exact this, HF3.out.2, HE.out⟩, ?_⟩
            simp [intOf]; omega
           ·have z0 : ((i : Int) == 0) = false := by simp; omega
            have C4 := Zh c4; clear c4
            by_cases c5 : i + 1 = v.size
            ·have zl : ((i : Int) == (v.size : Int) - 1) = true := by simp; omega
             have hesc := HS.out.esc hi (by rw [hbb]; exact HN.out) (by rw [hbb]; exact .inr (.inl ⟨C3.out, .inr c5⟩))
             have hn1' : n = 1 := HCH.out.symm.trans hesc.2
             obtain rfl := hn1'
             have HE := Zh hesc.1; clear hesc
             go_wp2_with (first | (go_at_call 115; with_reducible refine (HIX.out _).mono ?_; rintro e wj ⟨rfl, rfl⟩) | (go_at_call 69; with_reducible refine (bbyteX _ _ _ 92 92 rfl _ H1.out.1 (by have := HS.out.len; omega) hBw).mono ?_; rintro e w2 ⟨rfl, hf2, hb2, _⟩))
             have HF2 := Zh (Zi hf2 (H1.out.2.trans hb2)); clear hf2 hb2
             go_at_call 69
             with_reducible refine (bbyteL _ _ _ c _ HF2.out.1 (by have := HS.out.len; simp; omega) HF2.out.2.size).mono ?_
             rintro e w3 ⟨rfl, hf3, hb3, _⟩
             have HF3 := Zh (Zi hf3 (HF2.out.2.trans hb3)); clear hf3 hb3
             go_wp2_with fail
             subst hbb
             refine ⟨⟨i + 1, out ++ [92, v[i]], by simp, by have := HF3.out.1; rw [List.append_assoc] at this; exact this, HF3.out.2, HE.out⟩, ?_⟩
             simp [intOf]; omega
            ·have zl : ((i : Int) == (v.size : Int) - 1) = false := by simp; omega
             have hraw := HS.out.raw hi HCH.out hn1 hin (by rw [hbb]; exact HN.out) (by rw [hbb]; exact (by rw [HCC.out]; exact fun h => h.elim (fun h => Bool.noConfusion h) fun h => h.elim (fun h => h.2.elim C4.out c5) (fun h => absurd (C3.out.symm.trans h.1) (by decide))))
             have HE := Zh hraw; clear hraw
             have hx : (v.extract i (i + n)).data.toList = ((toL v).drop i).take n := by
              rw [Lib.extract_eq, Nat.add_sub_cancel_left]
             have hxs : (v.extract i (i + n)).size = n := by rw [ByteArray.size_extract]; omega
             have HX := Zh (Zi hx hxs); clear hx hxs
             go_wp2_with (first | (go_at_call 115; with_reducible refine (HIX.out _).mono ?_; rintro e wj ⟨rfl, rfl⟩) | (go_at_call 70; with_reducible refine (bstrL _ _ _ _ _ H1.out.1 (by have := HS.out.len; rw [HX.out.2]; omega) hBw).mono ?_; rintro e w2 ⟨rfl, hf2, hb2, _⟩))
             have HF2 := Zh (Zi hf2 (H1.out.2.trans hb2)); clear hf2 hb2
             go_wp2_with fail
             refine ⟨⟨i + n, out ++ ((toL v).drop i).take n, by simp, HX.out.1 ▸ HF2.out.1, HF2.out.2, HE.out⟩, ?_⟩
             simp [intOf]; omega
          ·have k32 : (((c.toNat : Nat) : Int) == 32) = false := u8_ne (c := 32) c3
           have C3 := Zh c3; clear c3
           by_cases c5 : c = 35
           ·have k35 : (((c.toNat : Nat) : Int) == 35) = true := by rw [c5]; rfl
            have C5 := Zh c5; clear c5
            by_cases c4 : i = 0
            ·have z0 : ((i : Int) == 0) = true := by simp; omega
             have C4 := Zh c4; clear c4
             have hesc := HS.out.esc hi (by rw [hbb]; exact HN.out) (by rw [hbb]; exact .inr (.inr ⟨C5.out, C4.out⟩))
             have hn1' : n = 1 := HCH.out.symm.trans hesc.2
             obtain rfl := hn1'
             have HE := Zh hesc.1; clear hesc
             go_wp2_with (first | (go_at_call 115; with_reducible refine (HIX.out _).mono ?_; rintro e wj ⟨rfl, rfl⟩) | (go_at_call 69; with_reducible refine (bbyteX _ _ _ 92 92 rfl _ H1.out.1 (by have := HS.out.len; omega) hBw).mono ?_; rintro e w2 ⟨rfl, hf2, hb2, _⟩))
             have HF2 := Zh (Zi hf2 (H1.out.2.trans hb2)); clear hf2 hb2
             go_at_call 69
             with_reducible refine (bbyteL _ _ _ c _ HF2.out.1 (by have := HS.out.len; simp; omega) HF2.out.2.size).mono ?_
             rintro e w3 ⟨rfl, hf3, hb3, _⟩
             have HF3 := Zh (Zi hf3 (HF2.out.2.trans hb3)); clear hf3 hb3
             go_wp2_with fail
             subst hbb
             refine ⟨⟨i + 1, out ++ [92, v[i]], by simp, by have := HF3.out.1; rw [List.append_assoc] at this; exact this, HF3.out.2, HE.out⟩, ?_⟩
             simp [intOf]; omega
            ·have z0 : ((i : Int) == 0) = false := by simp; omega
             have C4 := Zh c4; clear c4
             have hraw := HS.out.raw hi HCH.out hn1 hin (by rw [hbb]; exact HN.out) (by rw [hbb]; exact (by rw [HCC.out]; exact fun h => h.elim (fun h => Bool.noConfusion h) fun h => h.elim (fun h => C3.out h.1) (fun h => C4.out h.2)))
             have HE := Zh hraw; clear hraw
             have hx : (v.extract i (i + n)).data.toList = ((toL v).drop i).take n := by
              rw [Lib.extract_eq, Nat.add_sub_cancel_left]
             have hxs : (v.extract i (i + n)).size = n := by rw [ByteArray.size_extract]; omega
             have HX := Zh (Zi hx hxs); clear hx hxs
             go_wp2_with (first | (go_at_call 115; with_reducible refine (HIX.out _).mono ?_; rintro e wj ⟨rfl, rfl⟩) | (go_at_call 70; with_reducible refine (bstrL _ _ _ _ _ H1.out.1 (by have := HS.out.len; rw [HX.out.2]; omega) hBw).mono ?_; rintro e w2 ⟨rfl, hf2, hb2, _⟩))
             have HF2 := Zh (Zi hf2 (H1.out.2.trans hb2)); clear hf2 hb2
             go_wp2_with fail
             refine ⟨⟨i + n, out ++ ((toL v).drop i).take n, by simp, HX.out.1 ▸ HF2.out.1, HF2.out.2, HE.out⟩, ?_⟩
             simp [intOf]; omega
           ·have k35 : (((c.toNat : Nat) : Int) == 35) = false := u8_ne (c := 35) c5
            have C5 := Zh c5; clear c5
            have hraw := HS.out.raw hi HCH.out hn1 hin (by rw [hbb]; exact HN.out) (by rw [hbb]; exact (by rw [HCC.out]; exact fun h => h.elim (fun h => Bool.noConfusion h) fun h => h.elim (fun h => C3.out h.1) (fun h => C5.out h.1)))
            have HE := Zh hraw; clear hraw
            have hx : (v.extract i (i + n)).data.toList = ((toL v).drop i).take n := by
             rw [Lib.extract_eq, Nat.add_sub_cancel_left]
            have hxs : (v.extract i (i + n)).size = n := by rw [ByteArray.size_extract]; omega
            have HX := Zh (Zi hx hxs); clear hx hxs
            go_wp2_with (first | (go_at_call 115; with_reducible refine (HIX.out _).mono ?_; rintro e wj ⟨rfl, rfl⟩) | (go_at_call 70; with_reducible refine (bstrL _ _ _ _ _ H1.out.1 (by have := HS.out.len; rw [HX.out.2]; omega) hBw).mono ?_; rintro e w2 ⟨rfl, hf2, hb2, _⟩))
            have HF2 := Zh (Zi hf2 (H1.out.2.trans hb2)); clear hf2 hb2
            go_wp2_with fail
            refine ⟨⟨i + n, out ++ ((toL v).drop i).take n, by simp, HX.out.1 ▸ HF2.out.1, HF2.out.2, HE.out⟩, ?_⟩
            simp [intOf]; omega
     ·have j3 : ¬ (i : Int) + (n : Int) ≤ (v.size : Int) := by omega
      have j3b : (v.size : Int) < (i : Int) + (n : Int) := by omega
      have hc0 := chN_bad HA.out (.inr (by rw [List.length_drop, HZ.out]; omega))
      have HC0 := Zh hc0; clear hc0 HA
      go_wp2_with (go_at_call 114; rw [extract_one hi]; with_reducible refine (hex_any _ _).mono ?_; rintro e wh ⟨rfl, hbh⟩)
      have hfh := H1.out.1.keep hbh
      have hbw2 := H1.out.2.trans (hbh.mono (by have := H1.out.2.size; omega))
      have HH := Zh (Zi hfh hbw2); clear hfh hbw2 hbh
      go_at_call 70
      with_reducible refine (bstrL _ _ _ _ _ HH.out.1 (by have := HS.out.len; rw [hexs_size]; omega) HH.out.2.size).mono ?_
      rintro e w2 ⟨rfl, hf2, hb2, _⟩
      have HF2 := Zh (Zi hf2 (HH.out.2.trans hb2)); clear hf2 hb2
      go_wp2_with fail
      refine ⟨⟨i + 1, out ++ hexB v[i], by simp, hexs_list (v[i]'hi) ▸ HF2.out.1, HF2.out.2, HS.out.hex hi (.inl HC0.out)⟩, ?_⟩
      simp [intOf]; omega
    ·have j1 : ¬ (n : Int) ≤ 4 := by omega
     have j2 : (4 : Int) < (n : Int) := by omega
     have hc0 := chN_bad HA.out (.inl (by omega))
     have HC0 := Zh hc0; clear hc0 HA
     go_wp2_with (go_at_call 114; rw [extract_one hi]; with_reducible refine (hex_any _ _).mono ?_; rintro e wh ⟨rfl, hbh⟩)
     have hfh := H1.out.1.keep hbh
     have hbw2 := H1.out.2.trans (hbh.mono (by have := H1.out.2.size; omega))
     have HH := Zh (Zi hfh hbw2); clear hfh hbw2 hbh
     go_at_call 70
     with_reducible refine (bstrL _ _ _ _ _ HH.out.1 (by have := HS.out.len; rw [hexs_size]; omega) HH.out.2.size).mono ?_
     rintro e w2 ⟨rfl, hf2, hb2, _⟩
     have HF2 := Zh (Zi hf2 (HH.out.2.trans hb2)); clear hf2 hb2
     go_wp2_with fail
     refine ⟨⟨i + 1, out ++ hexB v[i], by simp, hexs_list (v[i]'hi) ▸ HF2.out.1, HF2.out.2, HS.out.hex hi (.inl HC0.out)⟩, ?_⟩
     simp [intOf]; omega
  ·have i1 : ¬ (i : Int) < (v.size : Int) := by omega
   have hout := HS.out.stop hi
   have HO := Zh hout; clear hout
   go_wp2_with (go_at_call 73; with_reducible refine (bstringL _ _ _ _ H1.out.1 hBw).mono ?_; rintro e w2 ⟨rfl, hb2⟩)
   go_ret
   rw [HO.out]
   exact ⟨rfl, H1.out.2.trans hb2⟩
end Go.Proofs.YtlmfbjhokkpjhaaGreatDoor
