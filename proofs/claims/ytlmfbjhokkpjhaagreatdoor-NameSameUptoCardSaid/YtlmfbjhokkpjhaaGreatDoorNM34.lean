/- Part 34 of the walks and plain laws, joined: PrintC. -/
import Derived.Test.YtlmfbjhokkpjhaaGreatDoorNM00
import Derived.Test.YtlmfbjhokkpjhaaGreatDoorNM22
import Derived.Test.YtlmfbjhokkpjhaaGreatDoorNM27
import Derived.Test.YtlmfbjhokkpjhaaGreatDoorNM32
import Derived.Test.YtlmfbjhokkpjhaaGreatDoorNM33
import Derived.Deep.RegionHeld3
import Derived.Deep.DeepCutAuto
set_option linter.unusedVariables false
set_option linter.unusedSimpArgs false
namespace Go.Proofs.YtlmfbjhokkpjhaaGreatDoor
open Go Go.RowKit
def Own2 (b k : Nat) (w : World) : Prop := k ≠ b ∧ ∃ cs t fz, w.heap[k]? = some (.cells cs t fz) ∧ t ≠ 5
theorem Own2.keep {b k : Nat} {w w' : World} (h : Own2 b k w) (hb : Below w.heap.size w w') : Own2 b k w' := by
 obtain ⟨h0, cs, t, fz, h1, h2⟩ := h
 exact ⟨h0, cs, t, fz, by rw [hb.block k (Array.getElem?_eq_some_iff.1 h1).1]; exact h1, h2⟩
theorem Own2.heap {b k : Nat} {w w' : World} (h : Own2 b k w) (hk : BldK b w w') : w'.heap[k]? = w.heap[k]? := by
 obtain ⟨h0, cs, t, fz, h1, h2⟩ := h
 rw [h1]
 exact hk k _ h1 (fun e => h0 (Option.some.inj e)) (fun c fz' e => h2 (by cases e; rfl))
theorem Own2.cell {b k : Nat} {w w' : World} (h : Own2 b k w) (hk : BldK b w w') (j : Nat) : w'.cell? ⟨k, j, none⟩ = w.cell? ⟨k, j, none⟩ := by
 unfold World.cell?
 rw [h.heap hk]
theorem Own2.next {b k : Nat} {w w' : World} (h : Own2 b k w) (hk : BldK b w w') : Own2 b k w' := by
 have e := h.heap hk
 obtain ⟨h0, cs, t, fz, h1, h2⟩ := h
 exact ⟨h0, cs, t, fz, e.trans h1, h2⟩
theorem cellA {w : World} {p : Addr} {v : Value} (h : w.cell? p = some v) (o : Obj) : (w.alloc o).cell? p = some v := by
 rw [World.cell?_alloc_some _ _ _ (by rw [h]; rfl)]; exact h
theorem ava_str (x : PAva) : (x.1 ++ ⟨#[61]⟩ ++ baOf (showV (toL x.2)) : ByteArray).data.toList = avaP x := by
 unfold avaP baOf toL
 simp [ByteArray.data_append]
theorem cellA_new (w : World) (cs : Array Value) (t : TypeId) (j : Nat) : (w.alloc (.cells cs t)).cell? ⟨w.heap.size, j, none⟩ = cs[j]? := by
 rw [World.cell?_alloc_new]
theorem mid0 (l : PName) (i : Nat) (r : PRdn) : preP 44 (l.map rdnP) i = midP l i r 0 := by unfold midP; simp [joinP]
def PrintPost (l : PName) (w : World) (e : Ending) (w' : World) : Prop :=
 e = .returned (.tuple #[.string (baOf (printV l).1), .int .i64 (printV l).2]) ∧ Below w.heap.size w w'
theorem PrintPost.of {l : PName} {w w' : World} {s : Str} {c : Int} (h : printV l = (s, c)) (hb : Below w.heap.size w w') : PrintPost l w (.returned (.tuple #[.string ⟨s.toArray⟩, .int .i64 c])) w' := by
 unfold PrintPost
 rw [h]
 exact ⟨rfl, hb⟩
set_option maxRecDepth 20000 in
set_option maxHeartbeats 16000000 in
theorem print_any (B : Nat) (a : Option Addr) (n c : Nat) (l : PName) (w : World) (h : Rdns B w a n c l) (hB : B ≤ w.heap.size) (hE : Env w) :
  Calls Tryz.prog 30 #[.agg #[.slice a n c]] w fun e w' => PrintPost l w e w' := by
 have hn := h.len
 by_cases hbig : 64 < n
 ·have i1 : (64 : Int) < (n : Int) := by omega
  have hp := pv_long (n := l) (.inl (by omega))
  have HP := Zh hp; clear hp hn h hE hbig hB
  go_enter Tryz.func30, Tryz.ntmps30
  go_wp2_with fail
  go_ret2
  exact PrintPost.of HP.out ((Zl _ _).alloc (Zr _) _)
 ·have i1 : ¬ (64 : Int) < (n : Int) := by omega
  have hb1 : Below w.heap.size w (w.alloc (.cells #[.slice a n c] 53)) := (Zl _ _).alloc (Zr _) _
  have hc1 : (w.alloc (.cells #[.slice a n c] 53)).cell? ⟨w.heap.size, 0, none⟩ = some (.slice a n c) := by rw [World.cell?_alloc_new]; rfl
  have hE1 := hE.next hb1
  have h1 := h.keep (hb1.mono hB) (Zr _)
  have hBx : B ≤ (w.alloc (.cells #[.slice a n c] 53)).heap.size := by simp; omega
  have hlt : w.heap.size < (w.alloc (.cells #[.slice a n c] 53)).heap.size := by simp
  have HR := Zh (Zi h1 (Zi hE1 (Zi hb1 (Zi hlt (Zi hBx hc1))))); clear h1 hE1 hb1 hlt h hE hB hc1 hBx
  have HN := Zh hn; clear hn
  go_enter Tryz.func30, Tryz.ntmps30
  go_wp2_with fail
  obtain ⟨h1, hE1, hb1, hlt, hBx, hc1⟩ := HR.out
  clear HR
  generalize w.alloc (.cells #[.slice a n c] 53) = w1 at h1 hE1 hb1 hlt hc1 hBx ⊢
  have HW := Zh (Zi h1 (Zi hE1 hb1)); clear h1 hE1 hb1
  generalize hbx : w.heap.size = bx at hlt hc1 ⊢
  have HBX := Zh hbx; clear hbx
  go_loopw [22] (fun iv wr => ∃ i : Nat, iv = .int .i64 (i : Nat) ∧ i ≤ n ∧ Below w1.heap.size w1 wr ∧ ∀ j r, j < i → l[j]? = some r → r.length ≤ 8) (fun iv _ => n - (intOf iv).toNat)
  case atStart => exact ⟨0, rfl, Nat.zero_le _, Zl _ _, fun j r h => by omega⟩
  case round =>
   obtain ⟨i, rfl, hin, hbl, hall⟩ := hrel
   have HA := Zh hall; clear hall
   have hcx := (hbl.cell hlt).trans hc1
   have HB := Zh hbl; clear hbl
   by_cases hi : i < n
   ·have i2 : (i : Int) < (n : Int) := by omega
    obtain ⟨b, o, rfl, hb⟩ := HW.out.1.lies.ptr (by omega)
    obtain ⟨r, hr⟩ : ∃ r, l[i]? = some r := ⟨_, List.getElem?_eq_getElem (by have := HN.out; omega)⟩
    obtain ⟨a', n', c', hcc, hav⟩ := HW.out.1.cell b o rfl i r hr
    have hlt2 : b < w1.heap.size := Zb w1 _ hcc
    have hcr := (HB.out.cell (p := ⟨b, o + i, none⟩) hlt2).trans hcc
    have hr8 := hav.len
    have HV := Zh (Zi hav hr); clear hcc hav hr
    by_cases h8 : 8 < n'
    ·have i3 : (8 : Int) < (n' : Int) := by omega
     have hp := pv_long (n := l) (.inr ⟨r, List.mem_of_getElem? HV.out.2, by omega⟩)
     have HP := Zh hp; clear hp hr8
     go_wp2_with fail
     go_ret2
     exact PrintPost.of HP.out (HW.out.2.2.trans ((HB.out.alloc HB.out.size _).mono HW.out.2.2.size))
    ·have i3 : ¬ (8 : Int) < (n' : Int) := by omega
     have HR8 := Zh hr8; clear hr8
     go_wp2_with fail
     refine ⟨⟨i + 1, by simp, by omega, HB.out.alloc HB.out.size _, fun j r' hj hjr => ?_⟩, ?_⟩
     ·by_cases e : j = i
      ·subst e
       rw [HV.out.2] at hjr
       cases hjr
       have := HR8.out; omega
      ·exact HA.out j r' (by omega) hjr
     ·simp [intOf]; omega
   ·have i2 : ¬ (i : Int) < (n : Int) := by omega
    have hS1 : Small1 l := ⟨by have := HN.out; omega, fun r hr => by
     obtain ⟨j, hj⟩ := List.getElem?_of_mem hr
     exact HA.out j r (by have := (List.getElem?_eq_some_iff.1 hj).1; have := HN.out; omega) hj⟩
    have HS1 := Zh hS1; clear hS1 HA
    obtain rfl : n = i := by omega
    clear hi hin i2 hc1
    go_wp2_with fail
    go_loopw [34] (fun iv wr => ∃ i : Nat, iv = .int .i64 (i : Nat) ∧ i ≤ n ∧ Below w1.heap.size w1 wr ∧ wr.cell? ⟨bx, 0, none⟩ = some (.slice a n c) ∧ ∀ j r, j < i → l[j]? = some r → r ≠ [] ∧ ∀ x ∈ r, typedV (toL x.1) = true) (fun iv _ => n - (intOf iv).toNat)
    case atStart => exact ⟨0, rfl, Nat.zero_le _, HB.out, hcx, fun j r h => by omega⟩
    case round =>
     clear hcx HB
     obtain ⟨i, rfl, hin, hbl, hcx, hall⟩ := hrel
     have HA := Zh hall; clear hall
     have HB := Zh hbl; clear hbl
     by_cases hi : i < n
     ·have i2 : (i : Int) < (n : Int) := by omega
      obtain ⟨b, o, rfl, hb⟩ := HW.out.1.lies.ptr (by omega)
      obtain ⟨r, hr⟩ : ∃ r, l[i]? = some r := ⟨_, List.getElem?_eq_getElem (by have := HN.out; omega)⟩
      obtain ⟨a', n', c', hcc, hav⟩ := HW.out.1.cell b o rfl i r hr
      have hlt2 : b < w1.heap.size := Zb w1 _ hcc
      have hcr := (HB.out.cell (p := ⟨b, o + i, none⟩) hlt2).trans hcc
      have hrn := hav.len
      have hns := hav.small
      have HV := Zh (Zi hav hr); clear hcc hav hr
      have HRN := Zh hrn; clear hrn
      by_cases h0 : n' = 0
      ·have i3 : ((n' : Int) == 0) = true := by simp; omega
       have hp := pv_bad HS1.out ⟨r, List.mem_of_getElem? HV.out.2, .inl (List.eq_nil_of_length_eq_zero (by have := HRN.out; omega))⟩
       have HP := Zh hp; clear hp h0
       go_wp2_with fail
       go_ret2
       exact PrintPost.of HP.out (HW.out.2.2.trans ((HB.out.alloc HB.out.size _).mono HW.out.2.2.size))
      ·have i3 : ((n' : Int) == 0) = false := by simp; omega
       go_wp2_with fail
       clear hcr
       go_loopw [45] (fun kv wr => ∃ k : Nat, kv = .int .i64 (k : Nat) ∧ k ≤ n' ∧ Below w1.heap.size w1 wr ∧ wr.cell? ⟨bx, 0, none⟩ = some (.slice (some ⟨b, o, none⟩) n c) ∧ ∀ j x, j < k → r[j]? = some x → typedV (toL x.1) = true) (fun kv _ => n' - (intOf kv).toNat)
       case atStart => exact ⟨0, rfl, Nat.zero_le _, HB.out.alloc HB.out.size _, cellA hcx _, fun j r h => by omega⟩
       case round =>
        clear hcx HB
        obtain ⟨k, rfl, hkn, hbl, hcx, hall⟩ := hrel
        have HA2 := Zh hall; clear hall
        have HB := Zh hbl; clear hbl
        by_cases hk : k < n'
        ·have i4 : (k : Int) < (n' : Int) := by omega
         obtain ⟨b2, o2, rfl, hb2⟩ := HV.out.1.lies.ptr (by omega)
         obtain ⟨x, hx⟩ : ∃ x, r[k]? = some x := ⟨_, List.getElem?_eq_getElem (by have := HRN.out; omega)⟩
         obtain ⟨hc0, hc2⟩ := HV.out.1.cell b2 o2 rfl k x hx
         have hlt3 : b2 < w1.heap.size := Zb w1 _ hc0
         have e0 := (HB.out.cell (p := ⟨b2, o2 + k * 2, none⟩) hlt3).trans hc0
         have e1 := (HB.out.cell (p := ⟨b2, o2 + k * 2 + 1, none⟩) hlt3).trans hc2
         have hsz := HV.out.1.size x (List.mem_of_getElem? hx)
         have HX := Zh (Zi hx hsz); clear hc0 hc2 hx hsz
         have hbn := HB.out.alloc HB.out.size (.cells #[.string x.1, .string x.2] 70)
         have hty := fun w2 hE => ntyped_any x.1 w2 hE HX.out.2.1
         have hcn : (wr.alloc (.cells #[.string x.1, .string x.2] 70)).cell? ⟨bx, 0, none⟩ = some (.slice (some ⟨b, o, none⟩) n c) := cellA hcx _
         have HBN := Zh (Zi hbn hcn); clear hbn hcn
         cases htb : typedV (toL x.1) with
         | false =>
          rw [htb] at hty
          have hp := pv_bad HS1.out ⟨r, List.mem_of_getElem? HV.out.2, .inr ⟨x, List.mem_of_getElem? HX.out.1, htb⟩⟩
          have HP := Zh hp; have HTY := Zh hty; clear hp hty htb
          go_wp2_with (go_at_call 68; with_reducible refine (HTY.out _ (HW.out.2.1.next HBN.out.1)).mono ?_; rintro e w3 ⟨rfl, hb3⟩)
          go_ret2
          exact PrintPost.of HP.out (HW.out.2.2.trans ((HBN.out.1.trans (hb3.mono HBN.out.1.size)).mono HW.out.2.2.size))
         | true =>
          rw [htb] at hty
          have HTB := Zh htb; have HTY := Zh hty; clear hty htb
          go_wp2_with (go_at_call 68; with_reducible refine (HTY.out _ (HW.out.2.1.next HBN.out.1)).mono ?_; rintro e w3 ⟨rfl, hb3⟩)
          refine ⟨⟨k + 1, by simp, by omega, HBN.out.1.trans (hb3.mono HBN.out.1.size), (hb3.cell (Zb _ _ HBN.out.2)).trans HBN.out.2, fun j x' hj hjr => ?_⟩, ?_⟩
          ·by_cases e : j = k
           ·subst e
            rw [HX.out.1] at hjr
            cases hjr
            exact HTB.out
           ·exact HA2.out j x' (by omega) hjr
          ·simp [intOf]; omega
        ·have i4 : ¬ (k : Int) < (n' : Int) := by omega
         go_wp2_with fail
         refine ⟨⟨i + 1, by simp, by omega, HB.out, hcx, fun j r' hj hjr => ?_⟩, ?_⟩
         ·by_cases e : j = i
          ·subst e
           rw [HV.out.2] at hjr
           cases hjr
           refine ⟨fun e => ?_, fun x hx => ?_⟩
           ·have := HRN.out
            rw [e] at this
            exact h0 this
           ·obtain ⟨j, hj⟩ := List.getElem?_of_mem hx
            exact HA2.out j x (by have := (List.getElem?_eq_some_iff.1 hj).1; have := HRN.out; omega) hj
          ·exact HA.out j r' (by omega) hjr
         ·simp [intOf]; omega
     ·have i2 : ¬ (i : Int) < (n : Int) := by omega
      have hT2 : Typed2 l := fun r hr => by
       obtain ⟨j, hj⟩ := List.getElem?_of_mem hr
       exact HA.out j r (by have := (List.getElem?_eq_some_iff.1 hj).1; have := HN.out; omega) hj
      have HT2 := Zh hT2; clear hT2 HA
      obtain rfl : n = i := by omega
      clear hi hin i2
      obtain ⟨w4, rfl⟩ : ∃ w4, w4 = wr := ⟨_, rfl⟩
      have hcy := cellA hcx (.cells #[.pointer none, .slice none 0 0] 117)
      have hmk := BldF.made w4
      have hb4 : Below w4.heap.size w4 (w4.alloc (.cells #[.pointer none, .slice none 0 0] 117)) := (Zl _ _).alloc (Zr _) _
      have HM := Zh (Zi hmk hb4); clear hmk hb4 hcx
      go_wp2_with fail
      clear hcy
      go_loopw [58] (fun iv wr => ∃ i : Nat, iv = .int .i64 (i : Nat) ∧ i ≤ n ∧ BldF w4.heap.size w4.heap.size (joinP 44 ((l.map rdnP).take i)) wr ∧ Below w4.heap.size w4 wr ∧ (joinP 44 ((l.map rdnP).take i)).length ≤ 65536 ∧ ∀ j r, j < i → l[j]? = some r → ∀ x ∈ r, x.1.size ≤ 65536 ∧ x.2.size ≤ 65536) (fun iv _ => n - (intOf iv).toNat)
      case atStart => exact ⟨0, rfl, Nat.zero_le _, HM.out.1, HM.out.2, Nat.zero_le _, fun j r h => by omega⟩
      case round =>
       clear HM
       obtain ⟨i, rfl, hin, hbf, hbl, hlen, hall⟩ := hrel
       have HA := Zh hall; clear hall
       have HL := Zh hlen; clear hlen
       have H4 := Zh (Zi hbf hbl)
       have hb4 := hbf.lt
       clear hbf hbl
       by_cases hi : i < n
       ·have i2 : (i : Int) < (n : Int) := by omega
        obtain ⟨b, o, rfl, hb⟩ := HW.out.1.lies.ptr (by omega)
        obtain ⟨r, hr⟩ : ∃ r, l[i]? = some r := ⟨_, List.getElem?_eq_getElem (by have := HN.out; omega)⟩
        obtain ⟨a', n', c', hcc, hav⟩ := HW.out.1.cell b o rfl i r hr
        have hlt2 : b < w1.heap.size := Zb w1 _ hcc
        have hcr := ((HB.out.trans (H4.out.2.mono HB.out.size)).cell (p := ⟨b, o + i, none⟩) hlt2).trans hcc
        have hrn := hav.len
        have hns := hav.small
        have HV := Zh (Zi hav hr); clear hcc hav hr
        have HRN := Zh hrn; clear hrn
        go_upto_if 64 with fail
        clear hcr
        have hnb := cellA_new wr #[.slice a' n' c'] 65
        have ho2 : Own2 w4.heap.size wr.heap.size (wr.alloc (.cells #[.slice a' n' c'] 65)) := ⟨by omega, _, _, _, heap_alloc_new wr _, by decide⟩
        have hf5 := H4.out.1.alloc (.cells #[.slice a' n' c'] 65)
        have hb5 := H4.out.2.alloc H4.out.2.size (.cells #[.slice a' n' c'] 65)
        generalize wr.alloc (.cells #[.slice a' n' c'] 65) = w5 at hnb ho2 hf5 hb5 ⊢
        have hnb0 := hnb 0
        have H5 := Zh (Zi hf5 (Zi hb5 (Zi ho2 hnb0))); clear hf5 hb5 ho2 hnb0 hnb H4
        generalize wr.heap.size = nb at H5 ⊢
        clear hb4
        go_cut [] (fun wx => BldF w4.heap.size w4.heap.size (preP 44 (l.map rdnP) i) wx ∧ Below w4.heap.size w4 wx ∧ wx.cell? ⟨nb, 0, none⟩ = some (.slice a' n' c'))
        case first =>
         by_cases hi0 : i = 0
         ·have z0 : decide ((0 : Int) < (i : Int)) = false := by simp; omega
          have z1 : ¬ (0 : Int) < (i : Int) := by omega
          have HI0 := Zh hi0; clear hi0
          go_wp2_with fail
          go_meet
          have hp : preP 44 (l.map rdnP) i = joinP 44 ((l.map rdnP).take i) := by rw [HI0.out]; rfl
          rw [hp]
          exact ⟨H5.out.1, H5.out.2.1, H5.out.2.2.2⟩
         ·have z0 : decide ((0 : Int) < (i : Int)) = true := by simp; omega
          have z1 : (0 : Int) < (i : Int) := by omega
          have HI0 := Zh hi0; clear hi0
          go_wp2_with (go_at_call 69; with_reducible refine (bbyteX _ _ _ 44 44 rfl _ H5.out.1 (by have := HL.out; omega) H5.out.2.1.size).mono ?_; rintro e w6 ⟨rfl, hf6, hb6, hk6⟩)
          go_meet
          have hp : preP 44 (l.map rdnP) i = joinP 44 ((l.map rdnP).take i) ++ [44] := if_neg HI0.out
          rw [hp]
          exact ⟨hf6, H5.out.2.1.trans hb6, (H5.out.2.2.1.cell hk6 0).trans H5.out.2.2.2⟩
        case rest =>
         obtain ⟨hf6, hb6, hc6⟩ := hcut
         have H6 := Zh (Zi hf6 hb6); clear hf6 hb6 H5
         have hpl : (preP 44 (l.map rdnP) i).length ≤ 65537 := by
          unfold preP
          split
          ·simp
          ·have := HL.out; simp; omega
         have HPL := Zh hpl; clear hpl
         go_wp2_with fail
         clear hc6
         go_loopw [69] (fun kv wr => ∃ k : Nat, kv = .int .i64 (k : Nat) ∧ k ≤ n' ∧ BldF w4.heap.size w4.heap.size (midP l i r k) wr ∧ Below w4.heap.size w4 wr ∧ (0 < k → (midP l i r k).length ≤ 65536) ∧ (midP l i r k).length ≤ 65537 ∧ ∀ j x, j < k → r[j]? = some x → x.1.size ≤ 65536 ∧ x.2.size ≤ 65536) (fun kv _ => n' - (intOf kv).toNat)
         case atStart => exact ⟨0, rfl, Nat.zero_le _, mid0 l i r ▸ H6.out.1, H6.out.2, fun h => absurd h (Nat.lt_irrefl _), mid0 l i r ▸ HPL.out, fun j r h => by omega⟩
         case round =>
          clear H6
          obtain ⟨k, rfl, hkn, hbf, hbl, hlen1, hlen2, hall⟩ := hrel
          have HA2 := Zh hall; clear hall
          have HL2 := Zh (Zi hlen1 hlen2); clear hlen1 hlen2
          have H4 := Zh (Zi hbf hbl)
          have hb4 := hbf.lt
          clear hbf hbl
          by_cases hk : k < n'
          ·have i4 : (k : Int) < (n' : Int) := by omega
           obtain ⟨b2, o2, rfl, hb2⟩ := HV.out.1.lies.ptr (by omega)
           obtain ⟨x, hx⟩ : ∃ x, r[k]? = some x := ⟨_, List.getElem?_eq_getElem (by have := HRN.out; omega)⟩
           obtain ⟨hc0, hc2⟩ := HV.out.1.cell b2 o2 rfl k x hx
           have hlt3 : b2 < w1.heap.size := Zb w1 _ hc0
           have hbw := HB.out.trans (H4.out.2.mono HB.out.size)
           have e0 := (hbw.cell (p := ⟨b2, o2 + k * 2, none⟩) hlt3).trans hc0
           have e1 := (hbw.cell (p := ⟨b2, o2 + k * 2 + 1, none⟩) hlt3).trans hc2
           have hsz := HV.out.1.size x (List.mem_of_getElem? hx)
           have HX := Zh hx; have HSZ := Zh hsz; clear hc0 hc2 hx hsz hbw
           go_upto_if 75 with fail
           clear e0 e1
           have hnb := cellA_new wr #[.string x.1, .string x.2] 70
           have ho2 : Own2 w4.heap.size wr.heap.size (wr.alloc (.cells #[.string x.1, .string x.2] 70)) := ⟨by omega, _, _, _, heap_alloc_new wr _, by decide⟩
           have hf5 := H4.out.1.alloc (.cells #[.string x.1, .string x.2] 70)
           have hb5 := H4.out.2.alloc H4.out.2.size (.cells #[.string x.1, .string x.2] 70)
           generalize wr.alloc (.cells #[.string x.1, .string x.2] 70) = w5 at hnb ho2 hf5 hb5 ⊢
           have hnb0 := hnb 0
           have hnb1 := hnb 1
           have H5 := Zh (Zi hf5 (Zi hb5 (Zi ho2 (Zi hnb0 hnb1)))); clear hf5 hb5 ho2 hnb0 hnb1 hnb H4
           generalize wr.heap.size = nb at H5 ⊢
           clear hb4
           go_cut [] (fun wx => BldF w4.heap.size w4.heap.size (preP 44 (l.map rdnP) i ++ preP 43 (r.map avaP) k) wx ∧ Below w4.heap.size w4 wx ∧ Own2 w4.heap.size nb wx ∧ wx.cell? ⟨nb, 0, none⟩ = some (.string x.1) ∧ wx.cell? ⟨nb, 1, none⟩ = some (.string x.2))
           case first =>
            by_cases hi0 : k = 0
            ·have z0 : decide ((0 : Int) < (k : Int)) = false := by simp; omega
             have z1 : ¬ (0 : Int) < (k : Int) := by omega
             have HI0 := Zh hi0; clear hi0
             go_wp2_with fail
             go_meet
             have hp : preP 44 (l.map rdnP) i ++ preP 43 (r.map avaP) k = midP l i r k := by rw [HI0.out]; rfl
             rw [hp]
             exact H5.out
            ·have z0 : decide ((0 : Int) < (k : Int)) = true := by simp; omega
             have z1 : (0 : Int) < (k : Int) := by omega
             have HI0 := Zh hi0; clear hi0
             go_wp2_with (go_at_call 69; with_reducible refine (bbyteX _ _ _ 43 43 rfl _ H5.out.1 (by have := HL2.out.2; omega) H5.out.2.1.size).mono ?_; rintro e w6 ⟨rfl, hf6, hb6, hk6⟩)
             go_meet
             have hp : preP 44 (l.map rdnP) i ++ preP 43 (r.map avaP) k = midP l i r k ++ [43] := by
              unfold midP
              rw [show preP 43 (r.map avaP) k = joinP 43 ((r.map avaP).take k) ++ [43] from if_neg HI0.out, List.append_assoc]
             rw [hp]
             exact ⟨hf6, H5.out.2.1.trans hb6, H5.out.2.2.1.next hk6, (H5.out.2.2.1.cell hk6 0).trans H5.out.2.2.2.1, (H5.out.2.2.1.cell hk6 1).trans H5.out.2.2.2.2⟩
           case rest =>
            obtain ⟨hf6, hb6, ho6, e0, e1⟩ := hcut
            have HF0 := Zh (Zi hf6 hb6); have HNB := Zh ho6; clear hf6 hb6 ho6 H5
            have hpl2 : (preP 44 (l.map rdnP) i ++ preP 43 (r.map avaP) k).length ≤ 65538 := by
             have h1 := HL2.out.2
             unfold midP at h1
             unfold preP at h1 ⊢
             simp only [List.length_append] at h1 ⊢
             split <;> split <;> simp_all <;> omega
            have HPL2 := Zh hpl2; clear hpl2
            by_cases hs1 : 65536 < x.1.size
            ·have i5 : (65536 : Int) < (x.1.size : Int) := by omega
             have hp := pv_big HS1.out HT2.out (.inl ⟨r, List.mem_of_getElem? HV.out.2, x, List.mem_of_getElem? HX.out, .inl hs1⟩)
             have HP := Zh hp; clear hp
             go_wp2_with fail
             go_ret2
             exact PrintPost.of HP.out (HW.out.2.2.trans ((HB.out.trans (HF0.out.2.mono HB.out.size)).mono HW.out.2.2.size))
            ·have i5 : ¬ (65536 : Int) < (x.1.size : Int) := by omega
             by_cases hs2 : 65536 < x.2.size
             ·have i6 : (65536 : Int) < (x.2.size : Int) := by omega
              have hp := pv_big HS1.out HT2.out (.inl ⟨r, List.mem_of_getElem? HV.out.2, x, List.mem_of_getElem? HX.out, .inr hs2⟩)
              have HP := Zh hp; clear hp
              go_wp2_with fail
              go_ret2
              exact PrintPost.of HP.out (HW.out.2.2.trans ((HB.out.trans (HF0.out.2.mono HB.out.size)).mono HW.out.2.2.size))
             ·have i6 : ¬ (65536 : Int) < (x.2.size : Int) := by omega
              have hln : (preP 44 (l.map rdnP) i ++ preP 43 (r.map avaP) k).length + (x.1 ++ ⟨#[61]⟩ ++ baOf (showV (toL x.2)) : ByteArray).size ≤ 140737488355328 := by
               have h1 := HPL2.out
               have h2 : (x.1 ++ ⟨#[61]⟩ ++ baOf (showV (toL x.2)) : ByteArray).size = (avaP x).length := by rw [← ava_str, ← Lib.size_eq]
               have h3 := avaP_len x
               have h4 : (showV (toL x.2)).length ≤ 3 * (toL x.2).length := showK_len _ _ _
               have h5 : (toL x.2).length = x.2.size := Lib.size_eq x.2
               have h6 : (toL x.1).length = x.1.size := Lib.size_eq x.1
               omega
              have c1 : ¬ 9223372036854775807 < x.1.size + 1 := by omega
              have c2 : ¬ 9223372036854775807 < x.1.size + 1 + (baOf (showV (toL x.2))).size := by
               have h2 : (x.1 ++ ⟨#[61]⟩ ++ baOf (showV (toL x.2)) : ByteArray).size = x.1.size + 1 + (baOf (showV (toL x.2))).size := by rw [ByteArray.size_append, ByteArray.size_append]; rfl
               omega
              have HLN := Zh hln; clear hln
              go_wp2_with fail
              refine wp_region_held_drew (S := fun w' => w'.cell? ⟨nb, 0, none⟩ = some (.string x.1) ∧ w'.cell? ⟨nb, 1, none⟩ = some (.string x.2)) (by kernel_rfl) ⟨e0, e1⟩ (fun hHeld => ?_)
              have hd : Below wc.heap.size wc wc.drew := (Zl _ _).drew
              have hf6 := HF0.out.1.keep hd
              have hb6 := HF0.out.2.trans (hd.mono HF0.out.2.size)
              have ho6 := HNB.out.keep hd
              clear e0 e1 hd HF0 HNB
              generalize wc.drew = w6 at hHeld hf6 hb6 ho6 ⊢
              have HF := Zh (Zi hf6 hb6); have HNB := Zh ho6; clear hf6 hb6 ho6
              have e0 := hHeld.1
              have e1 := hHeld.2
              refine Zk (i := 0) rfl ?r1
              (try simp only [Act.put, Z1, Z2, Z3, Z4, Z5])
              refine Zk (i := 1) rfl ?r2
              (try simp only [Act.put, Z1, Z2, Z3, Z4, Z5, Z6])
              refine Zk (i := 2) rfl ?r3
              (try simp only [Act.put, Z1, Z2, Z3, Z4, Z5, Z6])
              refine Zk (i := 3) rfl ?r4
              (try simp only [Act.put, Z1, Z2, Z3, Z4, Z5, Z6])
              refine Zk (i := 4) rfl ?r5
              (try simp only [Act.put, Z1, Z2, Z3, Z4, Z5, Z6])
              refine wpAnyH_ready (rs := [5]) (by kernel_rfl) (by simp) ?_
              refine AllReadyH.cons rfl (fun K1 hK1 => ?_) AllReadyH.nil
              go_simp
              go_at_call 71
              with_reducible refine (show_any x.2 _ HSZ.out.2).mono ?_
              rintro e w7 ⟨rfl, hb7⟩
              have H7 := Zh (Zi (HF.out.1.keep hb7) (HF.out.2.trans (hb7.mono HF.out.2.size)))
              have g0 := (hb7.cell (Zb _ _ e0)).trans e0
              have g1 := (hb7.cell (Zb _ _ e1)).trans e1
              have gh := HNB.out.keep hb7
              have HNB7 := Zh gh
              clear hb7 gh
              go_wp2_with fail
              refine hK1.out _ _ ?_ (fun hHeld => ?_)
              ·exact ⟨g0, g1⟩
              clear hK1 K1
              (try simp only [Act.put, Z1, Z2, Z3, Z4, Z5, Z6])
              refine Zk (i := 6) rfl ?r6
              (try simp only [Act.put, Z1, Z2, Z3, Z4, Z5, Z6])
              refine wpAnyH_ready (rs := [7]) (by kernel_rfl) (by simp) ?_
              refine AllReadyH.cons rfl (fun K1 hK1 => ?_) AllReadyH.nil
              go_simp
              go_at_call 70
              with_reducible refine (bstrL _ _ _ _ _ H7.out.1 HLN.out H7.out.2.size).mono ?_
              rintro e w8 ⟨rfl, hf8, hb8, hk8⟩
              have q0 := HNB7.out.cell hk8 0
              have q1 := HNB7.out.cell hk8 1
              have H8 := Zh (Zi hf8 (H7.out.2.trans hb8))
              clear hf8 hb8 hk8
              go_wp2_with fail
              refine hK1.out _ _ ?_ (fun hHeld => ?_)
              ·exact ⟨q0.trans g0, q1.trans g1⟩
              clear hK1 K1
              (try simp only [Act.put, Z1, Z2, Z3, Z4, Z5, Z6])
              refine wpAnyH_done (by kernel_rfl) ?_ _
              clear hHeld g0 g1 q0 q1 e0 e1
              have hm := midP_next (n := l) (i := i) HX.out
              have hb8 := H8.out.1
              rw [ava_str, ← hm] at hb8
              have HB8 := Zh (Zi hb8 H8.out.2); clear hb8 hm H8
              by_cases hlong : 65536 < (midP l i r (k + 1)).length
              ·have i7 : (65536 : Int) < ((midP l i r (k + 1)).length : Int) := by omega
               have hp := pv_big HS1.out HT2.out (.inr (Nat.lt_of_lt_of_le hlong (midP_le HV.out.2)))
               have HP := Zh hp; clear hp
               go_wp2_with (go_at_call 72; with_reducible refine (blenL _ _ _ _ HB8.out.1).mono ?_; rintro e w9 ⟨rfl, rfl⟩)
               go_ret2
               exact PrintPost.of HP.out (HW.out.2.2.trans ((HB.out.trans (HB8.out.2.mono HB.out.size)).mono HW.out.2.2.size))
              ·have i7 : ¬ (65536 : Int) < ((midP l i r (k + 1)).length : Int) := by omega
               go_wp2_with (go_at_call 72; with_reducible refine (blenL _ _ _ _ HB8.out.1).mono ?_; rintro e w9 ⟨rfl, rfl⟩)
               refine ⟨⟨k + 1, by simp, by omega, HB8.out.1, HB8.out.2, fun _ => by omega, by omega, fun j x' hj hjr => ?_⟩, ?_⟩
               ·by_cases e : j = k
                ·subst e
                 rw [HX.out] at hjr
                 cases hjr
                 exact ⟨by omega, by omega⟩
                ·exact HA2.out j x' (by omega) hjr
               ·simp [intOf]; omega
          ·have i4 : ¬ (k : Int) < (n' : Int) := by omega
           obtain rfl : n' = k := by omega
           have hme := midP_end (k := n') HV.out.2 (by have := HRN.out; omega)
           have hr0 := (HT2.out r (List.mem_of_getElem? HV.out.2)).1
           have hn0 : 0 < n' := by
            have := HRN.out
            rcases Nat.eq_zero_or_pos n' with h | h
            ·exact absurd (List.eq_nil_of_length_eq_zero (by omega)) hr0
            ·exact h
           have HME := Zh hme; clear hme hr0
           go_wp2_with fail
           refine ⟨⟨i + 1, by simp, by omega, HME.out ▸ H4.out.1, H4.out.2, HME.out ▸ HL2.out.1 hn0, fun j r' hj hjr => ?_⟩, ?_⟩
           ·by_cases e : j = i
            ·subst e
             rw [HV.out.2] at hjr
             cases hjr
             intro x hx
             obtain ⟨j2, hj2⟩ := List.getElem?_of_mem hx
             exact HA2.out j2 x (by have := (List.getElem?_eq_some_iff.1 hj2).1; have := HRN.out; omega) hj2
            ·exact HA.out j r' (by omega) hjr
           ·simp [intOf]; omega
       ·have i2 : ¬ (i : Int) < (n : Int) := by omega
        obtain rfl : n = i := by omega
        have hnm : joinP 44 ((l.map rdnP).take n) = nameP l := by
         rw [List.take_of_length_le (by have := HN.out; simp; omega)]; rfl
        have hok := pv_ok HS1.out HT2.out (fun r hr => by
         obtain ⟨j, hj⟩ := List.getElem?_of_mem hr
         exact HA.out j r (by have := (List.getElem?_eq_some_iff.1 hj).1; have := HN.out; omega) hj) (hnm ▸ HL.out)
        have hf := hnm ▸ H4.out.1
        have HOK := Zh hok; have HF := Zh hf; clear hok hf hnm
        go_wp2_with (go_at_call 73; with_reducible refine (bstringL _ _ _ _ HF.out H4.out.2.size).mono ?_; rintro e w6 ⟨rfl, hb6⟩)
        go_ret2
        exact PrintPost.of HOK.out (HW.out.2.2.trans ((HB.out.trans ((H4.out.2.trans hb6).mono HB.out.size)).mono HW.out.2.2.size))
end Go.Proofs.YtlmfbjhokkpjhaaGreatDoor
