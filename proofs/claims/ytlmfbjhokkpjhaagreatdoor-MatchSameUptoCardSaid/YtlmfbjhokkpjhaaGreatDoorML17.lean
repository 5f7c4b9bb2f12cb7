/- Part 17 of the walks and plain laws, joined: MatPart3, Taken, Word2, Oid2. -/
import Derived.Test.YtlmfbjhokkpjhaaGreatDoorML00
import Derived.Test.YtlmfbjhokkpjhaaGreatDoorML16
import Derived.Test.YtlmfbjhokkpjhaaGreatDoorML11
import Derived.Test.YtlmfbjhokkpjhaaGreatDoorML10
import Derived.Test.YtlmfbjhokkpjhaaGreatDoorML07
import Derived.Test.YtlmfbjhokkpjhaaGreatDoorML06
import Derived.Test.YtlmfbjhokkpjhaaGreatDoorShelfM
import Derived.Shelf.Strings.SlTrimAscii
set_option linter.unusedVariables false
set_option linter.unusedSimpArgs false
namespace Go.Proofs.YtlmfbjhokkpjhaaGreatDoor
open Go Go.RowKit Go.Maps
set_option maxRecDepth 20000 in
set_option maxHeartbeats 8000000 in
theorem mpart_any (p : Addr) (r : Int) (K : Str → Str × Bool) (va s e : ByteArray) (B : Nat) (a : Option Addr) (n c : Nat) (ms : List ByteArray) (w : World) (hE : Env w) (hES : EnvS w) (hEM : EnvM w) (hr : -128 ≤ r ∧ r ≤ 127) (h3 : sortV r = 3)
  (ht : Texts B w a n c ms) (hB : B ≤ w.heap.size) (hK : KeyAt w (some p) r K) (hs : s.size ≤ 9223372036854775807) (he : e.size ≤ 9223372036854775807) (hk : (K (toL va)).1.length < 4294967281) :
  Calls Tryz.prog 50 #[.pointer (some p), .int .i8 r, .string va, .string s, .slice a n c, .string e] w fun en w' => en = .returned (.int .i8 (partV r K (toL va) (toL s) (toL e) (ms.map toL))) ∧ Below w.heap.size w w' := by
 have hso := sortOf_any r w hEM hr
 rw [h3] at hso
 have hfo := form_any r w hES hr
 have hkk := fun w' (hb : Below w.heap.size w w') => hK w' va hb
 obtain ⟨pv, hpv⟩ : ∃ pv, partV r K (toL va) (toL s) (toL e) (ms.map toL) = pv := ⟨_, rfl⟩
 rw [hpv]
 unfold partV at hpv
 rw [if_neg (by rw [h3]; simp)] at hpv
 generalize K (toL va) = k at hkk hpv hk
 generalize (lineOf r).form = f at hfo hpv
 generalize (lineOf r).syn = y at hfo
 have hsn := ht.small
 have hnl := ht.len
 have HSO := Zh hso; have HFO := Zh hfo; have HKK := Zh hkk; have HPV := Zh hpv; have HT := Zh (Zi ht hB); have HEE := Zh hE; have HSZ := Zh (Zi hs (Zi he (Zi hk hnl)))
 clear hso hfo hkk hpv ht hB hE hES hEM hK hs he hk h3 hr hnl
 go_enter Tryz.func50, Tryz.ntmps50
 go_upto_region 6 with (first
  | (go_at_call 51; with_reducible refine (HSO.out).mono ?_; rintro e w1 ⟨rfl, rfl⟩)
  | (go_at_call 55; with_reducible refine (HFO.out).mono ?_; rintro e w1 ⟨rfl, hb1⟩; have HB1 := Zh hb1; clear hb1)
  | fail)
 have hb2 : Below w.heap.size w ((w1.alloc (.cells #[.int .i8 f] 26)).alloc (.cells #[.bool true] 4)) := (HB1.out.alloc HB1.out.size _).alloc (by simp; have := HB1.out.size; omega) _
 have hp2 : PAt ((w1.alloc (.cells #[.int .i8 f] 26)).alloc (.cells #[.bool true] 4)) w1.heap.size (w1.heap.size + 1) f true := by
  have e1 : (w1.alloc (.cells #[.int .i8 f] 26)).heap.size = w1.heap.size + 1 := by simp
  have h1 := World.cell?_alloc_new (w1.alloc (.cells #[.int .i8 f] 26)) #[.bool true] 4 0
  have h2 := frozen_of_row _ _ 0 _ _ (heap_alloc_new (w1.alloc (.cells #[.int .i8 f] 26)) (.cells #[.bool true] 4))
  rw [e1] at h1 h2
  exact ⟨by rw [World.cell?_alloc_lt _ _ _ (by simp), World.cell?_alloc_new]; rfl, h1, h2, by omega⟩
 have hcs := HB1.out.size
 generalize (w1.alloc (.cells #[.int .i8 f] 26)).alloc (.cells #[.bool true] 4) = w2 at hb2 hp2 ⊢
 generalize hcf : w1.heap.size = cf at hp2 hcs ⊢
 generalize hco : cf + 1 = co at hp2 ⊢
 have hcl : w.heap.size ≤ cf ∧ cf < co := by omega
 have H2 := Zh (Zi hb2 (Zi hp2 hcl)); clear hb2 hp2 hcf hco hcl hcs
 have hpc : ∀ (wh : Int) (q : ByteArray) (ok : Bool) (wq : World), Below w.heap.size w wq → PAt wq cf co f ok → q.size ≤ 9223372036854775807 →
   Calls Tryz.prog 95 #[.int .i8 wh, .string q, .pointer (some ⟨cf, 0, none⟩), .pointer (some ⟨co, 0, none⟩)] wq fun en w' => (en = .returned (.string ⟨(pieceF f wh (toL q)).1.toArray⟩)) ∧ PAt w' cf co f (ok && (pieceF f wh (toL q)).2) ∧ Chg (· = co) wq w' ∧ Below w.heap.size w w' := fun wh q ok wq hb hp hq =>
  (part1_any wh q cf co f ok wq hp (HEE.out.next hb) hq).mono fun en w' ⟨h1, h2, h3⟩ => ⟨h1, h2, h3, hb.trans (h3.below hb.size fun b hb' e => by have := H2.out.2.2; omega)⟩
 have hpS := fun wq ok h1 h2 => hpc 0 s ok wq h1 h2 HSZ.out.1
 have hpE := fun wq ok h1 h2 => hpc 2 e ok wq h1 h2 HSZ.out.2.1
 obtain ⟨ps, hps⟩ : ∃ ps, pieceF f 0 (toL s) = ps := ⟨_, rfl⟩
 obtain ⟨pe, hpe⟩ : ∃ pe, pieceF f 2 (toL e) = pe := ⟨_, rfl⟩
 rw [hps] at hpS
 rw [hpe] at hpE
 obtain ⟨psl, psb⟩ := ps
 obtain ⟨pel, peb⟩ := pe
 have HPC := Zh hpc; have HPS := Zh hpS; have HPE := Zh hpE; have HQ := Zh (Zi hps hpe); clear hpc hpS hpE hps hpe
 have hmk := fun wq => makeStr0 n hsn wq
 go_upto_region 7 with (first
  | (go_at_call 95; (with_reducible refine (HPS.out _ true H2.out.1 H2.out.2.1).mono ?_); rintro en w3 ⟨rfl, h31, h32, h33⟩; have H3 := Zh (Zi h33 (Zi h31 h32)); clear h31 h32 h33)
  | (go_at_call 95; (with_reducible refine (HPE.out _ _ H3.out.1 H3.out.2.1).mono ?_); rintro en w4 ⟨rfl, h31, h32, h33⟩; have H4 := Zh (Zi h33 (Zi h31 h32)); clear h31 h32 h33)
  | fail)
 obtain ⟨cs, hmk1, hmk2⟩ := hmk w4
 have hv5 : Vec 9 1 w (w4.alloc (.cells cs 9)) (some w4.heap.size) 0 n [] := ⟨hmk2, fun g hg => by cases hg; exact H4.out.1.size, H4.out.1.alloc H4.out.1.size _⟩
 have hp5 := H4.out.2.1.keep ((Zl w4.heap.size w4).alloc (Zr _) (.cells cs 9))
 have hcw4 : cf < w4.heap.size ∧ co < w4.heap.size := ⟨Zb w4 _ H4.out.2.1.form, Zb w4 _ H4.out.2.1.ok⟩
 have H5 := Zh (Zi hv5 (Zi hp5 hcw4)); clear hv5 hp5 hcw4 hmk hmk2
 go_wp2_with fail
 clear hmk1
 generalize w4.alloc (.cells cs 9) = w5 at H5 ⊢
 generalize w4.heap.size = bt at H5 ⊢
 go_loopw [19, 55] (fun bv iv wr => ∃ (i g2 cap2 : Nat), bv = .slice (some ⟨g2, 0, none⟩) i cap2 ∧ iv = .int .i64 i ∧ i ≤ n ∧ Vec 9 1 w wr (some g2) i cap2 (pieceVs f ((ms.map toL).take i)) ∧ PAt wr cf co f (true && psb && peb && ((ms.map toL).take i).all fun m => (pieceF f 1 m).2) ∧ cf < g2 ∧ co < g2) (fun _ iv _ => n - (intOf iv).toNat)
 case atStart => exact ⟨0, bt, n, rfl, rfl, Nat.zero_le _, H5.out.1, by simpa using H5.out.2.1, H5.out.2.2⟩
 case round =>
  clear H5 H4 H3 w3 w4 w5
  obtain ⟨i, g2, cap2, rfl, rfl, hi, hv, hp, hg1, hg2⟩ := hrel
  have HR := Zh (Zi hv (Zi hp (Zi hg1 hg2))); clear hv hp hg1 hg2
  by_cases hlt : i < n
  ·have hli : i < ms.length := by have := HSZ.out.2.2.2; omega
   obtain ⟨tb, tx, rfl, htb⟩ := HT.out.1.lies.ptr (by omega)
   have hc := (HT.out.1.keep (HR.out.1.below.mono HT.out.2) (Zr _)).cell tb tx rfl i _ (List.getElem?_eq_getElem hli)
   have hsz := HT.out.1.size _ (List.getElem_mem hli)
   have htk : (ms.map toL).take (i + 1) = (ms.map toL).take i ++ [toL ms[i]] := by
    rw [List.take_succ_eq_append_getElem (by simpa using hli)]; simp
   generalize ms[i] = m at hc hsz htk
   have hcl := HPC.out 1 m _ wr HR.out.1.below HR.out.2.1 (by omega)
   obtain ⟨pm, hpm⟩ : ∃ pm, pieceF f 1 (toL m) = pm := ⟨_, rfl⟩
   rw [hpm] at hcl
   have HCL := Zh hcl; have HTK := Zh (Zi htk hpm); clear hcl htk hpm hsz
   go_wp2_with (first
    | (go_at_call 95; (with_reducible refine (HCL.out).mono ?_); rintro en w3 ⟨rfl, h31, h32, h33⟩; have hv3 := HR.out.1.chg h32 (fun g e => by have := H2.out.2.2; omega) (fun g e => by cases e; have := HR.out.2.2.2; omega); have HV3 := Zh hv3; have H3 := Zh (Zi h33 (Zi h31 h32)); clear h31 h32 h33 hv3)
    | (at_builtin; refine HV3.out.push2 eiStr rfl _ _ rfl rfl 1 [.string ⟨pm.1.toArray⟩] #[.string ⟨pm.1.toArray⟩] rfl rfl rfl (fun u hu => by simp at hu; subst hu; rfl) (i + 1) rfl (by omega) ?_; intro g3 cap3 w5 hv5 hg5 hat5; have H5 := Zh (Zi hv5 (Zi hg5 hat5)); clear hv5 hg5 hat5)
    | fail)
   have hlow := HR.out.2.2
   have hp3 := (H3.out.2.1.keep ((Zl w3.heap.size w3).alloc (Zr _) (.cells #[.string ⟨pm.1.toArray⟩] 9))).chg (chg_grown H5.out.2.1) (fun e => by injection e with e; omega) (fun e => by injection e with e; omega)
   have hg3 : cf < g3 ∧ co < g3 := by
    have h1 := Zb w3 _ H3.out.2.1.form
    have h2 := Zb w3 _ H3.out.2.1.ok
    simp only at h1 h2
    rcases H5.out.2.2 with e | e <;> omega
   refine ⟨⟨i + 1, g3, cap3, rfl, by simp, by omega, ?_, ?_, hg3⟩, by simp [intOf]; omega⟩
   ·rw [HTK.out.1]
    unfold pieceVs
    rw [List.map_append, List.map_cons, List.map_nil, HTK.out.2]
    exact H5.out.1
   ·rw [HTK.out.1, List.all_append]
    simp only [List.all_cons, List.all_nil, HTK.out.2, Bool.and_true]
    rw [← Bool.and_assoc]
    exact hp3
  ·obtain rfl : i = n := by omega
   have hall : (ms.map toL).take i = ms.map toL := List.take_of_length_le (by have := HSZ.out.2.2.2; simp; omega)
   have hr := HR.out
   rw [hall] at hr
   have hfine : (true && psb && peb && (ms.map toL).all fun m => (pieceF f 1 m).2) = partFine f (toL s) (toL e) (ms.map toL) := by unfold partFine; rw [HQ.out.1, HQ.out.2]; simp
   rw [hfine] at hr
   have HR2 := Zh hr; clear hr hall hfine HR
   have e1 := HR2.out.2.1.ok
   cases hfb : partFine f (toL s) (toL e) (ms.map toL) with
   | false =>
    rw [hfb] at e1
    have hfin : pv = 2 := by rw [← HPV.out, if_pos hfb]
    have HFIN := Zh hfin; clear hfin hfb
    go_wp2_with fail
    go_ret
    exact ⟨by rw [HFIN.out]; rfl, HR2.out.1.below⟩
   | true =>
    rw [hfb] at e1
    have hfin : pv = partEnd f k (toL s) (toL e) (ms.map toL) := by rw [← HPV.out, if_neg (by rw [hfb]; simp)]
    have HFIN := Zh hfin; clear hfin hfb HPV
    have hkk := fun w' (hb : Below w.heap.size w w') => HKK.out w' hb
    obtain ⟨kl, kb⟩ := k
    unfold ret2 at hkk
    have HK2 := Zh hkk; clear hkk HKK
    have hfr := HR2.out.2.1.fr
    cases kb with
    | false =>
     have hf0 : pv = 0 := by rw [HFIN.out]; exact if_pos rfl
     have HF0 := Zh hf0; clear hf0 HFIN
     go_wp2_with (first | (go_at_call 11; refine (HK2.out _ HR2.out.1.below).mono ?_; rintro en w6 ⟨rfl, hb6⟩; have e2 := (HR2.out.2.1.keep hb6).ok; have e3 := (HR2.out.2.1.keep hb6).fr; have H6 := Zh (bnext HR2.out.1.below hb6); clear hb6 e1 hfr) | fail)
     go_ret
     exact ⟨by rw [HF0.out]; rfl, H6.out.setCell (by have := H2.out.2.2; show w.heap.size ≤ co; omega) _⟩
    | true =>
     have hf0 : pv = if (Lib.hasPrefix kl psl && Lib.hasSuffix (Lib.trimPrefix kl psl) pel) = false then 0 else cutAll (Lib.trimSuffix (Lib.trimPrefix kl psl) pel) ((ms.map toL).map fun m => (pieceF f 1 m).1) := by
      rw [HFIN.out]; unfold partEnd; rw [if_neg (by simp), HQ.out.1, HQ.out.2]
     have hlen : kl.length < 4294967281 := HSZ.out.2.2.1
     have hl1 : (Lib.trimPrefix kl psl).length ≤ kl.length := by unfold Lib.trimPrefix; split <;> simp
     have hl2 : (Lib.trimSuffix (Lib.trimPrefix kl psl) pel).length ≤ (Lib.trimPrefix kl psl).length := by unfold Lib.trimSuffix; split <;> simp
     have hcp := fun wq => Tryz.strings_CutPrefix ⟨kl.toArray⟩ ⟨psl.toArray⟩ wq
     have hcs := fun wq => Tryz.strings_CutSuffix ⟨(Lib.trimPrefix kl psl).toArray⟩ ⟨pel.toArray⟩ wq (by rw [Lib.size_eq]; show (Lib.trimPrefix kl psl).length ≤ _; omega)
     change ∀ wq, Calls Tryz.prog 97 #[.string ⟨kl.toArray⟩, .string ⟨psl.toArray⟩] wq fun e w' => e = .returned (.tuple #[.string ⟨(Lib.trimPrefix kl psl).toArray⟩, .bool (Lib.hasPrefix kl psl)]) ∧ w' = wq at hcp
     change ∀ wq, Calls Tryz.prog 98 #[.string ⟨(Lib.trimPrefix kl psl).toArray⟩, .string ⟨pel.toArray⟩] wq fun e w' => e = .returned (.tuple #[.string ⟨(Lib.trimSuffix (Lib.trimPrefix kl psl) pel).toArray⟩, .bool (Lib.hasSuffix (Lib.trimPrefix kl psl) pel)]) ∧ w' = wq at hcs
     generalize Lib.hasSuffix (Lib.trimPrefix kl psl) pel = b2 at hcs hf0
     generalize Lib.trimSuffix (Lib.trimPrefix kl psl) pel = r2 at hcs hf0 hl2
     generalize Lib.trimPrefix kl psl = r1 at hcp hcs hl1 hl2
     generalize Lib.hasPrefix kl psl = b1 at hcp hf0
     have hr2 : r2.length ≤ 4294967280 := by omega
     have HCP := Zh hcp; have HCS := Zh hcs; have HF0 := Zh hf0; have HR2L := Zh hr2; clear hcp hcs hf0 hlen hl1 hl2 hr2 HFIN
     by_cases hbb : (b1 && b2) = false
     ·have hz : pv = 0 := by rw [HF0.out, if_pos hbb]
      have HZ := Zh hz; clear hz HF0
      rcases (by cases b1 with | false => exact .inl rfl | true => exact .inr ⟨rfl, by simpa using hbb⟩ : b1 = false ∨ (b1 = true ∧ b2 = false)) with rfl | ⟨rfl, rfl⟩ <;> (
       clear hbb
       go_wp2_with (first
        | (go_at_call 11; refine (HK2.out _ HR2.out.1.below).mono ?_; rintro en w6 ⟨rfl, hb6⟩; have e2 := (HR2.out.2.1.keep hb6).ok; have e3 := (HR2.out.2.1.keep hb6).fr; have H6 := Zh (bnext HR2.out.1.below hb6); clear hb6 e1 hfr)
        | (go_at_call 97; (with_reducible refine (HCP.out _).mono ?_); rintro en w7 ⟨rfl, rfl⟩)
        | (go_at_call 98; (with_reducible refine (HCS.out _).mono ?_); rintro en w7 ⟨rfl, rfl⟩)
        | fail)
       go_ret
       exact ⟨by rw [HZ.out]; rfl, H6.out.setCell (by have := H2.out.2.2; show w.heap.size ≤ co; omega) _⟩)
     ·have hb12 : b1 = true ∧ b2 = true := by simpa using hbb
      obtain ⟨rfl, rfl⟩ := hb12
      have hz : pv = cutAll r2 ((ms.map toL).map fun m => (pieceF f 1 m).1) := by rw [HF0.out, if_neg (by simp)]
      have HZ := Zh hz; clear hz HF0 hbb
      go_wp2_with (first
       | (go_at_call 11; refine (HK2.out _ HR2.out.1.below).mono ?_; rintro en w6 ⟨rfl, hb6⟩; have e2 := (HR2.out.2.1.keep hb6).ok; have e3 := (HR2.out.2.1.keep hb6).fr; have hv6 := HR2.out.1.next hb6; have H6 := Zh hv6; clear hb6 e1 hfr hv6)
       | (go_at_call 97; (with_reducible refine (HCP.out _).mono ?_); rintro en w7 ⟨rfl, rfl⟩)
       | (go_at_call 98; (with_reducible refine (HCS.out _).mono ?_); rintro en w7 ⟨rfl, rfl⟩)
       | fail)
      have hv7 : Vec 9 1 w (w6.setCell ⟨co, 0, none⟩ (.bool true)) (some g2) i cap2 (pieceVs f (ms.map toL)) :=
       H6.out.chg (S := fun x => x = co) (Chg.setCell (S := fun x => x = co) (p := ⟨co, 0, none⟩) (Chg.refl _ _) (fun _ => rfl) _) (fun g e => by have := H2.out.2.2; omega) (fun g e e2 => by cases e; have := HR2.out.2.2; omega)
      generalize w6.setCell ⟨co, 0, none⟩ (.bool true) = w7 at hv7 ⊢
      have H7 := Zh hv7; clear hv7 H6 e2 e3
      generalize hPL : ((ms.map toL).map fun m => (pieceF f 1 m).1) = PL at HZ
      have hPV : pieceVs f (ms.map toL) = PL.map fun x => .string ⟨x.toArray⟩ := by rw [← hPL]; unfold pieceVs; simp only [List.map_map]; rfl
      have hPLn : PL.length = i := by rw [← hPL]; simp; exact HSZ.out.2.2.2.symm
      have h7 := H7.out
      rw [hPV] at h7
      have H8 := Zh (Zi h7 hPLn); clear h7 hPLn hPV hPL H7
      go_loopw [97, 23] (fun iv rv wq => ∃ (j : Nat) (rest : Str), iv = .int .i64 j ∧ rv = .string ⟨rest.toArray⟩ ∧ j ≤ i ∧ rest.length ≤ 4294967280 ∧ pv = cutAll rest (PL.drop j) ∧ Below w7.heap.size w7 wq) (fun iv _ _ => i - (intOf iv).toNat)
      case atStart => exact ⟨0, r2, rfl, rfl, Nat.zero_le _, HR2L.out, by rw [HZ.out]; rfl, Zl _ _⟩
      case round =>
       obtain ⟨j, rest, rfl, rfl, hj, hrl, hpv, hbq⟩ := hrel
       have HPVJ := Zh hpv; have HBQ := Zh hbq; clear hpv hbq
       by_cases hlt2 : j < i
       ·have hjl : j < PL.length := by rw [H8.out.2]; exact hlt2
        have hc := (H8.out.1.next HBQ.out).cell (j := j) (v := .string ⟨PL[j].toArray⟩) (by simp [hjl])
        have hpv := HPVJ.out
        rw [List.drop_eq_getElem_cons hjl] at hpv
        have hcd : ∀ (x : Str) (l : List Str), cutAll rest (x :: l) = if (Lib.cut rest x).2.2 then cutAll (Lib.cut rest x).2.1 l else 0 := fun x l => rfl
        rw [hcd] at hpv
        generalize PL[j] = x at hc hpv
        obtain ⟨mx, hmx⟩ := (HEE.out.next (bnext H8.out.1.below HBQ.out)).max
        have hct := Tryz.strings_Cut ⟨rest.toArray⟩ ⟨x.toArray⟩ mx wr (by rw [Lib.size_eq]; show rest.length < _; omega) hmx
        have hcl2 := cut_len rest x
        change Calls Tryz.prog 99 #[.string ⟨rest.toArray⟩, .string ⟨x.toArray⟩] wr fun e w' => e = .returned (.tuple #[.string ⟨(Lib.cut rest x).1.toArray⟩, .string ⟨(Lib.cut rest x).2.1.toArray⟩, .bool (Lib.cut rest x).2.2]) ∧ ∃ n, w' = wr.drewN n at hct
        generalize Lib.cut rest x = ct at hct hpv hcl2
        obtain ⟨ca, cb, cc⟩ := ct
        simp only at hct hcl2
        have HCT := Zh hct; clear hct hcd hmx
        cases cc with
        | false =>
         have hz : pv = 0 := hpv
         have HZ0 := Zh hz; clear hz hpv HPVJ
         go_wp2_with (first | (go_at_call 99; (with_reducible refine (HCT.out).mono ?_); rintro en w9 ⟨rfl, q9, rfl⟩) | fail)
         go_ret
         exact ⟨by rw [HZ0.out]; rfl, bdrewN (bnext H8.out.1.below HBQ.out) _⟩
        | true =>
         have hz : pv = cutAll cb (PL.drop (j + 1)) := hpv
         have HZ0 := Zh hz; clear hz hpv HPVJ
         go_wp2_with (first | (go_at_call 99; (with_reducible refine (HCT.out).mono ?_); rintro en w9 ⟨rfl, q9, rfl⟩) | fail)
         exact ⟨⟨j + 1, cb, by simp, rfl, by omega, by omega, HZ0.out, bdrewN HBQ.out _⟩, by simp [intOf]; omega⟩
       ·obtain rfl : j = i := by omega
        have hz : pv = 1 := by rw [HPVJ.out, List.drop_eq_nil_of_le (by rw [H8.out.2]; exact Zr _)]; rfl
        have HZ0 := Zh hz; clear hz HPVJ
        go_wp2_with fail
        go_ret
        exact ⟨by rw [HZ0.out]; rfl, bnext H8.out.1.below HBQ.out⟩
end Go.Proofs.YtlmfbjhokkpjhaaGreatDoor
namespace Go.Proofs.YtlmfbjhokkpjhaaGreatDoor
open Go Go.RowKit Go.Maps
structure Seen (w : World) (b i : Nat) (ks : List Str) : Prop where
 own : ∃ g : Str → Option Nat, MapIs w b i g ∧ (∀ k, (g k).getD 0 ≤ i) ∧ ∀ k, 0 < (g k).getD 0 ↔ k ∈ ks
theorem Seen.made (w : World) : Seen (w.alloc (.map #[] 0)) w.heap.size 0 [] := ⟨fun _ => none, MapIs.made w, fun _ => Zr _, fun k => by simp⟩
theorem Seen.keep {w w' : World} {b i B : Nat} {ks : List Str} (h : Seen w b i ks) (k : Below B w w') (hb : b < B) : Seen w' b i ks := by
 obtain ⟨g, h1, h2⟩ := h.own; exact ⟨g, h1.keep k hb, h2⟩
theorem Seen.lt {w : World} {b i : Nat} {ks : List Str} (h : Seen w b i ks) : b < w.heap.size := by obtain ⟨g, h1, _⟩ := h.own; exact h1.lt
theorem takenB_at (f : Str → Option Nat) (place : Nat) (K : List Str) {i : Nat} (h : i < K.length) (seen : List Str) :
  takenB f place (K.drop i) seen = (decide ((f K[i]).getD 0 < place) || seen.contains K[i] || takenB f place (K.drop (i + 1)) (K[i] :: seen)) := by
 rw [List.drop_eq_getElem_cons h]; rfl
theorem takenB_end (f : Str → Option Nat) (place : Nat) (K : List Str) {i : Nat} (h : ¬ i < K.length) (seen : List Str) : takenB f place (K.drop i) seen = false := by
 rw [List.drop_eq_nil_of_le (by omega)]; rfl
set_option maxRecDepth 20000 in
set_option maxHeartbeats 1000000 in
theorem taken_any (B N mb place : Nat) (f : Str → Option Nat) (oid : ByteArray) (a : Option Addr) (n c : Nat) (names : List ByteArray) (w : World) (h : Texts B w a n c names) (ho : oid.size ≤ 4294967280)
    (hm : MapIs w mb N f) (hB : B ≤ w.heap.size) :
    Calls Tryz.prog 91 #[.map (some mb), .int .i64 (place : Int), .string oid, .slice a n c] w fun e w' => e = .returned (.bool (takenB f place (keysN oid names) [])) ∧ Below w.heap.size w w' := by
  have hnl := h.len
  have hsm := h.small
  have hlt := hm.lt
  obtain ⟨L, hL⟩ : ∃ L, 1 + n = L := ⟨_, rfl⟩
  have hLp : 0 < L := by omega
  have hLs : L ≤ 4294967281 := by omega
  have hmk := @run_makeMap Tryz.prog
  have hb0 : Below w.heap.size w (w.alloc (.map #[] 0)) := (Zl _ w).alloc (Zr _) _
  have hV := Vec.made w hb0 9 1 1 #[.string oid] rfl (by unfold maxLen; omega)
  rw [show (w.alloc (.map #[] 0)).heap.size = w.heap.size + 1 by simp] at hV
  have hal : Below w.heap.size w ((w.alloc (.map #[] 0)).alloc (.cells #[.string oid] 9)) := hb0.alloc (by simp) _
  have hse := (Seen.made w).keep ((Zl _ (w.alloc (.map #[] 0))).alloc (Zr _) (.cells #[.string oid] 9)) (Seen.made w).lt
  have hnews : ∀ ad, a = some ad → ∀ (j : Nat) (u : Value), (strV names)[j]? = some u → ((w.alloc (.map #[] 0)).alloc (.cells #[.string oid] 9)).cell? (ad.add j) = some u := fun ad e j u hu => by
    have := h.news ad e j u hu; rw [hal.cell (p := ad.add j) (by rw [block_add]; exact Nat.lt_of_lt_of_le this.1 hB)]; exact this.2
  have hbt : L * 16 ≤ 140737488355328 := by omega
  have hsl : (strV names).length = n * 1 := by simp [strV, hnl]
  have hl0 := h.len0
  have hLn : L = names.length + 1 ∧ L = n + 1 := by omega
  have hsz : ∀ x ∈ oid :: names, x.size ≤ 4294967280 := fun x hx => by
    rcases List.mem_cons.1 hx with e | e
    · rw [e]; exact ho
    · exact h.size _ e
  have HV := Zh hV; have HN := Zh hnews; have HS := Zh (Zi hbt hsl); have HM := Zh hm; have HL0 := Zh hl0; have HL := Zh hL; have HZ := Zh hsz; have HC := Zh hLn; have HSE := Zh hse
  clear h hV hal hm hl0 hnl hsm hnews hbt hsl hL hsz hLn ho hB hb0 hse
  go_enter Tryz.func91, Tryz.ntmps91
  go_wp2_with (at_builtin; refine HV.out.app1 eiStr rfl _ _ rfl rfl a n c (strV names) rfl HL0.out HS.out.2 HN.out (strV_one _) L HL.out HS.out.1 hLp ?_; intro g' cap' w1 hV1 hG1; have HV1 := Zh (Zi hV1 hG1); clear hV1 hG1)
  clear hmk
  have hgf : w.heap.size ≤ g' := HV1.out.1.fresh g' rfl
  have hgn : g' ≠ w.heap.size := fun e => by
    have h1 := HV1.out.1.own.row
    have h2 : (w1.heap[w.heap.size]?) = ((w.alloc (.map #[] 0)).alloc (.cells #[.string oid] 9)).heap[w.heap.size]? := HV1.out.2.block _ (by simp; omega) (by simp)
    obtain ⟨sp, hh, _⟩ := h1
    rw [e, h2, Below.heap_alloc _ _ _ (by simp), heap_alloc_new] at hh
    cases hh
  have hs1 : Seen w1 w.heap.size 0 [] := by
    obtain ⟨g, k1, k2⟩ := HSE.out.own
    exact ⟨g, k1.of_block (HV1.out.2.block _ (by simp; omega) (by simp)), k2⟩
  have HO1 : Hid (Own w1 9 1 (some g') L cap' (strV (oid :: names))) := Zh HV1.out.1.own
  have HB1 := Zh HV1.out.1.below
  have HS1 := Zh hs1
  clear HV1 HV HN HS HL0 HL HSE hs1
  generalize hsb : w.heap.size = sb at hgf hgn HS1 HB1 ⊢
  have hsl2 : mb < sb := by omega
  have hsw : sb ≤ w.heap.size := by omega
  have HSB := Zh hsb; have HSW := Zh (Zi hsl2 hsw); clear hsb hsl2 hsw hgf hlt
  go_loopw [18] (fun iv wr => ∃ i : Nat, iv = .int .i64 i ∧ i ≤ L ∧ Seen wr sb i ((keysN oid names).take i).reverse ∧ Own wr 9 1 (some g') L cap' (strV (oid :: names)) ∧ Below sb w wr ∧ takenB f place (keysN oid names) [] = takenB f place ((keysN oid names).drop i) ((keysN oid names).take i).reverse) (fun iv _ => L - (intOf iv).toNat)
  case atStart => exact ⟨0, rfl, Nat.zero_le _, HS1.out, HO1.out, HB1.out, rfl⟩
  case round =>
    clear HO1 HB1 HS1
    obtain ⟨i, rfl, hi, hsn, hown, hbel, htk⟩ := hrel
    have hmi := HM.out.keep hbel HSW.out.1
    by_cases hlt2 : i < L
    · have hli : i < (oid :: names).length := by simp only [List.length_cons]; have := HC.out.1; omega
      have hki : i < (keysN oid names).length := by simpa [keysN] using hli
      have hc := hown.row.cell (strV_get hli)
      have hsz := HZ.out _ (List.getElem_mem hli)
      have hke : (keysN oid names)[i] = low (toL (oid :: names)[i]) := by simp only [keysN, List.getElem_map]
      rw [takenB_at f place _ hki, hke] at htk
      have htk2 := keys_take hli
      generalize (oid :: names)[i] = s at hc hsz htk htk2
      obtain ⟨g, hgm, hgb, hgs⟩ := hsn.own
      have HR := Zh (Zi hmi (Zi hown (Zi hbel (Zi htk (Zi htk2 (Zi hgm (Zi hgb hgs))))))); clear hmi hown hbel htk htk2 hgm hgb hgs hsn hke hki
      have HLK := Zh (fun w2 (hb : Below wr.heap.size wr w2) => (HR.out.1.keep hb HR.out.1.lt))
      have HGK := Zh (fun w2 (hb : Below wr.heap.size wr w2) => (HR.out.2.2.2.2.2.1.keep hb HR.out.2.2.2.2.2.1.lt))
      have ho2 : ∀ w2, Below wr.heap.size wr w2 → Own w2 9 1 (some g') L cap' (strV (oid :: names)) := fun w2 hb => HR.out.2.1.keep fun k hk => by cases hk; exact hb.block _ HR.out.2.1.row.lt
      have HO2 := Zh ho2; clear ho2
      have hls : (ByteArray.mk (low (toL s)).toArray).size ≤ maxLen := by rw [low_size]; unfold maxLen; omega
      have hk1 : ∀ w2, Below wr.heap.size wr w2 → (Instr.lookup 80 (.map (some mb)) (.string ⟨(low (toL s)).toArray⟩) false).run Tryz.prog w2 = .ok (.int .i64 ((f (low (toL s))).getD 0 : Nat)) w2 := fun w2 hb => (HLK.out w2 hb).look hls
      have hk2 : ∀ w2, Below wr.heap.size wr w2 → (Instr.lookup 80 (.map (some sb)) (.string ⟨(low (toL s)).toArray⟩) false).run Tryz.prog w2 = .ok (.int .i64 ((g (low (toL s))).getD 0 : Nat)) w2 := fun w2 hb => (HGK.out w2 hb).look hls
      have hgle := HR.out.2.2.2.2.2.2.1 (low (toL s))
      have hcon : ((keysN oid names).take i).reverse.contains (low (toL s)) = decide (0 < (g (low (toL s))).getD 0) := by
        rw [Bool.eq_iff_iff, decide_eq_true_eq, HR.out.2.2.2.2.2.2.2]; simp
      have HT := HR.out.2.2.2.1
      rw [hcon] at HT
      have hput : ∀ q, q = (g (low (toL s))).getD 0 → ∀ k, 0 < ((if k = low (toL s) then some (q + 1) else g k) : Option Nat).getD 0 ↔ k ∈ ((keysN oid names).take (i + 1)).reverse := fun q _ k => by
        rw [HR.out.2.2.2.2.1]
        by_cases e : k = low (toL s)
        · subst e; simp
        · have := HR.out.2.2.2.2.2.2.2 k
          rw [if_neg e, this]; simp [e]
      have hput2 : ∀ q, q = (g (low (toL s))).getD 0 → ∀ k, ((if k = low (toL s) then some (q + 1) else g k) : Option Nat).getD 0 ≤ i + 1 := fun q e k => by
        split
        · simp; omega
        · have := HR.out.2.2.2.2.2.2.1 k; omega
      have HP := Zh (Zi hput hput2); clear hput hput2 hcon
      generalize hp : (f (low (toL s))).getD 0 = p at hk1 HT
      generalize hq : (g (low (toL s))).getD 0 = q at hk2 HT hgle HP
      have hqm : i < maxLen ∧ q + 1 ≤ maxLen := by unfold maxLen; omega
      have HGL := Zh (Zi hgle hqm); clear hgle hqm
      have HK1 := Zh hk1; have HK2 := Zh hk2; have HLS := Zh hls; have HTT := Zh HT; clear hk1 hk2 hls HT hp hq
      by_cases hpp : p < place
      · go_wp2_with (first
          | (go_at_call 89; refine (small_any s _ (by omega)).mono ?_; rintro e w2 ⟨rfl, hb2⟩
             have hk3 := HK1.out w2 hb2
             have HB2 := Zh hb2; clear hb2)
          | fail)
        go_ret
        refine ⟨?_, HSB.out.symm ▸ (HR.out.2.2.1.trans (HB2.out.mono (Nat.le_trans HSW.out.2 HR.out.2.2.1.size)))⟩
        rw [HTT.out, decide_eq_true hpp]; rfl
      · rw [decide_eq_false hpp, Bool.false_or] at HTT
        by_cases hqq : 0 < q
        · go_wp2_with (first
            | (go_at_call 89; refine (small_any s _ (by omega)).mono ?_; rintro e w2 ⟨rfl, hb2⟩
               have hk3 := HK1.out w2 hb2
               have HB2 := Zh hb2; clear hb2 HK1)
            | (go_at_call 89; refine (small_any s _ (by omega)).mono ?_; rintro e w3 ⟨rfl, hb3⟩
               have hk4 := HK2.out w3 (bnext HB2.out hb3)
               have HB3 := Zh (bnext HB2.out hb3); clear hb3 HK2)
            | fail)
          go_ret
          refine ⟨?_, HSB.out.symm ▸ (HR.out.2.2.1.trans (HB3.out.mono (Nat.le_trans HSW.out.2 HR.out.2.2.1.size)))⟩
          rw [HTT.out, decide_eq_true hqq]; rfl
        · rw [decide_eq_false hqq, Bool.false_or] at HTT
          go_wp2_with (first
            | (go_at_call 89; refine (small_any s _ (by omega)).mono ?_; rintro e w2 ⟨rfl, hb2⟩
               have hk3 := HK1.out w2 hb2
               have HB2 := Zh hb2; clear hb2 HK1)
            | (go_at_call 89; refine (small_any s _ (by omega)).mono ?_; rintro e w3 ⟨rfl, hb3⟩
               have hb4 := bnext HB2.out hb3
               have hk4 := HK2.out w3 hb4
               have HB3 := Zh hb4; clear hb3 hb4 HB2 hk3)
            | (go_at_call 89; refine (small_any s _ (by omega)).mono ?_; rintro e w4 ⟨rfl, hb4⟩
               have hb5 := bnext HB3.out hb4
               have hk5 := HK2.out w4 hb5
               have HB4 := Zh hb5; clear hb4 hb5 HB3 hk4)
            | (at_mapUpdate; refine (HGK.out _ HB4.out).wp_put rfl _ _ _ rfl rfl ⟨(low (toL s)).toArray⟩ rfl (q + 1) (by rfl) HGL.out.2.1 HLS.out HGL.out.2.2 ?_; intro w5 hm5 hg5; have H5 := Zh (Zi hm5 hg5); clear hm5 hg5)
            | fail)
          refine ⟨⟨i + 1, by simp, by omega, ⟨_, H5.out.1, HP.out.2 q rfl, HP.out.1 q rfl⟩, ?_, ?_, ?_⟩, by simp [intOf]; omega⟩
          · exact (HO2.out _ HB4.out).keep fun k hk => by cases hk; exact H5.out.2.block _ (HO2.out _ HB4.out).row.lt (by simpa using hgn)
          · exact (HR.out.2.2.1.trans (HB4.out.mono (Nat.le_trans HSW.out.2 HR.out.2.2.1.size))).grown H5.out.2 (Nat.le_trans HSW.out.2 (Nat.le_trans HR.out.2.2.1.size HB4.out.size)) (fun k hk => by cases hk; exact Zr _)
          · rw [HTT.out, HR.out.2.2.2.2.1]; simp
    · have hie : i = L := by omega
      subst hie
      rw [takenB_end f place _ (by simp only [keysN, List.length_map, List.length_cons]; have := HC.out.1; omega)] at htk
      have HR := Zh (Zi htk hbel); clear htk hbel hown hmi hsn
      go_wp2_with fail
      go_ret
      exact ⟨by rw [HR.out.1]; rfl, HSB.out.symm ▸ HR.out.2⟩
end Go.Proofs.YtlmfbjhokkpjhaaGreatDoor
namespace Go.Proofs.YtlmfbjhokkpjhaaGreatDoor
open Go Go.RowKit
theorem isWord_any (s : ByteArray) (w : World) (hs : s.size ≤ 140737488355328) : Calls Tryz.prog 133 #[.string s] w fun e w' => e = .returned (.bool (wordB (toL s))) ∧ w = w' := by
 by_cases hv : toL s = []
 ·obtain rfl := empty_of s hv
  clear hv
  go_enter Tryz.func133, Tryz.ntmps133
  go_wp2_with fail
  go_ret
  exact ⟨rfl, rfl⟩
 ·obtain ⟨b, l, hl⟩ : ∃ b l, toL s = b :: l := by
   cases hl : toL s with
   | nil => exact absurd hl hv
   | cons b l => exact ⟨b, l, rfl⟩
  obtain rfl : s = ⟨(b :: l).toArray⟩ := by rw [← bmk s]; unfold toL at hl; rw [hl]
  clear hv hl
  have hb : ∀ h, (ByteArray.mk (b :: l).toArray)[0]'h = b := fun _ => rfl
  have hsz : 0 < (ByteArray.mk (b :: l).toArray).size := by show 0 < l.length + 1; omega
  have cl := letter_any b
  have ct := fun w => tail_any (ByteArray.mk (b :: l).toArray) w hs
  have hw : wordB (toL ⟨(b :: l).toArray⟩) = (isLet b && tailB (toL ⟨(b :: l).toArray⟩)) := rfl
  generalize tailB (toL ⟨(b :: l).toArray⟩) = x at hw ct
  have HW := Zh hw; clear hw
  cases hL : isLet b with
  | true =>
   rw [hL] at cl HW
   have CL := Zh cl; have CT := Zh ct; clear cl ct hL
   go_enter Tryz.func133, Tryz.ntmps133
   go_wp2_with (first | (go_at_call 187; with_reducible refine (CL.out _).mono ?_; rintro e w1 ⟨rfl, rfl⟩) | (go_at_call 188; with_reducible refine (CT.out _).mono ?_; rintro e w1 ⟨rfl, rfl⟩) | fail)
   go_ret
   exact ⟨by rw [HW.out]; rfl, rfl⟩
  | false =>
   rw [hL] at cl HW
   have CL := Zh cl; clear cl ct hL
   go_enter Tryz.func133, Tryz.ntmps133
   go_wp2_with (first | (go_at_call 187; with_reducible refine (CL.out _).mono ?_; rintro e w1 ⟨rfl, rfl⟩) | fail)
   go_ret
   exact ⟨by rw [HW.out]; rfl, rfl⟩
end Go.Proofs.YtlmfbjhokkpjhaaGreatDoor
namespace Go.Proofs.YtlmfbjhokkpjhaaGreatDoor
open Go Go.RowKit
theorem digs_fin : ∀ n : Fin 256, ([48, 49, 50, 51, 52, 53, 54, 55, 56, 57] : List UInt8).contains (UInt8.ofNat n.val) = decide (48 ≤ n.val ∧ n.val ≤ 57) := by decide +kernel
theorem digs_eq (b : UInt8) : ([48, 49, 50, 51, 52, 53, 54, 55, 56, 57] : List UInt8).contains b = dig b := by
 have := digs_fin ⟨b.toNat, b.toNat_lt⟩
 simpa [dig] using this
theorem dropWhile_nil_iff {p : UInt8 → Bool} : ∀ {l : List UInt8}, l.dropWhile p = [] ↔ ∀ b ∈ l, p b = true
 | [] => by simp
 | b :: l => by
  rw [List.dropWhile_cons]
  cases h : p b with
  | true => simp [h, dropWhile_nil_iff (l := l)]
  | false => simp [h]
theorem trimS_nil (l cs : List UInt8) : Lib.trimS l cs = [] ↔ l.all (cs.contains ·) = true := by
 unfold Lib.trimS Lib.trimLeftS Lib.trimRightS
 constructor
 ·intro h
  have h1 : ∀ b ∈ (l.reverse.dropWhile (cs.contains ·)), cs.contains b = true := by
   intro b hb
   have := dropWhile_nil_iff.1 h b (by simpa using hb)
   simpa using this
  have h2 : l.reverse.dropWhile (cs.contains ·) = [] := by
   cases hd : l.reverse.dropWhile (cs.contains ·) with
   | nil => rfl
   | cons b t =>
    have h3 := h1 b (by rw [hd]; exact List.mem_cons_self ..)
    have h4 := List.head_dropWhile_not (cs.contains ·) (l := l.reverse) (by rw [hd]; simp)
    simp only [hd, List.head_cons] at h4
    rw [h3] at h4; cases h4
  rw [List.all_eq_true]
  intro b hb
  have := dropWhile_nil_iff.1 h2 b (by simpa using hb)
  simpa using this
 ·intro h
  rw [List.all_eq_true] at h
  have h2 : l.reverse.dropWhile (cs.contains ·) = [] := dropWhile_nil_iff.2 fun b hb => h b (by simpa using hb)
  rw [h2]; rfl
theorem trim_digits (l : Str) : Lib.trimS l [48, 49, 50, 51, 52, 53, 54, 55, 56, 57] = [] ↔ l.all dig = true := by
 rw [trimS_nil]
 have : (fun b => ([48, 49, 50, 51, 52, 53, 54, 55, 56, 57] : List UInt8).contains b) = dig := funext digs_eq
 rw [this]
theorem trim_any (s : ByteArray) (w : World) (hs : s.size ≤ 4294967280) :
  Calls Tryz.prog 186 #[.string s, .string ⟨#[48, 49, 50, 51, 52, 53, 54, 55, 56, 57]⟩] w fun e w' => e = .returned (.string ⟨(Lib.trimS (toL s) [48, 49, 50, 51, 52, 53, 54, 55, 56, 57]).toArray⟩) ∧ Below w.heap.size w w' :=
 Any.strings_Trim_laid Tryz.lays160 (by kernel_rfl) s ⟨#[48, 49, 50, 51, 52, 53, 54, 55, 56, 57]⟩ w (by omega) (by decide) (ascii_of_all (by decide))
theorem rowcs (x : ByteArray) : (x = ⟨#[]⟩ ∧ rowOk (toL x) = false) ∨ ∃ b l, x = ⟨(b :: l).toArray⟩ ∧ rowOk (toL x) = ((b :: l).all dig && !(b == 48 && !l.isEmpty)) := by
 cases hl : toL x with
 | nil => exact .inl ⟨empty_of x hl, rfl⟩
 | cons b l => exact .inr ⟨b, l, by rw [← bmk x]; unfold toL at hl; rw [hl], rfl⟩
set_option maxRecDepth 20000 in
set_option maxHeartbeats 1000000 in
theorem isOid_any (v : ByteArray) (w : World) (E : EnvS w) (hs : v.size ≤ 4294967280) :
  Calls Tryz.prog 132 #[.string v] w fun e w' => e = .returned (.bool (oidB (toL v))) ∧ Below w.heap.size w w' := by
 obtain ⟨m, hm⟩ := E.max
 have HM := Zh hm; clear hm E
 go_enter Tryz.func132, Tryz.ntmps132
 go_wp2_with fail
 go_at_call 185
 refine (Tryz.strings_Split _ _ m _ (by omega) HM.out (by decide)).mono ?_
 rintro e w1 ⟨rfl, hw1⟩
 have hlen := Lib.splitB_all ⟨#[46]⟩ (by decide) 0 _ v rfl
 have hcut := splitB_cut v 46 (Lib.countB v ⟨#[46]⟩) rfl
 have hcl := Lib.countB_le ⟨#[46]⟩ (by decide) _ v (Zr _)
 have hsub : ∀ x, x ∈ Lib.splitB ⟨#[46]⟩ 0 (Lib.countB v ⟨#[46]⟩) v → x.size ≤ 4294967280 := fun x hx => by
  have h1 : x.data.toList ∈ cutAt 46 v.data.toList := by rw [← hcut]; exact List.mem_map_of_mem hx
  have h2 := cutAt_le 46 v.data.toList _ h1
  rw [Lib.size_eq]
  have h3 : v.data.toList.length ≤ 4294967280 := by rw [← Lib.size_eq]; exact hs
  omega
 generalize Lib.splitB ⟨#[46]⟩ 0 (Lib.countB v ⟨#[46]⟩) v = xs at hlen hcut hw1 hsub
 rw [← hlen]
 have hxl : xs.length ≤ 4294967281 := by omega
 clear hlen hcl
 have hcell : ∀ j x, xs[j]? = some x → w1.cell? ⟨w.heap.size, j, none⟩ = some (.string x) := by
  intro j x hj
  rw [hw1, cell_of_row _ _ j _ _ (0, 0) (heap_alloc_new _ _)]
  simp [hj]
 have B1 : Below w.heap.size w w1 := by rw [hw1]; exact (Zl _ w).alloc (Zr _) _
 have hgl : w.heap.size < w1.heap.size := by rw [hw1]; simp
 have hq : cutAt 46 (toL v) = xs.map (·.data.toList) := hcut.symm
 generalize hgg : w.heap.size = g at hcell hgl B1 ⊢
 have HX := Zh (Zi hcell (Zi hq (Zi hsub hgg))); have HB1 := Zh B1; have HGL := Zh hgl; clear hcell hcut hsub B1 hw1 HM m hq hgg hgl
 go_wp2_with fail
 go_loopw [10] (fun iv wr => ∃ i : Nat, iv = .int .i64 i ∧ i ≤ xs.length ∧ Below w1.heap.size w1 wr ∧ (cutAt 46 (toL v)).all rowOk = ((xs.map (·.data.toList)).drop i).all rowOk) (fun iv _ => xs.length - (intOf iv).toNat)
 case atStart => exact ⟨0, rfl, Nat.zero_le _, Zl _ _, by rw [HX.out.2.1]; rfl⟩
 case round =>
  obtain ⟨i, rfl, hi, hbl, hall⟩ := hrel
  have HA := Zh hall; clear hall
  by_cases hlt : i < xs.length
  ·have hc := HX.out.1 i _ (List.getElem?_eq_getElem hlt)
   rw [← hbl.cell (p := ⟨g, i, none⟩) HGL.out] at hc
   have HBL := Zh hbl; clear hbl
   have hs2 := HX.out.2.2.1 _ (List.getElem_mem hlt)
   have ha : (cutAt 46 (toL v)).all rowOk = (rowOk (toL xs[i]) && ((xs.map (·.data.toList)).drop (i + 1)).all rowOk) := by
    rw [HA.out, List.drop_eq_getElem_cons (by simpa using hlt), List.all_cons]; simp
   have HA2 := Zh ha; clear ha HA
   generalize xs[i] = x at hc hs2 HA2
   have fin : rowOk (toL x) = false → oidB (toL v) = false := fun h => by unfold oidB; rw [HA2.out, h]; rfl
   have HF := Zh fin; clear fin
   have HGW := Zh (Nat.le_trans (Nat.le_of_lt HGL.out) HBL.out.size)
   have HBB := Zh (HB1.out.trans (HBL.out.mono (Nat.le_of_lt HGL.out)))
   rcases rowcs x with ⟨rfl, hr⟩ | ⟨c, t, rfl, hr⟩
   ·have HR := Zh hr; clear hr
    go_wp2_with fail
    go_ret
    exact ⟨by rw [HF.out HR.out]; rfl, by rw [HX.out.2.2.2]; exact HBB.out⟩
   ·have hb3 : ∀ h, (ByteArray.mk (c :: t).toArray)[0]'h = c := fun _ => rfl
    have hsz3 : 0 < (ByteArray.mk (c :: t).toArray).size := by show 0 < t.length + 1; omega
    have hne : ∀ c : UInt8, c ≠ 48 → ¬ (c.toNat : Int) = 48 := fun c h e => h (UInt8.toNat_inj.1 (by show c.toNat = 48; omega))
    have tr := fun w => trim_any (ByteArray.mk (c :: t).toArray) w hs2
    have td := trim_digits (toL (ByteArray.mk (c :: t).toArray))
    cases hD : (c :: t).all dig with
    | false =>
     rw [show (toL (ByteArray.mk (c :: t).toArray)).all dig = false from hD] at td
     have hz := nonempty_of ⟨(Lib.trimS (toL (ByteArray.mk (c :: t).toArray)) [48, 49, 50, 51, 52, 53, 54, 55, 56, 57]).toArray⟩ (fun e => by have := td.1 e; cases this)
     generalize (ByteArray.mk (Lib.trimS (toL (ByteArray.mk (c :: t).toArray)) [48, 49, 50, 51, 52, 53, 54, 55, 56, 57]).toArray) = y at tr hz
     obtain ⟨hz1, hz2, hz3⟩ := hz
     rw [hD, Bool.false_and] at hr
     have HR := Zh hr; have HTR := Zh tr; clear hr hD td tr
     by_cases h48 : c = 48
     ·subst h48
      cases t with
      | nil =>
       clear hne
       go_wp2_with (first
        | (go_at_call 186; refine (HTR.out _).mono ?_; rintro e w3 ⟨rfl, hb3⟩; have HB3 := Zh (HBB.out.trans (hb3.mono HGW.out)); clear hb3)
        | fail)
       go_ret
       exact ⟨by rw [HF.out HR.out]; rfl, by rw [HX.out.2.2.2]; exact HB3.out⟩
      | cons d t =>
       have hl2 : (1 : Int) < (t.length : Int) + 1 + 1 := by omega
       clear hne
       go_wp2_with fail
       go_ret
       exact ⟨by rw [HF.out HR.out]; rfl, by rw [HX.out.2.2.2]; exact HBB.out⟩
     ·have hn := hne c h48
      clear hne h48
      go_wp2_with (first
       | (go_at_call 186; refine (HTR.out _).mono ?_; rintro e w3 ⟨rfl, hb3⟩; have HB3 := Zh (HBB.out.trans (hb3.mono HGW.out)); clear hb3)
       | fail)
      go_ret
      exact ⟨by rw [HF.out HR.out]; rfl, by rw [HX.out.2.2.2]; exact HB3.out⟩
    | true =>
     rw [td.2 hD] at tr
     rw [hD, Bool.true_and] at hr
     have HTR := Zh tr; clear hD td tr
     by_cases h48 : c = 48
     ·subst h48
      cases t with
      | nil =>
       have HR := Zh hr; clear hne hr
       go_wp2_with (first
        | (go_at_call 186; refine (HTR.out _).mono ?_; rintro e w3 ⟨rfl, hb3⟩; have HB3 := Zh (bnext HBL.out hb3); clear hb3)
        | fail)
       exact ⟨⟨i + 1, by simp, by omega, HB3.out, by rw [HA2.out, HR.out]; simp⟩, by simp [intOf]; omega⟩
      | cons d t =>
       have hl2 : (1 : Int) < (t.length : Int) + 1 + 1 := by omega
       have HR := Zh hr; clear hne hr
       go_wp2_with fail
       go_ret
       exact ⟨by rw [HF.out (by rw [HR.out]; rfl)]; rfl, by rw [HX.out.2.2.2]; exact HBB.out⟩
     ·have hn := hne c h48
      rw [show (c == 48) = false by simpa using h48] at hr
      have HR := Zh hr; clear hne h48 hr
      go_wp2_with (first
       | (go_at_call 186; refine (HTR.out _).mono ?_; rintro e w3 ⟨rfl, hb3⟩; have HB3 := Zh (bnext HBL.out hb3); clear hb3)
       | fail)
      exact ⟨⟨i + 1, by simp, by omega, HB3.out, by rw [HA2.out, HR.out]; simp⟩, by simp [intOf]; omega⟩
  ·have hfin : (cutAt 46 (toL v)).all rowOk = true := by rw [HA.out, List.drop_eq_nil_of_le (by simpa using hlt)]; rfl
   have hle : (cutAt 46 (toL v)).length = xs.length := by rw [HX.out.2.1]; simp
   have hb := HB1.out.trans (hbl.mono (Nat.le_of_lt HGL.out))
   have HF := Zh (Zi hfin (Zi hle hb)); clear hfin hle hb hbl
   go_wp2_with fail
   go_ret
   refine ⟨?_, by rw [HX.out.2.2.2]; exact HF.out.2.2⟩
   rw [show oidB (toL v) = decide (1 < xs.length) by unfold oidB; rw [HF.out.1, HF.out.2.1, Bool.true_and]]
   rw [show decide (1 < xs.length) = decide ((1 : Int) < (xs.length : Int)) from decide_eq_decide.2 (by omega)]
   rfl
end Go.Proofs.YtlmfbjhokkpjhaaGreatDoor
