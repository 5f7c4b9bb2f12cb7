/- Part 16 of the walks and plain laws, joined: Taken, Word2, Oid2, Named. -/
import Derived.Test.YtlmfbjhokkpjhaaGreatDoorNM00
import Derived.Test.YtlmfbjhokkpjhaaGreatDoorNM10
import Derived.Test.YtlmfbjhokkpjhaaGreatDoorNM09
import Derived.Test.YtlmfbjhokkpjhaaGreatDoorNM06
import Derived.Test.YtlmfbjhokkpjhaaGreatDoorShelfS
import Derived.Shelf.Strings.SlTrimAscii
set_option linter.unusedVariables false
set_option linter.unusedSimpArgs false
namespace Go.Proofs.YtlmfbjhokkpjhaaGreatDoor
open Go Go.RowKit Go.Maps
structure Seen (w : World) (b i : Nat) (ks : List Str) : Prop where
 own : ∃ g : Str → Option Nat, MapIs w b i g ∧ (∀ k, (g k).getD 0 ≤ i) ∧ ∀ k, 0 < (g k).getD 0 ↔ k ∈ ks
theorem Seen.made (w : World) : Seen (w.alloc (.map #[] 0)) w.heap.size 0 [] := ⟨fun _ => none, MapIs.made w, fun _ => Zr _, fun k => by simp⟩
theorem Seen.keep {w w' : World} {b i B : Nat} {ks : List Str} (h : Seen w b i ks) (k : Below B w w') (hb : b < B) : Seen w' b i ks := by
 obtain ⟨g, h1, h2⟩ := h.own; exact ⟨g, h1.keep k hb, h2⟩
theorem Seen.lt {w : World} {b i : Nat} {ks : List Str} (h : Seen w b i ks) : b < w.heap.size := by obtain ⟨g, h1, _⟩ := h.own; exact h1.lt
theorem takenB_at (f : Str → Option Nat) (place : Nat) (K : List Str) {i : Nat} (h : i < K.length) (seen : List Str) :
  takenB f place (K.drop i) seen = (decide ((f K[i]).getD 0 < place) || seen.contains K[i] || takenB f place (K.drop (i + 1)) (K[i] :: seen)) := by
 rw [List.drop_eq_getElem_cons h]; rfl
theorem takenB_end (f : Str → Option Nat) (place : Nat) (K : List Str) {i : Nat} (h : ¬ i < K.length) (seen : List Str) : takenB f place (K.drop i) seen = false := by
 rw [List.drop_eq_nil_of_le (by omega)]; rfl
set_option maxRecDepth 20000 in
set_option maxHeartbeats 1000000 in
theorem taken_any (B N mb place : Nat) (f : Str → Option Nat) (oid : ByteArray) (a : Option Addr) (n c : Nat) (names : List ByteArray) (w : World) (h : Texts B w a n c names) (ho : oid.size ≤ 4294967280)
    (hm : MapIs w mb N f) (hB : B ≤ w.heap.size) :
    Calls Tryz.prog 91 #[.map (some mb), .int .i64 (place : Int), .string oid, .slice a n c] w fun e w' => e = .returned (.bool (takenB f place (keysN oid names) [])) ∧ Below w.heap.size w w' := by
  have hnl := h.len
  have hsm := h.small
  have hlt := hm.lt
  obtain ⟨L, hL⟩ : ∃ L, 1 + n = L := ⟨_, rfl⟩
  have hLp : 0 < L := by omega
  have hLs : L ≤ 4294967281 := by omega
  have hmk := @run_makeMap Tryz.prog
  have hb0 : Below w.heap.size w (w.alloc (.map #[] 0)) := (Zl _ w).alloc (Zr _) _
  have hV := Vec.made w hb0 9 1 1 #[.string oid] rfl (by unfold maxLen; omega)
  rw [show (w.alloc (.map #[] 0)).heap.size = w.heap.size + 1 by simp] at hV
  have hal : Below w.heap.size w ((w.alloc (.map #[] 0)).alloc (.cells #[.string oid] 9)) := hb0.alloc (by simp) _
  have hse := (Seen.made w).keep ((Zl _ (w.alloc (.map #[] 0))).alloc (Zr _) (.cells #[.string oid] 9)) (Seen.made w).lt
  have hnews : ∀ ad, a = some ad → ∀ (j : Nat) (u : Value), (strV names)[j]? = some u → ((w.alloc (.map #[] 0)).alloc (.cells #[.string oid] 9)).cell? (ad.add j) = some u := fun ad e j u hu => by
    have := h.news ad e j u hu; rw [hal.cell (p := ad.add j) (by rw [block_add]; exact Nat.lt_of_lt_of_le this.1 hB)]; exact this.2
  have hbt : L * 16 ≤ 140737488355328 := by omega
  have hsl : (strV names).length = n * 1 := by simp [strV, hnl]
  have hl0 := h.len0
  have hLn : L = names.length + 1 ∧ L = n + 1 := by omega
  have hsz : ∀ x ∈ oid :: names, x.size ≤ 4294967280 := fun x hx => by
    rcases List.mem_cons.1 hx with e | e
    · rw [e]; exact ho
    · exact h.size _ e
  have HV := Zh hV; have HN := Zh hnews; have HS := Zh (Zi hbt hsl); have HM := Zh hm; have HL0 := Zh hl0; have HL := Zh hL; have HZ := Zh hsz; have HC := Zh hLn; have HSE := Zh hse
  clear h hV hal hm hl0 hnl hsm hnews hbt hsl hL hsz hLn ho hB hb0 hse
  go_enter Tryz.func91, Tryz.ntmps91
  go_wp2_with (at_builtin; refine HV.out.app1 eiStr rfl _ _ rfl rfl a n c (strV names) rfl HL0.out HS.out.2 HN.out (strV_one _) L HL.out HS.out.1 hLp ?_; intro g' cap' w1 hV1 hG1; have HV1 := Zh (Zi hV1 hG1); clear hV1 hG1)
  clear hmk
  have hgf : w.heap.size ≤ g' := HV1.out.1.fresh g' rfl
  have hgn : g' ≠ w.heap.size := fun e => by
    have h1 := HV1.out.1.own.row
    have h2 : (w1.heap[w.heap.size]?) = ((w.alloc (.map #[] 0)).alloc (.cells #[.string oid] 9)).heap[w.heap.size]? := HV1.out.2.block _ (by simp; omega) (by simp)
    obtain ⟨sp, hh, _⟩ := h1
    rw [e, h2, Below.heap_alloc _ _ _ (by simp), heap_alloc_new] at hh
    cases hh
  have hs1 : Seen w1 w.heap.size 0 [] := by
    obtain ⟨g, k1, k2⟩ := HSE.out.own
    exact ⟨g, k1.of_block (HV1.out.2.block _ (by simp; omega) (by simp)), k2⟩
  have HO1 : Hid (Own w1 9 1 (some g') L cap' (strV (oid :: names))) := Zh HV1.out.1.own
  have HB1 := Zh HV1.out.1.below
  have HS1 := Zh hs1
  clear HV1 HV HN HS HL0 HL HSE hs1
  generalize hsb : w.heap.size = sb at hgf hgn HS1 HB1 ⊢
  have hsl2 : mb < sb := by omega
  have hsw : sb ≤ w.heap.size := by omega
  have HSB := Zh hsb; have HSW := Zh (Zi hsl2 hsw); clear hsb hsl2 hsw hgf hlt
  go_loopw [18] (fun iv wr => ∃ i : Nat, iv = .int .i64 i ∧ i ≤ L ∧ Seen wr sb i ((keysN oid names).take i).reverse ∧ Own wr 9 1 (some g') L cap' (strV (oid :: names)) ∧ Below sb w wr ∧ takenB f place (keysN oid names) [] = takenB f place ((keysN oid names).drop i) ((keysN oid names).take i).reverse) (fun iv _ => L - (intOf iv).toNat)
  case atStart => exact ⟨0, rfl, Nat.zero_le _, HS1.out, HO1.out, HB1.out, rfl⟩
  case round =>
    clear HO1 HB1 HS1
    obtain ⟨i, rfl, hi, hsn, hown, hbel, htk⟩ := hrel
    have hmi := HM.out.keep hbel HSW.out.1
    by_cases hlt2 : i < L
    · have hli : i < (oid :: names).length := by simp only [List.length_cons]; have := HC.out.1; omega
      have hki : i < (keysN oid names).length := by simpa [keysN] using hli
      have hc := hown.row.cell (strV_get hli)
      have hsz := HZ.out _ (List.getElem_mem hli)
      have hke : (keysN oid names)[i] = low (toL (oid :: names)[i]) := by simp only [keysN, List.getElem_map]
      rw [takenB_at f place _ hki, hke] at htk
      have htk2 := keys_take hli
      generalize (oid :: names)[i] = s at hc hsz htk htk2
      obtain ⟨g, hgm, hgb, hgs⟩ := hsn.own
      have HR := Zh (Zi hmi (Zi hown (Zi hbel (Zi htk (Zi htk2 (Zi hgm (Zi hgb hgs))))))); clear hmi hown hbel htk htk2 hgm hgb hgs hsn hke hki
      have HLK := Zh (fun w2 (hb : Below wr.heap.size wr w2) => (HR.out.1.keep hb HR.out.1.lt))
      have HGK := Zh (fun w2 (hb : Below wr.heap.size wr w2) => (HR.out.2.2.2.2.2.1.keep hb HR.out.2.2.2.2.2.1.lt))
      have ho2 : ∀ w2, Below wr.heap.size wr w2 → Own w2 9 1 (some g') L cap' (strV (oid :: names)) := fun w2 hb => HR.out.2.1.keep fun k hk => by cases hk; exact hb.block _ HR.out.2.1.row.lt
      have HO2 := Zh ho2; clear ho2
      have hls : (ByteArray.mk (low (toL s)).toArray).size ≤ maxLen := by rw [low_size]; unfold maxLen; omega
      have hk1 : ∀ w2, Below wr.heap.size wr w2 → (Instr.lookup 80 (.map (some mb)) (.string ⟨(low (toL s)).toArray⟩) false).run Tryz.prog w2 = .ok (.int .i64 ((f (low (toL s))).getD 0 : Nat)) w2 := fun w2 hb => (HLK.out w2 hb).look hls
      have hk2 : ∀ w2, Below wr.heap.size wr w2 → (Instr.lookup 80 (.map (some sb)) (.string ⟨(low (toL s)).toArray⟩) false).run Tryz.prog w2 = .ok (.int .i64 ((g (low (toL s))).getD 0 : Nat)) w2 := fun w2 hb => (HGK.out w2 hb).look hls
      have hgle := HR.out.2.2.2.2.2.2.1 (low (toL s))
      have hcon : ((keysN oid names).take i).reverse.contains (low (toL s)) = decide (0 < (g (low (toL s))).getD 0) := by
        rw [Bool.eq_iff_iff, decide_eq_true_eq, HR.out.2.2.2.2.2.2.2]; simp
      have HT := HR.out.2.2.2.1
      rw [hcon] at HT
      have hput : ∀ q, q = (g (low (toL s))).getD 0 → ∀ k, 0 < ((if k = low (toL s) then some (q + 1) else g k) : Option Nat).getD 0 ↔ k ∈ ((keysN oid names).take (i + 1)).reverse := fun q _ k => by
        rw [HR.out.2.2.2.2.1]
        by_cases e : k = low (toL s)
        · subst e; simp
        · have := HR.out.2.2.2.2.2.2.2 k
          rw [if_neg e, this]; simp [e]
      have hput2 : ∀ q, q = (g (low (toL s))).getD 0 → ∀ k, ((if k = low (toL s) then some (q + 1) else g k) : Option Nat).getD 0 ≤ i + 1 := fun q e k => by
        split
        · simp; omega
        · have := HR.out.2.2.2.2.2.2.1 k; omega
      have HP := Zh (Zi hput hput2); clear hput hput2 hcon
      generalize hp : (f (low (toL s))).getD 0 = p at hk1 HT
      generalize hq : (g (low (toL s))).getD 0 = q at hk2 HT hgle HP
      have hqm : i < maxLen ∧ q + 1 ≤ maxLen := by unfold maxLen; omega
      have HGL := Zh (Zi hgle hqm); clear hgle hqm
      have HK1 := Zh hk1; have HK2 := Zh hk2; have HLS := Zh hls; have HTT := Zh HT; clear hk1 hk2 hls HT hp hq
      by_cases hpp : p < place
      · go_wp2_with (first
          | (go_at_call 89; refine (small_any s _ (by omega)).mono ?_; rintro e w2 ⟨rfl, hb2⟩
             have hk3 := HK1.out w2 hb2
             have HB2 := Zh hb2; clear hb2)
          | fail)
        go_ret
        refine ⟨?_, HSB.out.symm ▸ (HR.out.2.2.1.trans (HB2.out.mono (Nat.le_trans HSW.out.2 HR.out.2.2.1.size)))⟩
        rw [HTT.out, decide_eq_true hpp]; rfl
      · rw [decide_eq_false hpp, Bool.false_or] at HTT
        by_cases hqq : 0 < q
        · go_wp2_with (first
            | (go_at_call 89; refine (small_any s _ (by omega)).mono ?_; rintro e w2 ⟨rfl, hb2⟩
               have hk3 := HK1.out w2 hb2
               have HB2 := Zh hb2; clear hb2 HK1)
            | (go_at_call 89; refine (small_any s _ (by omega)).mono ?_; rintro e w3 ⟨rfl, hb3⟩
               have hk4 := HK2.out w3 (bnext HB2.out hb3)
               have HB3 := Zh (bnext HB2.out hb3); clear hb3 HK2)
            | fail)
          go_ret
          refine ⟨?_, HSB.out.symm ▸ (HR.out.2.2.1.trans (HB3.out.mono (Nat.le_trans HSW.out.2 HR.out.2.2.1.size)))⟩
          rw [HTT.out, decide_eq_true hqq]; rfl
        · rw [decide_eq_false hqq, Bool.false_or] at HTT
          go_wp2_with (first
            | (go_at_call 89; refine (small_any s _ (by omega)).mono ?_; rintro e w2 ⟨rfl, hb2⟩
               have hk3 := HK1.out w2 hb2
               have HB2 := Zh hb2; clear hb2 HK1)
            | (go_at_call 89; refine (small_any s _ (by omega)).mono ?_; rintro e w3 ⟨rfl, hb3⟩
               have hb4 := bnext HB2.out hb3
               have hk4 := HK2.out w3 hb4
               have HB3 := Zh hb4; clear hb3 hb4 HB2 hk3)
            | (go_at_call 89; refine (small_any s _ (by omega)).mono ?_; rintro e w4 ⟨rfl, hb4⟩
               have hb5 := bnext HB3.out hb4
               have hk5 := HK2.out w4 hb5
               have HB4 := Zh hb5; clear hb4 hb5 HB3 hk4)
            | (at_mapUpdate; refine (HGK.out _ HB4.out).wp_put rfl _ _ _ rfl rfl ⟨(low (toL s)).toArray⟩ rfl (q + 1) (by rfl) HGL.out.2.1 HLS.out HGL.out.2.2 ?_; intro w5 hm5 hg5; have H5 := Zh (Zi hm5 hg5); clear hm5 hg5)
            | fail)
          refine ⟨⟨i + 1, by simp, by omega, ⟨_, H5.out.1, HP.out.2 q rfl, HP.out.1 q rfl⟩, ?_, ?_, ?_⟩, by simp [intOf]; omega⟩
          · exact (HO2.out _ HB4.out).keep fun k hk => by cases hk; exact H5.out.2.block _ (HO2.out _ HB4.out).row.lt (by simpa using hgn)
          · exact (HR.out.2.2.1.trans (HB4.out.mono (Nat.le_trans HSW.out.2 HR.out.2.2.1.size))).grown H5.out.2 (Nat.le_trans HSW.out.2 (Nat.le_trans HR.out.2.2.1.size HB4.out.size)) (fun k hk => by cases hk; exact Zr _)
          · rw [HTT.out, HR.out.2.2.2.2.1]; simp
    · have hie : i = L := by omega
      subst hie
      rw [takenB_end f place _ (by simp only [keysN, List.length_map, List.length_cons]; have := HC.out.1; omega)] at htk
      have HR := Zh (Zi htk hbel); clear htk hbel hown hmi hsn
      go_wp2_with fail
      go_ret
      exact ⟨by rw [HR.out.1]; rfl, HSB.out.symm ▸ HR.out.2⟩
end Go.Proofs.YtlmfbjhokkpjhaaGreatDoor
namespace Go.Proofs.YtlmfbjhokkpjhaaGreatDoor
open Go Go.RowKit
theorem isWord_any (s : ByteArray) (w : World) (hs : s.size ≤ 140737488355328) : Calls Tryz.prog 133 #[.string s] w fun e w' => e = .returned (.bool (wordB (toL s))) ∧ w = w' := by
 by_cases hv : toL s = []
 ·obtain rfl := empty_of s hv
  clear hv
  go_enter Tryz.func133, Tryz.ntmps133
  go_wp2_with fail
  go_ret
  exact ⟨rfl, rfl⟩
 ·obtain ⟨b, l, hl⟩ : ∃ b l, toL s = b :: l := by
   cases hl : toL s with
   | nil => exact absurd hl hv
   | cons b l => exact ⟨b, l, rfl⟩
  obtain rfl : s = ⟨(b :: l).toArray⟩ := by rw [← bmk s]; unfold toL at hl; rw [hl]
  clear hv hl
  have hb : ∀ h, (ByteArray.mk (b :: l).toArray)[0]'h = b := fun _ => rfl
  have hsz : 0 < (ByteArray.mk (b :: l).toArray).size := by show 0 < l.length + 1; omega
  have cl := letter_any b
  have ct := fun w => tail_any (ByteArray.mk (b :: l).toArray) w hs
  have hw : wordB (toL ⟨(b :: l).toArray⟩) = (isLet b && tailB (toL ⟨(b :: l).toArray⟩)) := rfl
  generalize tailB (toL ⟨(b :: l).toArray⟩) = x at hw ct
  have HW := Zh hw; clear hw
  cases hL : isLet b with
  | true =>
   rw [hL] at cl HW
   have CL := Zh cl; have CT := Zh ct; clear cl ct hL
   go_enter Tryz.func133, Tryz.ntmps133
   go_wp2_with (first | (go_at_call 187; with_reducible refine (CL.out _).mono ?_; rintro e w1 ⟨rfl, rfl⟩) | (go_at_call 188; with_reducible refine (CT.out _).mono ?_; rintro e w1 ⟨rfl, rfl⟩) | fail)
   go_ret
   exact ⟨by rw [HW.out]; rfl, rfl⟩
  | false =>
   rw [hL] at cl HW
   have CL := Zh cl; clear cl ct hL
   go_enter Tryz.func133, Tryz.ntmps133
   go_wp2_with (first | (go_at_call 187; with_reducible refine (CL.out _).mono ?_; rintro e w1 ⟨rfl, rfl⟩) | fail)
   go_ret
   exact ⟨by rw [HW.out]; rfl, rfl⟩
theorem digs_fin : ∀ n : Fin 256, ([48, 49, 50, 51, 52, 53, 54, 55, 56, 57] : List UInt8).contains (UInt8.ofNat n.val) = decide (48 ≤ n.val ∧ n.val ≤ 57) := by decide +kernel
theorem digs_eq (b : UInt8) : ([48, 49, 50, 51, 52, 53, 54, 55, 56, 57] : List UInt8).contains b = dig b := by
 have := digs_fin ⟨b.toNat, b.toNat_lt⟩
 simpa [dig] using this
theorem dropWhile_nil_iff {p : UInt8 → Bool} : ∀ {l : List UInt8}, l.dropWhile p = [] ↔ ∀ b ∈ l, p b = true
 | [] => by simp
 | b :: l => by
  rw [List.dropWhile_cons]
  cases h : p b with
  | true => simp [h, dropWhile_nil_iff (l := l)]
  | false => simp [h]
theorem trimS_nil (l cs : List UInt8) : Lib.trimS l cs = [] ↔ l.all (cs.contains ·) = true := by
 unfold Lib.trimS Lib.trimLeftS Lib.trimRightS
 constructor
 ·intro h
  have h1 : ∀ b ∈ (l.reverse.dropWhile (cs.contains ·)), cs.contains b = true := by
   intro b hb
   have := dropWhile_nil_iff.1 h b (by simpa using hb)
   simpa using this
  have h2 : l.reverse.dropWhile (cs.contains ·) = [] := by
   cases hd : l.reverse.dropWhile (cs.contains ·) with
   | nil => rfl
   | cons b t =>
    have h3 := h1 b (by rw [hd]; exact List.mem_cons_self ..)
    have h4 := List.head_dropWhile_not (cs.contains ·) (l := l.reverse) (by rw [hd]; simp)
    simp only [hd, List.head_cons] at h4
    rw [h3] at h4; cases h4
  rw [List.all_eq_true]
  intro b hb
  have := dropWhile_nil_iff.1 h2 b (by simpa using hb)
  simpa using this
 ·intro h
  rw [List.all_eq_true] at h
  have h2 : l.reverse.dropWhile (cs.contains ·) = [] := dropWhile_nil_iff.2 fun b hb => h b (by simpa using hb)
  rw [h2]; rfl
theorem trim_digits (l : Str) : Lib.trimS l [48, 49, 50, 51, 52, 53, 54, 55, 56, 57] = [] ↔ l.all dig = true := by
 rw [trimS_nil]
 have : (fun b => ([48, 49, 50, 51, 52, 53, 54, 55, 56, 57] : List UInt8).contains b) = dig := funext digs_eq
 rw [this]
theorem trim_any (s : ByteArray) (w : World) (hs : s.size ≤ 4294967280) :
  Calls Tryz.prog 186 #[.string s, .string ⟨#[48, 49, 50, 51, 52, 53, 54, 55, 56, 57]⟩] w fun e w' => e = .returned (.string ⟨(Lib.trimS (toL s) [48, 49, 50, 51, 52, 53, 54, 55, 56, 57]).toArray⟩) ∧ Below w.heap.size w w' :=
 Any.strings_Trim_laid Tryz.lays160 (by kernel_rfl) s ⟨#[48, 49, 50, 51, 52, 53, 54, 55, 56, 57]⟩ w (by omega) (by decide) (ascii_of_all (by decide))
theorem rowcs (x : ByteArray) : (x = ⟨#[]⟩ ∧ rowOk (toL x) = false) ∨ ∃ b l, x = ⟨(b :: l).toArray⟩ ∧ rowOk (toL x) = ((b :: l).all dig && !(b == 48 && !l.isEmpty)) := by
 cases hl : toL x with
 | nil => exact .inl ⟨empty_of x hl, rfl⟩
 | cons b l => exact .inr ⟨b, l, by rw [← bmk x]; unfold toL at hl; rw [hl], rfl⟩
set_option maxRecDepth 20000 in
set_option maxHeartbeats 1000000 in
theorem isOid_any (v : ByteArray) (w : World) (E : EnvS w) (hs : v.size ≤ 4294967280) :
  Calls Tryz.prog 132 #[.string v] w fun e w' => e = .returned (.bool (oidB (toL v))) ∧ Below w.heap.size w w' := by
 obtain ⟨m, hm⟩ := E.max
 have HM := Zh hm; clear hm E
 go_enter Tryz.func132, Tryz.ntmps132
 go_wp2_with fail
 go_at_call 185
 refine (Tryz.strings_Split _ _ m _ (by omega) HM.out (by decide)).mono ?_
 rintro e w1 ⟨rfl, hw1⟩
 have hlen := Lib.splitB_all ⟨#[46]⟩ (by decide) 0 _ v rfl
 have hcut := splitB_cut v 46 (Lib.countB v ⟨#[46]⟩) rfl
 have hcl := Lib.countB_le ⟨#[46]⟩ (by decide) _ v (Zr _)
 have hsub : ∀ x, x ∈ Lib.splitB ⟨#[46]⟩ 0 (Lib.countB v ⟨#[46]⟩) v → x.size ≤ 4294967280 := fun x hx => by
  have h1 : x.data.toList ∈ cutAt 46 v.data.toList := by rw [← hcut]; exact List.mem_map_of_mem hx
  have h2 := cutAt_le 46 v.data.toList _ h1
  rw [Lib.size_eq]
  have h3 : v.data.toList.length ≤ 4294967280 := by rw [← Lib.size_eq]; exact hs
  omega
 generalize Lib.splitB ⟨#[46]⟩ 0 (Lib.countB v ⟨#[46]⟩) v = xs at hlen hcut hw1 hsub
 rw [← hlen]
 have hxl : xs.length ≤ 4294967281 := by omega
 clear hlen hcl
 have hcell : ∀ j x, xs[j]? = some x → w1.cell? ⟨w.heap.size, j, none⟩ = some (.string x) := by
  intro j x hj
  rw [hw1, cell_of_row _ _ j _ _ (0, 0) (heap_alloc_new _ _)]
  simp [hj]
 have B1 : Below w.heap.size w w1 := by rw [hw1]; exact (Zl _ w).alloc (Zr _) _
 have hgl : w.heap.size < w1.heap.size := by rw [hw1]; simp
 have hq : cutAt 46 (toL v) = xs.map (·.data.toList) := hcut.symm
 generalize hgg : w.heap.size = g at hcell hgl B1 ⊢
 have HX := Zh (Zi hcell (Zi hq (Zi hsub hgg))); have HB1 := Zh B1; have HGL := Zh hgl; clear hcell hcut hsub B1 hw1 HM m hq hgg hgl
 go_wp2_with fail
 go_loopw [10] (fun iv wr => ∃ i : Nat, iv = .int .i64 i ∧ i ≤ xs.length ∧ Below w1.heap.size w1 wr ∧ (cutAt 46 (toL v)).all rowOk = ((xs.map (·.data.toList)).drop i).all rowOk) (fun iv _ => xs.length - (intOf iv).toNat)
 case atStart => exact ⟨0, rfl, Nat.zero_le _, Zl _ _, by rw [HX.out.2.1]; rfl⟩
 case round =>
  obtain ⟨i, rfl, hi, hbl, hall⟩ := hrel
  have HA := Zh hall; clear hall
  by_cases hlt : i < xs.length
  ·have hc := HX.out.1 i _ (List.getElem?_eq_getElem hlt)
   rw [← hbl.cell (p := ⟨g, i, none⟩) HGL.out] at hc
   have HBL := Zh hbl; clear hbl
   have hs2 := HX.out.2.2.1 _ (List.getElem_mem hlt)
   have ha : (cutAt 46 (toL v)).all rowOk = (rowOk (toL xs[i]) && ((xs.map (·.data.toList)).drop (i + 1)).all rowOk) := by
    rw [HA.out, List.drop_eq_getElem_cons (by simpa using hlt), List.all_cons]; simp
   have HA2 := Zh ha; clear ha HA
   generalize xs[i] = x at hc hs2 HA2
   have fin : rowOk (toL x) = false → oidB (toL v) = false := fun h => by unfold oidB; rw [HA2.out, h]; rfl
   have HF := Zh fin; clear fin
   have HGW := Zh (Nat.le_trans (Nat.le_of_lt HGL.out) HBL.out.size)
   have HBB := Zh (HB1.out.trans (HBL.out.mono (Nat.le_of_lt HGL.out)))
   rcases rowcs x with ⟨rfl, hr⟩ | ⟨c, t, rfl, hr⟩
   ·have HR := Zh hr; clear hr
    go_wp2_with fail
    go_ret
    exact ⟨by rw [HF.out HR.out]; rfl, by rw [HX.out.2.2.2]; exact HBB.out⟩
   ·have hb3 : ∀ h, (ByteArray.mk (c :: t).toArray)[0]'h = c := fun _ => rfl
    have hsz3 : 0 < (ByteArray.mk (c :: t).toArray).size := by show 0 < t.length + 1; omega
    have hne : ∀ c : UInt8, c ≠ 48 → ¬ (c.toNat : Int) = 48 := fun c h e => h (UInt8.toNat_inj.1 (by show c.toNat = 48; omega))
    have tr := fun w => trim_any (ByteArray.mk (c :: t).toArray) w hs2
    have td := trim_digits (toL (ByteArray.mk (c :: t).toArray))
    cases hD : (c :: t).all dig with
    | false =>
     rw [show (toL (ByteArray.mk (c :: t).toArray)).all dig = false from hD] at td
     have hz := nonempty_of ⟨(Lib.trimS (toL (ByteArray.mk (c :: t).toArray)) [48, 49, 50, 51, 52, 53, 54, 55, 56, 57]).toArray⟩ (fun e => by have := td.1 e; cases this)
     generalize (ByteArray.mk (Lib.trimS (toL (ByteArray.mk (c :: t).toArray)) [48, 49, 50, 51, 52, 53, 54, 55, 56, 57]).toArray) = y at tr hz
     obtain ⟨hz1, hz2, hz3⟩ := hz
     rw [hD, Bool.false_and] at hr
     have HR := Zh hr; have HTR := Zh tr; clear hr hD td tr
     by_cases h48 : c = 48
     ·subst h48
      cases t with
      | nil =>
       clear hne
       go_wp2_with (first
        | (go_at_call 186; refine (HTR.out _).mono ?_; rintro e w3 ⟨rfl, hb3⟩; have HB3 := Zh (HBB.out.trans (hb3.mono HGW.out)); clear hb3)
        | fail)
       go_ret
       exact ⟨by rw [HF.out HR.out]; rfl, by rw [HX.out.2.2.2]; exact HB3.out⟩
      | cons d t =>
       have hl2 : (1 : Int) < (t.length : Int) + 1 + 1 := by omega
       clear hne
       go_wp2_with fail
       go_ret
       exact ⟨by rw [HF.out HR.out]; rfl, by rw [HX.out.2.2.2]; exact HBB.out⟩
     ·have hn := hne c h48
      clear hne h48
      go_wp2_with (first
       | (go_at_call 186; refine (HTR.out _).mono ?_; rintro e w3 ⟨rfl, hb3⟩; have HB3 := Zh (HBB.out.trans (hb3.mono HGW.out)); clear hb3)
       | fail)
      go_ret
      exact ⟨by rw [HF.out HR.out]; rfl, by rw [HX.out.2.2.2]; exact HB3.out⟩
    | true =>
     rw [td.2 hD] at tr
     rw [hD, Bool.true_and] at hr
     have HTR := Zh tr; clear hD td tr
     by_cases h48 : c = 48
     ·subst h48
      cases t with
      | nil =>
       have HR := Zh hr; clear hne hr
       go_wp2_with (first
        | (go_at_call 186; refine (HTR.out _).mono ?_; rintro e w3 ⟨rfl, hb3⟩; have HB3 := Zh (bnext HBL.out hb3); clear hb3)
        | fail)
       exact ⟨⟨i + 1, by simp, by omega, HB3.out, by rw [HA2.out, HR.out]; simp⟩, by simp [intOf]; omega⟩
      | cons d t =>
       have hl2 : (1 : Int) < (t.length : Int) + 1 + 1 := by omega
       have HR := Zh hr; clear hne hr
       go_wp2_with fail
       go_ret
       exact ⟨by rw [HF.out (by rw [HR.out]; rfl)]; rfl, by rw [HX.out.2.2.2]; exact HBB.out⟩
     ·have hn := hne c h48
      rw [show (c == 48) = false by simpa using h48] at hr
      have HR := Zh hr; clear hne h48 hr
      go_wp2_with (first
       | (go_at_call 186; refine (HTR.out _).mono ?_; rintro e w3 ⟨rfl, hb3⟩; have HB3 := Zh (bnext HBL.out hb3); clear hb3)
       | fail)
      exact ⟨⟨i + 1, by simp, by omega, HB3.out, by rw [HA2.out, HR.out]; simp⟩, by simp [intOf]; omega⟩
  ·have hfin : (cutAt 46 (toL v)).all rowOk = true := by rw [HA.out, List.drop_eq_nil_of_le (by simpa using hlt)]; rfl
   have hle : (cutAt 46 (toL v)).length = xs.length := by rw [HX.out.2.1]; simp
   have hb := HB1.out.trans (hbl.mono (Nat.le_of_lt HGL.out))
   have HF := Zh (Zi hfin (Zi hle hb)); clear hfin hle hb hbl
   go_wp2_with fail
   go_ret
   refine ⟨?_, by rw [HX.out.2.2.2]; exact HF.out.2.2⟩
   rw [show oidB (toL v) = decide (1 < xs.length) by unfold oidB; rw [HF.out.1, HF.out.2.1, Bool.true_and]]
   rw [show decide (1 < xs.length) = decide ((1 : Int) < (xs.length : Int)) from decide_eq_decide.2 (by omega)]
   rfl
def nameOk (n : ByteArray) : Bool := wordB (toL n) && decide (n.size ≤ 65536)
theorem namedE_bad {oid : ByteArray} {names : List ByteArray} (h : oidB (toL oid) = false ∨ 65536 < oid.size ∨ names = []) : namedE oid names = 50 := by
 unfold namedE
 rw [if_pos]
 rcases h with h | h | h
 ·simp [h]
 ·simp [h]
 ·simp [h]
theorem namedE_ok {oid : ByteArray} {names : List ByteArray} (h1 : oidB (toL oid) = true) (h2 : oid.size ≤ 65536) (h3 : names ≠ []) : namedE oid names = if names.all nameOk then (if 16 < names.length then 3 else 0) else 50 := by
 unfold namedE
 rw [if_neg]
 ·rfl
 ·cases names with
  | nil => exact absurd rfl h3
  | cons a l => simp [h1]; omega
set_option maxRecDepth 20000 in
set_option maxHeartbeats 1000000 in
theorem named_any (oid : ByteArray) (B : Nat) (a : Option Addr) (n c : Nat) (names : List ByteArray) (w : World) (E : EnvS w) (h : Texts B w a n c names) (hB : B ≤ w.heap.size) (ho : oid.size ≤ 4294967280) :
  Calls Tryz.prog 90 #[.string oid, .slice a n c] w fun e w' => e = .returned (.int .i64 (namedE oid names)) ∧ Below w.heap.size w w' := by
 have hl := h.len
 have HN := Zh hl; have H := Zh h; have HE := Zh E; have HBB := Zh hB; have HO := Zh ho; clear h hl E hB ho
 have K := Zh (fun s w (hs : s.size ≤ 4294967280) (hE : EnvS w) => isOid_any s w hE hs)
 go_enter Tryz.func90, Tryz.ntmps90
 go_wp2_with (first | (go_at_call 132; with_reducible refine (K.out oid _ HO.out HE.out).mono ?_; rintro e w1 ⟨rfl, hb1⟩; have HB1 := Zh hb1; clear hb1) | fail)
 rotate_left
 ·rename_i h1 h2 h3 kx ky
  have h3' : 0 < names.length := by have := HN.out; have h4 := h3.2; simp only [beq_eq_false_iff_ne] at h4; omega
  have hne : names ≠ [] := by intro e; rw [e] at h3'; simp at h3'
  have hok := namedE_ok h1 (by omega) hne
  have HK := Zh hok; clear hok h1 h2 h3 hne
  obtain ⟨b, o, rfl, hb⟩ := H.out.lies.ptr (by have := HN.out; omega)
  have hlt0 : b < w.heap.size := Nat.lt_of_lt_of_le hb HBB.out
  have HLT := Zh hlt0; clear hb hlt0 h3'
  have hns : n ≤ 4294967280 := H.out.small
  go_loop [22] (fun iv => ∃ i : Nat, iv = .int .i64 i ∧ i ≤ n ∧ names.all nameOk = (names.drop i).all nameOk) (fun iv => n - (intOf iv).toNat)
  case atStart => exact ⟨0, rfl, Nat.zero_le _, rfl⟩
  case round =>
   obtain ⟨i, rfl, hi, ht⟩ := hrel
   have HT := Zh ht; clear ht
   by_cases hlt : i < n
   ·have hli : i < names.length := by have := HN.out; omega
    have hc := H.out.cell b o rfl i _ (List.getElem?_eq_getElem hli)
    rw [← HB1.out.cell (p := ⟨b, o + i, none⟩) HLT.out] at hc
    have hsz := H.out.size _ (List.getElem_mem hli)
    have hd : (names.drop i).all nameOk = (nameOk names[i] && (names.drop (i + 1)).all nameOk) := by rw [List.drop_eq_getElem_cons hli]; rfl
    rw [hd] at HT
    clear hd
    unfold nameOk at HT
    generalize names[i] = s at hc hsz HT
    have cw := fun w => isWord_any s w (by omega)
    cases hW : wordB (toL s) with
    | false =>
     rw [hW] at HT cw
     have CW := Zh cw; clear cw hW
     go_wp2_with (first | (go_at_call 133; with_reducible refine (CW.out _).mono ?_; rintro e w2 ⟨rfl, rfl⟩) | fail)
     go_ret
     refine ⟨?_, HB1.out⟩
     rw [HK.out]; unfold nameOk; rw [HT.out]; rfl
    | true =>
     rw [hW] at HT cw
     have CW := Zh cw; clear cw hW
     by_cases hs : (65536 : Int) < s.size
     ·rw [decide_eq_false (by omega)] at HT
      go_wp2_with (first | (go_at_call 133; with_reducible refine (CW.out _).mono ?_; rintro e w2 ⟨rfl, rfl⟩) | fail)
      go_ret
      refine ⟨?_, HB1.out⟩
      rw [HK.out]; unfold nameOk; rw [HT.out]; rfl
     ·rw [decide_eq_true (by omega)] at HT
      have hs2 : (s.size : Int) ≤ 65536 := by omega
      clear hs
      go_wp2_with (first | (go_at_call 133; with_reducible refine (CW.out _).mono ?_; rintro e w2 ⟨rfl, rfl⟩) | fail)
      exact ⟨⟨i + 1, by simp, by omega, by unfold nameOk; rw [HT.out]; simp⟩, by simp [intOf]; omega⟩
   ·have hie : i = n := by omega
    rw [List.drop_eq_nil_of_le (by have := HN.out; omega)] at HT
    have hall : names.all nameOk = true := HT.out
    have HA := Zh hall; clear hall hie HT
    by_cases h16 : (16 : Int) < n
    ·go_wp2_with fail
     go_ret
     exact ⟨by rw [HK.out, HA.out, if_pos rfl, if_pos (by have := HN.out; omega)]; rfl, HB1.out⟩
    ·go_wp2_with fail
     go_ret
     exact ⟨by rw [HK.out, HA.out, if_pos rfl, if_neg (by have := HN.out; omega)]; rfl, HB1.out⟩
 ·rename_i h1 h2
  go_ret
  exact ⟨by rw [namedE_bad (.inr (.inl (by omega)))]; rfl, HB1.out⟩
 ·rename_i h1
  go_ret
  exact ⟨by rw [namedE_bad (.inl (by simpa using h1))]; rfl, HB1.out⟩
 ·rename_i h1 h2 h3
  go_ret
  refine ⟨?_, HB1.out⟩
  rw [namedE_bad]; rfl
  rcases h3 with h3 | h3
  ·exact .inr (.inl (by omega))
  ·refine .inr (.inr ?_)
   have : names.length = 0 := by have := HN.out; have h4 := beq_iff_eq.1 h3; omega
   exact List.eq_nil_of_length_eq_zero this
end Go.Proofs.YtlmfbjhokkpjhaaGreatDoor
