/- Part 20 of the walks and plain laws, joined: CovC, WantC. -/
import Derived.Test.YtifgmnafjihlkaaGreatDoorMW19
/- (*schema.Schema).Covers: the walk. -/
namespace Go.Proofs.YtifgmnafjihlkaaGreatDoor
open Go Go.RowKit Go.Maps

theorem toL_injC {a b : ByteArray} (h : toL a = toL b) : a = b := by
  cases a; cases b
  simp only [toL] at h
  congr 1
  exact Array.toList_inj.1 h
theorem strsB_get {O : List Str} {i : Nat} (h : i < O.length) (h2 : i < (strsB O).length) : toL (strsB O)[i] = O[i] := by
  have e : (strsB O)[i]? = some ⟨(O[i]).toArray⟩ := by unfold strsB; simp [h]
  rw [List.getElem?_eq_getElem h2] at e
  rw [Option.some.inj e]
theorem contains_texts (B : Nat) (a : Option Addr) (n c : Nat) (l : List ByteArray) (x : ByteArray) (w : World) (h : Texts B w a n c l) :
    Calls Tryz.prog 95 #[.slice a n c, .string x] w fun e w' => e = .returned (.bool ((l.map toL).contains (toL x))) ∧ w = w' := by
  have hn := h.len
  by_cases h0 : n = 0
  · subst h0
    have : l = [] := List.eq_nil_of_length_eq_zero hn.symm
    subst this
    exact (Tryz.slices_Contains_string_empty a c x w).mono fun e w' ⟨he, hw⟩ => ⟨he, hw.symm⟩
  · obtain ⟨b, o, rfl, hb⟩ := h.lies.ptr (by omega)
    refine (Tryz.slices_Contains_string b o n c l x w (by omega) (by have := h.small; omega) (fun j hj => ?_)).mono fun e w' ⟨he, hw⟩ => ⟨?_, hw.symm⟩
    · have := h.cell b o rfl j l[j] (List.getElem?_eq_getElem hj)
      rw [this]; simp [List.getD, hj]
    · rw [he, List.take_of_length_le (by omega)]
      congr 2
      rw [Bool.eq_iff_iff, Lib.containsS_iff]
      simp only [List.contains_iff_mem, List.mem_map]
      exact ⟨fun h => ⟨x, h, rfl⟩, fun ⟨y, hy, e⟩ => (toL_injC e) ▸ hy⟩
theorem belowOf_sorted (S : PSchema) (t : Nat) : ((belowOf S t).map Int.ofNat).Pairwise (· ≤ ·) := by
  unfold belowOf
  refine List.Pairwise.map _ (fun a b (h : a < b) => ?_) ((List.pairwise_lt_range).filter _)
  exact Int.ofNat_le.2 (Nat.le_of_lt h)
theorem descV_lt {S : PSchema} {d : Str} (h : (descV S d).2.2 = 0) : (descV S d).1 < S.types.length := by
  unfold descV at h ⊢
  split at h
  · cases h
  · rename_i h1
    rw [if_neg h1]
    split at h
    · cases h
    · rename_i h2
      rw [if_neg h2]
      split at h
      · cases h
      · rename_i h3
        rw [if_neg h3]
        split at h
        · cases h
        · rename_i h4
          rw [if_neg h4]
          cases ht : typeAt S ((cutAt 59 d).headD []) with
          | none => rw [ht] at h; cases h
          | some t =>
            rw [ht] at h
            simp only at h ⊢
            split at h
            · cases h
            · rename_i h5
              rw [if_neg h5]
              unfold typeAt at ht
              split at ht
              · cases ht
              · have := placeOf_lt ht; simpa [tK] using this
/-- what the search in a row of what lies below says -/
theorem search_below (S : PSchema) (g : Nat) (t u : Nat) (w : World) (h : Sch w g S) (ht : t < S.types.length) : ∃ bb v, w.cell? ⟨g, 5, none⟩ = some (.slice (some ⟨bb, 0, none⟩) S.types.length S.types.length) ∧ w.cell? ⟨bb, t, none⟩ = some v ∧ (∃ a n c, v = .slice a n c) ∧
    ∀ wq, Below w.heap.size w wq → Calls Tryz.prog 94 #[v, .int .i64 (u : Nat)] wq fun e w' => (∃ k, e = .returned (.tuple #[.int .i64 k, .bool ((belowOf S t).contains u)])) ∧ Below wq.heap.size wq w' := by
  obtain ⟨bb, f, h1, h2⟩ := h.below
  refine ⟨bb, _, h1, h2.cell t ht, ⟨_, _, _, rfl⟩, fun wq hb => ?_⟩
  have hown := h2.own t ht
  cases hf : (f t).1 with
  | none =>
    rw [hf] at hown
    have h0 : (belowOf S t).length = 0 := hown.2.1
    have hnil : belowOf S t = [] := List.eq_nil_of_length_eq_zero h0
    rw [hnil]
    refine (Tryz.slices_BinarySearch_int_empty none _ (u : Int) wq).mono ?_
    rintro e w' ⟨rfl, rfl⟩
    exact ⟨⟨_, rfl⟩, Below.refl _ _⟩
  | some gb =>
    rw [hf] at hown
    have hlt : (belowOf S t).length ≤ 1024 := by
      unfold belowOf
      refine Nat.le_trans (List.length_filter_le _ _) ?_
      have := h.small.1; simpa using this
    refine (Tryz.slices_BinarySearch_int gb 0 (belowOf S t).length (f t).2 ((belowOf S t).map Int.ofNat) (u : Int) wq (by simp) (by omega) (fun j hj => ?_) (by rw [List.take_of_length_le (by simp)]; exact belowOf_sorted S t)).mono ?_
    · have hj' : j < (belowOf S t).length := by simpa using hj
      rw [Nat.zero_add, hb.cell (p := ⟨gb, j, none⟩) hown.row.lt, hown.row.cell (intV_get hj')]
      simp [List.getD, hj']
    · rintro e w' ⟨rfl, q, rfl⟩
      refine ⟨⟨((((((belowOf S t).map Int.ofNat).take (belowOf S t).length).countP (· < (u : Int))) : Nat) : Int), ?_⟩, bdrewN (Below.refl wq.heap.size wq) q⟩
      have hc : (((belowOf S t).map Int.ofNat).take (belowOf S t).length).contains (u : Int) = (belowOf S t).contains u := ?_
      · rw [hc]
      rw [List.take_of_length_le (by simp)]
      rw [Bool.eq_iff_iff]
      simp only [List.contains_iff_mem, List.mem_map]
      exact ⟨fun ⟨a, ha, e⟩ => (Int.ofNat.inj e) ▸ ha, fun h => ⟨u, h, rfl⟩⟩

set_option maxRecDepth 20000 in
set_option maxHeartbeats 4000000 in
theorem covers_any (S : PSchema) (g : Nat) (d e : ByteArray) (w : World) (h : Sch w g S) (hE : EnvS w) (hd : d.size ≤ 4294967280) (he : e.size ≤ 4294967280) :
    Calls Tryz.prog 39 #[.pointer (some ⟨g, 0, none⟩), .string d, .string e] w fun r w' => r = .returned (.bool (coversV S (toL d) (toL e))) ∧ Below w.heap.size w w' := by
  have h1 := fun wq hb => desc_any S g d wq (h.keep hb) (hE.next hb) hd
  have h2 := fun wq hb => desc_any S g e wq (h.keep hb) (hE.next hb) he
  unfold DescPost at h1 h2
  have hlt : (descV S (toL d)).2.2 = 0 → (descV S (toL d)).1 < S.types.length := fun h => descV_lt h
  obtain ⟨cv, hcv⟩ : ∃ cv, coversV S (toL d) (toL e) = cv := ⟨_, rfl⟩
  have hcv2 := hcv
  unfold coversV at hcv2
  rw [hcv]
  generalize descV S (toL d) = p at h1 hlt hcv2
  generalize descV S (toL e) = q at h2 hcv2
  obtain ⟨t, O, c1⟩ := p
  obtain ⟨u, A, c2⟩ := q
  simp only at h1 h2 hlt hcv2
  have H1 := Lib.hid h1; have H2 := Lib.hid h2; have HSC := Lib.hid h; have HCV := Lib.hid hcv2; have HLT := Lib.hid hlt
  clear h1 h2 h hcv hcv2 hlt hE
  go_enter Tryz.func39, Tryz.ntmps39
  go_upto_region 3 with (first
    | (go_at_call 93; (with_reducible refine (H1.out _ (Below.refl _ _)).mono ?_); rintro en w1 ⟨a1, n1, k1, rfl, hte1, hb1⟩; have HB1 := Lib.hid (And.intro hte1 hb1); clear hte1 hb1)
    | (go_at_call 93; (with_reducible refine (H2.out _ HB1.out.2).mono ?_); rintro en w2 ⟨a2, n2, k2, rfl, hte2, hb2⟩; have HB2 := Lib.hid (And.intro hte2 (And.intro hb2 (bnext HB1.out.2 hb2))); clear hte2 hb2)
    | fail)
  by_cases z1 : c1 = 0
  · by_cases z2 : c2 = 0
    · subst z1; subst z2
      have hcv3 := HCV.out
      rw [if_neg (by simp)] at hcv3
      have htl := HLT.out rfl
      obtain ⟨bb, bv, hc5, hcb, ⟨ba, bn, bc, rfl⟩, hbs⟩ := search_below S g t u w2 (HSC.out.keep HB2.out.2.2) htl
      have ht0 : (0 : Int) ≤ (t : Int) := by omega
      have htn : (t : Int) < (S.types.length : Int) := by omega
      have hT1 := HB1.out.1.keep HB2.out.2.1 HB2.out.2.1.size
      have hA := HB2.out.1
      have hO : (strsB O).map toL = O := by unfold strsB; rw [List.map_map]; exact List.map_id _
      have hA2 : (strsB A).map toL = A := by unfold strsB; rw [List.map_map]; exact List.map_id _
      have hn1 : n1 = O.length := by rw [hT1.len]; simp [strsB]
      have hsm := hT1.small
      have hct := fun wq x (hb : Below w2.heap.size w2 wq) => contains_texts _ _ _ _ _ x wq (hA.keep hb hb.size)
      rw [hA2] at hct
      have HBS := Lib.hid hbs; have HCV3 := Lib.hid hcv3; have HT1 := Lib.hid (And.intro hT1 (And.intro hO hn1)); have HCT := Lib.hid hct
      generalize (belowOf S t).contains u = bq at HBS HCV3
      clear hcv3 hbs hT1 hA hO hA2 hn1 hct HCV htl
      cases bq with
      | false =>
        go_wp2_with (first
          | (go_at_call 94; (with_reducible refine (HBS.out _ (Below.refl _ _)).mono ?_); rintro en w3 ⟨⟨kk, rfl⟩, hb3⟩; have HB3 := Lib.hid (bnext HB2.out.2.2 hb3); clear hb3)
          | fail)
        go_ret
        exact ⟨by rw [← HCV3.out]; rfl, HB3.out⟩
      | true =>
        go_wp2_with (first
          | (go_at_call 94; (with_reducible refine (HBS.out _ (Below.refl _ _)).mono ?_); rintro en w3 ⟨⟨kk, rfl⟩, hb3⟩; have HB3 := Lib.hid hb3; clear hb3)
          | fail)
        clear hc5 hcb
        go_loopw [53] (fun iv wr => ∃ i : Nat, iv = .int .i64 i ∧ i ≤ n1 ∧ Below w2.heap.size w2 wr ∧ (O.take i).all (fun o => A.contains o) = true) (fun iv _ => n1 - (intOf iv).toNat)
        case atStart => exact ⟨0, rfl, Nat.zero_le _, HB3.out, rfl⟩
        case round =>
          obtain ⟨i, rfl, hi, hbr, hall⟩ := hrel
          by_cases hl : i < n1
          · have hli : i < (strsB O).length := by have := HT1.out.2.2; simp [strsB]; omega
            obtain ⟨tb, tx, rfl, htb⟩ := HT1.out.1.lies.ptr (by omega)
            have hc := (HT1.out.1.keep hbr hbr.size).cell tb tx rfl i _ (List.getElem?_eq_getElem hli)
            have hlo : i < O.length := by rw [← HT1.out.2.2]; exact hl
            have hx : toL (strsB O)[i] = O[i] := strsB_get hlo hli
            have hcon := HCT.out wr (strsB O)[i] hbr
            rw [hx] at hcon
            have htk : O.take (i + 1) = O.take i ++ [O[i]] := List.take_succ_eq_append_getElem hlo
            generalize (strsB O)[i] = x at hc hcon hx
            have hmem : O[i] ∈ O := List.getElem_mem hlo
            generalize O[i] = o at hcon htk hmem hx
            cases hq : A.contains o with
            | false =>
              rw [hq] at hcon
              have hcvf : cv = false := by
                rw [← HCV3.out, Bool.true_and, List.all_eq_false]
                exact ⟨o, hmem, by rw [hq]; simp⟩
              have HCON := Lib.hid hcon; have HF := Lib.hid (And.intro hcvf hbr); clear hcon hcvf hq hmem htk hall hx hbr
              go_wp2_with (first
                | (go_at_call 95; (with_reducible refine (HCON.out).mono ?_); rintro en w4 ⟨rfl, rfl⟩)
                | fail)
              go_ret
              exact ⟨by rw [HF.out.1]; rfl, bnext HB2.out.2.2 HF.out.2⟩
            | true =>
              rw [hq] at hcon
              have hall2 : (O.take (i + 1)).all (fun o => A.contains o) = true := by rw [htk, List.all_append, hall, Bool.true_and]; simp only [List.all_cons, List.all_nil, Bool.and_true]; exact hq
              have HCON := Lib.hid hcon; have HF := Lib.hid (And.intro hall2 hbr); clear hcon hall2 hq hmem htk hall hx hbr
              go_wp2_with (first
                | (go_at_call 95; (with_reducible refine (HCON.out).mono ?_); rintro en w4 ⟨rfl, rfl⟩)
                | fail)
              exact ⟨⟨i + 1, by simp, by omega, HF.out.2, HF.out.1⟩, by simp [intOf]; omega⟩
          · obtain rfl : i = n1 := by omega
            have hcvt : cv = true := by
              rw [← HCV3.out, Bool.true_and]
              rw [List.take_of_length_le (by rw [← HT1.out.2.2]; exact Nat.le_refl _)] at hall
              exact hall
            have HF := Lib.hid (And.intro hcvt hbr); clear hcvt hbr hall
            go_wp2_with fail
            go_ret
            exact ⟨by rw [HF.out.1]; rfl, bnext HB2.out.2.2 HF.out.2⟩
    · subst z1
      have hz : (c2 != 0) = true := by simpa using z2
      have hcv3 : cv = false := by rw [← HCV.out, if_pos (.inr z2)]
      have HC3 := Lib.hid hcv3; clear hcv3 z2
      go_wp2_with fail
      go_ret
      exact ⟨by rw [HC3.out]; rfl, HB2.out.2.2⟩
  · have hz : (c1 != 0) = true := by simpa using z1
    have hcv3 : cv = false := by rw [← HCV.out, if_pos (.inl z1)]
    have HC3 := Lib.hid hcv3; clear hcv3 z1
    go_wp2_with fail
    go_ret
    exact ⟨by rw [HC3.out]; rfl, HB2.out.2.2⟩
end Go.Proofs.YtifgmnafjihlkaaGreatDoor
/- view.Wants: the walk. -/
namespace Go.Proofs.YtifgmnafjihlkaaGreatDoor
open Go Go.RowKit Go.Maps

/-- what the closure captured: the schema and the description -/
structure WCap (w : World) (ps pd g : Nat) (desc : ByteArray) : Prop where
  s : w.cell? ⟨ps, 0, none⟩ = some (.pointer (some ⟨g, 0, none⟩))
  d : w.cell? ⟨pd, 0, none⟩ = some (.string desc)
theorem WCap.keep {w w' : World} {ps pd g : Nat} {desc : ByteArray} (h : WCap w ps pd g desc) (k : Below w.heap.size w w') : WCap w' ps pd g desc :=
  ⟨by rw [k.cell (World.block_lt_of_cell? w _ h.s)]; exact h.s, by rw [k.cell (World.block_lt_of_cell? w _ h.d)]; exact h.d⟩
def wantE (S : PSchema) (desc : Str) (x : Str) : Bool := x == [42] || coversV S x desc

set_option maxRecDepth 20000 in
theorem want1_any (S : PSchema) (ps pd g : Nat) (desc x : ByteArray) (w : World) (h : Sch w g S) (hE : EnvS w) (hc : WCap w ps pd g desc) (hd : desc.size ≤ 4294967280) (hx : x.size ≤ 4294967280) :
    Calls Tryz.prog 84 #[.string x, .pointer (some ⟨ps, 0, none⟩), .pointer (some ⟨pd, 0, none⟩)] w fun r w' => r = .returned (.bool (wantE S (toL desc) (toL x))) ∧ Below w.heap.size w w' := by
  have c0 := hc.s
  have c1 := hc.d
  have hcv := covers_any S g x desc w h hE hx hd
  unfold wantE
  generalize coversV S (toL x) (toL desc) = cv at hcv ⊢
  have HCV := Lib.hid hcv; clear hcv h hE hc hd hx
  by_cases hs : toL x = [42]
  · have hx : x = ⟨#[42]⟩ := by
      have := bmk x; unfold toL at hs; rw [hs] at this; exact this.symm
    subst hx
    go_enter Tryz.func84, Tryz.ntmps84
    go_wp2_with fail
    go_ret
    exact ⟨rfl, Below.refl _ _⟩
  · have h1 : (toL x == [42]) = false := by simpa using hs
    rw [h1, Bool.false_or]
    obtain ⟨l, rfl⟩ : ∃ l : Str, x = ⟨l.toArray⟩ := ⟨toL x, (bmk x).symm⟩
    have hl : (l == [42]) = false := by simpa [toL] using hs
    clear hs h1
    go_enter Tryz.func84, Tryz.ntmps84
    go_wp2_with (first
      | (go_at_call 39; (with_reducible refine (HCV.out).mono ?_); rintro en w1 ⟨rfl, hb1⟩; have HB1 := Lib.hid hb1; clear hb1)
      | fail)
    go_ret
    exact ⟨rfl, HB1.out⟩

set_option maxRecDepth 20000 in
set_option maxHeartbeats 2000000 in
theorem windex_any (S : PSchema) (ps pd g : Nat) (desc : ByteArray) (B : Nat) (a : Option Addr) (n c : Nat) (l : List ByteArray) (w : World) (h : Sch w g S) (hE : EnvS w) (hc : WCap w ps pd g desc) (hd : desc.size ≤ 4294967280) (ht : Texts B w a n c l) (hB : B ≤ w.heap.size) :
    Calls Tryz.prog 139 #[.slice a n c, .func (.func 84) #[] #[.pointer (some ⟨ps, 0, none⟩), .pointer (some ⟨pd, 0, none⟩)]] w fun r w' =>
      (∃ k : Int, r = .returned (.int .i64 k) ∧ (0 ≤ k ↔ (l.map toL).any (wantE S (toL desc)) = true)) ∧ Below w.heap.size w w' := by
  have hn := ht.len
  have hsm := ht.small
  have HX := Lib.hid (And.intro h (And.intro hE (And.intro hc (And.intro ht (And.intro hB hn))))); clear h hE hc ht hB hn
  go_enter Tryz.func139, Tryz.ntmps139
  go_wp2_with fail
  go_loopw [8] (fun iv wr => ∃ i : Nat, iv = .int .i64 i ∧ i ≤ n ∧ Below w.heap.size w wr ∧ ((l.take i).map toL).any (wantE S (toL desc)) = false) (fun iv _ => n - (intOf iv).toNat)
  case atStart => exact ⟨0, rfl, Nat.zero_le _, Below.refl _ _, rfl⟩
  case round =>
    obtain ⟨i, rfl, hi, hbr, hno⟩ := hrel
    by_cases hl : i < n
    · have hli : i < l.length := by have := HX.out.2.2.2.2.2; omega
      obtain ⟨tb, tx, rfl, htb⟩ := HX.out.2.2.2.1.lies.ptr (by omega)
      have hcx := (HX.out.2.2.2.1.keep (hbr.mono HX.out.2.2.2.2.1) (Nat.le_refl _)).cell tb tx rfl i _ (List.getElem?_eq_getElem hli)
      have hsz := HX.out.2.2.2.1.size _ (List.getElem_mem hli)
      have htk : l.take (i + 1) = l.take i ++ [l[i]] := List.take_succ_eq_append_getElem hli
      have hmem : l[i] ∈ l := List.getElem_mem hli
      generalize l[i] = x at hcx hsz htk hmem
      have hw1 := want1_any S ps pd g desc x wr (HX.out.1.keep hbr) (HX.out.2.1.next hbr) (HX.out.2.2.1.keep hbr) hd hsz
      cases hq : wantE S (toL desc) (toL x) with
      | true =>
        rw [hq] at hw1
        have hany : (l.map toL).any (wantE S (toL desc)) = true := List.any_eq_true.2 ⟨toL x, List.mem_map.2 ⟨x, hmem, rfl⟩, hq⟩
        have HW1 := Lib.hid hw1; have HF := Lib.hid (And.intro hany hbr); clear hw1 hany hq hmem htk hno hbr hsz
        go_wp2_with (first
          | (go_at_call 84; (refine (HW1.out).mono ?_); rintro en w4 ⟨rfl, hb4⟩; have HB4 := Lib.hid (bnext HF.out.2 hb4); clear hb4)
          | fail)
        go_ret
        exact ⟨⟨_, rfl, ⟨fun _ => HF.out.1, fun _ => by omega⟩⟩, HB4.out⟩
      | false =>
        rw [hq] at hw1
        have hno2 : ((l.take (i + 1)).map toL).any (wantE S (toL desc)) = false := by
          rw [htk, List.map_append, List.any_append, hno, Bool.false_or]
          simp only [List.map_cons, List.map_nil, List.any_cons, List.any_nil, Bool.or_false]
          exact hq
        have HW1 := Lib.hid hw1; have HF := Lib.hid (And.intro hno2 hbr); clear hw1 hno2 hq hmem htk hno hbr hsz
        go_wp2_with (first
          | (go_at_call 84; (refine (HW1.out).mono ?_); rintro en w4 ⟨rfl, hb4⟩; have HB4 := Lib.hid (bnext HF.out.2 hb4); clear hb4)
          | fail)
        exact ⟨⟨i + 1, by simp, by omega, HB4.out, HF.out.1⟩, by simp [intOf]; omega⟩
    · obtain rfl : i = n := by omega
      have hno2 : (l.map toL).any (wantE S (toL desc)) = false := by
        rw [List.take_of_length_le (by have := HX.out.2.2.2.2.2; omega)] at hno; exact hno
      have HF := Lib.hid (And.intro hno2 hbr); clear hno2 hbr hno
      go_wp2_with fail
      go_ret
      exact ⟨⟨-1, rfl, ⟨fun h => by omega, fun h => by rw [HF.out.1] at h; cases h⟩⟩, HF.out.2⟩

set_option maxRecDepth 20000 in
theorem wcontains_any (S : PSchema) (ps pd g : Nat) (desc : ByteArray) (B : Nat) (a : Option Addr) (n c : Nat) (l : List ByteArray) (w : World) (h : Sch w g S) (hE : EnvS w) (hc : WCap w ps pd g desc) (hd : desc.size ≤ 4294967280) (ht : Texts B w a n c l) (hB : B ≤ w.heap.size) :
    Calls Tryz.prog 85 #[.slice a n c, .func (.func 84) #[] #[.pointer (some ⟨ps, 0, none⟩), .pointer (some ⟨pd, 0, none⟩)]] w fun r w' =>
      r = .returned (.bool ((l.map toL).any (wantE S (toL desc)))) ∧ Below w.heap.size w w' := by
  have hi := windex_any S ps pd g desc B a n c l w h hE hc hd ht hB
  generalize (l.map toL).any (wantE S (toL desc)) = r at hi ⊢
  have HI := Lib.hid hi; clear hi h hE hc hd ht hB
  go_enter Tryz.func85, Tryz.ntmps85
  go_upto_region 1 with fail
  cases r with
  | true =>
    go_wp2_with (first
      | (go_at_call 139; (refine (HI.out).mono ?_); rintro en w1 ⟨⟨k, rfl, hk⟩, hb1⟩; have h0 : (0 : Int) ≤ k := hk.2 rfl; have HB1 := Lib.hid hb1; clear hb1 hk)
      | fail)
    go_ret
    exact ⟨rfl, HB1.out⟩
  | false =>
    go_wp2_with (first
      | (go_at_call 139; (refine (HI.out).mono ?_); rintro en w1 ⟨⟨k, rfl, hk⟩, hb1⟩; have h0 : ¬ (0 : Int) ≤ k := (fun h => Bool.noConfusion (hk.1 h)); have HB1 := Lib.hid hb1; clear hb1 hk)
      | fail)
    go_ret
    exact ⟨by rw [decide_eq_false (Int.not_le.2 h0)]; rfl, HB1.out⟩

set_option maxRecDepth 20000 in
theorem wants_nil (a : Option Addr) (n c : Nat) (desc : ByteArray) (w : World) : Calls Tryz.prog 32 #[.pointer none, .slice a n c, .string desc] w fun r w' => r = .returned (.bool false) ∧ Below w.heap.size w w' := by
  go_enter Tryz.func32, Tryz.ntmps32
  go_wp2_with fail
  go_ret
  exact ⟨rfl, ((Below.refl _ w).alloc (Nat.le_refl _) _).alloc (by simp) _⟩
set_option maxRecDepth 20000 in
set_option maxHeartbeats 1000000 in
theorem wants_any (S : PSchema) (g : Nat) (desc : ByteArray) (B : Nat) (a : Option Addr) (n c : Nat) (l : List ByteArray) (w : World) (h : Sch w g S) (hE : EnvS w) (hd : desc.size ≤ 4294967280) (ht : Texts B w a n c l) (hB : B ≤ w.heap.size) :
    Calls Tryz.prog 32 #[.pointer (some ⟨g, 0, none⟩), .slice a n c, .string desc] w fun r w' => r = .returned (.bool (wantsV S (l.map toL) (toL desc))) ∧ Below w.heap.size w w' := by
  have hn := ht.len
  have hwv : wantsV S (l.map toL) (toL desc) = (l.isEmpty || (l.map toL).any (wantE S (toL desc))) := by unfold wantsV; cases l <;> rfl
  have hw3 : (n = 0 ∧ wantsV S (l.map toL) (toL desc) = true) ∨ (n ≠ 0 ∧ wantsV S (l.map toL) (toL desc) = (l.map toL).any (wantE S (toL desc))) := by
    rw [hwv]
    cases l with
    | nil => exact .inl ⟨hn, rfl⟩
    | cons x l => exact .inr ⟨by rw [hn]; simp, rfl⟩
  obtain ⟨rv, hrv⟩ : ∃ rv, wantsV S (l.map toL) (toL desc) = rv := ⟨_, rfl⟩
  rw [hrv] at hw3 ⊢
  have HX := Lib.hid (And.intro h (And.intro hE (And.intro ht hB))); have HW3 := Lib.hid hw3; clear h hE ht hB hwv hn hw3 hrv
  go_enter Tryz.func32, Tryz.ntmps32
  go_upto_region 1 with fail
  have hb0 : Below w.heap.size w ((w.alloc (.cells #[.pointer (some ⟨g, 0, none⟩)] 39)).alloc (.cells #[.string desc] 9)) := ((Below.refl _ w).alloc (Nat.le_refl _) _).alloc (by simp) _
  have hw0 : WCap ((w.alloc (.cells #[.pointer (some ⟨g, 0, none⟩)] 39)).alloc (.cells #[.string desc] 9)) w.heap.size (w.heap.size + 1) g desc := by
    have h1 := World.cell?_alloc_new (w.alloc (.cells #[.pointer (some ⟨g, 0, none⟩)] 39)) #[.string desc] 9 0
    simp only [World.size_alloc] at h1
    exact ⟨by rw [World.cell?_alloc_lt _ _ _ (by simp), World.cell?_alloc_new]; rfl, h1⟩
  generalize (w.alloc (.cells #[.pointer (some ⟨g, 0, none⟩)] 39)).alloc (.cells #[.string desc] 9) = w0 at hb0 hw0 ⊢
  have c0 := hw0.s
  have hcf := wcontains_any S w.heap.size (w.heap.size + 1) g desc B a n c l w0 (HX.out.1.keep hb0) (HX.out.2.1.next hb0) hw0 hd (HX.out.2.2.1.keep (hb0.mono HX.out.2.2.2) (Nat.le_refl _)) (Nat.le_trans HX.out.2.2.2 hb0.size)
  generalize (l.map toL).any (wantE S (toL desc)) = r at hcf HW3
  have HCF := Lib.hid hcf; have HB0 := Lib.hid hb0; clear hcf hb0 hw0
  rcases HW3.out with ⟨h0, h1⟩ | ⟨h0, h1⟩
  · have hn0 : ((n : Int) == 0) = true := by simp; omega
    have H1 := Lib.hid h1; clear h1 HW3 HX
    go_wp2_with fail
    go_ret
    exact ⟨by rw [H1.out]; rfl, HB0.out⟩
  · have hn0 : ((n : Int) == 0) = false := by simp; omega
    have H1 := Lib.hid h1; clear h1 HW3 HX
    go_wp2_with (first
      | (go_at_call 85; (refine (HCF.out).mono ?_); rintro en w1 ⟨rfl, hb1⟩; have HB1 := Lib.hid (bnext HB0.out hb1); clear hb1)
      | fail)
    go_ret
    exact ⟨by rw [H1.out]; rfl, HB1.out⟩
end Go.Proofs.YtifgmnafjihlkaaGreatDoor
