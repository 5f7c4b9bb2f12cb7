/- Part 19 of the walks and plain laws, joined: DescC. -/
import Derived.Test.YtifgmnafjihlkaaGreatDoorMW16
import Derived.Test.YtifgmnafjihlkaaGreatDoorMW18
import Derived.Test.YtifgmnafjihlkaaGreatDoorMW09
/- (*schema.Schema).Desc: the walk. -/
namespace Go.Proofs.YtifgmnafjihlkaaGreatDoor
open Go Go.RowKit Go.Maps

theorem compact_mem {l : List Str} {x : Str} (h : x ∈ Lib.compact l) : x ∈ l := by
  unfold Lib.compact Lib.compactUpTo at h
  obtain ⟨j, hj, rfl⟩ := List.mem_map.1 h
  have hj2 := List.mem_range.1 (List.mem_filter.1 hj).1
  have : l.toArray[j]! = l[j] := by rw [getElem!_pos _ j (by simpa using hj2)]; simp
  rw [this]
  exact List.getElem_mem _
theorem optsOf_mem {l : List Str} {o : Str} (h : o ∈ optsOf l) : ∃ x ∈ l, o = low x := by
  have h1 := compact_mem h
  rw [List.mem_mergeSort] at h1
  obtain ⟨x, hx, rfl⟩ := List.mem_map.1 h1
  exact ⟨x, hx, rfl⟩
theorem flatten_le {N : Nat} : ∀ (l : List Str), (∀ x ∈ l, x.length ≤ N) → l.flatten.length ≤ l.length * N
  | [], _ => by simp
  | x :: l, h => by
    have h1 := h x (by simp)
    have h2 := flatten_le l (fun y hy => h y (by simp [hy]))
    simp only [List.flatten_cons, List.length_append, List.length_cons]
    rw [Nat.succ_mul]; omega
theorem join_flat (l : List Str) : Lib.join l [] = l.flatten := by
  cases l with
  | nil => simp [Lib.join_nil]
  | cons x r => rw [Lib.join_cons]; simp [Lib.joinTail]
theorem compact_len (l : List Str) : (Lib.compact l).length ≤ l.length := by
  unfold Lib.compact Lib.compactUpTo
  simp only [List.length_map]
  refine Nat.le_trans (List.length_filter_le _ _) ?_
  simp
theorem Texts.nil0 (B : Nat) (w : World) : Texts B w none 0 0 [] := ⟨rfl, ⟨Nat.le_refl _, Nat.zero_le _, fun _ => rfl, (fun ad h _ => by cases h), (fun ad h _ => by cases h)⟩, Nat.zero_le _, (fun b o h => by cases h), (fun s h => by cases h)⟩
def strsB (l : List Str) : List ByteArray := l.map fun x => ⟨x.toArray⟩
theorem join_texts (B : Nat) (a : Option Addr) (n c : Nat) (l : List ByteArray) (w : World) (h : Texts B w a n c l) (hB : B ≤ w.heap.size) (hl : (l.map toL).flatten.length ≤ 1000000000) :
    Calls Tryz.prog 107 #[.slice a n c, .string ⟨#[]⟩] w fun e w' => e = .returned (.string ⟨(l.map toL).flatten.toArray⟩) ∧ Below w.heap.size w w' := by
  have hn := h.len
  by_cases h0 : n = 0
  · subst h0
    have : l = [] := List.eq_nil_of_length_eq_zero hn.symm
    subst this
    refine (Tryz.strings_Join_none a c ⟨#[]⟩ w).mono ?_
    rintro e w' ⟨rfl, rfl⟩
    exact ⟨rfl, Below.refl _ _⟩
  · obtain ⟨b, o, rfl, hb⟩ := h.lies.ptr (by omega)
    have hq := Tryz.strings_Join b o c l ⟨#[]⟩ w (fun j x hj => h.cell b o rfl j x hj) (by omega) (by have := h.small; omega) (by have := h.lies.le; omega) (by
      show (Lib.join (l.map toL) []).length ≤ _
      rw [join_flat]; omega)
    rw [← hn] at hq
    refine hq.mono ?_
    rintro e w' ⟨rfl, hw⟩
    refine ⟨?_, hw⟩
    show Ending.returned (.string ⟨(Lib.join (l.map toL) []).toArray⟩) = _
    rw [join_flat]
def DescPost (S : PSchema) (d : ByteArray) (w : World) (e : Ending) (w' : World) : Prop :=
  ∃ a n c, e = .returned (.tuple #[.int .i64 ((descV S (toL d)).1 : Nat), .slice a n c, .int .i64 (descV S (toL d)).2.2]) ∧ Texts w'.heap.size w' a n c (strsB (descV S (toL d)).2.1) ∧ Below w.heap.size w w'
theorem DescPost.bad {S : PSchema} {d : ByteArray} {w w' : World} {code : Int} (h : descV S (toL d) = (0, [], code)) (hb : Below w.heap.size w w') : DescPost S d w (.returned (.tuple #[.int .i64 0, .slice none 0 0, .int .i64 code])) w' := by
  unfold DescPost
  rw [h]
  exact ⟨none, 0, 0, rfl, ⟨rfl, ⟨Nat.le_refl _, Nat.zero_le _, fun _ => rfl, (fun ad h _ => by cases h), (fun ad h _ => by cases h)⟩, Nat.zero_le _, (fun b o h => by cases h), (fun s h => by cases h)⟩, hb⟩

set_option maxRecDepth 20000 in
set_option maxHeartbeats 4000000 in
theorem desc_any (S : PSchema) (g : Nat) (d : ByteArray) (w : World) (h : Sch w g S) (hE : EnvS w) (hd : d.size ≤ 4294967280) :
    Calls Tryz.prog 93 #[.pointer (some ⟨g, 0, none⟩), .string d] w (DescPost S d w) := by
  have hls : (toL d).length = d.size := (Lib.size_eq d).symm
  by_cases hbig : 65536 < d.size
  · have hv : descV S (toL d) = (0, [], 3) := by unfold descV; rw [if_pos (by omega)]
    have hb2 : (65536 : Int) < (d.size : Int) := by omega
    have HV := Lib.hid hv; clear hv h hE hls hbig hd
    go_enter Tryz.func93, Tryz.ntmps93
    go_wp2_with fail
    go_ret3
    exact DescPost.bad HV.out (Below.refl _ _)
  have hb2 : ¬ (65536 : Int) < (d.size : Int) := by omega
  obtain ⟨m, hm⟩ := hE.max
  have HM := Lib.hid hm
  obtain ⟨dv, hdv⟩ : ∃ dv, descV S (toL d) = dv := ⟨_, rfl⟩
  have hdv2 := hdv
  unfold descV at hdv2
  rw [if_neg (by omega)] at hdv2
  have HSC := Lib.hid h; have HE := Lib.hid hE; have HDV := Lib.hid hdv; have HDV2 := Lib.hid hdv2; have HLS := Lib.hid (And.intro hls hbig); clear hdv hdv2 h hE hls hbig hm
  go_enter Tryz.func93, Tryz.ntmps93
  go_wp2_with fail
  go_at_call 144
  refine (Tryz.strings_Split _ _ m _ (by omega) HM.out (by decide)).mono ?_
  rintro e w1 ⟨rfl, hw1⟩
  have hlen := Lib.splitB_all ⟨#[59]⟩ (by decide) 0 _ d rfl
  have hcut := splitB_cut d 59 (Lib.countB d ⟨#[59]⟩) rfl
  generalize Lib.splitB ⟨#[59]⟩ 0 (Lib.countB d ⟨#[59]⟩) d = xs at hlen hcut hw1
  rw [← hlen]
  have hsub : ∀ x, x ∈ xs → x.size ≤ d.size := fun x hx => by
    have h1 : x.data.toList ∈ cutAt 59 d.data.toList := by rw [← hcut]; exact List.mem_map_of_mem hx
    have h2 := cutAt_le 59 d.data.toList _ h1
    rw [Lib.size_eq, Lib.size_eq d]; exact h2
  have hcl := Lib.countB_le ⟨#[59]⟩ (by decide) _ d (Nat.le_refl _)
  have hxl : xs.length ≤ 65537 := by have := HLS.out.2; omega
  clear hlen hcl
  have hcell : ∀ j x, xs[j]? = some x → w1.cell? ⟨w.heap.size, j, none⟩ = some (.string x) := by
    intro j x hj
    rw [hw1, cell_of_row _ _ j _ _ (0, 0) (heap_alloc_new _ _)]
    simp [hj]
  have B1 : Below w.heap.size w w1 := by rw [hw1]; exact (Below.refl _ w).alloc (Nat.le_refl _) _
  have hgl : w.heap.size < w1.heap.size := by rw [hw1]; simp
  generalize hgg : w.heap.size = g0 at hcell hgl ⊢
  have hq : cutAt 59 (toL d) = xs.map toL := hcut.symm
  clear hcut hw1 HM
  cases xs with
  | nil => obtain ⟨r, rs, hr⟩ := cutAt_ne 59 (toL d); rw [hr] at hq; cases hq
  | cons x0 ys =>
  have e0 := hcell 0 x0 rfl
  have hx0 := hsub x0 (by simp)
  have hcy : ∀ j x, ys[j]? = some x → w1.cell? ⟨g0, 1 + j, none⟩ = some (.string x) := fun j x hj => by
    have := hcell (j + 1) x (by simpa using hj)
    rw [Nat.add_comm 1 j]; exact this
  have hys : ∀ y ∈ ys, y.size ≤ 65536 := fun y hy => by have := hsub y (by simp [hy]); have := HLS.out.2; omega
  have hyl : ys.length ≤ 65536 := by simp at hxl; omega
  have hdv3 := HDV2.out
  rw [hq] at hdv3
  simp only [List.map_cons, List.headD_cons, List.drop_succ_cons, List.drop_zero] at hdv3
  have hwo := fun wq => isWord_any x0 wq (by omega)
  have hoi := fun wq (hb : Below w.heap.size w wq) => isOid_any x0 wq (HE.out.next hb) (by omega)
  have HB1 := Lib.hid B1; have HGL := Lib.hid hgl; have HCY := Lib.hid hcy; have HYS := Lib.hid hys; have HX0 := Lib.hid hx0; have HYL := Lib.hid hyl; have HGG := Lib.hid hgg
  clear HDV2 hcell hsub hxl B1 hgl hcy hys hx0 hq hgg hd hyl
  have he0 : ∀ wq, Below w1.heap.size w1 wq → wq.cell? ⟨g0, 0, none⟩ = some (.string x0) := fun wq hb => by rw [hb.cell (p := ⟨g0, 0, none⟩) HGL.out]; exact e0
  have HE0 := Lib.hid he0; clear he0
  cases hw0 : wordB (toL x0) with
  | true =>
    rw [hw0] at hwo
    rw [hw0, if_neg (by simp)] at hdv3
    have HDV2 := Lib.hid hdv3; have HWO := Lib.hid hwo; clear hdv3 hwo hoi hw0
    go_upto_region 8 with (first | (go_at_call 145; (with_reducible refine (HWO.out _).mono ?_); rintro en w2 ⟨rfl, rfl⟩) | fail)
    have HB2 := Lib.hid (Below.refl w1.heap.size w1)
    by_cases hys0 : ys = []
    · subst hys0
      go_wp2_with fail
      go_loopw [5, 35] (fun ov iv wr => iv = .int .i64 (0 : Nat) ∧ ov = .slice none 0 0 ∧ Below w1.heap.size w1 wr) (fun _ _ _ => 0)
      case atStart => exact ⟨rfl, rfl, HB2.out⟩
      case round =>
        obtain ⟨rfl, rfl, hbr⟩ := hrel
        obtain ⟨O, hO⟩ : ∃ O, optsOf (([] : List ByteArray).map toL) = O := ⟨_, rfl⟩
        have hOn : O = [] := by rw [← hO]; simp [optsOf, Lib.compact, Lib.compactUpTo]
        have hdv5 := HDV2.out
        rw [if_neg (by simp)] at hdv5
        clear HDV2
        have HDV2 := Lib.hid hdv5; have HO := Lib.hid hO
        have hsort : Calls Tryz.prog 148 #[.slice none 0 0] wr fun e w' => e = .returned (.tuple #[]) ∧ w' = wr := Tryz.slices_Sort_string_none none 0 wr
        have hcomp : ∀ wq, wq = wr → Calls Tryz.prog 149 #[.slice none 0 0] wq fun e w' => ∃ a n c, e = .returned (.slice a n c) ∧ Texts w'.heap.size w' a n c (strsB O) ∧ Below w1.heap.size w1 w' := fun wq hq =>
          (Tryz.slices_Compact_string_empty none 0 wq).mono fun e w' ⟨he, hw⟩ => ⟨none, 0, 0, he, by rw [hOn]; exact Texts.nil0 _ _, by rw [hw, hq]; exact hbr⟩
        have HSORT := Lib.hid hsort; have HCOMP := Lib.hid hcomp
        have hol : ∀ o ∈ O, o.length ≤ 65536 := fun o ho => by rw [hOn] at ho; cases ho
        have HOL := Lib.hid hol
        clear hsort hcomp hdv5 hO hOn hbr hol
        go_wp2_with (first
          | (go_at_call 148; (with_reducible refine (HSORT.out).mono ?_); rintro en w7 ⟨rfl, hq7⟩; have HQ7 := Lib.hid hq7; clear hq7)
          | fail)
        go_at_call 149
        refine (HCOMP.out _ HQ7.out).mono ?_
        rintro en w8 ⟨oa, on, oc, rfl, hte, hb8⟩
        have hon : on = O.length := by have := hte.len; rw [this]; simp [strsB]
        have H8 := Lib.hid (And.intro hte (bnext HB1.out hb8)); have e1 := HE0.out w8 hb8; clear hte hb8
        by_cases h8 : 8 < on
        · have hd8 : dv = (0, [], 3) := by rw [← HDV2.out, HO.out, if_pos (by rw [← hon]; exact h8)]
          have HD8 := Lib.hid hd8
          have i8 : (8 : Int) < on := by omega
          clear hd8 h8 hon
          go_wp2_with fail
          go_ret3
          exact DescPost.bad (HDV.out.trans HD8.out) H8.out.2
        · have i8 : ¬ (8 : Int) < on := by omega
          have hdv4 := HDV2.out
          rw [HO.out, if_neg (by rw [← hon]; exact h8)] at hdv4
          have hty := fun wq hb => type_any S g x0 wq (HSC.out.keep hb) (by have := HX0.out; have := HLS.out.2; omega)
          cases hta : typeAt S (toL x0) with
          | none =>
            rw [hta] at hdv4 hty
            change ∀ wq, Below w.heap.size w wq → Calls Tryz.prog 51 #[.pointer (some ⟨g, 0, none⟩), .string x0] wq fun e w' => e = .returned (.int .i64 (-1)) ∧ Below wq.heap.size wq w' at hty
            have HTY := Lib.hid hty; have HD4 := Lib.hid hdv4
            clear hty hdv4 hta hon h8
            go_wp2_with (first
              | (go_at_call 51; (with_reducible refine (HTY.out _ H8.out.2).mono ?_); rintro en w9 ⟨rfl, hb9⟩; have HB9 := Lib.hid (bnext H8.out.2 hb9); clear hb9)
              | fail)
            go_ret3
            exact DescPost.bad (HDV.out.trans HD4.out.symm) HB9.out
          | some t =>
            rw [hta] at hdv4 hty
            change ∀ wq, Below w.heap.size w wq → Calls Tryz.prog 51 #[.pointer (some ⟨g, 0, none⟩), .string x0] wq fun e w' => e = .returned (.int .i64 (t : Nat)) ∧ Below wq.heap.size wq w' at hty
            have htl : t < S.types.length := by
              unfold typeAt at hta
              split at hta
              · cases hta
              · have := placeOf_lt hta; simpa [tK] using this
            have hok := newE_ok (S := S) (by rw [HSC.out.ok])
            obtain ⟨_, _, hnn, hns⟩ := namedE_zero (typeE_named (hok.ty t htl))
            obtain ⟨ta, tn, tc, hc0, htys⟩ := HSC.out.base.types
            obtain ⟨tb, tx, rfl, htb⟩ := htys.lies.ptr (by have := htys.len; omega)
            have htat := htys.cell tb tx rfl t _ (List.getElem?_eq_getElem htl)
            have hty0 : S.types[t] = tyAt S t := by unfold tyAt; simp [List.getD, htl]
            rw [hty0] at htat
            obtain ⟨na, nn, nc, hc1, hnt⟩ := htat.c1
            obtain ⟨nm, nr, hnm⟩ : ∃ nm nr, (tyAt S t).names = nm :: nr := by
              cases h : (tyAt S t).names with
              | nil => exact absurd h hnn
              | cons nm nr => exact ⟨nm, nr, rfl⟩
            rw [hnm] at hnt
            have hnl := hnt.len
            simp only [List.length_cons] at hnl
            obtain ⟨nb, no, rfl, hnb⟩ := hnt.lies.ptr (by omega)
            have hc2 := hnt.cell nb no rfl 0 nm rfl
            rw [Nat.add_zero] at hc2
            have hnz : nm.size ≤ 65536 := (hns.1 nm (by rw [hnm]; simp)).2
            have hname : nameOf S t = nm := by unfold nameOf; rw [hnm]; rfl
            have hcs : ∀ wq, Below w.heap.size w wq → wq.cell? ⟨g, 0, none⟩ = some (.slice (some ⟨tb, tx, none⟩) tn tc) ∧ wq.cell? ⟨tb, tx + t * 9 + 1, none⟩ = some (.slice (some ⟨nb, no, none⟩) nn nc) ∧ wq.cell? ⟨nb, no, none⟩ = some (.string nm) := fun wq hb =>
              ⟨by rw [hb.cell (World.block_lt_of_cell? w _ hc0)]; exact hc0, by rw [hb.cell (World.block_lt_of_cell? w _ hc1)]; exact hc1, by rw [hb.cell (World.block_lt_of_cell? w _ hc2)]; exact hc2⟩
            have ht0 : (0 : Int) ≤ (t : Int) := by omega
            have htn : (t : Int) < (tn : Int) := by have := htys.len; omega
            have hnn0 : (0 : Int) < (nn : Int) := by omega
            simp only at hdv4
            rw [hname] at hdv4
            have hO8 : O.length ≤ 8 := by omega
            have hOm : ∀ o ∈ O, o.length ≤ 65536 := HOL.out
            have hOf := flatten_le O hOm
            have hOf2 : O.flatten.length ≤ 524288 := Nat.le_trans hOf (by omega)
            have hmt : (strsB O).map toL = O := by unfold strsB; rw [List.map_map]; exact List.map_id _
            have hjn := fun wq (hb : Below w8.heap.size w8 wq) => join_texts _ _ _ _ _ wq (H8.out.1.keep hb hb.size) (Nat.le_refl _) (by rw [hmt]; omega)
            rw [hmt] at hjn
            have HCS := Lib.hid hcs; have HTY := Lib.hid hty; have HJN := Lib.hid hjn; have HTA := Lib.hid (And.intro hta htl)
            generalize hfl : O.flatten = fl at hdv4 HJN hOf2
            have hv4 : (65536 < nm.size + on + fl.length ∧ dv = (0, [], 3)) ∨ (¬ 65536 < nm.size + on + fl.length ∧ dv = (t, O, 0)) := by
              by_cases hh : 65536 < nm.size + on + fl.length
              · rw [← hon, if_pos hh] at hdv4; exact .inl ⟨hh, hdv4.symm⟩
              · rw [← hon, if_neg hh] at hdv4; exact .inr ⟨hh, hdv4.symm⟩
            have HV4 := Lib.hid hv4; have HON := Lib.hid hon
            have hflz : (ByteArray.mk fl.toArray).size = fl.length := rfl
            clear hcs hty hjn hta hdv4 hmt hOf hOm hO8 hnm hnn hns hok htys htat hty0 hnt hnb htb hnl hfl hv4 hon h8 hc0 hc1 hc2 hname htl
            go_upto_region 24 with (first
              | (go_at_call 51; (with_reducible refine (HTY.out _ H8.out.2).mono ?_); rintro en w9 ⟨rfl, hb9⟩; obtain ⟨q0, q1, q2⟩ := HCS.out _ (bnext H8.out.2 hb9); have HB9 := Lib.hid hb9; clear hb9)
              | (go_at_call 107; (with_reducible refine (HJN.out _ HB9.out).mono ?_); rintro en w10 ⟨rfl, hb10⟩; have HB10 := Lib.hid (bnext HB9.out hb10); clear hb10)
              | fail)
            · have hd : dv = (0, [], 3) := by
                rcases HV4.out with ⟨_, h⟩ | ⟨h, _⟩
                · exact h
                · exfalso; omega
              have HD := Lib.hid hd; clear hd
              go_wp2_with fail
              go_ret3
              exact DescPost.bad (HDV.out.trans HD.out) (bnext H8.out.2 HB10.out)
            · have hd : dv = (t, O, 0) := by
                rcases HV4.out with ⟨h, _⟩ | ⟨_, h⟩
                · exfalso; omega
                · exact h
              have HD := Lib.hid hd; clear hd
              go_ret3
              unfold DescPost
              rw [HDV.out, HD.out]
              exact ⟨oa, on, oc, rfl, H8.out.1.keep HB10.out HB10.out.size, bnext H8.out.2 HB10.out⟩
    · have hyp : 0 < ys.length := List.length_pos_iff.2 hys0
      have iyp : (0 : Int) < ys.length := by omega
      go_wp2_with fail
      go_loopw [5, 35] (fun ov iv wr => ∃ (i : Nat) (go : Option Nat) (cap : Nat), iv = .int .i64 i ∧ ov = sv go i cap ∧ i ≤ ys.length ∧ Vec 9 1 w1 wr go i cap (((ys.take i).map fun y => low (toL y)).map encStr) ∧ ((ys.take i).map toL).all (fun o => !o.isEmpty && tailB o) = true) (fun _ iv _ => ys.length - (intOf iv).toNat)
      case atStart => exact ⟨0, none, 0, rfl, rfl, Nat.zero_le _, Vec.nil _ _ _ HB2.out, rfl⟩
      case round =>
        obtain ⟨i, go, cap, rfl, rfl, hi, hv, hall⟩ := hrel
        by_cases hlt : i < ys.length
        · have hc := HCY.out i _ (List.getElem?_eq_getElem hlt)
          rw [← hv.below.cell (p := ⟨g0, 1 + i, none⟩) HGL.out] at hc
          have hyz := HYS.out _ (List.getElem_mem hlt)
          have htk : ys.take (i + 1) = ys.take i ++ [ys[i]] := List.take_succ_eq_append_getElem hlt
          have hmem : ys[i] ∈ ys := List.getElem_mem hlt
          have HV := Lib.hid (And.intro hv hall); clear hv hall
          generalize ys[i] = y at hc hyz htk hmem
          have HTK := Lib.hid (And.intro htk hmem); clear htk hmem
          have hil : i ≤ 65536 := by have := HYL.out; omega
          have hsm := fun wq => small_any y wq (by omega)
          have hta := fun wq => tail_any y wq (by omega)
          have hbad : (!(toL y).isEmpty && tailB (toL y)) = false → dv = (0, [], 60) := fun hf => by
            rw [← HDV2.out]
            rw [if_pos]
            rw [List.all_eq_false]
            exact ⟨toL y, List.mem_map.2 ⟨y, HTK.out.2, rfl⟩, by rw [hf]; simp⟩
          have HBAD := Lib.hid hbad; have HSM := Lib.hid hsm; clear hbad hsm
          by_cases hy0 : toL y = []
          · obtain rfl := empty_of y hy0
            clear hy0 hta
            go_wp2_with fail
            go_ret3
            exact DescPost.bad (HDV.out.trans (HBAD.out rfl)) (bnext HB1.out HV.out.1.below)
          · obtain ⟨z1, z2, z3⟩ := nonempty_of y hy0
            have hie : (toL y).isEmpty = false := by cases h : toL y with | nil => exact absurd h hy0 | cons => rfl
            clear hy0
            cases htt : tailB (toL y) with
            | false =>
              rw [htt] at hta
              have HTA := Lib.hid hta
              have hd2 := HBAD.out (by rw [htt]; simp)
              have HD2 := Lib.hid hd2
              clear hta hd2 htt hie
              go_wp2_with (first | (go_at_call 147; (with_reducible refine (HTA.out _).mono ?_); rintro en w4 ⟨rfl, rfl⟩) | fail)
              go_ret3
              exact DescPost.bad (HDV.out.trans HD2.out) (bnext HB1.out HV.out.1.below)
            | true =>
              rw [htt] at hta
              have HTA := Lib.hid hta
              have hok : (!(toL y).isEmpty && tailB (toL y)) = true := by rw [hie, htt]; rfl
              have HOK := Lib.hid hok
              clear hta htt hie hok
              go_wp2_with (first
                | (go_at_call 147; (with_reducible refine (HTA.out _).mono ?_); rintro en w4 ⟨rfl, rfl⟩)
                | (go_at_call 133; (with_reducible refine (HSM.out _).mono ?_); rintro en w5 ⟨rfl, hb5⟩; have HV5 := Lib.hid (HV.out.1.next hb5); clear hb5)
                | (at_builtin; refine HV5.out.push eiStr rfl _ _ rfl rfl 1 [.string ⟨(low (toL y)).toArray⟩] #[.string ⟨(low (toL y)).toArray⟩] rfl rfl rfl (fun u hu => by simp at hu; subst hu; rfl) (by omega) (i + 1) rfl (by omega) ?_; intro g3 cap3 w6 hv6 hg6; have HV6 := Lib.hid hv6; clear hv6 hg6)
                | fail)
              refine ⟨⟨i + 1, some g3, cap3, by simp, rfl, by omega, ?_, ?_⟩, by simp [intOf]; omega⟩
              · rw [HTK.out.1, List.map_append, List.map_append]
                exact HV6.out
              · rw [HTK.out.1, List.map_append, List.all_append, HV.out.2, Bool.true_and]
                simp only [List.map_cons, List.map_nil, List.all_cons, List.all_nil, Bool.and_true]
                exact HOK.out
        · obtain rfl : i = ys.length := by omega
          have hv2 := hv
          obtain ⟨gg, rfl⟩ := hv2.ptr hyp
          rw [List.take_length] at hv hall
          have hsr := SRow.of_vec hv
          obtain ⟨O, hO⟩ : ∃ O, optsOf (ys.map toL) = O := ⟨_, rfl⟩
          have hdv5 := HDV2.out
          rw [if_neg (by rw [hall]; simp)] at hdv5
          clear HDV2
          have HDV2 := Lib.hid hdv5; have HO := Lib.hid hO
          have hO2 : Lib.compact ((ys.map fun y => low (toL y)).mergeSort fun x y => decide (x ≤ y)) = O := by rw [← hO]; unfold optsOf; rw [List.map_map]; rfl
          have hOl : ∀ o ∈ O, o.length ≤ 65536 := fun o ho => by
            rw [← hO] at ho
            obtain ⟨x, hx, rfl⟩ := optsOf_mem ho
            obtain ⟨y, hy, rfl⟩ := List.mem_map.1 hx
            have := HYS.out y hy
            rw [low, List.length_map, ← Lib.size_eq]; exact this
          have hOn : (Lib.compact ((ys.map fun y => low (toL y)).mergeSort fun x y => decide (x ≤ y))).length ≤ 65536 := by
            refine Nat.le_trans (compact_len _) ?_
            simp; exact HYL.out
          have hsort : Calls Tryz.prog 148 #[sv (some gg) ys.length cap] wr fun e w' => e = .returned (.tuple #[]) ∧ SRow w1 w' gg ys.length cap ((ys.map fun y => low (toL y)).mergeSort fun x y => decide (x ≤ y)) := hsr.sort (by have := HYL.out; omega)
          have hcomp : ∀ wq, SRow w1 wq gg ys.length cap ((ys.map fun y => low (toL y)).mergeSort fun x y => decide (x ≤ y)) → Calls Tryz.prog 149 #[sv (some gg) ys.length cap] wq fun e w' => ∃ a n c, e = .returned (.slice a n c) ∧ Texts w'.heap.size w' a n c (strsB O) ∧ Below w1.heap.size w1 w' := fun wq hq =>
            (hq.compact (by have := HYL.out; omega)).mono fun e w' ⟨he, hr⟩ => ⟨_, _, _, he, by rw [← hO2]; exact hr.texts (by omega) (fun s hs => by rw [hO2] at hs; have := hOl s hs; omega), hr.below⟩
          have HSORT := Lib.hid hsort; have HCOMP := Lib.hid hcomp
          have HOL := Lib.hid hOl
          clear hsort hcomp hdv5 hO hO2 hOl hOn hsr hv hv2 hall
          go_wp2_with (first
            | (go_at_call 148; (with_reducible refine (HSORT.out).mono ?_); rintro en w7 ⟨rfl, hq7⟩; have HQ7 := Lib.hid hq7; clear hq7)
            | fail)
          go_at_call 149
          refine (HCOMP.out _ HQ7.out).mono ?_
          rintro en w8 ⟨oa, on, oc, rfl, hte, hb8⟩
          have hon : on = O.length := by have := hte.len; rw [this]; simp [strsB]
          have H8 := Lib.hid (And.intro hte (bnext HB1.out hb8)); have e1 := HE0.out w8 hb8; clear hte hb8
          by_cases h8 : 8 < on
          · have hd8 : dv = (0, [], 3) := by rw [← HDV2.out, HO.out, if_pos (by rw [← hon]; exact h8)]
            have HD8 := Lib.hid hd8
            have i8 : (8 : Int) < on := by omega
            clear hd8 h8 hon
            go_wp2_with fail
            go_ret3
            exact DescPost.bad (HDV.out.trans HD8.out) H8.out.2
          · have i8 : ¬ (8 : Int) < on := by omega
            have hdv4 := HDV2.out
            rw [HO.out, if_neg (by rw [← hon]; exact h8)] at hdv4
            have hty := fun wq hb => type_any S g x0 wq (HSC.out.keep hb) (by have := HX0.out; have := HLS.out.2; omega)
            cases hta : typeAt S (toL x0) with
            | none =>
              rw [hta] at hdv4 hty
              change ∀ wq, Below w.heap.size w wq → Calls Tryz.prog 51 #[.pointer (some ⟨g, 0, none⟩), .string x0] wq fun e w' => e = .returned (.int .i64 (-1)) ∧ Below wq.heap.size wq w' at hty
              have HTY := Lib.hid hty; have HD4 := Lib.hid hdv4
              clear hty hdv4 hta hon h8
              go_wp2_with (first
                | (go_at_call 51; (with_reducible refine (HTY.out _ H8.out.2).mono ?_); rintro en w9 ⟨rfl, hb9⟩; have HB9 := Lib.hid (bnext H8.out.2 hb9); clear hb9)
                | fail)
              go_ret3
              exact DescPost.bad (HDV.out.trans HD4.out.symm) HB9.out
            | some t =>
              rw [hta] at hdv4 hty
              change ∀ wq, Below w.heap.size w wq → Calls Tryz.prog 51 #[.pointer (some ⟨g, 0, none⟩), .string x0] wq fun e w' => e = .returned (.int .i64 (t : Nat)) ∧ Below wq.heap.size wq w' at hty
              have htl : t < S.types.length := by
                unfold typeAt at hta
                split at hta
                · cases hta
                · have := placeOf_lt hta; simpa [tK] using this
              have hok := newE_ok (S := S) (by rw [HSC.out.ok])
              obtain ⟨_, _, hnn, hns⟩ := namedE_zero (typeE_named (hok.ty t htl))
              obtain ⟨ta, tn, tc, hc0, htys⟩ := HSC.out.base.types
              obtain ⟨tb, tx, rfl, htb⟩ := htys.lies.ptr (by have := htys.len; omega)
              have htat := htys.cell tb tx rfl t _ (List.getElem?_eq_getElem htl)
              have hty0 : S.types[t] = tyAt S t := by unfold tyAt; simp [List.getD, htl]
              rw [hty0] at htat
              obtain ⟨na, nn, nc, hc1, hnt⟩ := htat.c1
              obtain ⟨nm, nr, hnm⟩ : ∃ nm nr, (tyAt S t).names = nm :: nr := by
                cases h : (tyAt S t).names with
                | nil => exact absurd h hnn
                | cons nm nr => exact ⟨nm, nr, rfl⟩
              rw [hnm] at hnt
              have hnl := hnt.len
              simp only [List.length_cons] at hnl
              obtain ⟨nb, no, rfl, hnb⟩ := hnt.lies.ptr (by omega)
              have hc2 := hnt.cell nb no rfl 0 nm rfl
              rw [Nat.add_zero] at hc2
              have hnz : nm.size ≤ 65536 := (hns.1 nm (by rw [hnm]; simp)).2
              have hname : nameOf S t = nm := by unfold nameOf; rw [hnm]; rfl
              have hcs : ∀ wq, Below w.heap.size w wq → wq.cell? ⟨g, 0, none⟩ = some (.slice (some ⟨tb, tx, none⟩) tn tc) ∧ wq.cell? ⟨tb, tx + t * 9 + 1, none⟩ = some (.slice (some ⟨nb, no, none⟩) nn nc) ∧ wq.cell? ⟨nb, no, none⟩ = some (.string nm) := fun wq hb =>
                ⟨by rw [hb.cell (World.block_lt_of_cell? w _ hc0)]; exact hc0, by rw [hb.cell (World.block_lt_of_cell? w _ hc1)]; exact hc1, by rw [hb.cell (World.block_lt_of_cell? w _ hc2)]; exact hc2⟩
              have ht0 : (0 : Int) ≤ (t : Int) := by omega
              have htn : (t : Int) < (tn : Int) := by have := htys.len; omega
              have hnn0 : (0 : Int) < (nn : Int) := by omega
              simp only at hdv4
              rw [hname] at hdv4
              have hO8 : O.length ≤ 8 := by omega
              have hOm : ∀ o ∈ O, o.length ≤ 65536 := HOL.out
              have hOf := flatten_le O hOm
              have hOf2 : O.flatten.length ≤ 524288 := Nat.le_trans hOf (by omega)
              have hmt : (strsB O).map toL = O := by unfold strsB; rw [List.map_map]; exact List.map_id _
              have hjn := fun wq (hb : Below w8.heap.size w8 wq) => join_texts _ _ _ _ _ wq (H8.out.1.keep hb hb.size) (Nat.le_refl _) (by rw [hmt]; omega)
              rw [hmt] at hjn
              have HCS := Lib.hid hcs; have HTY := Lib.hid hty; have HJN := Lib.hid hjn; have HTA := Lib.hid (And.intro hta htl)
              generalize hfl : O.flatten = fl at hdv4 HJN hOf2
              have hv4 : (65536 < nm.size + on + fl.length ∧ dv = (0, [], 3)) ∨ (¬ 65536 < nm.size + on + fl.length ∧ dv = (t, O, 0)) := by
                by_cases hh : 65536 < nm.size + on + fl.length
                · rw [← hon, if_pos hh] at hdv4; exact .inl ⟨hh, hdv4.symm⟩
                · rw [← hon, if_neg hh] at hdv4; exact .inr ⟨hh, hdv4.symm⟩
              have HV4 := Lib.hid hv4; have HON := Lib.hid hon
              have hflz : (ByteArray.mk fl.toArray).size = fl.length := rfl
              clear hcs hty hjn hta hdv4 hmt hOf hOm hO8 hnm hnn hns hok htys htat hty0 hnt hnb htb hnl hfl hv4 hon h8 hc0 hc1 hc2 hname htl
              go_upto_region 24 with (first
                | (go_at_call 51; (with_reducible refine (HTY.out _ H8.out.2).mono ?_); rintro en w9 ⟨rfl, hb9⟩; obtain ⟨q0, q1, q2⟩ := HCS.out _ (bnext H8.out.2 hb9); have HB9 := Lib.hid hb9; clear hb9)
                | (go_at_call 107; (with_reducible refine (HJN.out _ HB9.out).mono ?_); rintro en w10 ⟨rfl, hb10⟩; have HB10 := Lib.hid (bnext HB9.out hb10); clear hb10)
                | fail)
              · have hd : dv = (0, [], 3) := by
                  rcases HV4.out with ⟨_, h⟩ | ⟨h, _⟩
                  · exact h
                  · exfalso; omega
                have HD := Lib.hid hd; clear hd
                go_wp2_with fail
                go_ret3
                exact DescPost.bad (HDV.out.trans HD.out) (bnext H8.out.2 HB10.out)
              · have hd : dv = (t, O, 0) := by
                  rcases HV4.out with ⟨h, _⟩ | ⟨_, h⟩
                  · exfalso; omega
                  · exact h
                have HD := Lib.hid hd; clear hd
                go_ret3
                unfold DescPost
                rw [HDV.out, HD.out]
                exact ⟨oa, on, oc, rfl, H8.out.1.keep HB10.out HB10.out.size, bnext H8.out.2 HB10.out⟩
  | false =>
    rw [hw0] at hwo
    rw [hw0] at hdv3
    cases ho0 : oidB (toL x0) with
    | false =>
      rw [ho0] at hoi
      rw [ho0, if_pos (by simp)] at hdv3
      have HD3 := Lib.hid hdv3; have HWO := Lib.hid hwo; have HOI := Lib.hid hoi; clear hdv3 hwo hoi hw0 ho0
      go_wp2_with (first
        | (go_at_call 145; (with_reducible refine (HWO.out _).mono ?_); rintro en w2 ⟨rfl, rfl⟩)
        | (go_at_call 146; (with_reducible refine (HOI.out _ HB1.out).mono ?_); rintro en w3 ⟨rfl, hb3⟩; have HB3 := Lib.hid (bnext HB1.out hb3); clear hb3)
        | fail)
      go_ret3
      exact DescPost.bad (HDV.out.trans HD3.out.symm) HB3.out
    | true =>
      rw [ho0] at hoi
      rw [ho0, if_neg (by simp)] at hdv3
      have HDV2 := Lib.hid hdv3; have HWO := Lib.hid hwo; have HOI := Lib.hid hoi; clear hdv3 hwo hoi hw0 ho0
      go_upto_region 8 with (first
        | (go_at_call 145; (with_reducible refine (HWO.out _).mono ?_); rintro en w2 ⟨rfl, rfl⟩)
        | (go_at_call 146; (with_reducible refine (HOI.out _ HB1.out).mono ?_); rintro en w3 ⟨rfl, hb3⟩; have HB2 := Lib.hid hb3; have e0 := HE0.out w3 hb3; clear hb3)
        | fail)
      by_cases hys0 : ys = []
      · subst hys0
        go_wp2_with fail
        go_loopw [5, 35] (fun ov iv wr => iv = .int .i64 (0 : Nat) ∧ ov = .slice none 0 0 ∧ Below w1.heap.size w1 wr) (fun _ _ _ => 0)
        case atStart => exact ⟨rfl, rfl, HB2.out⟩
        case round =>
          obtain ⟨rfl, rfl, hbr⟩ := hrel
          obtain ⟨O, hO⟩ : ∃ O, optsOf (([] : List ByteArray).map toL) = O := ⟨_, rfl⟩
          have hOn : O = [] := by rw [← hO]; simp [optsOf, Lib.compact, Lib.compactUpTo]
          have hdv5 := HDV2.out
          rw [if_neg (by simp)] at hdv5
          clear HDV2
          have HDV2 := Lib.hid hdv5; have HO := Lib.hid hO
          have hsort : Calls Tryz.prog 148 #[.slice none 0 0] wr fun e w' => e = .returned (.tuple #[]) ∧ w' = wr := Tryz.slices_Sort_string_none none 0 wr
          have hcomp : ∀ wq, wq = wr → Calls Tryz.prog 149 #[.slice none 0 0] wq fun e w' => ∃ a n c, e = .returned (.slice a n c) ∧ Texts w'.heap.size w' a n c (strsB O) ∧ Below w1.heap.size w1 w' := fun wq hq =>
            (Tryz.slices_Compact_string_empty none 0 wq).mono fun e w' ⟨he, hw⟩ => ⟨none, 0, 0, he, by rw [hOn]; exact Texts.nil0 _ _, by rw [hw, hq]; exact hbr⟩
          have HSORT := Lib.hid hsort; have HCOMP := Lib.hid hcomp
          have hol : ∀ o ∈ O, o.length ≤ 65536 := fun o ho => by rw [hOn] at ho; cases ho
          have HOL := Lib.hid hol
          clear hsort hcomp hdv5 hO hOn hbr hol
          go_wp2_with (first
            | (go_at_call 148; (with_reducible refine (HSORT.out).mono ?_); rintro en w7 ⟨rfl, hq7⟩; have HQ7 := Lib.hid hq7; clear hq7)
            | fail)
          go_at_call 149
          refine (HCOMP.out _ HQ7.out).mono ?_
          rintro en w8 ⟨oa, on, oc, rfl, hte, hb8⟩
          have hon : on = O.length := by have := hte.len; rw [this]; simp [strsB]
          have H8 := Lib.hid (And.intro hte (bnext HB1.out hb8)); have e1 := HE0.out w8 hb8; clear hte hb8
          by_cases h8 : 8 < on
          · have hd8 : dv = (0, [], 3) := by rw [← HDV2.out, HO.out, if_pos (by rw [← hon]; exact h8)]
            have HD8 := Lib.hid hd8
            have i8 : (8 : Int) < on := by omega
            clear hd8 h8 hon
            go_wp2_with fail
            go_ret3
            exact DescPost.bad (HDV.out.trans HD8.out) H8.out.2
          · have i8 : ¬ (8 : Int) < on := by omega
            have hdv4 := HDV2.out
            rw [HO.out, if_neg (by rw [← hon]; exact h8)] at hdv4
            have hty := fun wq hb => type_any S g x0 wq (HSC.out.keep hb) (by have := HX0.out; have := HLS.out.2; omega)
            cases hta : typeAt S (toL x0) with
            | none =>
              rw [hta] at hdv4 hty
              change ∀ wq, Below w.heap.size w wq → Calls Tryz.prog 51 #[.pointer (some ⟨g, 0, none⟩), .string x0] wq fun e w' => e = .returned (.int .i64 (-1)) ∧ Below wq.heap.size wq w' at hty
              have HTY := Lib.hid hty; have HD4 := Lib.hid hdv4
              clear hty hdv4 hta hon h8
              go_wp2_with (first
                | (go_at_call 51; (with_reducible refine (HTY.out _ H8.out.2).mono ?_); rintro en w9 ⟨rfl, hb9⟩; have HB9 := Lib.hid (bnext H8.out.2 hb9); clear hb9)
                | fail)
              go_ret3
              exact DescPost.bad (HDV.out.trans HD4.out.symm) HB9.out
            | some t =>
              rw [hta] at hdv4 hty
              change ∀ wq, Below w.heap.size w wq → Calls Tryz.prog 51 #[.pointer (some ⟨g, 0, none⟩), .string x0] wq fun e w' => e = .returned (.int .i64 (t : Nat)) ∧ Below wq.heap.size wq w' at hty
              have htl : t < S.types.length := by
                unfold typeAt at hta
                split at hta
                · cases hta
                · have := placeOf_lt hta; simpa [tK] using this
              have hok := newE_ok (S := S) (by rw [HSC.out.ok])
              obtain ⟨_, _, hnn, hns⟩ := namedE_zero (typeE_named (hok.ty t htl))
              obtain ⟨ta, tn, tc, hc0, htys⟩ := HSC.out.base.types
              obtain ⟨tb, tx, rfl, htb⟩ := htys.lies.ptr (by have := htys.len; omega)
              have htat := htys.cell tb tx rfl t _ (List.getElem?_eq_getElem htl)
              have hty0 : S.types[t] = tyAt S t := by unfold tyAt; simp [List.getD, htl]
              rw [hty0] at htat
              obtain ⟨na, nn, nc, hc1, hnt⟩ := htat.c1
              obtain ⟨nm, nr, hnm⟩ : ∃ nm nr, (tyAt S t).names = nm :: nr := by
                cases h : (tyAt S t).names with
                | nil => exact absurd h hnn
                | cons nm nr => exact ⟨nm, nr, rfl⟩
              rw [hnm] at hnt
              have hnl := hnt.len
              simp only [List.length_cons] at hnl
              obtain ⟨nb, no, rfl, hnb⟩ := hnt.lies.ptr (by omega)
              have hc2 := hnt.cell nb no rfl 0 nm rfl
              rw [Nat.add_zero] at hc2
              have hnz : nm.size ≤ 65536 := (hns.1 nm (by rw [hnm]; simp)).2
              have hname : nameOf S t = nm := by unfold nameOf; rw [hnm]; rfl
              have hcs : ∀ wq, Below w.heap.size w wq → wq.cell? ⟨g, 0, none⟩ = some (.slice (some ⟨tb, tx, none⟩) tn tc) ∧ wq.cell? ⟨tb, tx + t * 9 + 1, none⟩ = some (.slice (some ⟨nb, no, none⟩) nn nc) ∧ wq.cell? ⟨nb, no, none⟩ = some (.string nm) := fun wq hb =>
                ⟨by rw [hb.cell (World.block_lt_of_cell? w _ hc0)]; exact hc0, by rw [hb.cell (World.block_lt_of_cell? w _ hc1)]; exact hc1, by rw [hb.cell (World.block_lt_of_cell? w _ hc2)]; exact hc2⟩
              have ht0 : (0 : Int) ≤ (t : Int) := by omega
              have htn : (t : Int) < (tn : Int) := by have := htys.len; omega
              have hnn0 : (0 : Int) < (nn : Int) := by omega
              simp only at hdv4
              rw [hname] at hdv4
              have hO8 : O.length ≤ 8 := by omega
              have hOm : ∀ o ∈ O, o.length ≤ 65536 := HOL.out
              have hOf := flatten_le O hOm
              have hOf2 : O.flatten.length ≤ 524288 := Nat.le_trans hOf (by omega)
              have hmt : (strsB O).map toL = O := by unfold strsB; rw [List.map_map]; exact List.map_id _
              have hjn := fun wq (hb : Below w8.heap.size w8 wq) => join_texts _ _ _ _ _ wq (H8.out.1.keep hb hb.size) (Nat.le_refl _) (by rw [hmt]; omega)
              rw [hmt] at hjn
              have HCS := Lib.hid hcs; have HTY := Lib.hid hty; have HJN := Lib.hid hjn; have HTA := Lib.hid (And.intro hta htl)
              generalize hfl : O.flatten = fl at hdv4 HJN hOf2
              have hv4 : (65536 < nm.size + on + fl.length ∧ dv = (0, [], 3)) ∨ (¬ 65536 < nm.size + on + fl.length ∧ dv = (t, O, 0)) := by
                by_cases hh : 65536 < nm.size + on + fl.length
                · rw [← hon, if_pos hh] at hdv4; exact .inl ⟨hh, hdv4.symm⟩
                · rw [← hon, if_neg hh] at hdv4; exact .inr ⟨hh, hdv4.symm⟩
              have HV4 := Lib.hid hv4; have HON := Lib.hid hon
              have hflz : (ByteArray.mk fl.toArray).size = fl.length := rfl
              clear hcs hty hjn hta hdv4 hmt hOf hOm hO8 hnm hnn hns hok htys htat hty0 hnt hnb htb hnl hfl hv4 hon h8 hc0 hc1 hc2 hname htl
              go_upto_region 24 with (first
                | (go_at_call 51; (with_reducible refine (HTY.out _ H8.out.2).mono ?_); rintro en w9 ⟨rfl, hb9⟩; obtain ⟨q0, q1, q2⟩ := HCS.out _ (bnext H8.out.2 hb9); have HB9 := Lib.hid hb9; clear hb9)
                | (go_at_call 107; (with_reducible refine (HJN.out _ HB9.out).mono ?_); rintro en w10 ⟨rfl, hb10⟩; have HB10 := Lib.hid (bnext HB9.out hb10); clear hb10)
                | fail)
              · have hd : dv = (0, [], 3) := by
                  rcases HV4.out with ⟨_, h⟩ | ⟨h, _⟩
                  · exact h
                  · exfalso; omega
                have HD := Lib.hid hd; clear hd
                go_wp2_with fail
                go_ret3
                exact DescPost.bad (HDV.out.trans HD.out) (bnext H8.out.2 HB10.out)
              · have hd : dv = (t, O, 0) := by
                  rcases HV4.out with ⟨h, _⟩ | ⟨_, h⟩
                  · exfalso; omega
                  · exact h
                have HD := Lib.hid hd; clear hd
                go_ret3
                unfold DescPost
                rw [HDV.out, HD.out]
                exact ⟨oa, on, oc, rfl, H8.out.1.keep HB10.out HB10.out.size, bnext H8.out.2 HB10.out⟩
      · have hyp : 0 < ys.length := List.length_pos_iff.2 hys0
        have iyp : (0 : Int) < ys.length := by omega
        go_wp2_with fail
        go_loopw [5, 35] (fun ov iv wr => ∃ (i : Nat) (go : Option Nat) (cap : Nat), iv = .int .i64 i ∧ ov = sv go i cap ∧ i ≤ ys.length ∧ Vec 9 1 w1 wr go i cap (((ys.take i).map fun y => low (toL y)).map encStr) ∧ ((ys.take i).map toL).all (fun o => !o.isEmpty && tailB o) = true) (fun _ iv _ => ys.length - (intOf iv).toNat)
        case atStart => exact ⟨0, none, 0, rfl, rfl, Nat.zero_le _, Vec.nil _ _ _ HB2.out, rfl⟩
        case round =>
          obtain ⟨i, go, cap, rfl, rfl, hi, hv, hall⟩ := hrel
          by_cases hlt : i < ys.length
          · have hc := HCY.out i _ (List.getElem?_eq_getElem hlt)
            rw [← hv.below.cell (p := ⟨g0, 1 + i, none⟩) HGL.out] at hc
            have hyz := HYS.out _ (List.getElem_mem hlt)
            have htk : ys.take (i + 1) = ys.take i ++ [ys[i]] := List.take_succ_eq_append_getElem hlt
            have hmem : ys[i] ∈ ys := List.getElem_mem hlt
            have HV := Lib.hid (And.intro hv hall); clear hv hall
            generalize ys[i] = y at hc hyz htk hmem
            have HTK := Lib.hid (And.intro htk hmem); clear htk hmem
            have hil : i ≤ 65536 := by have := HYL.out; omega
            have hsm := fun wq => small_any y wq (by omega)
            have hta := fun wq => tail_any y wq (by omega)
            have hbad : (!(toL y).isEmpty && tailB (toL y)) = false → dv = (0, [], 60) := fun hf => by
              rw [← HDV2.out]
              rw [if_pos]
              rw [List.all_eq_false]
              exact ⟨toL y, List.mem_map.2 ⟨y, HTK.out.2, rfl⟩, by rw [hf]; simp⟩
            have HBAD := Lib.hid hbad; have HSM := Lib.hid hsm; clear hbad hsm
            by_cases hy0 : toL y = []
            · obtain rfl := empty_of y hy0
              clear hy0 hta
              go_wp2_with fail
              go_ret3
              exact DescPost.bad (HDV.out.trans (HBAD.out rfl)) (bnext HB1.out HV.out.1.below)
            · obtain ⟨z1, z2, z3⟩ := nonempty_of y hy0
              have hie : (toL y).isEmpty = false := by cases h : toL y with | nil => exact absurd h hy0 | cons => rfl
              clear hy0
              cases htt : tailB (toL y) with
              | false =>
                rw [htt] at hta
                have HTA := Lib.hid hta
                have hd2 := HBAD.out (by rw [htt]; simp)
                have HD2 := Lib.hid hd2
                clear hta hd2 htt hie
                go_wp2_with (first | (go_at_call 147; (with_reducible refine (HTA.out _).mono ?_); rintro en w4 ⟨rfl, rfl⟩) | fail)
                go_ret3
                exact DescPost.bad (HDV.out.trans HD2.out) (bnext HB1.out HV.out.1.below)
              | true =>
                rw [htt] at hta
                have HTA := Lib.hid hta
                have hok : (!(toL y).isEmpty && tailB (toL y)) = true := by rw [hie, htt]; rfl
                have HOK := Lib.hid hok
                clear hta htt hie hok
                go_wp2_with (first
                  | (go_at_call 147; (with_reducible refine (HTA.out _).mono ?_); rintro en w4 ⟨rfl, rfl⟩)
                  | (go_at_call 133; (with_reducible refine (HSM.out _).mono ?_); rintro en w5 ⟨rfl, hb5⟩; have HV5 := Lib.hid (HV.out.1.next hb5); clear hb5)
                  | (at_builtin; refine HV5.out.push eiStr rfl _ _ rfl rfl 1 [.string ⟨(low (toL y)).toArray⟩] #[.string ⟨(low (toL y)).toArray⟩] rfl rfl rfl (fun u hu => by simp at hu; subst hu; rfl) (by omega) (i + 1) rfl (by omega) ?_; intro g3 cap3 w6 hv6 hg6; have HV6 := Lib.hid hv6; clear hv6 hg6)
                  | fail)
                refine ⟨⟨i + 1, some g3, cap3, by simp, rfl, by omega, ?_, ?_⟩, by simp [intOf]; omega⟩
                · rw [HTK.out.1, List.map_append, List.map_append]
                  exact HV6.out
                · rw [HTK.out.1, List.map_append, List.all_append, HV.out.2, Bool.true_and]
                  simp only [List.map_cons, List.map_nil, List.all_cons, List.all_nil, Bool.and_true]
                  exact HOK.out
          · obtain rfl : i = ys.length := by omega
            have hv2 := hv
            obtain ⟨gg, rfl⟩ := hv2.ptr hyp
            rw [List.take_length] at hv hall
            have hsr := SRow.of_vec hv
            obtain ⟨O, hO⟩ : ∃ O, optsOf (ys.map toL) = O := ⟨_, rfl⟩
            have hdv5 := HDV2.out
            rw [if_neg (by rw [hall]; simp)] at hdv5
            clear HDV2
            have HDV2 := Lib.hid hdv5; have HO := Lib.hid hO
            have hO2 : Lib.compact ((ys.map fun y => low (toL y)).mergeSort fun x y => decide (x ≤ y)) = O := by rw [← hO]; unfold optsOf; rw [List.map_map]; rfl
            have hOl : ∀ o ∈ O, o.length ≤ 65536 := fun o ho => by
              rw [← hO] at ho
              obtain ⟨x, hx, rfl⟩ := optsOf_mem ho
              obtain ⟨y, hy, rfl⟩ := List.mem_map.1 hx
              have := HYS.out y hy
              rw [low, List.length_map, ← Lib.size_eq]; exact this
            have hOn : (Lib.compact ((ys.map fun y => low (toL y)).mergeSort fun x y => decide (x ≤ y))).length ≤ 65536 := by
              refine Nat.le_trans (compact_len _) ?_
              simp; exact HYL.out
            have hsort : Calls Tryz.prog 148 #[sv (some gg) ys.length cap] wr fun e w' => e = .returned (.tuple #[]) ∧ SRow w1 w' gg ys.length cap ((ys.map fun y => low (toL y)).mergeSort fun x y => decide (x ≤ y)) := hsr.sort (by have := HYL.out; omega)
            have hcomp : ∀ wq, SRow w1 wq gg ys.length cap ((ys.map fun y => low (toL y)).mergeSort fun x y => decide (x ≤ y)) → Calls Tryz.prog 149 #[sv (some gg) ys.length cap] wq fun e w' => ∃ a n c, e = .returned (.slice a n c) ∧ Texts w'.heap.size w' a n c (strsB O) ∧ Below w1.heap.size w1 w' := fun wq hq =>
              (hq.compact (by have := HYL.out; omega)).mono fun e w' ⟨he, hr⟩ => ⟨_, _, _, he, by rw [← hO2]; exact hr.texts (by omega) (fun s hs => by rw [hO2] at hs; have := hOl s hs; omega), hr.below⟩
            have HSORT := Lib.hid hsort; have HCOMP := Lib.hid hcomp
            have HOL := Lib.hid hOl
            clear hsort hcomp hdv5 hO hO2 hOl hOn hsr hv hv2 hall
            go_wp2_with (first
              | (go_at_call 148; (with_reducible refine (HSORT.out).mono ?_); rintro en w7 ⟨rfl, hq7⟩; have HQ7 := Lib.hid hq7; clear hq7)
              | fail)
            go_at_call 149
            refine (HCOMP.out _ HQ7.out).mono ?_
            rintro en w8 ⟨oa, on, oc, rfl, hte, hb8⟩
            have hon : on = O.length := by have := hte.len; rw [this]; simp [strsB]
            have H8 := Lib.hid (And.intro hte (bnext HB1.out hb8)); have e1 := HE0.out w8 hb8; clear hte hb8
            by_cases h8 : 8 < on
            · have hd8 : dv = (0, [], 3) := by rw [← HDV2.out, HO.out, if_pos (by rw [← hon]; exact h8)]
              have HD8 := Lib.hid hd8
              have i8 : (8 : Int) < on := by omega
              clear hd8 h8 hon
              go_wp2_with fail
              go_ret3
              exact DescPost.bad (HDV.out.trans HD8.out) H8.out.2
            · have i8 : ¬ (8 : Int) < on := by omega
              have hdv4 := HDV2.out
              rw [HO.out, if_neg (by rw [← hon]; exact h8)] at hdv4
              have hty := fun wq hb => type_any S g x0 wq (HSC.out.keep hb) (by have := HX0.out; have := HLS.out.2; omega)
              cases hta : typeAt S (toL x0) with
              | none =>
                rw [hta] at hdv4 hty
                change ∀ wq, Below w.heap.size w wq → Calls Tryz.prog 51 #[.pointer (some ⟨g, 0, none⟩), .string x0] wq fun e w' => e = .returned (.int .i64 (-1)) ∧ Below wq.heap.size wq w' at hty
                have HTY := Lib.hid hty; have HD4 := Lib.hid hdv4
                clear hty hdv4 hta hon h8
                go_wp2_with (first
                  | (go_at_call 51; (with_reducible refine (HTY.out _ H8.out.2).mono ?_); rintro en w9 ⟨rfl, hb9⟩; have HB9 := Lib.hid (bnext H8.out.2 hb9); clear hb9)
                  | fail)
                go_ret3
                exact DescPost.bad (HDV.out.trans HD4.out.symm) HB9.out
              | some t =>
                rw [hta] at hdv4 hty
                change ∀ wq, Below w.heap.size w wq → Calls Tryz.prog 51 #[.pointer (some ⟨g, 0, none⟩), .string x0] wq fun e w' => e = .returned (.int .i64 (t : Nat)) ∧ Below wq.heap.size wq w' at hty
                have htl : t < S.types.length := by
                  unfold typeAt at hta
                  split at hta
                  · cases hta
                  · have := placeOf_lt hta; simpa [tK] using this
                have hok := newE_ok (S := S) (by rw [HSC.out.ok])
                obtain ⟨_, _, hnn, hns⟩ := namedE_zero (typeE_named (hok.ty t htl))
                obtain ⟨ta, tn, tc, hc0, htys⟩ := HSC.out.base.types
                obtain ⟨tb, tx, rfl, htb⟩ := htys.lies.ptr (by have := htys.len; omega)
                have htat := htys.cell tb tx rfl t _ (List.getElem?_eq_getElem htl)
                have hty0 : S.types[t] = tyAt S t := by unfold tyAt; simp [List.getD, htl]
                rw [hty0] at htat
                obtain ⟨na, nn, nc, hc1, hnt⟩ := htat.c1
                obtain ⟨nm, nr, hnm⟩ : ∃ nm nr, (tyAt S t).names = nm :: nr := by
                  cases h : (tyAt S t).names with
                  | nil => exact absurd h hnn
                  | cons nm nr => exact ⟨nm, nr, rfl⟩
                rw [hnm] at hnt
                have hnl := hnt.len
                simp only [List.length_cons] at hnl
                obtain ⟨nb, no, rfl, hnb⟩ := hnt.lies.ptr (by omega)
                have hc2 := hnt.cell nb no rfl 0 nm rfl
                rw [Nat.add_zero] at hc2
                have hnz : nm.size ≤ 65536 := (hns.1 nm (by rw [hnm]; simp)).2
                have hname : nameOf S t = nm := by unfold nameOf; rw [hnm]; rfl
                have hcs : ∀ wq, Below w.heap.size w wq → wq.cell? ⟨g, 0, none⟩ = some (.slice (some ⟨tb, tx, none⟩) tn tc) ∧ wq.cell? ⟨tb, tx + t * 9 + 1, none⟩ = some (.slice (some ⟨nb, no, none⟩) nn nc) ∧ wq.cell? ⟨nb, no, none⟩ = some (.string nm) := fun wq hb =>
                  ⟨by rw [hb.cell (World.block_lt_of_cell? w _ hc0)]; exact hc0, by rw [hb.cell (World.block_lt_of_cell? w _ hc1)]; exact hc1, by rw [hb.cell (World.block_lt_of_cell? w _ hc2)]; exact hc2⟩
                have ht0 : (0 : Int) ≤ (t : Int) := by omega
                have htn : (t : Int) < (tn : Int) := by have := htys.len; omega
                have hnn0 : (0 : Int) < (nn : Int) := by omega
                simp only at hdv4
                rw [hname] at hdv4
                have hO8 : O.length ≤ 8 := by omega
                have hOm : ∀ o ∈ O, o.length ≤ 65536 := HOL.out
                have hOf := flatten_le O hOm
                have hOf2 : O.flatten.length ≤ 524288 := Nat.le_trans hOf (by omega)
                have hmt : (strsB O).map toL = O := by unfold strsB; rw [List.map_map]; exact List.map_id _
                have hjn := fun wq (hb : Below w8.heap.size w8 wq) => join_texts _ _ _ _ _ wq (H8.out.1.keep hb hb.size) (Nat.le_refl _) (by rw [hmt]; omega)
                rw [hmt] at hjn
                have HCS := Lib.hid hcs; have HTY := Lib.hid hty; have HJN := Lib.hid hjn; have HTA := Lib.hid (And.intro hta htl)
                generalize hfl : O.flatten = fl at hdv4 HJN hOf2
                have hv4 : (65536 < nm.size + on + fl.length ∧ dv = (0, [], 3)) ∨ (¬ 65536 < nm.size + on + fl.length ∧ dv = (t, O, 0)) := by
                  by_cases hh : 65536 < nm.size + on + fl.length
                  · rw [← hon, if_pos hh] at hdv4; exact .inl ⟨hh, hdv4.symm⟩
                  · rw [← hon, if_neg hh] at hdv4; exact .inr ⟨hh, hdv4.symm⟩
                have HV4 := Lib.hid hv4; have HON := Lib.hid hon
                have hflz : (ByteArray.mk fl.toArray).size = fl.length := rfl
                clear hcs hty hjn hta hdv4 hmt hOf hOm hO8 hnm hnn hns hok htys htat hty0 hnt hnb htb hnl hfl hv4 hon h8 hc0 hc1 hc2 hname htl
                go_upto_region 24 with (first
                  | (go_at_call 51; (with_reducible refine (HTY.out _ H8.out.2).mono ?_); rintro en w9 ⟨rfl, hb9⟩; obtain ⟨q0, q1, q2⟩ := HCS.out _ (bnext H8.out.2 hb9); have HB9 := Lib.hid hb9; clear hb9)
                  | (go_at_call 107; (with_reducible refine (HJN.out _ HB9.out).mono ?_); rintro en w10 ⟨rfl, hb10⟩; have HB10 := Lib.hid (bnext HB9.out hb10); clear hb10)
                  | fail)
                · have hd : dv = (0, [], 3) := by
                    rcases HV4.out with ⟨_, h⟩ | ⟨h, _⟩
                    · exact h
                    · exfalso; omega
                  have HD := Lib.hid hd; clear hd
                  go_wp2_with fail
                  go_ret3
                  exact DescPost.bad (HDV.out.trans HD.out) (bnext H8.out.2 HB10.out)
                · have hd : dv = (t, O, 0) := by
                    rcases HV4.out with ⟨h, _⟩ | ⟨_, h⟩
                    · exfalso; omega
                    · exact h
                  have HD := Lib.hid hd; clear hd
                  go_ret3
                  unfold DescPost
                  rw [HDV.out, HD.out]
                  exact ⟨oa, on, oc, rfl, H8.out.1.keep HB10.out HB10.out.size, bnext H8.out.2 HB10.out⟩
end Go.Proofs.YtifgmnafjihlkaaGreatDoor
