/- Part 31 of the walks and plain laws, joined: VmT, VmR, VmD. -/
import Derived.Test.YtifgmnafjihlkaaGreatDoorMW30
import Derived.Test.YtifgmnafjihlkaaGreatDoorMW08
import Derived.Deep.DeepCutAuto
/- rosterlaw23.ViewMore: more words want no less, from the region 42 on. -/
namespace Go.Proofs.YtifgmnafjihlkaaGreatDoor
open Go Go.RowKit Go.Maps

theorem Vec.texts {w0 w : World} {g n cap : Nat} {l : List ByteArray} (h : Vec 9 1 w0 w (some g) n cap (strV l)) (hn : n = l.length) (hs : n ≤ 4294967280) (hz : ∀ s ∈ l, s.size ≤ 4294967280) : Texts w.heap.size w (some ⟨g, 0, none⟩) n cap l := by
  refine ⟨hn, ?_, hs, fun b o e i x hx => ?_, hz⟩
  · have h0 := h.own.2
    simp only at h0
    refine ⟨h0.1, ?_, (fun h => by cases h), fun ad e _ => ?_, fun ad e _ => ?_⟩
    · obtain ⟨sp, _, _, h3⟩ := h0.2; exact h3
    · cases e; exact h.lt
    · cases e; rfl
  · cases e
    rw [Nat.zero_add]
    exact h.cell (by simp [strV, hx])
theorem sv_none : Value.slice none 0 0 = sv none 0 0 := rfl

set_option maxRecDepth 20000 in
set_option maxHeartbeats 16000000 in
theorem vm_tail {cd : Code} {W0 : World} {S : PSchema} {g rb b5 b7 : Nat} {a aa : Option Addr} {n c an ac : Nat} {nm : PName} {al : List PAttr} {va : Option Addr} {vn vc : Nat} {vl : List ByteArray} {ma : Option Addr} {mn mc : Nat} {ml : List ByteArray} {fa : Option Addr} {fn fc : Nat} {ga : Option Addr} {gc : Nat} {w8 : World} {a0 : Act}
    (hcd : Tryz.f10.body.bind (restAt 42) = some cd) (hvm : VM S g rb b5 b7 a aa n c an ac nm al va vn vc vl ma mn mc ml fa fn fc ga fn gc w8) (hb8 : Below W0.heap.size W0 w8) (hvn : vn ≤ 1048576) (hmn : mn ≤ 1048576) (hv0 : vn ≠ 0)
    (hsz : a0.tmps.size = 309) (hdf : a0.defers = []) (h2 : fr a0 2 = .slice va vn vc) (h3 : fr a0 3 = .slice ma mn mc) (h5 : fr a0 5 = .pointer (some ⟨rb, 0, none⟩)) (h9 : fr a0 9 = .pointer (some ⟨g, 0, none⟩)) (h26 : fr a0 26 = .slice none 0 0) :
    Code.wp Tryz.prog cd (bodyPost Tryz.prog Tryz.f10 fun e w' => e = .returned (.bool true) ∧ Below W0.heap.size W0 w') a0 w8 := by
  rw [frame_of hsz hdf, frame_vt h2 h3 h5 h9 (h26.trans sv_none)]
  generalize fr a0 = f0
  simp only [Tryz.f10, Option.bind_some, restAt, reduceIte, Nat.reduceEqDiff, Option.none_or, Option.or_none, Option.some.injEq] at hcd
  subst hcd
  have HVM := Lib.hid hvm; have HB8 := Lib.hid hb8
  have has := hvm.at'.small
  have HAL := Lib.hid hvm.at'.len
  have HVL := Lib.hid hvm.wt.len
  have HML := Lib.hid hvm.mt.len
  have hV0 := Vec.nil 9 1 w8 (Below.refl _ w8)
  have HV0 := Lib.hid hV0
  have hm1 := hvm.mt.len0
  have hm2 : ∀ ad, ma = some ad → ∀ (j : Nat) (u : Value), (strV ml)[j]? = some u → w8.cell? (ad.add j) = some u := fun ad e j u hu => (hvm.mt.news ad e j u hu).2
  have hm3 : (strV ml).length = mn * 1 := by simp [strV, hvm.mt.len]
  have hm4 : mn * 16 ≤ 140737488355328 := by omega
  have HM := Lib.hid (And.intro hm1 (And.intro hm2 (And.intro hm3 hm4)))
  have hw1 := hvm.wt.len0
  have hw2 : ∀ wq, Below w8.heap.size w8 wq → ∀ ad, va = some ad → ∀ (j : Nat) (u : Value), (strV vl)[j]? = some u → wq.cell? (ad.add j) = some u := fun wq hb ad e j u hu => ((hvm.wt.keep hb (Nat.le_refl _)).news ad e j u hu).2
  have hw3 : (strV vl).length = vn * 1 := by simp [strV, hvm.wt.len]
  obtain ⟨L1, hL1⟩ : ∃ L, mn + vn = L := ⟨_, rfl⟩
  obtain ⟨L2, hL2⟩ : ∃ L, L1 + vn = L := ⟨_, rfl⟩
  have hL3 : L1 * 16 ≤ 140737488355328 := by omega
  have hL4 : L2 * 16 ≤ 140737488355328 := by omega
  have hL5 : 0 < L1 := by omega
  have hL6 : 0 < L2 := by omega
  have hL7 : L2 ≤ 4294967280 := by omega
  have HW := Lib.hid (And.intro hw1 (And.intro hw2 hw3))
  have HL := Lib.hid (And.intro hL1 (And.intro hL2 (And.intro hL3 (And.intro hL4 (And.intro hL5 (And.intro hL6 hL7))))))
  clear hvm hb8 h2 h3 h5 h9 h26 hsz hdf hV0 hm1 hm2 hm3 hm4 hw1 hw2 hw3 hL1 hL2 hL3 hL4 hL5 hL6 hL7
  go_upto_region 43 with (at_builtin; refine HV0.out.app eiStr rfl _ _ rfl rfl ma mn mc (strV ml) rfl HM.out.1 HM.out.2.2.1 HM.out.2.1 (strV_one _) mn (Nat.zero_add _) HM.out.2.2.2 ?_; intro go1 cap1 w1 hV1 hG1; have HV1 := Lib.hid hV1; clear hV1 hG1)
  go_upto_region 44 with (at_builtin; refine HV1.out.app1 eiStr rfl _ _ rfl rfl va vn vc (strV vl) rfl HW.out.1 HW.out.2.2 (HW.out.2.1 _ HV1.out.below) (strV_one _) L1 HL.out.1 HL.out.2.2.1 HL.out.2.2.2.2.1 ?_; intro g2 cap2 w2 hV2 hG2; have HV2 := Lib.hid hV2; clear hV2 hG2)
  go_upto_region 45 with (at_builtin; refine HV2.out.app1 eiStr rfl _ _ rfl rfl va vn vc (strV vl) rfl HW.out.1 HW.out.2.2 (HW.out.2.1 _ HV2.out.below) (strV_one _) L2 HL.out.2.1 HL.out.2.2.2.1 HL.out.2.2.2.2.2.1 ?_; intro g3 cap3 w3 hV3 hG3; have HV3 := Lib.hid hV3; clear hV3 hG3)
  have hv3 : Vec 9 1 w8 w3 (some g3) L2 cap3 (strV (ml ++ vl ++ vl)) := by
    have h := HV3.out
    rw [List.nil_append] at h
    simpa [strV] using h
  have htx := hv3.texts (by have h1 := HVL.out; have h2 := HML.out; have h3 := HL.out; simp only [List.length_append]; omega) HL.out.2.2.2.2.2.2 (fun s hs => by
    rcases List.mem_append.1 hs with hs | hs
    · rcases List.mem_append.1 hs with hs | hs
      · exact HVM.out.mt.size s hs
      · exact HVM.out.wt.size s hs
    · exact HVM.out.wt.size s hs)
  have HTX := Lib.hid htx
  have HM3 := Lib.hid (HVM.out.keep hv3.below)
  have HB3 := Lib.hid (HB8.out.trans (hv3.below.mono HB8.out.size))
  have hr2 := HM3.out.r2
  clear hv3 htx HV3 HV2 HV1 HV0 HW HM HVM HB8
  go_wp2_with fail
  clear hr2
  go_loopw [287] (fun iv wr => ∃ i : Nat, iv = .int .i64 (i : Nat) ∧ i ≤ an ∧ Below w3.heap.size w3 wr) (fun iv _ => an - (intOf iv).toNat)
  case atStart => exact ⟨0, rfl, Nat.zero_le _, Below.refl _ _⟩
  case round =>
    obtain ⟨i, rfl, hin, hbl⟩ := hrel
    have hm := HM3.out.keep hbl
    have hr2 := hm.r2
    have HX := Lib.hid hm; have HBL := Lib.hid hbl
    have HT := Lib.hid (HTX.out.keep hbl hbl.size)
    clear hm hbl
    by_cases hi : i < an
    · have i2 : (i : Int) < (an : Int) := by omega
      have i3 : (0 : Int) ≤ (i : Int) := by omega
      obtain ⟨b, o, rfl, hb⟩ := HX.out.at'.lies.ptr (by omega)
      obtain ⟨t, ht⟩ : ∃ t, al[i]? = some t := ⟨_, List.getElem?_eq_getElem (by have := HAL.out; omega)⟩
      obtain ⟨e0, _⟩ := HX.out.at'.cell b o rfl i t ht
      have hts := HX.out.at'.size t (List.mem_of_getElem? ht)
      have hw1 := wants_any S g t.1 wr.heap.size va vn vc vl wr HX.out.sch HX.out.env.s hts HX.out.wt (Nat.le_refl _)
      have hw2 : ∀ wq, Below wr.heap.size wr wq → Calls Tryz.prog 32 #[.pointer (some ⟨g, 0, none⟩), .slice (some ⟨g3, 0, none⟩) L2 cap3, .string t.1] wq fun r w' => r = .returned (.bool (wantsV S ((ml ++ vl ++ vl).map toL) (toL t.1))) ∧ Below wq.heap.size wq w' := fun wq hb =>
        wants_any S g t.1 wq.heap.size (some ⟨g3, 0, none⟩) L2 cap3 (ml ++ vl ++ vl) wq (HX.out.keep hb).sch (HX.out.keep hb).env.s hts (HT.out.keep hb hb.size) (Nat.le_refl _)
      clear ht
      cases hy : wantsV S (vl.map toL) (toL t.1) with
      | true =>
        have hmo := wants_more S (ml.map toL) (vl.map toL) (toL t.1) (by intro h; have h2 := HVL.out; rw [List.map_eq_nil_iff] at h; rw [h] at h2; exact hv0 h2) hy
        rw [← List.map_append, ← List.map_append] at hmo
        rw [hmo] at hw2
        rw [hy] at hw1
        have HW1 := Lib.hid hw1; have HW2 := Lib.hid hw2
        clear hw1 hw2 hy hmo
        obtain ⟨wo, rfl⟩ : ∃ wo, wo = wr := ⟨_, rfl⟩
        go_wp2_with (first
          | (go_at_call 32; with_reducible refine HW1.out.mono ?_; rintro e w4 ⟨rfl, hb4⟩; have HB4 := Lib.hid hb4; clear hb4)
          | (go_at_call 32; with_reducible refine (HW2.out w4 HB4.out).mono ?_; rintro e w5 ⟨rfl, hb5⟩; have HB5 := Lib.hid hb5; clear hb5)
          | fail)
        exact ⟨⟨i + 1, by simp, by omega, HBL.out.trans ((HB4.out.trans (HB5.out.mono HB4.out.size)).mono HBL.out.size)⟩, by simp [intOf]; omega⟩
      | false =>
        rw [hy] at hw1
        have HW1 := Lib.hid hw1
        clear hw1 hw2 hy
        obtain ⟨wo, rfl⟩ : ∃ wo, wo = wr := ⟨_, rfl⟩
        go_wp2_with (first
          | (go_at_call 32; with_reducible refine HW1.out.mono ?_; rintro e w4 ⟨rfl, hb4⟩; have HB4 := Lib.hid hb4; clear hb4)
          | fail)
        exact ⟨⟨i + 1, by simp, by omega, HBL.out.trans (HB4.out.mono HBL.out.size)⟩, by simp [intOf]; omega⟩
    · have i2 : ¬ (i : Int) < (an : Int) := by omega
      clear hr2
      go_wp2_with fail
      go_ret
      exact ⟨rfl, HB3.out.trans (HBL.out.mono HB3.out.size)⟩
end Go.Proofs.YtifgmnafjihlkaaGreatDoor
/- rosterlaw23.ViewMore: its loops, from the region 14 on. -/
namespace Go.Proofs.YtifgmnafjihlkaaGreatDoor
open Go Go.RowKit Go.Maps

/-- what stands in the slots as a round of ViewMore's loop begins -/
structure RelVM (g rb b5 b7 : Nat) (va : Option Addr) (vn vc : Nat) (ma : Option Addr) (mn mc : Nat) (allb : Bool) (S : PSchema) (vl : List ByteArray) (al : List PAttr) (an : Nat) (w8 : World) (f : Nat → Value) (w : World) : Prop where
  s2 : f 2 = .slice va vn vc
  s3 : f 3 = .slice ma mn mc
  s5 : f 5 = .pointer (some ⟨rb, 0, none⟩)
  s9 : f 9 = .pointer (some ⟨g, 0, none⟩)
  s14 : f 14 = .pointer (some ⟨b5, 0, none⟩)
  s16 : f 16 = .pointer (some ⟨b7, 0, none⟩)
  s18 : f 18 = .bool allb
  s146 : f 146 = .int .i64 (an : Nat)
  ex : ∃ i : Nat, f 147 = .int .i64 (i : Nat) ∧ i ≤ an ∧ f 19 = .int .i64 ((foundV S (vl.map toL) false (al.take i)).length : Nat)
  bel : Below w8.heap.size w8 w

set_option maxRecDepth 20000 in
set_option maxHeartbeats 16000000 in
theorem vm_rest {cd : Code} {W0 : World} {S : PSchema} {g rb b5 b7 : Nat} {a aa : Option Addr} {n c an ac : Nat} {nm : PName} {al : List PAttr} {va : Option Addr} {vn vc : Nat} {vl : List ByteArray} {ma : Option Addr} {mn mc : Nat} {ml : List ByteArray} {fa : Option Addr} {fn fc : Nat} {ga : Option Addr} {gc : Nat} {w8 : World} {a0 : Act}
    (hcd : Tryz.f10.body.bind (restAt 14) = some cd) (hvm : VM S g rb b5 b7 a aa n c an ac nm al va vn vc vl ma mn mc ml fa fn fc ga fn gc w8) (hb8 : Below W0.heap.size W0 w8) (hvn : vn ≤ 1048576) (hmn : mn ≤ 1048576)
    (hsz : a0.tmps.size = 309) (hdf : a0.defers = []) (h2 : fr a0 2 = .slice va vn vc) (h3 : fr a0 3 = .slice ma mn mc) (h5 : fr a0 5 = .pointer (some ⟨rb, 0, none⟩)) (h9 : fr a0 9 = .pointer (some ⟨g, 0, none⟩)) (h14 : fr a0 14 = .pointer (some ⟨b5, 0, none⟩)) (h16 : fr a0 16 = .pointer (some ⟨b7, 0, none⟩)) (h18 : fr a0 18 = .bool (allV (vl.map toL))) :
    Code.wp Tryz.prog cd (bodyPost Tryz.prog Tryz.f10 fun e w' => e = .returned (.bool true) ∧ Below W0.heap.size W0 w') a0 w8 := by
  rw [frame_of hsz hdf, frame_vm h2 h3 h5 h9 h14 h16 h18 rfl rfl rfl]
  generalize fr a0 = f0
  simp only [Tryz.f10, Option.bind_some, restAt, reduceIte, Nat.reduceEqDiff, Option.none_or, Option.or_none, Option.some.injEq] at hcd
  subst hcd
  generalize hall : allV (vl.map toL) = allb
  have HVM := Lib.hid hvm; have HALL := Lib.hid hall; have HB8 := Lib.hid hb8
  have hr2 := hvm.r2
  have has := hvm.at'.small
  have HAL := Lib.hid hvm.at'.len
  have HVL := Lib.hid hvm.wt.len
  have HN := Lib.hid (And.intro hvn hmn)
  have hvs := hvm.wt.small
  clear hall hvm hb8 h2 h3 h5 h9 h14 h16 h18 hsz hdf hvn hmn
  go_wp2_with fail
  clear hr2
  refine wp_loopF 309 (RelVM g rb b5 b7 va vn vc ma mn mc allb S vl al an w8) (fun f => an - (intOf (f 147)).toNat) ⟨rfl, rfl, ⟨rfl, rfl, rfl, rfl, rfl, rfl, rfl, rfl, ⟨0, rfl, Nat.zero_le _, rfl⟩, Below.refl _ _⟩⟩ ?_
  intro f wr hrel
  obtain ⟨h2, h3, h5, h9, h14, h16, h18, h146, ⟨i, h147, hin, h19⟩, hbl⟩ := hrel
  rw [frame_vm h2 h3 h5 h9 h14 h16 h18 h19 h146 h147]
  have H147 := Lib.hid h147
  clear h2 h3 h5 h9 h14 h16 h18 h19 h146 h147
  have hvm := HVM.out.keep hbl
  have HW := Lib.hid hvm; have HBL := Lib.hid hbl
  have hr2 := hvm.r2
  clear hvm hbl
  by_cases hi : i < an
  · have i2 : (i : Int) < (an : Int) := by omega
    have i3 : (0 : Int) ≤ (i : Int) := by omega
    obtain ⟨b, o, rfl, hb⟩ := HW.out.at'.lies.ptr (by omega)
    obtain ⟨t, ht⟩ : ∃ t, al[i]? = some t := ⟨_, List.getElem?_eq_getElem (by have := HAL.out; omega)⟩
    obtain ⟨e0, xa, xn, xc, e1, hX⟩ := HW.out.at'.cell b o rfl i t ht
    have hts := HW.out.at'.size t (List.mem_of_getElem? ht)
    have f0 := cellA_new wr #[.string t.1, .slice xa xn xc] 80 0
    have f1 := cellA_new wr #[.string t.1, .slice xa xn xc] 80 1
    have hba : Below wr.heap.size wr (wr.alloc (.cells #[.string t.1, .slice xa xn xc] 80)) := (Below.refl _ _).alloc (Nat.le_refl _) _
    have HX := Lib.hid hX; have HT := Lib.hid ht
    clear hX ht
    go_upto_region 19 with fail
    generalize wr.alloc (.cells #[.string t.1, .slice xa xn xc] 80) = w9 at f0 f1 hba ⊢
    have f0' : w9.cell? ⟨wr.heap.size, 0, none⟩ = some (.string t.1) := f0
    have f1' : w9.cell? ⟨wr.heap.size, 1, none⟩ = some (.slice xa xn xc) := f1
    have HM := Lib.hid (HW.out.keep hba)
    have HX9 := Lib.hid (HX.out.keep hba hba.size)
    have HB9 := Lib.hid (HBL.out.trans (hba.mono HBL.out.size))
    clear f0 f1 hba e0 e1 hr2 HX HW
    generalize wr.heap.size = tb at f0' f1' ⊢
    have hwt := fun wq hb => (wants_any S g t.1 wq.heap.size va vn vc vl wq ((HM.out.keep hb).sch) ((HM.out.keep hb).env.s) hts ((HM.out.keep hb).wt) (Nat.le_refl _))
    have HWT := Lib.hid hwt
    clear hwt
    have hcv : ∀ wq (x : ByteArray), Below w9.heap.size w9 wq → x.size ≤ 4294967280 → Calls Tryz.prog 39 #[.pointer (some ⟨g, 0, none⟩), .string x, .string t.1] wq fun e w' => e = .returned (.bool (coversV S (toL x) (toL t.1))) ∧ Below wq.heap.size wq w' := fun wq x hb hx =>
      covers_any S g x t.1 wq ((HM.out.keep hb).sch) ((HM.out.keep hb).env.s) hx hts
    have HCV := Lib.hid hcv
    clear hcv
    go_upto_region 21 with (go_at_call 32; with_reducible refine (HWT.out w9 (Below.refl _ _)).mono ?_; rintro e w10 ⟨rfl, hb10⟩)
    have g0 := (hb10.cell (World.block_lt_of_cell? _ _ f0')).trans f0'
    have g1 := (hb10.cell (World.block_lt_of_cell? _ _ f1')).trans f1'
    have HB10 := Lib.hid hb10
    clear hb10 f0' f1' HWT
    go_wp2_with fail
    go_loopw [164, 23] (fun kv cv wx => ∃ k : Nat, kv = .int .i64 (k : Nat) ∧ k ≤ vn ∧ cv = .bool (covK S (vl.map toL) (toL t.1) k) ∧ Below w10.heap.size w10 wx) (fun kv _ _ => vn - (intOf kv).toNat)
    case atStart => exact ⟨0, rfl, Nat.zero_le _, by rw [← HALL.out]; simp [covK], Below.refl _ _⟩
    case round =>
      obtain ⟨k, rfl, hk, rfl, hbx⟩ := hrel
      have g0x := (hbx.cell (World.block_lt_of_cell? _ _ g0)).trans g0
      have g1x := (hbx.cell (World.block_lt_of_cell? _ _ g1)).trans g1
      have HBX := Lib.hid hbx
      clear hbx
      by_cases hkn : k < vn
      · have k2 : (k : Int) < (vn : Int) := by omega
        have k3 : (0 : Int) ≤ (k : Int) := by omega
        have hv9 := HM.out.wt
        obtain ⟨vb, vo, rfl, _⟩ := hv9.lies.ptr (by omega)
        obtain ⟨x, hx⟩ : ∃ x, vl[k]? = some x := ⟨_, List.getElem?_eq_getElem (by have := HVL.out; omega)⟩
        have hxs := hv9.size x (List.mem_of_getElem? hx)
        have hxc := hv9.cell vb vo rfl k x hx
        have hb9x := HB10.out.trans (HBX.out.mono HB10.out.size)
        have g2x := (hb9x.cell (World.block_lt_of_cell? _ _ hxc)).trans hxc
        have hsn := covK_snoc S (wl := vl.map toL) (toL t.1) (k := k) (x := toL x) (by rw [List.getElem?_map, hx]; rfl)
        have HCX := Lib.hid (HCV.out)
        have HB9X := Lib.hid hb9x
        have HB9D := Lib.hid hb9x.drew
        clear hv9 hx hxc hb9x g0 g1
        cases hck : covK S (vl.map toL) (toL t.1) k with
        | true =>
          rw [hck, Bool.true_or] at hsn
          have HSN := Lib.hid hsn
          clear hsn hck
          go_wp2_with fail
          go_quiet (fail)
          go_wp2_with fail
          exact ⟨⟨k + 1, by simp, by omega, by rw [HSN.out], bdrewN HBX.out nq⟩, by simp [intOf]; omega⟩
        | false =>
          rw [hck, Bool.false_or] at hsn
          have HSN := Lib.hid hsn
          clear hsn hck
          go_wp2_with fail
          go_region_held3 (fun w' => w'.cell? ⟨tb, 0, none⟩ = some (.string t.1) ∧ w'.cell? ⟨vb, vo + k, none⟩ = some (.string x))
            (first | exact ⟨g0x, g2x⟩ | exact ⟨(HB11.out.cell (p := ⟨tb, 0, none⟩) (World.block_lt_of_cell? _ _ g0x)).trans g0x, (HB11.out.cell (p := ⟨vb, vo + k, none⟩) (World.block_lt_of_cell? _ _ g2x)).trans g2x⟩)
            ((go_at_call 39; refine (HCV.out _ x HB9D.out hxs).mono ?_; rintro e w11 ⟨rfl, hb11⟩; have HB11 := Lib.hid hb11; clear hb11))
          go_wp2_with fail
          exact ⟨⟨k + 1, by simp, by omega, by rw [HSN.out], HBX.out.drew.trans (HB11.out.mono HBX.out.size)⟩, by simp [intOf]; omega⟩
      · have k2 : ¬ (k : Int) < (vn : Int) := by omega
        have hcw := covK_all S (wl := vl.map toL) (toL t.1) (k := k) (by rw [List.length_map]; have := HVL.out; omega)
        rw [hcw]
        have hb9x := HB10.out.trans (HBX.out.mono HB10.out.size)
        have HMX := Lib.hid (HM.out.keep hb9x)
        have HB8X := Lib.hid (HB9.out.trans (hb9x.mono HB9.out.size))
        have HXX := Lib.hid (HX9.out.keep hb9x hb9x.size)
        clear hcw g0 g1 hb9x HM HB9 HX9 HB10 HBX HCV
        cases hyv : wantsV S (vl.map toL) (toL t.1) with
        | false =>
          have hno := found_no S (vl.map toL) false HT.out hyv
          have HNO := Lib.hid hno
          clear hyv hno
          go_wp2_with fail
          exact ⟨⟨rfl, rfl, ⟨rfl, rfl, rfl, rfl, rfl, rfl, rfl, rfl, ⟨i + 1, rfl, by omega, by rw [HNO.out]; rfl⟩, HB8X.out⟩⟩, by
            show an - (intOf (.int .i64 ((i : Int) + 1))).toNat < an - (intOf (f 147)).toNat
            rw [H147.out]; simp [intOf]; omega⟩
        | true =>
          have hyes := found_yes S (vl.map toL) false HT.out hyv
          have hf1 := found_at S (vl.map toL) false HT.out hyv
          have hf2 := found_at S (vl.map toL) true HT.out hyv
          rw [found_same S (vl.map toL) true false (al.take i)] at hf2
          have HYES := Lib.hid hyes
          clear hyv hyes
          generalize (foundV S (vl.map toL) false (al.take i)).length = nf at hf1 hf2 HYES ⊢
          have hnf : nf < fn := by
            have h1 := (List.getElem?_eq_some_iff.1 hf1).1
            rw [HMX.out.fd.len]; exact h1
          have nf2 : (nf : Int) < (fn : Int) := by omega
          have nf3 : (0 : Int) ≤ (nf : Int) := by omega
          have hfns := HMX.out.fd.small
          have HM2 := Lib.hid HMX.out
          obtain ⟨fb, fo, rfl, _⟩ := HMX.out.fd.lies.ptr (by omega)
          obtain ⟨gb, go', rfl, _⟩ := HMX.out.gd.lies.ptr (by omega)
          obtain ⟨c1, ya, yn, yc, c2, hY⟩ := HMX.out.fd.cell fb fo rfl nf _ hf1
          obtain ⟨d1, za, zn, zc, d2, hZ⟩ := HMX.out.gd.cell gb go' rfl nf _ hf2
          have hyn : yn = xn := by rw [hY.len, HXX.out.len]; rfl
          have hzn : zn = 0 := hZ.len
          subst hyn hzn
          have m1 := HMX.out.a1
          have m2 := HMX.out.b1
          have HY := Lib.hid hY
          have hxsm := HXX.out.small
          clear hf1 hf2 hnf hY hZ
          simp only at c1 d1
          have z1 : decide ((fn : Int) ≤ (nf : Int)) = false := by simp; omega
          have z2 : (t.1.toList == t.1.toList) = true := by simp
          have z3 : (t.1.toList != t.1.toList) = false := by simp
          have z5 : ((yn : Int) == (yn : Int)) = true := by simp
          have z6 : ((yn : Int) != (yn : Int)) = false := by simp
          have z7 : decide (fn ≤ nf) = false := by simp; omega
          go_wp2_with fail
          go_quiet (fail)
          go_wp2_with fail
          have HB0 := Lib.hid (Below.refl wr.heap.size wr)
          obtain ⟨wo, rfl⟩ : ∃ wo, wo = wr := ⟨_, rfl⟩
          have HB1 := Lib.hid (bdrewN HB0.out nq)
          clear HB0 c1 d1 d2 m2 z1 z2 z3 z5 z6 z7 g0x
          go_loopw [237] (fun jv wx => ∃ j : Nat, jv = .int .i64 (j : Nat) ∧ j ≤ yn ∧ Below wo.heap.size wo wx) (fun jv _ => yn - (intOf jv).toNat)
          case atStart => exact ⟨0, rfl, Nat.zero_le _, HB1.out⟩
          case round =>
            obtain ⟨j, rfl, hj, hbj⟩ := hrel
            have HBJ := Lib.hid hbj
            by_cases hjn : j < yn
            · have j2 : (j : Int) < (yn : Int) := by omega
              have j3 : (0 : Int) ≤ (j : Int) := by omega
              obtain ⟨yb, yo, rfl, _⟩ := HY.out.lies.ptr (by omega)
              obtain ⟨xb, xo, rfl, _⟩ := HXX.out.lies.ptr (by omega)
              obtain ⟨v, hv⟩ : ∃ v, t.2[j]? = some v := ⟨_, List.getElem?_eq_getElem (by have := HXX.out.len; omega)⟩
              have p1' := HY.out.cell yb yo rfl j v hv
              have p2' := HXX.out.cell xb xo rfl j v hv
              have p1 := (hbj.cell (World.block_lt_of_cell? _ _ p1')).trans p1'
              have p2 := (hbj.cell (World.block_lt_of_cell? _ _ p2')).trans p2'
              have p3 := (hbj.cell (World.block_lt_of_cell? _ _ m1)).trans m1
              have p4 := (hbj.cell (World.block_lt_of_cell? _ _ c2)).trans c2
              have p5 := (hbj.cell (World.block_lt_of_cell? _ _ g1x)).trans g1x
              have z3 : (v.toList != v.toList) = false := by simp
              clear p1' p2' hv hbj m1 c2 g1x
              go_wp2_with fail
              go_quiet (fail)
              go_wp2_with fail
              exact ⟨⟨j + 1, by simp, by omega, bdrewN HBJ.out _⟩, by simp [intOf]; omega⟩
            · have j2 : ¬ (j : Int) < (yn : Int) := by omega
              clear hbj m1 c2 g1x
              go_wp2_with fail
              exact ⟨⟨rfl, rfl, ⟨rfl, rfl, rfl, rfl, rfl, rfl, rfl, rfl, ⟨i + 1, rfl, by omega, by rw [HYES.out]; rfl⟩, HB8X.out.trans (HBJ.out.mono HB8X.out.size)⟩⟩, by
                show an - (intOf (.int .i64 ((i : Int) + 1))).toNat < an - (intOf (f 147)).toNat
                rw [H147.out]; simp [intOf]; omega⟩
  · have i2 : ¬ (i : Int) < (an : Int) := by omega
    obtain rfl : i = an := by omega
    have htake : al.take i = al := List.take_of_length_le (by have := HAL.out; omega)
    rw [htake]
    have hfl := HW.out.fd.len
    rw [← hfl]
    have m1 := HW.out.a1
    clear htake hfl
    have z1 : ((fn : Int) != (fn : Int)) = false := by simp
    have z2 : ((fn : Int) == (fn : Int)) = true := by simp
    by_cases h0 : vn = 0
    · subst h0
      go_wp2_with fail
      go_ret
      exact ⟨rfl, HB8.out.trans (HBL.out.mono HB8.out.size)⟩
    · have z3 : ((vn : Int) == 0) = false := by simp; omega
      go_upto_region 41 with fail
      go_cut [26] (fun s26 wx => s26 = .slice none 0 0 ∧ wr = wx)
      case first =>
        go_wp2_with fail
        go_meet
        exact ⟨rfl, rfl⟩
      case rest =>
        obtain ⟨rfl, e8⟩ := hcut
        subst e8
        refine (‹∀ (a : Act) (w : World), Code.wp _ _ _ a w → _› _ _ (vm_tail rfl HW.out (HB8.out.trans (HBL.out.mono HB8.out.size)) HN.out.1 HN.out.2 h0 rfl rfl rfl rfl rfl rfl rfl))
end Go.Proofs.YtifgmnafjihlkaaGreatDoor
/- rosterlaw23.ViewMore: from schema.New on (region 3). -/
namespace Go.Proofs.YtifgmnafjihlkaaGreatDoor
open Go Go.RowKit Go.Maps

set_option maxRecDepth 20000 in
set_option maxHeartbeats 16000000 in
theorem vm_mid {cd : Code} {w w1 : World} {a0 : Act} {sb rb : Nat} (S : PSchema) (ta : Option Addr) (tn tc : Nat) (ca : Option Addr) (cn cc : Nat) (id : Int) (a : Option Addr) (n c : Nat) (nm : PName) (aa : Option Addr) (an ac : Nat) (al : List PAttr) (va : Option Addr) (vn vc : Nat) (vl : List ByteArray) (ma : Option Addr) (mn mc : Nat) (ml : List ByteArray)
    (hcd : Tryz.f10.body.bind (restAt 3) = some cd) (hE : EnvV w1) (hT : Types w1.heap.size w1 ta tn tc S.types) (hC : Classes w1.heap.size w1 ca cn cc S.classes) (hR : Rdns w1.heap.size w1 a n c nm) (hA : AttrsM w1.heap.size w1 aa an ac al) (hW : Texts w1.heap.size w1 va vn vc vl) (hM : Texts w1.heap.size w1 ma mn mc ml) (hvn : vn ≤ 1048576) (hmn : mn ≤ 1048576) (hb1 : Below w.heap.size w w1)
    (q1 : w1.cell? ⟨rb, 0, none⟩ = some (.int .u64 id)) (q2 : w1.cell? ⟨rb, 1, none⟩ = some (.slice a n c)) (q3 : w1.cell? ⟨rb, 2, none⟩ = some (.slice aa an ac)) (q4 : w1.cell? ⟨sb, 0, none⟩ = some (.slice ta tn tc)) (q5 : w1.cell? ⟨sb, 1, none⟩ = some (.slice ca cn cc))
    (hsz : a0.tmps.size = 309) (hdf : a0.defers = []) (h2 : fr a0 2 = .slice va vn vc) (h3 : fr a0 3 = .slice ma mn mc) (h4 : fr a0 4 = .pointer (some ⟨sb, 0, none⟩)) (h5 : fr a0 5 = .pointer (some ⟨rb, 0, none⟩)) :
    Code.wp Tryz.prog cd (bodyPost Tryz.prog Tryz.f10 fun e w' => e = .returned (.bool true) ∧ Below w.heap.size w w') a0 w1 := by
  rw [frame_of hsz hdf, frame_vd h2 h3 h4 h5]
  generalize fr a0 = f0
  simp only [Tryz.f10, Option.bind_some, restAt, reduceIte, Nat.reduceEqDiff, Option.none_or, Option.or_none, Option.some.injEq] at hcd
  subst hcd
  have HE := Lib.hid hE
  have H1 := Lib.hid (And.intro hT (And.intro hC (And.intro hA (And.intro hR (And.intro hW (And.intro hM hb1))))))
  have hcc : ∀ wr, Below w1.heap.size w1 wr → wr.cell? ⟨rb, 0, none⟩ = some (.int .u64 id) ∧ wr.cell? ⟨rb, 1, none⟩ = some (.slice a n c) ∧ wr.cell? ⟨rb, 2, none⟩ = some (.slice aa an ac) ∧ wr.cell? ⟨sb, 0, none⟩ = some (.slice ta tn tc) ∧ wr.cell? ⟨sb, 1, none⟩ = some (.slice ca cn cc) := fun wr hb =>
    ⟨(hb.cell (World.block_lt_of_cell? _ _ q1)).trans q1, (hb.cell (World.block_lt_of_cell? _ _ q2)).trans q2, (hb.cell (World.block_lt_of_cell? _ _ q3)).trans q3, (hb.cell (World.block_lt_of_cell? _ _ q4)).trans q4, (hb.cell (World.block_lt_of_cell? _ _ q5)).trans q5⟩
  have HCC := Lib.hid hcc
  have HB := Lib.hid (Below.refl w1.heap.size w1)
  obtain ⟨k1, k2, k3, k4, k5⟩ := hcc w1 HB.out
  clear hE hT hC hR hA hW hM hb1 q1 q2 q3 q4 q5 hcc h2 h3 h4 h5 hsz hdf
  have hbw := HB.out
  have hnew := new_any S w1.heap.size ta ca tn tc cn cc w1 (HE.out.next hbw).s (H1.out.1.keep hbw hbw.size) (H1.out.2.1.keep hbw hbw.size) (Nat.le_refl _)
  clear hbw
  by_cases hok : newE S = (0, 0)
  · have hnew2 : Calls Tryz.prog 24 #[.agg #[.slice ta tn tc, .slice ca cn cc]] w1 fun e w' => ∃ g, e = .returned (.tuple #[.pointer (some ⟨g, 0, none⟩), .int .i64 0, .int .i64 0]) ∧ Sch w' g S ∧ Below w1.heap.size w1 w' := hnew.mono fun e w' ⟨h1, h2⟩ => by
      rcases h2 with ⟨_, g, h3, h4⟩ | ⟨h3, _⟩
      · exact ⟨g, h3, h4, HB.out.trans (h1.mono HB.out.size)⟩
      · exact absurd (by rw [hok]) h3
    have HNEW := Lib.hid hnew2
    clear hnew hnew2 hok
    clear k2 k3
    go_upto_region 6 with (go_at_call 24; with_reducible refine HNEW.out.mono ?_; rintro e w3 ⟨g, rfl, hs3, hb3⟩; have H3 := Lib.hid (And.intro hs3 hb3); clear hs3 hb3)
    clear k1 k4 k5
    obtain ⟨k1, k2, k3, k4, k5⟩ := HCC.out _ H3.out.2
    clear k4 k5
    have hpr := print_any w3.heap.size a n c nm w3 (H1.out.2.2.2.1.keep H3.out.2 H3.out.2.size) (Nat.le_refl _) (HE.out.next H3.out.2).e
    have hpr2 : Calls Tryz.prog 37 #[.agg #[.slice a n c]] w3 fun e w' => e = .returned (.tuple #[.string (baOf (printV nm).1), .int .i64 (printV nm).2]) ∧ Below w3.heap.size w3 w' := hpr.mono fun e w' h => h
    have hsh : ∀ only wq, Below w3.heap.size w3 wq → Calls Tryz.prog 31 #[.pointer (some ⟨g, 0, none⟩), .agg #[.int .u64 id, .slice a n c, .slice aa an ac], .slice va vn vc, .bool only] wq fun e w' => ∃ fa fn fc, e = .returned (.tuple #[.agg #[.string (baOf (showR S nm al (vl.map toL) only).1), .slice fa fn fc], .int .i64 (showR S nm al (vl.map toL) only).2.2]) ∧ AttrsM w'.heap.size w' fa fn fc (showR S nm al (vl.map toL) only).2.1 ∧ Below wq.heap.size wq w' := fun only wq hb => by
      have hb2 := H3.out.2.trans (hb.mono H3.out.2.size)
      exact (vshow_any S g wq.heap.size id a n c nm aa an ac al va vn vc vl only wq (H3.out.1.keep hb) (HE.out.next hb2).s (HE.out.next hb2).e (H1.out.2.2.2.1.keep hb2 hb2.size) (H1.out.2.2.1.keep hb2 hb2.size) (H1.out.2.2.2.2.1.keep hb2 hb2.size) (Nat.le_refl _)).mono fun e w' ⟨fa, fn, fc, h1, h2, h3⟩ => ⟨fa, fn, fc, h1, h2, h3⟩
    have HPR := Lib.hid hpr2
    have HSH := Lib.hid hsh
    clear hpr hpr2 hsh HNEW
    by_cases hp : (printV nm).2 = 0
    · have hr : ∀ only, showR S nm al (vl.map toL) only = ((printV nm).1, foundV S (vl.map toL) only al, 0) := fun only => if_pos hp
      simp only [hr] at HSH
      rw [hp] at HPR
      generalize baOf (printV nm).1 = text at HPR HSH
      clear hr hp
      go_upto_region 7 with (go_at_call 37; with_reducible refine HPR.out.mono ?_; rintro e w4 ⟨rfl, hb4⟩; have H4 := Lib.hid hb4; clear hb4)
      have k1' := (H4.out.cell (World.block_lt_of_cell? _ _ k1)).trans k1
      have k2' := (H4.out.cell (World.block_lt_of_cell? _ _ k2)).trans k2
      have k3' := (H4.out.cell (World.block_lt_of_cell? _ _ k3)).trans k3
      clear k1 k2 k3
      go_upto_region 8 with (go_at_call 31; with_reducible refine (HSH.out false w4 H4.out).mono ?_; rintro e w5 ⟨fa, fn, fc, rfl, ha5, hb5⟩; have H5 := Lib.hid (And.intro ha5 (H4.out.trans (hb5.mono H4.out.size))); clear ha5 hb5)
      clear k1' k2' k3'
      obtain ⟨k1, k2, k3, -, -⟩ := HCC.out _ (H3.out.2.trans (H5.out.2.mono H3.out.2.size))
      have g1 := cellA_new w5 #[.string text, .slice fa fn fc] 64 0
      have g2 := cellA_new w5 #[.string text, .slice fa fn fc] 64 1
      have k1' := cellA k1 (.cells #[.string text, .slice fa fn fc] 64)
      have k2' := cellA k2 (.cells #[.string text, .slice fa fn fc] 64)
      have k3' := cellA k3 (.cells #[.string text, .slice fa fn fc] 64)
      have hb56 : Below w5.heap.size w5 (w5.alloc (.cells #[.string text, .slice fa fn fc] 64)) := (Below.refl _ _).alloc (Nat.le_refl _) _
      have hb6 : Below w3.heap.size w3 (w5.alloc (.cells #[.string text, .slice fa fn fc] 64)) := H5.out.2.alloc H5.out.2.size _
      generalize w5.alloc (.cells #[.string text, .slice fa fn fc] 64) = w6 at g1 g2 k1' k2' k3' hb6 hb56 ⊢
      have g1' : w6.cell? ⟨w5.heap.size, 0, none⟩ = some (.string text) := g1
      have g2' : w6.cell? ⟨w5.heap.size, 1, none⟩ = some (.slice fa fn fc) := g2
      have HB6 := Lib.hid hb6
      have HA6 := Lib.hid (H5.out.1.keep hb56 hb56.size)
      have HS2 := Lib.hid (HSH.out true w6 hb6)
      clear k1 k2 k3 hb6 g1 g2 hb56
      generalize w5.heap.size = b5 at g1' g2' ⊢
      go_upto_region 9 with (go_at_call 31; with_reducible refine HS2.out.mono ?_; rintro e w7 ⟨ga, gn, gc, rfl, ha7, hb7⟩; have H7 := Lib.hid (And.intro ha7 hb7); clear ha7 hb7)
      have hlen : fn = gn := by rw [H5.out.1.len, H7.out.1.len, found_same]
      have q1 := cellA ((H7.out.2.cell (World.block_lt_of_cell? _ _ g1')).trans g1') (.cells #[.string text, .slice ga gn gc] 64)
      have q2 := cellA ((H7.out.2.cell (World.block_lt_of_cell? _ _ g2')).trans g2') (.cells #[.string text, .slice ga gn gc] 64)
      have q3 := cellA_new w7 #[.string text, .slice ga gn gc] 64 0
      have q4 := cellA_new w7 #[.string text, .slice ga gn gc] 64 1
      have hb78 : Below w7.heap.size w7 (w7.alloc (.cells #[.string text, .slice ga gn gc] 64)) := (Below.refl _ _).alloc (Nat.le_refl _) _
      have hb68 := H7.out.2.trans (hb78.mono H7.out.2.size)
      have hb8 := HB6.out.trans (hb68.mono HB6.out.size)
      generalize w7.alloc (.cells #[.string text, .slice ga gn gc] 64) = w8 at q1 q2 q3 q4 hb8 hb78 hb68 ⊢
      have q3' : w8.cell? ⟨w7.heap.size, 0, none⟩ = some (.string text) := q3
      have q4' : w8.cell? ⟨w7.heap.size, 1, none⟩ = some (.slice ga gn gc) := q4
      have hb18 := H3.out.2.trans (hb8.mono H3.out.2.size)
      have hvm : VM S g rb b5 w7.heap.size a aa n c an ac nm al va vn vc vl ma mn mc ml fa fn fc ga gn gc w8 :=
        ⟨H3.out.1.keep hb8, HE.out.next hb18, (HCC.out _ hb18).2.2.1, q2, q4', H1.out.2.2.1.keep hb18 hb18.size, H1.out.2.2.2.2.1.keep hb18 hb18.size, H1.out.2.2.2.2.2.1.keep hb18 hb18.size, HA6.out.keep hb68 hb68.size, H7.out.1.keep hb78 hb78.size⟩
      have HVM := Lib.hid hvm
      have HB8 := Lib.hid (H1.out.2.2.2.2.2.2.trans (hb18.mono H1.out.2.2.2.2.2.2.size))
      clear hvm hb8 hb78 hb68 hb18 q3 q4 g1' g2' k1' k2' k3' H3 H4 H5 HB6 HA6 HS2 H7 HPR HSH HCC HE H1 HB
      generalize w7.heap.size = b7 at q3' q4' HVM ⊢
      subst hlen
      go_upto_region 13 with fail
      clear q1 q2 q3' q4'
      have hvl := HVM.out.wt.len
      have hvs := HVM.out.wt.small
      go_cut [18] (fun s18 wx => s18 = .bool (allV (vl.map toL)) ∧ w8 = wx)
      case first =>
        by_cases h0 : vn = 0
        · have hall : allV (vl.map toL) = true := by
            have : vl = [] := List.eq_nil_of_length_eq_zero (by omega)
            rw [this]; rfl
          have HALL := Lib.hid hall
          clear hall hvl
          subst h0
          go_wp2_with fail
          go_meet
          exact ⟨by rw [HALL.out], rfl⟩
        · have hall : allV (vl.map toL) = decide (toL ⟨#[42]⟩ ∈ vl.map toL) := by
            unfold allV
            have : (vl.map toL).isEmpty = false := by
              cases vl with
              | nil => exact absurd hvl h0
              | cons _ _ => rfl
            rw [this, Bool.false_or]
          have hhas := has_any w8.heap.size va vn vc vl ⟨#[42]⟩ w8 HVM.out.wt
          rw [← hall] at hhas
          clear hall
          obtain ⟨allb, hab⟩ : ∃ b, b = allV (vl.map toL) := ⟨_, rfl⟩
          rw [← hab] at hhas
          have HHAS := Lib.hid hhas
          have HAB := Lib.hid hab
          have i1 : ((vn : Int) == 0) = false := by simp; omega
          clear hhas hvl hab
          go_wp2_with (first
            | (go_at_call 38; with_reducible refine HHAS.out.mono ?_; rintro e w9 ⟨rfl, rfl⟩)
            | fail)
          go_meet
          exact ⟨by rw [HAB.out], rfl⟩
      case rest =>
        obtain ⟨rfl, e8⟩ := hcut
        subst e8
        refine (‹∀ (a : Act) (w : World), Code.wp _ _ _ a w → _› _ _ (vm_rest rfl HVM.out HB8.out hvn hmn rfl rfl rfl rfl rfl rfl rfl rfl rfl))
    · have hr : ∀ only, showR S nm al (vl.map toL) only = ([], [], (printV nm).2) := fun only => if_neg hp
      simp only [hr] at HSH
      generalize (printV nm).2 = code at HPR HSH hp
      generalize baOf (printV nm).1 = text at HPR
      have hbe : baOf [] = ⟨#[]⟩ := rfl
      rw [hbe] at HSH
      have i1 : (code != 0) = true := by simpa using hp
      have HP := Lib.hid hp
      clear hr hbe hp
      go_upto_region 7 with (go_at_call 37; with_reducible refine HPR.out.mono ?_; rintro e w4 ⟨rfl, hb4⟩; have H4 := Lib.hid hb4; clear hb4)
      have k1' := (H4.out.cell (World.block_lt_of_cell? _ _ k1)).trans k1
      have k2' := (H4.out.cell (World.block_lt_of_cell? _ _ k2)).trans k2
      have k3' := (H4.out.cell (World.block_lt_of_cell? _ _ k3)).trans k3
      clear k1 k2 k3
      go_upto_region 8 with (go_at_call 31; with_reducible refine (HSH.out false w4 H4.out).mono ?_; rintro e w5 ⟨fa, fn, fc, rfl, ha5, hb5⟩; have H5 := Lib.hid (And.intro ha5 (H4.out.trans (hb5.mono H4.out.size))); clear ha5 hb5)
      clear k1' k2' k3'
      obtain ⟨k1, k2, k3, -, -⟩ := HCC.out _ (H3.out.2.trans (H5.out.2.mono H3.out.2.size))
      have hfn : fn = 0 := H5.out.1.len
      subst hfn
      have g1 := cellA_new w5 #[.string ⟨#[]⟩, .slice fa 0 fc] 64 0
      have g2 := cellA_new w5 #[.string ⟨#[]⟩, .slice fa 0 fc] 64 1
      have k1' := cellA k1 (.cells #[.string ⟨#[]⟩, .slice fa 0 fc] 64)
      have k2' := cellA k2 (.cells #[.string ⟨#[]⟩, .slice fa 0 fc] 64)
      have k3' := cellA k3 (.cells #[.string ⟨#[]⟩, .slice fa 0 fc] 64)
      have hb6 : Below w3.heap.size w3 (w5.alloc (.cells #[.string ⟨#[]⟩, .slice fa 0 fc] 64)) := H5.out.2.alloc H5.out.2.size _
      generalize w5.alloc (.cells #[.string ⟨#[]⟩, .slice fa 0 fc] 64) = w6 at g1 g2 k1' k2' k3' hb6 ⊢
      have g1' : w6.cell? ⟨w5.heap.size, 0, none⟩ = some (.string ⟨#[]⟩) := g1
      have g2' : w6.cell? ⟨w5.heap.size, 1, none⟩ = some (.slice fa 0 fc) := g2
      have HB6 := Lib.hid hb6
      have HS2 := Lib.hid (HSH.out true w6 hb6)
      clear k1 k2 k3 hb6 g1 g2
      generalize w5.heap.size = b5 at g1' g2' ⊢
      go_upto_region 9 with (go_at_call 31; with_reducible refine HS2.out.mono ?_; rintro e w7 ⟨ga, gn, gc, rfl, ha7, hb7⟩; have H7 := Lib.hid (And.intro ha7 hb7); clear ha7 hb7)
      have hgn : gn = 0 := H7.out.1.len
      subst hgn
      have q1 := cellA ((H7.out.2.cell (World.block_lt_of_cell? _ _ g1')).trans g1') (.cells #[.string ⟨#[]⟩, .slice ga 0 gc] 64)
      have q2 := cellA ((H7.out.2.cell (World.block_lt_of_cell? _ _ g2')).trans g2') (.cells #[.string ⟨#[]⟩, .slice ga 0 gc] 64)
      have q3 := cellA_new w7 #[.string ⟨#[]⟩, .slice ga 0 gc] 64 1
      have hb8 : Below w3.heap.size w3 (w7.alloc (.cells #[.string ⟨#[]⟩, .slice ga 0 gc] 64)) := (HB6.out.trans (H7.out.2.mono HB6.out.size)).alloc (HB6.out.trans (H7.out.2.mono HB6.out.size)).size _
      generalize w7.alloc (.cells #[.string ⟨#[]⟩, .slice ga 0 gc] 64) = w8 at q1 q2 q3 hb8 ⊢
      have q3' : w8.cell? ⟨w7.heap.size, 1, none⟩ = some (.slice ga 0 gc) := q3
      have HB8 := Lib.hid hb8
      clear q3 hb8 g1' g2' k1' k2' k3'
      generalize w7.heap.size = b7 at q3' ⊢
      go_wp2_with fail
      go_ret
      exact ⟨rfl, H1.out.2.2.2.2.2.2.trans ((H3.out.2.trans (HB8.out.mono H3.out.2.size)).mono H1.out.2.2.2.2.2.2.size)⟩
  · obtain ⟨code, pl, hc0, hnew2⟩ : ∃ (code pl : Int), code ≠ 0 ∧ Calls Tryz.prog 24 #[.agg #[.slice ta tn tc, .slice ca cn cc]] w1 fun e w' => e = .returned (.tuple #[.pointer none, .int .i64 code, .int .i64 pl]) ∧ Below w1.heap.size w1 w' := by
      by_cases h0 : (newE S).1 = 0
      · exact ⟨1, 0, by decide, hnew.mono fun e w' ⟨h1, h2⟩ => by
          rcases h2 with ⟨h3, _⟩ | ⟨h3, _⟩
          · exact absurd h3 hok
          · exact absurd h0 h3⟩
      · exact ⟨(newE S).1, ((newE S).2 : Nat), h0, hnew.mono fun e w' ⟨h1, h2⟩ => by
          rcases h2 with ⟨h3, _⟩ | ⟨h3, h4⟩
          · exact absurd h3 hok
          · exact ⟨h4, HB.out.trans (h1.mono HB.out.size)⟩⟩
    have HNEW := Lib.hid hnew2
    have i1 : (code != 0) = true := by simpa using hc0
    clear hnew hnew2 hok hc0
    go_wp2_with (first
      | (go_at_call 24; with_reducible refine HNEW.out.mono ?_; rintro e w3 ⟨rfl, hb3⟩; have H3 := Lib.hid hb3; clear hb3)
      | fail)
    go_ret
    exact ⟨rfl, H1.out.2.2.2.2.2.2.trans (H3.out.mono H1.out.2.2.2.2.2.2.size)⟩
end Go.Proofs.YtifgmnafjihlkaaGreatDoor
