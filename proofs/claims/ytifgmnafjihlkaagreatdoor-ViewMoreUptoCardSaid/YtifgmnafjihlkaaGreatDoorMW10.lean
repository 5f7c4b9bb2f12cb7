/- Part 10 of the walks and plain laws, joined: Beyo, MoreV, Read, Fail. -/
import Derived.Test.YtifgmnafjihlkaaGreatDoorMW09
import Derived.Test.YtifgmnafjihlkaaGreatDoorMW08
import Derived.Test.YtifgmnafjihlkaaGreatDoorShelf
import Derived.BigQuiet
/- rosterlaw23.beyond: some answer. -/
namespace Go.Proofs.YtifgmnafjihlkaaGreatDoor
open Go Go.RowKit

set_option maxRecDepth 20000 in
set_option maxHeartbeats 8000000 in
theorem beyond_some (S : PSchema) (B : Nat) (ta : Option Addr) (tn tc : Nat) (ca : Option Addr) (cn cc : Nat) (id : Int) (a : Option Addr) (n c : Nat) (nm : PName) (aa : Option Addr) (an ac : Nat) (al : List PAttr) (wa : Option Addr) (wn wc : Nat) (wl : List ByteArray) (w : World)
    (hT : Types B w ta tn tc S.types) (hC : Classes B w ca cn cc S.classes) (hB : B ≤ w.heap.size) (hn : tn ≤ 4294967280 ∧ cn ≤ 4294967280) (hR : Rdns B w a n c nm) (hA : AttrsM B w aa an ac al) (hW : Texts B w wa wn wc wl) :
    Calls Tryz.prog 36 #[.agg #[.slice ta tn tc, .slice ca cn cc], .agg #[.int .u64 id, .slice a n c, .slice aa an ac], .slice wa wn wc] w fun e w' => SomeB e ∧ Below w.heap.size w w' := by
  have hb1 : Below w.heap.size w ((w.alloc (.cells #[.slice ta tn tc, .slice ca cn cc] 38)).alloc (.cells #[.int .u64 id, .slice a n c, .slice aa an ac] 62)) := ((Below.refl _ _).alloc (Nat.le_refl _) _).alloc (by simp) _
  have hc0 : ∀ j, ((w.alloc (.cells #[.slice ta tn tc, .slice ca cn cc] 38)).alloc (.cells #[.int .u64 id, .slice a n c, .slice aa an ac] 62)).cell? ⟨w.heap.size + 1, j, none⟩ = (#[.int .u64 id, .slice a n c, .slice aa an ac] : Array Value)[j]? := fun j => by
    have := World.cell?_alloc_new (w.alloc (.cells #[.slice ta tn tc, .slice ca cn cc] 38)) #[.int .u64 id, .slice a n c, .slice aa an ac] 62 j
    rw [World.size_alloc] at this
    exact this
  have hc1 : ∀ j v, (#[.slice ta tn tc, .slice ca cn cc] : Array Value)[j]? = some v → ((w.alloc (.cells #[.slice ta tn tc, .slice ca cn cc] 38)).alloc (.cells #[.int .u64 id, .slice a n c, .slice aa an ac] 62)).cell? ⟨w.heap.size, j, none⟩ = some v := fun j v hv => by
    rw [((Below.refl (w.alloc (.cells #[.slice ta tn tc, .slice ca cn cc] 38)).heap.size (w.alloc (.cells #[.slice ta tn tc, .slice ca cn cc] 38))).alloc (Nat.le_refl _) (.cells #[.int .u64 id, .slice a n c, .slice aa an ac] 62)).cell (p := ⟨w.heap.size, j, none⟩) (by simp), World.cell?_alloc_new]
    exact hv
  have hlen := hA.len
  have hlenr := hR.len
  have hlenw := hW.len
  have hsa := hA.small
  have hsr := hR.small
  have hsw := hW.small
  have hT1 := hT.keep (hb1.mono hB) (Nat.le_refl _)
  have hC1 := hC.keep (hb1.mono hB) (Nat.le_refl _)
  have hA1 := hA.keep (hb1.mono hB) (Nat.le_refl _)
  have hR1 := hR.keep (hb1.mono hB) (Nat.le_refl _)
  have hW1 := hW.keep (hb1.mono hB) (Nat.le_refl _)
  have hB1 := Nat.le_trans hB hb1.size
  have H1 := Lib.hid (And.intro hT1 (And.intro hC1 (And.intro hA1 (And.intro hR1 (And.intro hW1 (And.intro hb1 hB1))))))
  have HL := Lib.hid (And.intro hlen (And.intro hlenr hlenw))
  have q1 := hc0 1
  have q2 := hc0 2
  have q3 := hc1 0 _ rfl
  have q4 := hc1 1 _ rfl
  have HN := Lib.hid hn
  clear hc0 hc1 hT1 hC1 hb1 hT hC hlen hlenr hlenw hB hB1 hA hR hW hA1 hR1 hW1 hn
  go_enter Tryz.func36, Tryz.ntmps36
  go_upto_region 1 with fail
  generalize (w.alloc (.cells #[.slice ta tn tc, .slice ca cn cc] 38)).alloc (.cells #[.int .u64 id, .slice a n c, .slice aa an ac] 62) = w1 at H1 q1 q2 q3 q4 ⊢
  obtain ⟨sb, hsb⟩ : ∃ sb, sb = w.heap.size := ⟨_, rfl⟩
  obtain ⟨rb, hrb⟩ : ∃ rb, rb = w.heap.size + 1 := ⟨_, rfl⟩
  rw [← hrb] at q1 q2 ⊢
  rw [← hsb] at q3 q4 ⊢
  clear hsb hrb
  have q1' : w1.cell? ⟨rb, 1, none⟩ = some (.slice a n c) := q1
  have q2' : w1.cell? ⟨rb, 2, none⟩ = some (.slice aa an ac) := q2
  have hc0 : ∀ wr, Below w1.heap.size w1 wr → wr.cell? ⟨rb, 1, none⟩ = some (.slice a n c) ∧ wr.cell? ⟨rb, 2, none⟩ = some (.slice aa an ac) ∧ wr.cell? ⟨sb, 0, none⟩ = some (.slice ta tn tc) ∧ wr.cell? ⟨sb, 1, none⟩ = some (.slice ca cn cc) := fun wr hb =>
    ⟨(hb.cell (World.block_lt_of_cell? _ _ q1')).trans q1', (hb.cell (World.block_lt_of_cell? _ _ q2')).trans q2', (hb.cell (World.block_lt_of_cell? _ _ q3)).trans q3, (hb.cell (World.block_lt_of_cell? _ _ q4)).trans q4⟩
  have HC0 := Lib.hid hc0
  clear hc0 q1 q2 q3 q4 q1'
  go_wp2_with fail
  clear q2'
  go_loopw [18, 7] (fun iv nv wr => ∃ (i : Nat) (x : Int), iv = .int .i64 (i : Nat) ∧ nv = .int .i64 x ∧ i ≤ an ∧ Below w1.heap.size w1 wr) (fun iv _ _ => an - (intOf iv).toNat)
  case atStart => exact ⟨0, 0, rfl, rfl, Nat.zero_le _, Below.refl _ _⟩
  case round =>
    obtain ⟨i, x, rfl, rfl, hin, hbl⟩ := hrel
    obtain ⟨k0, k1, k2, k3⟩ := HC0.out _ hbl
    have HBL := Lib.hid hbl; clear hbl
    by_cases hi : i < an
    · have i2 : (i : Int) < (an : Int) := by omega
      have i3 : (0 : Int) ≤ (i : Int) := by omega
      obtain ⟨b, o, rfl, hb⟩ := H1.out.2.2.1.lies.ptr (by omega)
      obtain ⟨t, ht⟩ : ∃ t, al[i]? = some t := ⟨_, List.getElem?_eq_getElem (by have := HL.out; omega)⟩
      obtain ⟨e0', va, vn, vc, e1', hV⟩ := H1.out.2.2.1.cell b o rfl i t ht
      have e0 := (HBL.out.cell (World.block_lt_of_cell? _ _ e0')).trans e0'
      have e1 := (HBL.out.cell (World.block_lt_of_cell? _ _ e1')).trans e1'
      have hba : Below wr.heap.size wr (wr.alloc (.cells #[.string t.1, .slice va vn vc] 80)) := (Below.refl wr.heap.size wr).alloc (Nat.le_refl _) _
      have f1 : (wr.alloc (.cells #[.string t.1, .slice va vn vc] 80)).cell? ⟨wr.heap.size, 1, none⟩ = some (.slice va vn vc) := by rw [World.cell?_alloc_new]; rfl
      have hvs := hV.small
      have HVL := Lib.hid hV.len
      have HV := Lib.hid (hV.keep (HBL.out.mono H1.out.2.2.2.2.2.2) (Nat.le_refl _))
      have f0 : (wr.alloc (.cells #[.string t.1, .slice va vn vc] 80)).cell? ⟨wr.heap.size, 0, none⟩ = some (.string t.1) := by rw [World.cell?_alloc_new]; rfl
      have HBA := Lib.hid hba
      clear ht e0' e1' hV hba
      go_upto_region 6 with fail
      obtain ⟨cb, hcb⟩ : ∃ cb, cb = wr.heap.size := ⟨_, rfl⟩
      obtain ⟨wo, hwo⟩ : ∃ wo, wo = wr.alloc (.cells #[.string t.1, .slice va vn vc] 80) := ⟨_, rfl⟩
      rw [← hwo] at f0 f1 HBA ⊢
      rw [← hcb] at f0 f1 ⊢
      have HBO := Lib.hid (HBL.out.trans (HBA.out.mono HBL.out.size))
      have HVO := Lib.hid (HV.out.keep (HBA.out.mono (Nat.le_trans H1.out.2.2.2.2.2.2 HBL.out.size)) (Nat.le_refl _))
      clear hwo hcb e0 e1 k0 k1 k2 k3 HBL HBA HV
      go_wp2_with fail
      go_loopw [36, 7] (fun iv nv wx => ∃ (k : Nat) (x : Int), iv = .int .i64 (k : Nat) ∧ nv = .int .i64 x ∧ k ≤ vn ∧ Below wo.heap.size wo wx) (fun iv _ _ => vn - (intOf iv).toNat)
      case atStart => exact ⟨0, _, rfl, rfl, Nat.zero_le _, Below.refl _ _⟩
      case round =>
        obtain ⟨k, x2, rfl, rfl, hk, hb2⟩ := hrel
        by_cases hkn : k < vn
        · have j2 : (k : Int) < (vn : Int) := by omega
          have j3 : (0 : Int) ≤ (k : Int) := by omega
          obtain ⟨b', o', rfl, hb'⟩ := HVO.out.lies.ptr (by omega)
          obtain ⟨s, hs⟩ : ∃ s, t.2[k]? = some s := ⟨_, List.getElem?_eq_getElem (by have := HVL.out; omega)⟩
          have g2' := HVO.out.cell b' o' rfl k s hs
          have g1 := (hb2.cell (World.block_lt_of_cell? _ _ f1)).trans f1
          have g2 := (hb2.cell (World.block_lt_of_cell? _ _ g2')).trans g2'
          have HB2 := Lib.hid hb2
          clear hb2 g2' hs f0
          go_upto_region 11 with fail
          generalize wrap64 (x2 + wrap64 (1 + (s.size : Int))) = y
          by_cases hy : 134217728 < y
          · go_wp2_with fail
            go_ret
            exact ⟨⟨_, rfl⟩, H1.out.2.2.2.2.2.1.trans ((HBO.out.trans (HB2.out.mono HBO.out.size)).mono H1.out.2.2.2.2.2.1.size)⟩
          · go_wp2_with fail
            exact ⟨⟨k + 1, y, by simp, rfl, by omega, HB2.out⟩, by simp [intOf]; omega⟩
        · have j2 : ¬ (k : Int) < (vn : Int) := by omega
          have HB2 := Lib.hid hb2
          clear hb2 f0 f1
          go_wp2_with fail
          exact ⟨⟨i + 1, x2, by simp, rfl, by omega, HBO.out.trans (HB2.out.mono HBO.out.size)⟩, by simp [intOf]; omega⟩
    · have i2 : ¬ (i : Int) < (an : Int) := by omega
      clear k3
      go_wp2_with fail
      clear k0 k1 k2
      obtain ⟨wz, rfl⟩ : ∃ wz, wz = wr := ⟨_, rfl⟩
      go_loopw [56, 7] (fun iv nv wx => ∃ (i : Nat) (x : Int), iv = .int .i64 (i : Nat) ∧ nv = .int .i64 x ∧ i ≤ n ∧ Below w1.heap.size w1 wx) (fun iv _ _ => n - (intOf iv).toNat)
      case atStart => exact ⟨0, _, rfl, rfl, Nat.zero_le _, HBL.out⟩
      case round =>
        obtain ⟨i', x', rfl, rfl, hin', hbl⟩ := hrel
        obtain ⟨k0, k1, k2, k3⟩ := HC0.out _ hbl
        clear HBL i2 hi
        have HBL := Lib.hid hbl; clear hbl
        by_cases hi : i' < n
        · have i2 : (i' : Int) < (n : Int) := by omega
          have i3 : (0 : Int) ≤ (i' : Int) := by omega
          obtain ⟨b, o, rfl, hb⟩ := H1.out.2.2.2.1.lies.ptr (by omega)
          obtain ⟨t, ht⟩ : ∃ t, nm[i']? = some t := ⟨_, List.getElem?_eq_getElem (by have := HL.out; omega)⟩
          obtain ⟨va, vn, vc, e0', hV⟩ := H1.out.2.2.2.1.cell b o rfl i' t ht
          have e0 := (HBL.out.cell (World.block_lt_of_cell? _ _ e0')).trans e0'
          have hvs := hV.small
          have HVL := Lib.hid hV.len
          have HV := Lib.hid (hV.keep (HBL.out.mono H1.out.2.2.2.2.2.2) (Nat.le_refl _))
          clear ht e0' hV k2 k3
          go_wp2_with fail
          obtain ⟨wo, rfl⟩ : ∃ wo, wo = wr := ⟨_, rfl⟩
          go_loopw [67, 7] (fun iv nv wx => ∃ (k : Nat) (x : Int), iv = .int .i64 (k : Nat) ∧ nv = .int .i64 x ∧ k ≤ vn ∧ Below wo.heap.size wo wx) (fun iv _ _ => vn - (intOf iv).toNat)
          case atStart => exact ⟨0, _, rfl, rfl, Nat.zero_le _, Below.refl _ _⟩
          case round =>
            obtain ⟨k, x2, rfl, rfl, hk, hb2⟩ := hrel
            by_cases hkn : k < vn
            · have j2 : (k : Int) < (vn : Int) := by omega
              have j3 : (0 : Int) ≤ (k : Int) := by omega
              obtain ⟨b', o', rfl, hb'⟩ := HV.out.lies.ptr (by omega)
              obtain ⟨s, hs⟩ : ∃ s, t[k]? = some s := ⟨_, List.getElem?_eq_getElem (by have := HVL.out; omega)⟩
              obtain ⟨g2', g3'⟩ := HV.out.cell b' o' rfl k s hs
              have g0 := (hb2.cell (World.block_lt_of_cell? _ _ k0)).trans k0
              have g1 := (hb2.cell (World.block_lt_of_cell? _ _ e0)).trans e0
              have g2 := (hb2.cell (World.block_lt_of_cell? _ _ g2')).trans g2'
              have g3 := (hb2.cell (World.block_lt_of_cell? _ _ g3')).trans g3'
              have HB2 := Lib.hid hb2
              clear hb2 g2' g3' hs k0 k1 e0
              go_wp2_with fail
              go_quiet (fail)
              go_upto_region 22 with fail
              generalize wrap64 (x2 + wrap64 (wrap64 (2 + (s.1.size : Int)) + (s.2.size : Int))) = y
              have HBQ := Lib.hid (bdrewN HB2.out nq)
              generalize wr.drewN nq = wq at HBQ ⊢
              by_cases hy : 134217728 < y
              · go_wp2_with fail
                go_ret
                exact ⟨⟨_, rfl⟩, H1.out.2.2.2.2.2.1.trans ((HBL.out.trans (HBQ.out.mono HBL.out.size)).mono H1.out.2.2.2.2.2.1.size)⟩
              · go_wp2_with fail
                exact ⟨⟨k + 1, y, by simp, rfl, by omega, HBQ.out⟩, by simp [intOf]; omega⟩
            · have j2 : ¬ (k : Int) < (vn : Int) := by omega
              have HB2 := Lib.hid hb2
              clear hb2 k0 k1 e0
              go_wp2_with fail
              exact ⟨⟨i' + 1, x2, by simp, rfl, by omega, HBL.out.trans (HB2.out.mono HBL.out.size)⟩, by simp [intOf]; omega⟩
        · have i2 : ¬ (i' : Int) < (n : Int) := by omega
          clear k2 k3 k0 k1
          go_wp2_with fail
          obtain ⟨wz, rfl⟩ : ∃ wz, wz = wr := ⟨_, rfl⟩
          go_loopw [104, 7] (fun iv nv wx => ∃ (i : Nat) (x : Int), iv = .int .i64 (i : Nat) ∧ nv = .int .i64 x ∧ i ≤ wn ∧ Below w1.heap.size w1 wx) (fun iv _ _ => wn - (intOf iv).toNat)
          case atStart => exact ⟨0, _, rfl, rfl, Nat.zero_le _, HBL.out⟩
          case round =>
            obtain ⟨j, y, rfl, rfl, hj, hbl⟩ := hrel
            clear HBL i2 hi
            by_cases hjn : j < wn
            · have j2 : (j : Int) < (wn : Int) := by omega
              have j3 : (0 : Int) ≤ (j : Int) := by omega
              obtain ⟨b', o', rfl, hb'⟩ := H1.out.2.2.2.2.1.lies.ptr (by omega)
              obtain ⟨s, hs⟩ : ∃ s, wl[j]? = some s := ⟨_, List.getElem?_eq_getElem (by have := HL.out; omega)⟩
              have g2' := H1.out.2.2.2.2.1.cell b' o' rfl j s hs
              have g2 := (hbl.cell (World.block_lt_of_cell? _ _ g2')).trans g2'
              have HBL := Lib.hid hbl
              clear hbl g2' hs
              go_upto_region 30 with fail
              generalize wrap64 (y + wrap64 (1 + (s.size : Int))) = z
              by_cases hz : 134217728 < z
              · go_wp2_with fail
                go_ret
                exact ⟨⟨_, rfl⟩, H1.out.2.2.2.2.2.1.trans (HBL.out.mono H1.out.2.2.2.2.2.1.size)⟩
              · go_wp2_with fail
                exact ⟨⟨j + 1, z, by simp, rfl, by omega, HBL.out⟩, by simp [intOf]; omega⟩
            · have j2 : ¬ (j : Int) < (wn : Int) := by omega
              obtain ⟨k0, k1, k2, k3⟩ := HC0.out _ hbl
              have HBL := Lib.hid hbl
              clear hbl k0 k1
              by_cases hz : 134217728 < y
              · go_wp2_with fail
                go_ret
                exact ⟨⟨_, rfl⟩, H1.out.2.2.2.2.2.1.trans (HBL.out.mono H1.out.2.2.2.2.2.1.size)⟩
              · have hlg := large_some S B ta tn tc ca cn cc wr (H1.out.1.keep (HBL.out.mono H1.out.2.2.2.2.2.2) (Nat.le_refl _)) (H1.out.2.1.keep (HBL.out.mono H1.out.2.2.2.2.2.2) (Nat.le_refl _)) (Nat.le_trans H1.out.2.2.2.2.2.2 HBL.out.size) HN.out
                have HLG := Lib.hid hlg; clear hlg
                go_wp2_with (go_at_call 86; go_loud (with_reducible refine HLG.out.mono ?_); rintro e w9 ⟨⟨bb, rfl⟩, hb9⟩; have HB9 := Lib.hid hb9; clear hb9)
                go_ret
                exact ⟨⟨_, rfl⟩, H1.out.2.2.2.2.2.1.trans ((HBL.out.trans (HB9.out.mono HBL.out.size)).mono H1.out.2.2.2.2.2.1.size)⟩
end Go.Proofs.YtifgmnafjihlkaaGreatDoor
/- What ViewMore asks, plainly. No walk. -/
namespace Go.Proofs.YtifgmnafjihlkaaGreatDoor
open Go

theorem found_at (S : PSchema) (wanted : List Str) (only : Bool) {l : List PAttr} {i : Nat} {x : PAttr} (h : l[i]? = some x) (hw : wantsV S wanted (toL x.1) = true) :
    (foundV S wanted only l)[(foundV S wanted only (l.take i)).length]? = some (x.1, if only then [] else x.2) := by
  have h1 : foundV S wanted only l = foundV S wanted only (l.take (i + 1)) ++ foundV S wanted only (l.drop (i + 1)) := by
    unfold foundV; rw [← List.map_append, ← List.filter_append, List.take_append_drop]
  rw [h1, foundV_snoc S wanted only h, if_pos hw]
  simp
theorem found_no (S : PSchema) (wanted : List Str) (only : Bool) {l : List PAttr} {i : Nat} {x : PAttr} (h : l[i]? = some x) (hw : wantsV S wanted (toL x.1) = false) :
    (foundV S wanted only (l.take (i + 1))).length = (foundV S wanted only (l.take i)).length := by
  rw [foundV_snoc S wanted only h, hw]; simp
theorem found_yes (S : PSchema) (wanted : List Str) (only : Bool) {l : List PAttr} {i : Nat} {x : PAttr} (h : l[i]? = some x) (hw : wantsV S wanted (toL x.1) = true) :
    (foundV S wanted only (l.take (i + 1))).length = (foundV S wanted only (l.take i)).length + 1 := by
  rw [foundV_snoc S wanted only h, hw]; simp
theorem found_same (S : PSchema) (wanted : List Str) (a b : Bool) (l : List PAttr) : (foundV S wanted a l).length = (foundV S wanted b l).length := by
  unfold foundV; simp
def allV (wl : List Str) : Bool := wl.isEmpty || decide ([42] ∈ wl)
def covK (S : PSchema) (wl : List Str) (d : Str) (k : Nat) : Bool := allV wl || (wl.take k).any fun x => coversV S x d
theorem covK_snoc (S : PSchema) {wl : List Str} (d : Str) {k : Nat} {x : Str} (h : wl[k]? = some x) : covK S wl d (k + 1) = (covK S wl d k || coversV S x d) := by
  unfold covK
  rw [List.take_add_one, h, List.any_append]
  simp [Bool.or_assoc]
theorem covK_all (S : PSchema) (wl : List Str) (d : Str) {k : Nat} (h : wl.length ≤ k) : covK S wl d k = wantsV S wl d := by
  unfold covK wantsV allV
  rw [List.take_of_length_le h, Bool.or_assoc]
  congr 1
  induction wl with
  | nil => rfl
  | cons y t ih =>
    have ih := ih (by simp at h; omega)
    simp only [List.any_cons, List.mem_cons]
    rw [← Bool.or_assoc, ← ih]
    by_cases e : y = [42]
    · subst e; simp
    · have e2 : ¬ [42] = y := fun h => e h.symm
      have e3 : (y == [42]) = false := by simpa using e
      rw [e3]
      simp only [e2, false_or, Bool.false_or]
      cases coversV S y d <;> cases decide ([42] ∈ t) <;> simp
theorem wants_more (S : PSchema) (ml wl : List Str) (d : Str) (h0 : wl ≠ []) (h : wantsV S wl d = true) : wantsV S (ml ++ wl ++ wl) d = true := by
  unfold wantsV at h ⊢
  have e1 : wl.isEmpty = false := by cases wl with | nil => exact absurd rfl h0 | cons => rfl
  rw [e1, Bool.false_or] at h
  rw [List.any_append, h]
  simp
end Go.Proofs.YtifgmnafjihlkaaGreatDoor
/- name's reader: letters, skip, fail, stuck. -/
namespace Go.Proofs.YtifgmnafjihlkaaGreatDoor
open Go Go.RowKit

/-- a call of a function value in a region that only reads -/
theorem quiet_callv {P : Program} {C : World → Prop} {o : Oper} {a : Act} {K : Act → Prop} (f : FuncId) (vs : Array Value) (hr : ∀ w, (execOp a.eval o).run P w = .ok (.enter f vs) w) (v : Value) (hc : ∀ w, C w → Calls P f vs w fun e w' => e = .returned v ∧ C w') (hk : K (a.put o.dst v)) : o.quiet P a C K := by
  refine ⟨v, fun w hw => ?_, hk⟩
  unfold Oper.quietAt
  rw [hr]
  exact ⟨rfl, hc w hw⟩

structure Rd (w : World) (g : Nat) (s : ByteArray) (p : Nat) (bad : Option Addr) : Prop where
  c0 : w.cell? ⟨g, 0, none⟩ = some (.string s)
  c1 : w.cell? ⟨g, 1, none⟩ = some (.int .i64 (p : Nat))
  c2 : w.cell? ⟨g, 2, none⟩ = some (.pointer bad)
  fr : ∀ j, w.frozen? ⟨g, j, none⟩ = false
  le : p ≤ s.size
  small : s.size ≤ 1099511627776
theorem Rd.lt {w : World} {g : Nat} {s : ByteArray} {p : Nat} {bad : Option Addr} (h : Rd w g s p bad) : g < w.heap.size := World.block_lt_of_cell? w _ h.c0
theorem Rd.drewN {w : World} {g : Nat} {s : ByteArray} {p : Nat} {bad : Option Addr} (h : Rd w g s p bad) (q : Nat) : Rd (w.drewN q) g s p bad := ⟨h.c0, h.c1, h.c2, h.fr, h.le, h.small⟩
theorem Rd.keep {w w' : World} {g : Nat} {s : ByteArray} {p : Nat} {bad : Option Addr} (h : Rd w g s p bad) (k : Below w.heap.size w w') : Rd w' g s p bad :=
  ⟨by rw [k.cell h.lt]; exact h.c0, by rw [k.cell h.lt]; exact h.c1, by rw [k.cell h.lt]; exact h.c2, fun j => by rw [k.frozen (p := ⟨g, j, none⟩) h.lt]; exact h.fr j, h.le, h.small⟩
theorem Rd.put {w : World} {g : Nat} {s : ByteArray} {p : Nat} {bad : Option Addr} (h : Rd w g s p bad) {q : Nat} (hq : q ≤ s.size) : Rd (w.setCell ⟨g, 1, none⟩ (.int .i64 (q : Nat))) g s q bad :=
  ⟨by rw [World.cell?_setCell_other _ _ _ _ (fun e => by cases e)]; exact h.c0, by rw [World.cell?_setCell_same _ _ _ h.c1], by rw [World.cell?_setCell_other _ _ _ _ (fun e => by cases e)]; exact h.c2, fun j => by rw [World.frozen?_setCell]; exact h.fr j, hq, h.small⟩

def rdAt (g : Nat) (w : World) : Nat := match w.cell? ⟨g, 1, none⟩ with
  | some (.int _ x) => x.toNat
  | _ => 0
theorem rdAt_of {w : World} {g p : Nat} (h : w.cell? ⟨g, 1, none⟩ = some (.int .i64 (p : Nat))) : rdAt g w = p := by unfold rdAt; rw [h]; simp
/-! ### letters -/
theorem nletter_any (b : UInt8) (w : World) : Calls Tryz.prog 156 #[.int .u8 (b.toNat : Int)] w fun e w' => e = .returned (.bool (isLet b)) ∧ w' = w := by
  have hl : isLet b = (decide (97 ≤ b.toNat ∧ b.toNat ≤ 122) || decide (65 ≤ b.toNat ∧ b.toNat ≤ 90)) := rfl
  rw [hl]
  generalize b.toNat = n
  rcases (by omega : n < 65 ∨ (65 ≤ n ∧ n ≤ 90) ∨ (90 < n ∧ n < 97) ∨ (97 ≤ n ∧ n ≤ 122) ∨ 122 < n) with h | ⟨h, h2⟩ | ⟨h, h2⟩ | ⟨h, h2⟩ | h
  · have e1 : (decide (97 ≤ n ∧ n ≤ 122) || decide (65 ≤ n ∧ n ≤ 90)) = false := by simp; omega
    rw [e1]
    have i1 : ¬ (97 : Int) ≤ n := by omega
    have i2 : ¬ (65 : Int) ≤ n := by omega
    clear e1 h
    go_enter Tryz.func156, Tryz.ntmps156
    go_wp2_with fail
    go_ret
    exact ⟨rfl, rfl⟩
  · have e1 : (decide (97 ≤ n ∧ n ≤ 122) || decide (65 ≤ n ∧ n ≤ 90)) = true := by simp; omega
    rw [e1]
    have i1 : ¬ (97 : Int) ≤ n := by omega
    have i2 : (65 : Int) ≤ n := by omega
    have i3 : (n : Int) ≤ 90 := by omega
    clear e1 h h2
    go_enter Tryz.func156, Tryz.ntmps156
    go_wp2_with fail
    go_ret
    exact ⟨rfl, rfl⟩
  · have e1 : (decide (97 ≤ n ∧ n ≤ 122) || decide (65 ≤ n ∧ n ≤ 90)) = false := by simp; omega
    rw [e1]
    have i1 : ¬ (97 : Int) ≤ n := by omega
    have i2 : (65 : Int) ≤ n := by omega
    have i3 : ¬ (n : Int) ≤ 90 := by omega
    clear e1 h h2
    go_enter Tryz.func156, Tryz.ntmps156
    go_wp2_with fail
    go_ret
    exact ⟨rfl, rfl⟩
  · have e1 : (decide (97 ≤ n ∧ n ≤ 122) || decide (65 ≤ n ∧ n ≤ 90)) = true := by simp; omega
    rw [e1]
    have i1 : (97 : Int) ≤ n := by omega
    have i2 : (n : Int) ≤ 122 := by omega
    clear e1 h h2
    go_enter Tryz.func156, Tryz.ntmps156
    go_wp2_with fail
    go_ret
    exact ⟨rfl, rfl⟩
  · have e1 : (decide (97 ≤ n ∧ n ≤ 122) || decide (65 ≤ n ∧ n ≤ 90)) = false := by simp; omega
    rw [e1]
    have i1 : (97 : Int) ≤ n := by omega
    have i2 : ¬ (n : Int) ≤ 122 := by omega
    have i3 : (65 : Int) ≤ n := by omega
    have i4 : ¬ (n : Int) ≤ 90 := by omega
    clear e1 h
    go_enter Tryz.func156, Tryz.ntmps156
    go_wp2_with fail
    go_ret
    exact ⟨rfl, rfl⟩
theorem ndigit_any (b : UInt8) (w : World) : Calls Tryz.prog 159 #[.int .u8 (b.toNat : Int)] w fun e w' => e = .returned (.bool (dig b)) ∧ w' = w := by
  have hl : dig b = decide (48 ≤ b.toNat ∧ b.toNat ≤ 57) := rfl
  rw [hl]
  generalize b.toNat = n
  rcases (by omega : n < 48 ∨ (48 ≤ n ∧ n ≤ 57) ∨ 57 < n) with h | ⟨h, h2⟩ | h
  · have e1 : decide (48 ≤ n ∧ n ≤ 57) = false := by simp; omega
    rw [e1]
    have i1 : ¬ (48 : Int) ≤ n := by omega
    clear e1 h
    go_enter Tryz.func159, Tryz.ntmps159
    go_wp2_with fail
    go_ret
    exact ⟨rfl, rfl⟩
  · have e1 : decide (48 ≤ n ∧ n ≤ 57) = true := by simp; omega
    rw [e1]
    have i1 : (48 : Int) ≤ n := by omega
    have i3 : (n : Int) ≤ 57 := by omega
    clear e1 h h2
    go_enter Tryz.func159, Tryz.ntmps159
    go_wp2_with fail
    go_ret
    exact ⟨rfl, rfl⟩
  · have e1 : decide (48 ≤ n ∧ n ≤ 57) = false := by simp; omega
    rw [e1]
    have i1 : (48 : Int) ≤ n := by omega
    have i3 : ¬ (n : Int) ≤ 57 := by omega
    clear e1 h
    go_enter Tryz.func159, Tryz.ntmps159
    go_wp2_with fail
    go_ret
    exact ⟨rfl, rfl⟩
set_option maxRecDepth 20000 in
theorem nkind1_any (b : UInt8) (w : World) : Calls Tryz.prog 158 #[.int .u8 (b.toNat : Int)] w fun e w' => e = .returned (.bool (tailC b)) ∧ w' = w := by
  have hl := fun w => nletter_any b w
  have hd := fun w => ndigit_any b w
  have ht : tailC b = (isLet b || dig b || b == 45) := rfl
  rw [ht]
  have h45 : (b == 45) = decide ((b.toNat : Int) = 45) := by
    by_cases e : b = 45
    · subst e; rfl
    · have h1 : (b == 45) = false := by simpa using e
      rw [h1]
      symm
      exact decide_eq_false fun h => e (UInt8.toNat_inj.1 (by show b.toNat = 45; omega))
  rw [h45]
  clear h45 ht
  generalize isLet b = x at hl
  generalize dig b = y at hd
  have HL := Lib.hid hl; have HD := Lib.hid hd; clear hl hd
  by_cases h : (b.toNat : Int) = 45
  · have hb : ((b.toNat : Int) == 45) = true := by simpa using h
    rw [decide_eq_true h]
    clear h
    cases x <;> cases y <;> (
      go_enter Tryz.func158, Tryz.ntmps158
      go_wp2_with (first
        | (go_at_call 156; (with_reducible refine (HL.out _).mono ?_); rintro e w1 ⟨rfl, rfl⟩)
        | (go_at_call 159; (with_reducible refine (HD.out _).mono ?_); rintro e w1 ⟨rfl, rfl⟩)
        | fail)
      go_ret
      exact ⟨rfl, rfl⟩)
  · have hb : ((b.toNat : Int) == 45) = false := by simpa using h
    rw [decide_eq_false h]
    clear h
    cases x <;> cases y <;> (
      go_enter Tryz.func158, Tryz.ntmps158
      go_wp2_with (first
        | (go_at_call 156; (with_reducible refine (HL.out _).mono ?_); rintro e w1 ⟨rfl, rfl⟩)
        | (go_at_call 159; (with_reducible refine (HD.out _).mono ?_); rintro e w1 ⟨rfl, rfl⟩)
        | fail)
      go_ret
      exact ⟨rfl, rfl⟩)

/-! ### how far a run goes -/
def twEnd (P : UInt8 → Bool) (l : Str) (p : Nat) : Nat := p + ((l.drop p).takeWhile P).length
theorem tw_in {P : UInt8 → Bool} {s : ByteArray} {p q : Nat} (h1 : p ≤ q) (h2 : q < twEnd P (toL s) p) : ∃ h : q < s.size, P s[q] = true := by
  unfold twEnd at h2
  have h3 : q - p < (((toL s).drop p).takeWhile P).length := by omega
  have hp := List.takeWhile_prefix P (l := (toL s).drop p)
  have hl := hp.length_le
  have hq : q < s.size := by have := Lib.size_eq s; simp only [List.length_drop] at hl; unfold toL at hl h3; omega
  refine ⟨hq, ?_⟩
  have h4 : (((toL s).drop p).takeWhile P)[q - p] ∈ ((toL s).drop p).takeWhile P := List.getElem_mem h3
  have h5 := List.all_eq_true.1 (tw_all P ((toL s).drop p)) _ h4
  have h6 : (((toL s).drop p).takeWhile P)[q - p]? = ((toL s).drop p)[q - p]? := by
    obtain ⟨t, ht⟩ := hp
    conv => rhs; rw [← ht]
    rw [List.getElem?_append_left h3]
  rw [List.getElem?_eq_getElem h3, List.getElem?_drop, show p + (q - p) = q by omega] at h6
  have h7 : (toL s)[q]? = some s[q] := by
    unfold toL
    have := drop_at s hq
    have h8 := congrArg (·[0]?) this
    simpa using h8
  rw [h7] at h6
  rw [Option.some.inj h6] at h5
  exact h5
where
  tw_all (p : UInt8 → Bool) (l : Str) : (l.takeWhile p).all p = true := by
    induction l with
    | nil => rfl
    | cons a l ih =>
      rw [List.takeWhile_cons]
      split
      · rename_i h; simp [h]
      · rfl
theorem tw_out {P : UInt8 → Bool} {s : ByteArray} {p : Nat} (hp : p ≤ s.size) : twEnd P (toL s) p ≤ s.size ∧ ∀ h : twEnd P (toL s) p < s.size, P (s[twEnd P (toL s) p]'h) = false := by
  have hpre := List.takeWhile_prefix P (l := (toL s).drop p)
  have hl := hpre.length_le
  have hz := Lib.size_eq s
  have hle : twEnd P (toL s) p ≤ s.size := by unfold twEnd; simp only [List.length_drop] at hl; unfold toL at hl ⊢; omega
  refine ⟨hle, fun h => ?_⟩
  have h7 : (toL s)[twEnd P (toL s) p]? = some (s[twEnd P (toL s) p]'h) := by
    unfold toL at h ⊢
    have := drop_at s h
    have h8 := congrArg (·[0]?) this
    simpa using h8
  have h9 : ((toL s).drop p)[(((toL s).drop p).takeWhile P).length]? = some (s[twEnd P (toL s) p]'h) := by
    rw [List.getElem?_drop]; exact h7
  exact tw_stop P _ h9
where
  tw_stop (P : UInt8 → Bool) (l : Str) {c : UInt8} (h : l[(l.takeWhile P).length]? = some c) : P c = false := by
    induction l with
    | nil => simp at h
    | cons a l ih =>
      rw [List.takeWhile_cons] at h
      split at h
      · simp at h; exact ih h
      · rename_i h2; simp at h; rw [← h]; simpa using h2

set_option maxRecDepth 20000 in
set_option maxHeartbeats 1000000 in
theorem skipT_any (g : Nat) (s : ByteArray) (p : Nat) (bad : Option Addr) (w : World) (h : Rd w g s p bad) :
    Calls Tryz.prog 157 #[.pointer (some ⟨g, 0, none⟩), .func (.func 158) #[] #[]] w fun e w' =>
      e = .returned (.int .i64 ((twEnd tailC (toL s) p : Nat) - (p : Nat))) ∧ Rd w' g s (twEnd tailC (toL s) p) bad ∧ Chg (· = g) w w' := by
  have hin := fun q h1 h2 => @tw_in tailC s p q h1 h2
  obtain ⟨ho1, ho2⟩ := @tw_out tailC s p h.le
  have hpe : p ≤ twEnd tailC (toL s) p := by unfold twEnd; omega
  generalize twEnd tailC (toL s) p = pe at hin ho1 ho2 hpe ⊢
  have hsm := h.small
  have c1 := h.c1
  have HR := Lib.hid h; have HIN := Lib.hid hin; have HO := Lib.hid ho2; clear h hin ho2
  go_enter Tryz.func157, Tryz.ntmps157
  go_wp2_with fail
  go_loopw [] (fun wr => ∃ q : Nat, p ≤ q ∧ q ≤ pe ∧ Rd wr g s q bad ∧ Chg (· = g) w wr) (fun wr => pe - rdAt g wr)
  case atStart => exact ⟨p, Nat.le_refl _, hpe, HR.out, Chg.refl _ _⟩
  case round =>
    obtain ⟨q, h1, h2, hrd, hch⟩ := hrel
    have e0 := hrd.c0
    have e1 := hrd.c1
    have ef := hrd.fr 1
    have HRD := Lib.hid (And.intro hrd hch); clear hrd hch
    have hat := rdAt_of e1
    have HAT := Lib.hid hat; clear hat
    by_cases hz : q < s.size
    · have d1 : decide ((q : Int) < (s.size : Int)) = true := by simp; omega
      have d2 : (q : Int) < (s.size : Int) := by omega
      have d3 : (0 : Int) ≤ (q : Int) := by omega
      by_cases hlt : q < pe
      · obtain ⟨hz2, hb⟩ := HIN.out q h1 hlt
        have hc := fun w => nkind1_any (s[q]'hz) w
        rw [hb] at hc
        have HC := Lib.hid hc; clear hc hb
        generalize hbb : (s[q]'hz) = bb at HC
        go_wp2_with fail
        refine wp_region_quiet_lit (by kernel_rfl) (by kernel_rfl) ?_
        repeat (go_big_quiet_step (fail))
        go_big_quiet_want
        refine quiet_callv 158 #[.int .u8 (bb.toNat : Int)] (fun w => by kernel_rfl) (.bool true) (fun w hw => ?_) ?_
        · obtain ⟨m, rfl⟩ := hw
          exact (HC.out _).mono fun e w' ⟨h1, h2⟩ => ⟨h1, m, h2⟩
        simp only [Act.put, List.setIfInBounds_toArray, List.set_cons_zero, List.set_cons_succ]
        go_big_quiet_on
        repeat (go_big_quiet_step (fail))
        refine wpQuiet_nil ?_
        intro _ hw'
        obtain ⟨nq, hw''⟩ := hw'
        subst hw''
        go_wp2_with fail
        have hfin := (HRD.out.1.drewN nq).put (q := q + 1) (by omega)
        rw [show (((q + 1 : Nat)) : Int) = (q : Int) + 1 by omega] at hfin
        refine ⟨⟨q + 1, by omega, by omega, hfin, (HRD.out.2.drewN nq).setCell (p := ⟨g, 1, none⟩) (fun _ => rfl) _⟩, ?_⟩
        rw [HAT.out, rdAt_of (p := q + 1) hfin.c1]
        omega
      · obtain rfl : q = pe := by omega
        have hb := HO.out hz
        have hc := fun w => nkind1_any (s[q]'hz) w
        rw [hb] at hc
        have HC := Lib.hid hc; clear hc hb
        generalize hbb : (s[q]'hz) = bb at HC
        go_wp2_with fail
        refine wp_region_quiet_lit (by kernel_rfl) (by kernel_rfl) ?_
        repeat (go_big_quiet_step (fail))
        go_big_quiet_want
        refine quiet_callv 158 #[.int .u8 (bb.toNat : Int)] (fun w => by kernel_rfl) (.bool false) (fun w hw => ?_) ?_
        · obtain ⟨m, rfl⟩ := hw
          exact (HC.out _).mono fun e w' ⟨h1, h2⟩ => ⟨h1, m, h2⟩
        simp only [Act.put, List.setIfInBounds_toArray, List.set_cons_zero, List.set_cons_succ]
        go_big_quiet_on
        repeat (go_big_quiet_step (fail))
        refine wpQuiet_nil ?_
        intro _ hw'
        obtain ⟨nq, hw''⟩ := hw'
        subst hw''
        go_wp2_with fail
        go_ret
        exact ⟨rfl, HRD.out.1.drewN _, HRD.out.2.drewN _⟩
    · have hq1 := HRD.out.1.le
      obtain rfl : q = pe := by omega
      have d1 : decide ((q : Int) < (s.size : Int)) = false := by simp; omega
      go_wp2_with fail
      go_quiet (fail)
      go_wp2_with fail
      go_ret
      exact ⟨rfl, HRD.out.1.drewN _, HRD.out.2.drewN _⟩

set_option maxRecDepth 20000 in
set_option maxHeartbeats 1000000 in
theorem skipD_any (g : Nat) (s : ByteArray) (p : Nat) (bad : Option Addr) (w : World) (h : Rd w g s p bad) :
    Calls Tryz.prog 157 #[.pointer (some ⟨g, 0, none⟩), .func (.func 159) #[] #[]] w fun e w' =>
      e = .returned (.int .i64 ((twEnd dig (toL s) p : Nat) - (p : Nat))) ∧ Rd w' g s (twEnd dig (toL s) p) bad ∧ Chg (· = g) w w' := by
  have hin := fun q h1 h2 => @tw_in dig s p q h1 h2
  obtain ⟨ho1, ho2⟩ := @tw_out dig s p h.le
  have hpe : p ≤ twEnd dig (toL s) p := by unfold twEnd; omega
  generalize twEnd dig (toL s) p = pe at hin ho1 ho2 hpe ⊢
  have hsm := h.small
  have c1 := h.c1
  have HR := Lib.hid h; have HIN := Lib.hid hin; have HO := Lib.hid ho2; clear h hin ho2
  go_enter Tryz.func157, Tryz.ntmps157
  go_wp2_with fail
  go_loopw [] (fun wr => ∃ q : Nat, p ≤ q ∧ q ≤ pe ∧ Rd wr g s q bad ∧ Chg (· = g) w wr) (fun wr => pe - rdAt g wr)
  case atStart => exact ⟨p, Nat.le_refl _, hpe, HR.out, Chg.refl _ _⟩
  case round =>
    obtain ⟨q, h1, h2, hrd, hch⟩ := hrel
    have e0 := hrd.c0
    have e1 := hrd.c1
    have ef := hrd.fr 1
    have HRD := Lib.hid (And.intro hrd hch); clear hrd hch
    have hat := rdAt_of e1
    have HAT := Lib.hid hat; clear hat
    by_cases hz : q < s.size
    · have d1 : decide ((q : Int) < (s.size : Int)) = true := by simp; omega
      have d2 : (q : Int) < (s.size : Int) := by omega
      have d3 : (0 : Int) ≤ (q : Int) := by omega
      by_cases hlt : q < pe
      · obtain ⟨hz2, hb⟩ := HIN.out q h1 hlt
        have hc := fun w => ndigit_any (s[q]'hz) w
        rw [hb] at hc
        have HC := Lib.hid hc; clear hc hb
        generalize hbb : (s[q]'hz) = bb at HC
        go_wp2_with fail
        refine wp_region_quiet_lit (by kernel_rfl) (by kernel_rfl) ?_
        repeat (go_big_quiet_step (fail))
        go_big_quiet_want
        refine quiet_callv 159 #[.int .u8 (bb.toNat : Int)] (fun w => by kernel_rfl) (.bool true) (fun w hw => ?_) ?_
        · obtain ⟨m, rfl⟩ := hw
          exact (HC.out _).mono fun e w' ⟨h1, h2⟩ => ⟨h1, m, h2⟩
        simp only [Act.put, List.setIfInBounds_toArray, List.set_cons_zero, List.set_cons_succ]
        go_big_quiet_on
        repeat (go_big_quiet_step (fail))
        refine wpQuiet_nil ?_
        intro _ hw'
        obtain ⟨nq, hw''⟩ := hw'
        subst hw''
        go_wp2_with fail
        have hfin := (HRD.out.1.drewN nq).put (q := q + 1) (by omega)
        rw [show (((q + 1 : Nat)) : Int) = (q : Int) + 1 by omega] at hfin
        refine ⟨⟨q + 1, by omega, by omega, hfin, (HRD.out.2.drewN nq).setCell (p := ⟨g, 1, none⟩) (fun _ => rfl) _⟩, ?_⟩
        rw [HAT.out, rdAt_of (p := q + 1) hfin.c1]
        omega
      · obtain rfl : q = pe := by omega
        have hb := HO.out hz
        have hc := fun w => ndigit_any (s[q]'hz) w
        rw [hb] at hc
        have HC := Lib.hid hc; clear hc hb
        generalize hbb : (s[q]'hz) = bb at HC
        go_wp2_with fail
        refine wp_region_quiet_lit (by kernel_rfl) (by kernel_rfl) ?_
        repeat (go_big_quiet_step (fail))
        go_big_quiet_want
        refine quiet_callv 159 #[.int .u8 (bb.toNat : Int)] (fun w => by kernel_rfl) (.bool false) (fun w hw => ?_) ?_
        · obtain ⟨m, rfl⟩ := hw
          exact (HC.out _).mono fun e w' ⟨h1, h2⟩ => ⟨h1, m, h2⟩
        simp only [Act.put, List.setIfInBounds_toArray, List.set_cons_zero, List.set_cons_succ]
        go_big_quiet_on
        repeat (go_big_quiet_step (fail))
        refine wpQuiet_nil ?_
        intro _ hw'
        obtain ⟨nq, hw''⟩ := hw'
        subst hw''
        go_wp2_with fail
        go_ret
        exact ⟨rfl, HRD.out.1.drewN _, HRD.out.2.drewN _⟩
    · have hq1 := HRD.out.1.le
      obtain rfl : q = pe := by omega
      have d1 : decide ((q : Int) < (s.size : Int)) = false := by simp; omega
      go_wp2_with fail
      go_quiet (fail)
      go_wp2_with fail
      go_ret
      exact ⟨rfl, HRD.out.1.drewN _, HRD.out.2.drewN _⟩
end Go.Proofs.YtifgmnafjihlkaaGreatDoor
/- name's reader: fail, stuck. -/
namespace Go.Proofs.YtifgmnafjihlkaaGreatDoor
open Go Go.RowKit

structure FaultAt (w : World) (fb : Nat) (f : PFault) : Prop where
  c0 : w.cell? ⟨fb, 0, none⟩ = some (.int .i64 f.1)
  c1 : w.cell? ⟨fb, 1, none⟩ = some (.int .i64 (f.2.1 : Nat))
  c2 : w.cell? ⟨fb, 2, none⟩ = some (.string ⟨f.2.2.toArray⟩)
theorem FaultAt.keep {w w' : World} {fb : Nat} {f : PFault} (h : FaultAt w fb f) (k : Below w.heap.size w w') : FaultAt w' fb f :=
  ⟨by rw [k.cell (World.block_lt_of_cell? w _ h.c0)]; exact h.c0, by rw [k.cell (World.block_lt_of_cell? w _ h.c1)]; exact h.c1, by rw [k.cell (World.block_lt_of_cell? w _ h.c2)]; exact h.c2⟩
def RdBad (w : World) (g : Nat) (s : ByteArray) (f : PFault) (w' : World) : Prop := ∃ p fb, Rd w' g s p (some ⟨fb, 0, none⟩) ∧ FaultAt w' fb f ∧ w.heap.size ≤ fb ∧ Chg (· = g) w w'

theorem take_one {s : ByteArray} {q : Nat} (h : q < s.size) : ((toL s).drop q).take 1 = [s[q]] := by unfold toL; rw [drop_at s h]; rfl
theorem extract_one {s : ByteArray} {q : Nat} (h : q < s.size) : s.extract q (q + 1) = ⟨#[s[q]]⟩ := by
  rw [Lib.extract_eq]
  have h1 := take_one h
  unfold toL at h1
  rw [show q + 1 - q = 1 by omega, h1]
set_option maxRecDepth 20000 in
set_option maxHeartbeats 1000000 in
theorem fail_any (g : Nat) (s : ByteArray) (p : Nat) (bad : Option Addr) (code : Int) (q : Nat) (w : World) (h : Rd w g s p bad) (hq : q ≤ 1099511627777) :
    Calls Tryz.prog 102 #[.pointer (some ⟨g, 0, none⟩), .int .i64 code, .int .i64 (q : Nat)] w fun e w' => e = .returned (.tuple #[]) ∧ RdBad w g s (faultAt (toL s) code q) w' := by
  have c0 := h.c0
  have c2 := h.c2
  have cf := h.fr 2
  have hgl := h.lt
  have HR := Lib.hid h; clear h
  go_enter Tryz.func102, Tryz.ntmps102
  go_upto_region 1 with fail
  have hb1 : Below w.heap.size w (w.alloc (.cells #[.int .i64 code, .int .i64 (q : Nat), .string ⟨#[]⟩] 160)) := (Below.refl _ w).alloc (Nat.le_refl _) _
  have hr1 := HR.out.keep hb1
  have hcs : ∀ j v, (#[.int .i64 code, .int .i64 (q : Nat), .string ⟨#[]⟩] : Array Value)[j]? = some v → ((w.alloc (.cells #[.int .i64 code, .int .i64 (q : Nat), .string ⟨#[]⟩] 160)).setCell ⟨g, 2, none⟩ (.pointer (some ⟨w.heap.size, 0, none⟩))).cell? ⟨w.heap.size, j, none⟩ = some v := fun j v hv => by
    rw [World.cell?_setCell_other _ _ _ _ (by intro e; injection e with e _ _; omega), World.cell?_alloc_new]; exact hv
  have hff : ((w.alloc (.cells #[.int .i64 code, .int .i64 (q : Nat), .string ⟨#[]⟩] 160)).setCell ⟨g, 2, none⟩ (.pointer (some ⟨w.heap.size, 0, none⟩))).frozen? ⟨w.heap.size, 2, none⟩ = false := by
    rw [World.frozen?_setCell]; exact frozen_of_row _ _ 2 _ _ (heap_alloc_new w _)
  have hr2 : Rd ((w.alloc (.cells #[.int .i64 code, .int .i64 (q : Nat), .string ⟨#[]⟩] 160)).setCell ⟨g, 2, none⟩ (.pointer (some ⟨w.heap.size, 0, none⟩))) g s p (some ⟨w.heap.size, 0, none⟩) :=
    ⟨by rw [World.cell?_setCell_other _ _ _ _ (fun e => by cases e)]; exact hr1.c0, by rw [World.cell?_setCell_other _ _ _ _ (fun e => by cases e)]; exact hr1.c1, by rw [World.cell?_setCell_same _ _ _ hr1.c2], fun j => by rw [World.frozen?_setCell]; exact hr1.fr j, hr1.le, hr1.small⟩
  have hch : Chg (· = g) w ((w.alloc (.cells #[.int .i64 code, .int .i64 (q : Nat), .string ⟨#[]⟩] 160)).setCell ⟨g, 2, none⟩ (.pointer (some ⟨w.heap.size, 0, none⟩))) := ((Chg.refl (S := (· = g)) w).alloc _).setCell (p := ⟨g, 2, none⟩) (fun _ => rfl) _
  have hfl : w.heap.size < ((w.alloc (.cells #[.int .i64 code, .int .i64 (q : Nat), .string ⟨#[]⟩] 160)).setCell ⟨g, 2, none⟩ (.pointer (some ⟨w.heap.size, 0, none⟩))).heap.size := by simp [World.setCell]
  rw [World.setCell_alloc_past _ _ _ _ hgl] at hff hr2 hch hfl
  simp only [World.setCell_alloc_past _ _ _ _ hgl] at hcs
  generalize (w.setCell ⟨g, 2, none⟩ (.pointer (some ⟨w.heap.size, 0, none⟩))).alloc (.cells #[.int .i64 code, .int .i64 (q : Nat), .string ⟨#[]⟩] 160) = w1 at hcs hff hr2 hch hfl ⊢
  have f0 := hcs 0 _ rfl
  have f1 := hcs 1 _ rfl
  have f2 := hcs 2 _ rfl
  have e0 := hr2.c0
  have e2 := hr2.c2
  clear hb1 hr1 hcs c0 c2 cf
  have hle : g < w.heap.size := hgl
  generalize hfb : w.heap.size = fb at *
  have H1 := Lib.hid (And.intro f0 (And.intro f1 (And.intro f2 (And.intro hr2 hch)))); clear f0 f1 hr2 hch
  by_cases hlt : q < s.size
  · have i1 : (q : Int) < (s.size : Int) := by omega
    have i2 : (q : Int) + 1 ≤ (s.size : Int) := by omega
    have i3 : (q : Int) ≤ (q : Int) + 1 := by omega
    have hx := extract_one hlt
    have hw : faultAt (toL s) code q = (code, q, [s[q]]) := by unfold faultAt; rw [take_one hlt]
    have HW := Lib.hid hw; have HX := Lib.hid hx; clear hx hw
    go_wp2_with fail
    go_region
    go_end0
    obtain ⟨f0, f1, f2', hr2, hch⟩ := H1.out
    refine ⟨rfl, p, fb, ?_, ?_, by omega, ?_⟩
    · exact ⟨by rw [World.cell?_drew, World.cell?_setCell_other _ _ _ _ (by intro e; injection e with e _ _; omega)]; exact hr2.c0, by rw [World.cell?_drew, World.cell?_setCell_other _ _ _ _ (by intro e; injection e with e _ _; omega)]; exact hr2.c1, by rw [World.cell?_drew, World.cell?_setCell_other _ _ _ _ (by intro e; injection e with e _ _; omega)]; exact hr2.c2, fun j => by rw [World.frozen?_drew, World.frozen?_setCell]; exact hr2.fr j, hr2.le, hr2.small⟩
    · rw [HW.out]
      exact ⟨by rw [World.cell?_drew, World.cell?_setCell_other _ _ _ _ (fun e => by cases e)]; exact f0, by rw [World.cell?_drew, World.cell?_setCell_other _ _ _ _ (fun e => by cases e)]; exact f1, by rw [World.cell?_drew, World.cell?_setCell_same _ _ _ f2', HX.out]⟩
    · exact (hch.setCell (p := ⟨fb, 2, none⟩) (fun h => by have h : fb < w.heap.size := h; omega) _).drew
  · have i1 : ¬ (q : Int) < (s.size : Int) := by omega
    have hw : faultAt (toL s) code q = (code, q, []) := by
      unfold faultAt
      rw [List.drop_eq_nil_of_le (by have := Lib.size_eq s; unfold toL; omega)]; rfl
    have HW := Lib.hid hw; clear hw
    go_wp2_with fail
    go_end0
    refine ⟨rfl, p, fb, H1.out.2.2.2.1, ?_, by omega, H1.out.2.2.2.2⟩
    rw [HW.out]
    exact ⟨H1.out.1, H1.out.2.1, H1.out.2.2.1⟩
end Go.Proofs.YtifgmnafjihlkaaGreatDoor
