/- rosterlaw12.BoughRises: one row in order, of which all calls tell: the law's walk. -/
import Derived.Test.YtdfkokbpidkokaaRiseSt
import Derived.Test.YtdfkokbpidkokaaRisesTail
import Derived.Deep.DeepCutAuto
import Derived.Deep.CutBlock
namespace Go.Proofs.Ytdfkokbpidkokaa
open Go.RowKit

theorem new_rise (o : Int) (w : World) : Rise o w.heap.size w (w.heap.size + 1) 0 [] (.slice none 0 0) (.slice none 0 0) ((w.alloc (.cells #[.int .i64 o] 3)).alloc (.cells #[.func (.func 51) #[] #[.pointer (some ⟨w.heap.size, 0, none⟩)], .slice none 0 0, .int .i64 0] 111)) :=
  ⟨none, 0, none, 0, rfl, rfl, ⟨((new_Q o w).chg (Chg.refl (fun _ => False) _) (fun _ _ h => h.elim) (.inl rfl) (fun x hx => .inl (hx.elim id (fun h => by rcases h with h | h <;> cases h)))).mono (by omega), Own.nil _ _ _, Own.nil _ _ _, (fun _ h => by cases h), (fun _ h => by cases h), (fun _ h => by cases h)⟩, Iff.rfl, sorted_nil, Nat.le_refl _⟩
theorem Rise.same {o : Int} {q : Nat} {w : World} {h i : Nat} {l : List (Int × Int)} {kv vv : Value} {W W' : World} (R : Rise o q w h i l kv vv W) (hc : Chg (fun _ => False) W W') : Rise o q w h i l kv vv W' := by
  obtain ⟨gk, ck, gv, cv, h1, h2, h3, h4⟩ := R
  exact ⟨gk, ck, gv, cv, h1, h2, h3.same hc, h4⟩

set_option maxRecDepth 100000 in
set_option maxHeartbeats 40000000 in
theorem rises_law {w : World} {v : Value} {xs : List Int} (o pr : Int) (hv : SeesI w v xs) (hn : xs.length * 8 ≤ 140737488351232) :
    Calls Try.prog 5 #[.int .i64 o, v, .int .i64 pr] w fun e w' => e = .returned (.bool true) ∧ Chg (fun _ => False) w w' := by
  have HV := Lib.hid hv
  obtain ⟨sa, c, b, of, rfl, hsa, hcells⟩ := hv
  have HS := Lib.hid hsa; clear hsa
  have HC := Lib.hid hcells; clear hcells
  go_enter Try.func5, Try.ntmps5
  go_wp2_with fail
  refine (order_any o w).mono ?_
  rintro e w1 ⟨rfl, rfl⟩
  go_wp2_with fail
  refine (new_repC _ _).mono ?_
  rintro e w1 ⟨rfl, rfl⟩
  have R0 := Lib.hid (new_rise o w)
  generalize (w.alloc (.cells #[.int .i64 o] 3)).alloc (.cells #[.func (.func 51) #[] #[.pointer (some ⟨w.heap.size, 0, none⟩)], .slice none 0 0, .int .i64 0] 111) = W0 at *
  simp only [World.size_alloc]
  generalize hq : w.heap.size = q at *
  generalize hh : q + 1 = h at *
  have HH := Lib.hid (And.intro hq hh); clear hq hh
  go_wp2_with fail
  refine (alive_any _).mono ?_
  rintro e w2 ⟨rfl, hc2⟩
  have R1 := Lib.hid (R0.out.same hc2); clear hc2 R0
  go_upto_block 0 with fail
  go_cut [9, 10] (fun kv vv wx => ∃ l, Rise o q w h xs.length l kv vv wx)
  case first =>
    -- <dev loop
    go_wp2
    go_loopw [9, 10, 11] (fun kv vv iv' wr => ∃ (i : Nat) (l : List (Int × Int)), iv' = .int .i64 i ∧ i ≤ xs.length ∧ Rise o q w h i l kv vv wr)
      (fun _ _ iv' _ => (xs.length - intOf iv').toNat)
    case atStart => exact ⟨0, [], rfl, Nat.zero_le _, R1.out⟩
    case round =>
      obtain ⟨i, l, rfl, hi, gk, ck, gv, cv, rfl, rfl, hR, hnn, hso, hll⟩ := hrel
      by_cases hlt : i < xs.length
      · -- <dev body
        obtain rfl := HS.out (by omega)
        have hcx : wr.cell? ⟨b, of + i, none⟩ = some (.int .i64 (xs[i])) := (World.cell?_of_block (hR.b.frame.block b (World.block_lt_of_cell? w _ (HC.out i hlt)) (fun hm => by have := World.block_lt_of_cell? w _ (HC.out i hlt); simp only at this; omega))).trans (HC.out i hlt)
        generalize xs[i] = k0 at hcx
        have b0 : (0 : Int) ≤ i := by omega
        have b1 : (i : Int) < xs.length := by omega
        have HR := Lib.hid hR; clear hR
        have HI := Lib.hid (And.intro hnn (And.intro hso hll)); clear hnn hso hll
        go_upto_if 58 with fail
        go_cut [12, 14] (fun s12 s14 wx => (∃ k' : Int, s12 = .int .i64 k') ∧ (∃ g' : Bool, s14 = .bool g') ∧ wx = wr)
        case first =>
          go_wp2_with fail
          all_goals
            go_meet
            exact ⟨⟨_, rfl⟩, ⟨_, rfl⟩, rfl⟩
        case rest =>
          obtain ⟨⟨k, rfl⟩, ⟨gone, rfl⟩, rfl⟩ := hcut
          clear hcx
          have hrl := rk_le (cmpI o) l k
          have hq1 := HR.out.b.cq
          have hll : l.length ≤ i := HI.out.2.2
          have hks : (l.map (·.1)).length = l.length := by simp
          simp only [sv]
          go_upto_block 2 with fail
          go_cut [13] (fun s13 wx => s13 = .int .i64 (rk (cmpI o) l k) ∧ wx = wc)
          case first =>
            go_wp2
            go_loopw [13] (fun at' wx => ∃ j : Nat, at' = .int .i64 j ∧ j ≤ rk (cmpI o) l k ∧ wx = wc) (fun at' _ => (rk (cmpI o) l k - intOf at').toNat)
            case atStart => exact ⟨0, rfl, Nat.zero_le _, rfl⟩
            case round =>
              obtain ⟨j, rfl, hj, rfl⟩ := hrel
              by_cases hjl : j < l.length
              · obtain ⟨g, rfl⟩ := HR.out.ksome (by omega)
                simp only [Option.map_some]
                have hcj := HR.out.kcell (i := j) (by omega)
                have j0 : (0 : Int) ≤ j := by omega
                have j1 : (j : Int) < l.length := by omega
                rw [List.getElem_map] at hcj
                by_cases hjr : j < rk (cmpI o) l k
                · have h1 := rk_lt (cmpI o) hjr (List.getElem?_eq_getElem hjl)
                  generalize l[j] = y at hcj h1
                  go_wp2_with (go_at_call 51; refine (order_cmp q o _ _ _ hq1).mono ?_; rintro e w' ⟨rfl, rfl⟩)
                  exact ⟨⟨j + 1, by go_num, hjr, trivial⟩, by simp [intOf]; omega⟩
                · obtain rfl : j = rk (cmpI o) l k := by omega
                  have h1 := rk_ge_first (c := cmpI o) (List.getElem?_eq_getElem hjl)
                  have HH1 := Lib.hid (rfl : rk (cmpI o) l k = rk (cmpI o) l k)
                  generalize l[rk (cmpI o) l k] = y at hcj h1
                  generalize rk (cmpI o) l k = r at *
                  go_wp2_with (go_at_call 51; refine (order_cmp q o _ _ _ hq1).mono ?_; rintro e w' ⟨rfl, rfl⟩)
                  go_meet
                  exact ⟨rfl, rfl⟩
              · obtain hjr : j = rk (cmpI o) l k := by omega
                have hd : decide ((j : Int) < l.length) = false := by simp; omega
                have HJR := Lib.hid hjr; clear hjr
                go_wp2_with fail
                go_meet
                exact ⟨by rw [HJR.out], rfl⟩
          case rest =>
            obtain ⟨rfl, rfl⟩ := hcut
            clear hq1
            go_upto_region 16 with fail
            go_cut [15] (fun s15 wx => s15 = .bool (hasL (cmpI o) l k) ∧ wx = wc)
            case first =>
              have hq1 := HR.out.b.cq
              by_cases hjl : rk (cmpI o) l k < l.length
              · obtain ⟨g, rfl⟩ := HR.out.ksome (by omega)
                simp only [Option.map_some]
                have hcj := HR.out.kcell (i := rk (cmpI o) l k) (by omega)
                have j0 : (0 : Int) ≤ rk (cmpI o) l k := by omega
                have j1 : ((rk (cmpI o) l k : Nat) : Int) < l.length := by omega
                rw [List.getElem_map] at hcj
                have hh := hasL_at (cmpI o) l k _ (List.getElem?_eq_getElem hjl)
                generalize l[rk (cmpI o) l k] = y at hcj hh
                have HHH := Lib.hid hh; clear hh
                generalize rk (cmpI o) l k = r at *
                go_wp2_with (go_at_call 51; refine (order_cmp q o _ _ _ hq1).mono ?_; rintro e w' ⟨rfl, rfl⟩)
                go_meet
                exact ⟨by rw [HHH.out], rfl⟩
              · have hh := hasL_end (cmpI o) l k hjl
                have hd : decide (((rk (cmpI o) l k : Nat) : Int) < l.length) = false := by simp; omega
                have HHH := Lib.hid hh; clear hh
                go_wp2_with fail
                go_meet
                exact ⟨by rw [HHH.out], rfl⟩
            case rest =>
              obtain ⟨rfl, rfl⟩ := hcut
              have hpb : 16 + i ≤ 70368744177664 := by omega
              have hsm : Sorted (cmpI o) (l.map (onV (Value.int .i64))) := sorted_map _ _ HI.out.2.1
              have HSM := Lib.hid hsm; clear hsm
              obtain ⟨i3, hi3, hz0, hz1, hz2⟩ := info_parts Try.info3
              have HI3 := Lib.hid (And.intro hi3 (And.intro hz0 (And.intro hz1 hz2)))
              clear hi3 hz0 hz1 hz2
              have hth : ∃ th, th = hasL (cmpI o) l k := ⟨_, rfl⟩
              obtain ⟨th, hth⟩ := hth
              rw [← hth]
              have HTH := Lib.hid hth; clear hth
              cases gone
              · have hput := put_Q HR.out.b k (i : Int) HSM.out hpb
                rw [hasL_map, ← HTH.out, putL_map] at hput
                have HP := Lib.hid hput; clear hput
                have hsd := putL_sorted (cmpI_ord o) HI.out.2.1 k (i : Int)
                have HSD := Lib.hid hsd; clear hsd
                cases th
                · go_wp2_with fail
                  refine HP.out.mono ?_
                  rintro e w3 ⟨rfl, kb, kc⟩
                  have R3 := Lib.hid (HR.out.bough kb kc); clear kb kc
                  have hpl : putL (cmpI o) l k (i : Int) = l.take (rk (cmpI o) l k) ++ (k, (i : Int)) :: l.drop (rk (cmpI o) l k) := by unfold putL; rw [if_neg (by rw [← HTH.out]; simp)]
                  have HPL := Lib.hid hpl; clear hpl
                  have hnn := HI.out.1
                  rcases gk with _ | g1
                  · -- <dev e
                    obtain rfl : gv = none := hnn.1 rfl
                    clear hnn
                    have hl0 : l.length = 0 := by have := R3.out.k.2.1; simpa using this
                    have hck0 : ck = 0 := R3.out.k.2.2
                    have hcv0 : cv = 0 := R3.out.v.2.2
                    subst hck0 hcv0
                    obtain rfl : l = [] := List.eq_nil_of_length_eq_zero hl0
                    clear hl0
                    simp only [Option.map_none, List.length_nil]
                    have hr0 : rk (cmpI o) ([] : List (Int × Int)) k = 0 := rfl
                    rw [hr0] at HPL ⊢
                    clear hr0
                    go_upto_region 28 with fail
                    have hB : Own (w3.drew.alloc (.cells #[.int .i64 k] 3)) 3 1 (some w3.heap.size) 1 1 [.int .i64 k] := Own.mk (Row.made (w := w3.drew) (e := 3) (sz := 1) (cap := 1) (xs := #[.int .i64 k]) rfl (by decide)) rfl (Nat.le_refl _)
                    have HB := Lib.hid hB; clear hB
                    go_region_law (first
                      | (refine step_app (w := w3.drew.alloc (.cells #[.int .i64 k] 3)) rfl (.tmp 133) (.tmp 136) 25 rfl 3 i3 (.int .i64 0) 1 8 Try.underlying25 HI3.out.1 HI3.out.2.1 HI3.out.2.2.1 HI3.out.2.2.2 rfl (by decide) (by decide) (some w3.heap.size) 1 1 [.int .i64 k] rfl HB.out none 0 0 [] (by go_simp) (fun _ => ⟨rfl, rfl⟩) rfl (fun _ h => by cases h) (fun _ hu => by cases hu) (by decide) (.inl (by omega)) ?_; intro g4 c4 w4 o4 hg4 e4)
                      | (refine step_app (w := w4) rfl (.tmp 131) (.tmp 137) 25 rfl 3 i3 (.int .i64 0) 1 8 Try.underlying25 HI3.out.1 HI3.out.2.1 HI3.out.2.2.1 HI3.out.2.2.2 rfl (by decide) (by decide) none 0 0 [] rfl (Own.nil _ _ _) (some ⟨g4, 0, none⟩) 1 c4 [.int .i64 k] (by go_simp) (fun h => by cases h) rfl (news_row o4.row) (fun u hu => by simp at hu; subst hu; rfl) (by decide) (.inl (by omega)) ?_; intro g5 c5 w5 o5 hg5 e5))
                    have R4 := Lib.hid (R3.out.insk (k := k) (r := 0) (n := 1) (V := w3.drew) (by simp) hg4 ⟨rfl, rfl, rfl, rfl⟩ hg5 e5 (by simpa [iv] using o5)); clear o4 hg4 e4 o5 hg5 e5 HB
                    go_simp
                    go_upto_region 29 with fail
                    have hB : Own (w5.drew.alloc (.cells #[.int .i64 (i : Int)] 3)) 3 1 (some w5.heap.size) 1 1 [.int .i64 (i : Int)] := Own.mk (Row.made (w := w5.drew) (e := 3) (sz := 1) (cap := 1) (xs := #[.int .i64 (i : Int)]) rfl (by decide)) rfl (Nat.le_refl _)
                    have HB := Lib.hid hB; clear hB
                    go_region_law (first
                      | (refine step_app (w := w5.drew.alloc (.cells #[.int .i64 (i : Int)] 3)) rfl (.tmp 143) (.tmp 146) 25 rfl 3 i3 (.int .i64 0) 1 8 Try.underlying25 HI3.out.1 HI3.out.2.1 HI3.out.2.2.1 HI3.out.2.2.2 rfl (by decide) (by decide) (some w5.heap.size) 1 1 [.int .i64 (i : Int)] rfl HB.out none 0 0 [] (by go_simp) (fun _ => ⟨rfl, rfl⟩) rfl (fun _ h => by cases h) (fun _ hu => by cases hu) (by decide) (.inl (by omega)) ?_; intro g6 c6 w6 o6 hg6 e6)
                      | (refine step_app (w := w6) rfl (.tmp 141) (.tmp 147) 25 rfl 3 i3 (.int .i64 0) 1 8 Try.underlying25 HI3.out.1 HI3.out.2.1 HI3.out.2.2.1 HI3.out.2.2.2 rfl (by decide) (by decide) none 0 0 [] rfl (Own.nil _ _ _) (some ⟨g6, 0, none⟩) 1 c6 [.int .i64 (i : Int)] (by go_simp) (fun h => by cases h) rfl (news_row o6.row) (fun u hu => by simp at hu; subst hu; rfl) (by decide) (.inl (by omega)) ?_; intro g7 c7 w7 o7 hg7 e7))
                    have R7 := Lib.hid (R4.out.insv (k := (i : Int)) (r := 0) (n := 1) (V := w5.drew) (by simp) hg6 ⟨rfl, rfl, rfl, rfl⟩ hg7 e7 (by simpa [iv] using o7)); clear o6 hg6 e6 o7 hg7 e7 HB
                    go_simp
                    go_wp2
                    refine ⟨⟨i + 1, putL (cmpI o) [] k (i : Int), by go_num, hlt, Rise.mk R7.out (by rw [HPL.out]; simp) (by rw [HPL.out]; simp) (by omega) (by simp) HSD.out ?_ ?_ ?_⟩, by simp [intOf]; omega⟩
                    all_goals (rw [HPL.out]; simp <;> omega)
                  · -- <dev d
                    obtain ⟨g2, rfl⟩ : ∃ g2, gv = some g2 := by
                      cases gv with
                      | none => exact absurd (hnn.2 rfl) (by simp)
                      | some g2 => exact ⟨g2, rfl⟩
                    clear hnn
                    simp only [Option.map_some]
                    have hlk := R3.out.kle
                    have hlv := R3.out.vle
                    rw [List.length_map] at hlk hlv
                    generalize hrr : rk (cmpI o) l k = r at *
                    have HRR := Lib.hid hrr; clear hrr
                    have p1 : (0 : Int) ≤ r := by omega
                    have p2 : (r : Int) ≤ ck := by omega
                    have p2' : (r : Int) ≤ cv := by omega
                    have p4 : (r : Int) ≤ l.length := by omega
                    have p4n : r ≤ l.length := hrl
                    have p5 : (l.length : Int) ≤ ck := by omega
                    have p5' : (l.length : Int) ≤ cv := by omega
                    have hby : (1 + (l.length - r)) * 8 ≤ 140737488355328 ∧ (r + (1 + (l.length - r))) * 8 ≤ 140737488355328 := by omega
                    have HBY := Lib.hid hby; clear hby
                    go_upto_region 28 with fail
                    have hB : Own (w3.drew.alloc (.cells #[.int .i64 k] 3)) 3 1 (some w3.heap.size) 1 1 [.int .i64 k] := Own.mk (Row.made (w := w3.drew) (e := 3) (sz := 1) (cap := 1) (xs := #[.int .i64 k]) rfl (by decide)) rfl (Nat.le_refl _)
                    have hT := (R3.out.k.chg (((Chg.refl (fun _ => False) w3).drew).alloc (.cells #[.int .i64 k] 3)) (fun _ _ h => h))
                    have HB := Lib.hid (And.intro hB hT); clear hB hT
                    go_region_law (first
                      | (refine step_app (w := w3.drew.alloc (.cells #[.int .i64 k] 3)) rfl (.tmp 133) (.tmp 136) 25 rfl 3 i3 (.int .i64 0) 1 8 Try.underlying25 HI3.out.1 HI3.out.2.1 HI3.out.2.2.1 HI3.out.2.2.2 rfl (by decide) (by decide) (some w3.heap.size) 1 1 [.int .i64 k] rfl HB.out.1 (if ck = r then some ⟨g1, 0, none⟩ else some ⟨g1, r, none⟩) (l.length - r) (ck - r) ((iv (l.map (·.1))).drop r) (by go_simp) (by intro h; split at h <;> cases h) (by simp [iv]) (news_tail1' HB.out.2 r _ rfl) (fun u hu => iv_one _ u (List.mem_of_mem_drop hu)) HBY.out.1 (.inl (by omega)) ?_; intro g4 c4 w4 o4 hg4 e4; have O4 := HB.out.2.chg (Chg.grown (S := fun x => x = w3.heap.size) (Chg.refl _ _) hg4 (fun k e _ => (Option.some.inj e).symm)) (fun g e h => by have := R3.out.klt e; omega))
                      | (refine step_app (w := w4) rfl (.tmp 131) (.tmp 137) 25 rfl 3 i3 (.int .i64 0) 1 8 Try.underlying25 HI3.out.1 HI3.out.2.1 HI3.out.2.2.1 HI3.out.2.2.2 rfl (by decide) (by decide) (some g1) r ck ((iv (l.map (·.1))).take r) rfl (O4.front r (by simpa using p4n)) (some ⟨g4, 0, none⟩) (1 + (l.length - r)) c4 ([.int .i64 k] ++ (iv (l.map (·.1))).drop r) (by go_simp) (fun h => by cases h) (ins_len k _ r _ (by simp)) (news_row o4.row) (ins_one k _ r) HBY.out.2 (.inl (by omega)) ?_; intro g5 c5 w5 o5 hg5 e5))
                    have R4 := Lib.hid (R3.out.insk (k := k) (r := r) (n := r + (1 + (l.length - r))) (V := w3.drew) (by simp; omega) hg4 ⟨rfl, rfl, rfl, rfl⟩ hg5 e5 (by simpa using o5)); clear o4 hg4 e4 O4 o5 hg5 e5 HB
                    go_simp
                    go_upto_region 29 with fail
                    have hB : Own (w5.drew.alloc (.cells #[.int .i64 (i : Int)] 3)) 3 1 (some w5.heap.size) 1 1 [.int .i64 (i : Int)] := Own.mk (Row.made (w := w5.drew) (e := 3) (sz := 1) (cap := 1) (xs := #[.int .i64 (i : Int)]) rfl (by decide)) rfl (Nat.le_refl _)
                    have hT := (R4.out.v.chg (((Chg.refl (fun _ => False) w5).drew).alloc (.cells #[.int .i64 (i : Int)] 3)) (fun _ _ h => h))
                    have HB := Lib.hid (And.intro hB hT); clear hB hT
                    go_region_law (first
                      | (refine step_app (w := w5.drew.alloc (.cells #[.int .i64 (i : Int)] 3)) rfl (.tmp 143) (.tmp 146) 25 rfl 3 i3 (.int .i64 0) 1 8 Try.underlying25 HI3.out.1 HI3.out.2.1 HI3.out.2.2.1 HI3.out.2.2.2 rfl (by decide) (by decide) (some w5.heap.size) 1 1 [.int .i64 (i : Int)] rfl HB.out.1 (if cv = r then some ⟨g2, 0, none⟩ else some ⟨g2, r, none⟩) (l.length - r) (cv - r) ((iv (l.map (·.2))).drop r) (by go_simp) (by intro h; split at h <;> cases h) (by simp [iv]) (news_tail1' HB.out.2 r _ rfl) (fun u hu => iv_one _ u (List.mem_of_mem_drop hu)) HBY.out.1 (.inl (by omega)) ?_; intro g6 c6 w6 o6 hg6 e6; have O6 := HB.out.2.chg (Chg.grown (S := fun x => x = w5.heap.size) (Chg.refl _ _) hg6 (fun k e _ => (Option.some.inj e).symm)) (fun g e h => by have := R4.out.vlt e; omega))
                      | (refine step_app (w := w6) rfl (.tmp 141) (.tmp 147) 25 rfl 3 i3 (.int .i64 0) 1 8 Try.underlying25 HI3.out.1 HI3.out.2.1 HI3.out.2.2.1 HI3.out.2.2.2 rfl (by decide) (by decide) (some g2) r cv ((iv (l.map (·.2))).take r) rfl (O6.front r (by simpa using p4n)) (some ⟨g6, 0, none⟩) (1 + (l.length - r)) c6 ([.int .i64 (i : Int)] ++ (iv (l.map (·.2))).drop r) (by go_simp) (fun h => by cases h) (ins_len _ _ r _ (by simp)) (news_row o6.row) (ins_one _ _ r) HBY.out.2 (.inl (by omega)) ?_; intro g7 c7 w7 o7 hg7 e7))
                    have R7 := Lib.hid (R4.out.insv (k := (i : Int)) (r := r) (n := r + (1 + (l.length - r))) (V := w5.drew) (by simp; omega) hg6 ⟨rfl, rfl, rfl, rfl⟩ hg7 e7 (by simpa using o7)); clear o6 hg6 e6 O6 o7 hg7 e7 HB
                    go_simp
                    clear p1 p2 p2' p4 p5 p5'
                    go_wp2
                    refine ⟨⟨i + 1, putL (cmpI o) l k (i : Int), by go_num, hlt, Rise.mk R7.out (by rw [HPL.out]; simp [List.map_take, List.map_drop]) (by rw [HPL.out]; simp [List.map_take, List.map_drop]) (by omega) (by simp) HSD.out ?_ ?_ ?_⟩, by simp [intOf]; omega⟩
                    all_goals (rw [HPL.out]; simp <;> omega)
                · -- <dev c
                  have hlr := hasL_lt (cmpI o) HTH.out.symm
                  obtain ⟨g1, rfl⟩ := HR.out.ksome (by omega)
                  obtain ⟨g2, rfl⟩ := HR.out.vsome (by simp; omega)
                  simp only [Option.map_some]
                  go_wp2_with fail
                  refine HP.out.mono ?_
                  rintro e w3 ⟨rfl, kb, kc⟩
                  have R3 := Lib.hid (HR.out.bough kb kc); clear kb kc
                  have hpl : putL (cmpI o) l k (i : Int) = l.set (rk (cmpI o) l k) (k, (i : Int)) := by unfold putL; rw [if_pos HTH.out.symm]
                  have HPL := Lib.hid hpl; clear hpl
                  generalize hrr : rk (cmpI o) l k = r at *
                  have HRR := Lib.hid hrr; clear hrr
                  have p1 : (0 : Int) ≤ r := by omega
                  have p4 : (r : Int) < l.length := by omega
                  have ck1 := R3.out.kcell (i := r) (by omega)
                  have fk1 := R3.out.k.row.frozen r
                  have R4 := Lib.hid (R3.out.putk (by simpa using hlr) k)
                  have cv1 := R4.out.vcell (i := r) (by simpa using hlr)
                  have fv1 := R4.out.v.row.frozen r
                  generalize (l.map (·.1))[r]'_ = y1 at ck1
                  generalize (l.map (·.2))[r]'_ = y2 at cv1
                  have hgg := R3.out.ne g1 rfl
                  have R5 := Lib.hid (R4.out.putv (by simpa using hlr) (i : Int))
                  go_upto_region 27 with fail
                  generalize w3.setCell ⟨g1, r, none⟩ (.int .i64 k) = w4 at R4 R5 cv1 fv1 ⊢
                  clear ck1 fk1
                  go_wp2
                  refine ⟨⟨i + 1, putL (cmpI o) l k (i : Int), by go_num, hlt, Rise.mk R5.out (by rw [HPL.out]; simp [List.map_set]) (by rw [HPL.out]; simp [List.map_set]) (by omega) HI.out.1 HSD.out ?_ ?_ ?_⟩, by simp [intOf]; omega⟩
                  all_goals (rw [HPL.out]; simp <;> omega)
              · have hdel := del_Q HR.out.b k HSM.out hpb
                rw [hasL_map, ← HTH.out, delL_map] at hdel
                have HD := Lib.hid hdel; clear hdel
                cases th
                · -- <dev b
                  go_wp2_with fail
                  refine HD.out.mono ?_
                  rintro e w3 ⟨rfl, kb, kc⟩
                  have R3 := Lib.hid (HR.out.bough kb kc); clear kb kc
                  have hdl : delL (cmpI o) l k = l := by unfold delL; rw [if_neg (by rw [← HTH.out]; simp)]
                  go_wp2
                  exact ⟨⟨i + 1, l, by go_num, hlt, Rise.mk (hdl ▸ R3.out) rfl rfl (by omega) HI.out.1 HI.out.2.1 (by omega) rfl rfl⟩, by simp [intOf]; omega⟩
                · -- <dev a
                  have hlr := hasL_lt (cmpI o) HTH.out.symm
                  obtain ⟨g1, rfl⟩ := HR.out.ksome (by omega)
                  obtain ⟨g2, rfl⟩ := HR.out.vsome (by simp; omega)
                  simp only [Option.map_some]
                  go_wp2_with fail
                  refine HD.out.mono ?_
                  rintro e w3 ⟨rfl, kb, kc⟩
                  have R3 := Lib.hid (HR.out.bough kb kc); clear kb kc
                  go_upto_region 21 with fail
                  have hdl : delL (cmpI o) l k = l.take (rk (cmpI o) l k) ++ l.drop (rk (cmpI o) l k + 1) := by unfold delL; rw [if_pos HTH.out.symm]
                  have HDL := Lib.hid hdl; clear hdl
                  have hsd := delL_sorted HI.out.2.1 (c := cmpI o) k
                  have HSD := Lib.hid hsd; clear hsd
                  have hlk := R3.out.kle
                  have hlv := R3.out.vle
                  rw [List.length_map] at hlk hlv
                  generalize hrr : rk (cmpI o) l k = r at *
                  have HRR := Lib.hid hrr; clear hrr
                  have p1 : (0 : Int) ≤ r := by omega
                  have p2 : (r : Int) ≤ ck := by omega
                  have p2' : (r : Int) ≤ cv := by omega
                  have p3 : (0 : Int) ≤ (r : Int) + 1 := by omega
                  have p4 : (r : Int) + 1 ≤ l.length := by omega
                  have p5 : (l.length : Int) ≤ ck := by omega
                  have p5' : (l.length : Int) ≤ cv := by omega
                  have p6 : IntKind.i64.wrap ((r : Int) + 1) = r + 1 := IntWalk.i64_in _ (by omega)
                  have p7 : ((r : Int) + 1).toNat = r + 1 := by omega
                  obtain ⟨m, hm⟩ : ∃ m, r + (l.length - (r + 1)) = m := ⟨_, rfl⟩
                  have HM := Lib.hid hm; clear hm
                  have hrow := R3.out.k.row.drew
                  have HROW := Lib.hid hrow; clear hrow
                  go_region_law ((refine step_out1 (w := w3.drew) rfl (.tmp 100) (.tmp 104) 25 rfl 3 i3 Try.underlying25 HI3.out.1 HI3.out.2.2.1 g1 l.length ck r (iv (l.map (·.1))) (by go_simp) HROW.out (by simp [iv]) hlr hlk (iv_one _) (by go_simp) m HM.out ?_; intro w4 hrow4 hg4))
                  have R4 := Lib.hid (R3.out.outk (by simpa using hlr) hrow4 hg4); clear hrow4 hg4 HROW
                  go_simp
                  go_upto_region 22 with fail
                  have hrow := R4.out.v.row.drew
                  have HROW := Lib.hid hrow; clear hrow
                  go_region_law ((refine step_out1 (w := w4.drew) rfl (.tmp 108) (.tmp 112) 25 rfl 3 i3 Try.underlying25 HI3.out.1 HI3.out.2.2.1 g2 l.length cv r (iv (l.map (·.2))) (by go_simp) HROW.out (by simp [iv]) hlr hlv (iv_one _) (by go_simp) m HM.out ?_; intro w5 hrow5 hg5))
                  have R5 := Lib.hid (R4.out.outv (by simpa using hlr) hrow5 hg5); clear hrow5 hg5 HROW
                  go_simp
                  clear p1 p2 p2' p3 p4 p5 p5' p6 p7
                  have hml : m = (delL (cmpI o) l k).length := by rw [HDL.out, ← HM.out]; simp; omega
                  have HML := Lib.hid hml; clear hml
                  go_wp2
                  refine ⟨⟨i + 1, delL (cmpI o) l k, by go_num, hlt, Rise.mk R5.out (by rw [HDL.out]; simp [List.map_take, List.map_drop]) (by rw [HDL.out]; simp [List.map_take, List.map_drop]) (by omega) (by simp) HSD.out ?_ HML.out HML.out⟩, by simp [intOf]; omega⟩
                  rw [HDL.out]; simp; omega
      · obtain rfl : i = xs.length := by omega
        have hd : decide ((xs.length : Int) < xs.length) = false := by simp
        have HRI : Hid (Rise o q w h xs.length l (sv gk l.length ck) (sv gv l.length cv) wr) := ⟨gk, ck, gv, cv, rfl, rfl, hR, hnn, hso, hll⟩
        clear hR hnn hso hll
        simp only [sv] at HRI ⊢
        go_wp2_with fail
        go_meet
        exact ⟨l, HRI.out⟩
    -- dev>
  case rest =>
    obtain ⟨l, gk, ck, gv, cv, rfl, rfl, hR, hnn, hso, hll⟩ := hcut
    simp only [sv]
    refine (by assumption : ∀ (a : Act) (w : World), Code.wp Try.prog _ _ a w → _) _ _ ?_
    apply rises_tail hR hso (by omega) (by omega)
end Go.Proofs.Ytdfkokbpidkokaa
