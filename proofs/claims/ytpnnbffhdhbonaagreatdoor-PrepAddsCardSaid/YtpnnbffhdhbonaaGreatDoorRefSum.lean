/- rosterref03.sum: two rows of digits added, or taken away. -/
import Derived.Test.YtpnnbffhdhbonaaGreatDoorRefA
import Derived.Deep.DeepCutAuto
namespace Go.Proofs.YtpnnbffhdhbonaaGreatDoor
open Go Go.RowKit

theorem trimL_cons (c : UInt8) (l : List UInt8) : Lib.trimLeftB (c :: l) 48 = if c = 48 then Lib.trimLeftB l 48 else c :: l := by
  unfold Lib.trimLeftB
  rw [List.dropWhile_cons]
  by_cases h : c = 48
  · simp [h]
  · simp [h]
/-- noughts ahead are dropped, but the last digit stays -/
theorem trim_keep (z : List UInt8) (n k : Nat) (hz : z.length = n + 1) (hk : k ≤ n) (h : Lib.trimLeftB z 48 = Lib.trimLeftB (z.drop k) 48) (he : k = n ∨ z[k]? ≠ some 48) :
    (if Lib.trimLeftB z 48 = [] then [48] else Lib.trimLeftB z 48) = z.drop k := by
  have hd := List.drop_eq_getElem_cons (l := z) (i := k) (by omega)
  have hg : z[k]? = some z[k] := List.getElem?_eq_getElem (by omega)
  rw [h]
  by_cases hc : z[k] = 48
  · have hkn : k = n := by
      rcases he with e | e
      · exact e
      · exact absurd (by rw [hg, hc]) e
    have hn : z.drop (k + 1) = [] := List.drop_eq_nil_of_le (by omega)
    rw [hd, hn, hc]; rfl
  · rw [hd, trimL_cons, if_neg hc, if_neg (List.cons_ne_nil _ _)]

theorem Buf.backAt {w0 w : World} {cap g : Nat} {l : List UInt8} (h : Buf w0 w (some g) cap l) (k : Nat) {n : Nat} (hn : n = l.length - k) (c : Nat) :
    (convert 58 9 (.slice (some ⟨g, k, none⟩) n c)).run Tryz.prog w = .ok (.string ⟨(l.drop k).toArray⟩) w := by
  have hn2 : n = (l.drop k).length := by rw [List.length_drop]; exact hn
  rw [hn2]
  exact run_convert_bytes_back w 58 9 5 ⟨g, k, none⟩ c (l.drop k) Tryz.underlying58 Tryz.underlying5 Tryz.underlying9 fun j hj => by
    rw [List.length_drop] at hj
    have := h.cell (j := k + j) (List.getElem?_eq_getElem (by omega))
    rw [List.getElem_drop, ← this]; congr 1; simp [Addr.add]

theorem sumL_length (a b : List UInt8) (less : Bool) (n : Nat) : (sumL a b less n).length = n := by unfold sumL; simp

set_option maxRecDepth 20000 in
set_option maxHeartbeats 2000000 in
theorem rsum_any (a b : ByteArray) (less : Bool) (w : World) (ha : digsL a.data.toList) (hb : digsL b.data.toList) (hsa : a.size ≤ 65536) (hsb : b.size ≤ 65536) :
    Calls Tryz.prog 44 #[.string a, .string b, .bool less] w fun e w' => e = .returned (.string ⟨(plusL a.data.toList b.data.toList less).toArray⟩) ∧ Below w.heap.size w w' := by
  obtain ⟨n, hn⟩ : ∃ n, n = max a.size b.size := ⟨_, rfl⟩
  obtain ⟨w1, hr, hB⟩ := makeN w (n + 1) (by omega)
  have HB := Lib.hid hB; clear hB
  obtain ⟨N, hN⟩ : ∃ N, N = n + 1 := ⟨_, rfl⟩
  rw [← hN] at hr HB
  have hNi : (n : Int) + 1 = (N : Int) := by omega
  have hpl : plusL a.data.toList b.data.toList less = if Lib.trimLeftB (sumL a.data.toList b.data.toList less N) 48 = [] then [48] else Lib.trimLeftB (sumL a.data.toList b.data.toList less N) 48 := by
    unfold plusL; rw [← Lib.size_eq, ← Lib.size_eq, hN, hn]
  have HL := Lib.hid (And.intro hn (And.intro hN hpl))
  have HD := Lib.hid (And.intro ha hb)
  have HA := Lib.hid (fun (i : Nat) w (hi : i ≤ 65537) => rat_any a i w (by omega) (by omega) ha)
  have HBB := Lib.hid (fun (i : Nat) w (hi : i ≤ 65537) => rat_any b i w (by omega) (by omega) hb)
  have hNs : N ≤ 65537 := by omega
  clear ha hb hpl
  go_enter Tryz.func44, Tryz.ntmps44
  go_upto_if 18 with fail
  go_cut [7] (fun x wx => x = .int .i64 n ∧ wx = w)
  case first =>
    by_cases hab : (a.size : Int) < b.size
    · have hnn : b.size = n := by omega
      clear hn hN hNi hr
      go_wp2_with fail
      go_meet
      exact ⟨by first | rfl | rw [hnn], rfl⟩
    · have hnn : a.size = n := by omega
      clear hn hN hNi hr
      go_wp2_with fail
      go_meet
      exact ⟨by first | rfl | rw [hnn], rfl⟩
  case rest =>
    obtain ⟨rfl, rfl⟩ := hcut
    clear hn hN
    go_wp2_with fail
    clear hr hNi
    go_loopw [9, 10] (fun cv iv wr => ∃ i : Nat, iv = .int .i64 i ∧ i ≤ N ∧ cv = .int .i64 (car a.data.toList b.data.toList less i) ∧ Buf wc wr (some wc.heap.size) N (outAt N (sby a.data.toList b.data.toList less) i)) (fun _ iv _ => N - (intOf iv).toNat)
    case atStart => exact ⟨0, rfl, Nat.zero_le _, rfl, by rw [show outAt N (sby a.data.toList b.data.toList less) 0 = List.replicate N 0 by unfold outAt; simp]; exact HB.out⟩
    case round =>
      clear HB
      obtain ⟨i, rfl, hi, rfl, hb⟩ := hrel
      have HB := Lib.hid hb; clear hb
      by_cases hlt : i < N
      · have hle : (i : Int) ≤ n := by have := HL.out.2.1; omega
        have hset := HB.out.set (j := N - 1 - i) (by rw [outAt_length _ hi]; omega) (sby a.data.toList b.data.toList less i)
        rw [outAt_step _ hlt, sby_nat HD.out.1 HD.out.2] at hset
        have hcs := car_succ a.data.toList b.data.toList less i
        have hsd : sdg a.data.toList b.data.toList less i = if 9 < raw a.data.toList b.data.toList less i then raw a.data.toList b.data.toList less i - 10 else if raw a.data.toList b.data.toList less i < 0 then raw a.data.toList b.data.toList less i + 10 else raw a.data.toList b.data.toList less i := rfl
        have hcr := car_range HD.out.1 HD.out.2 less i
        have HS := Lib.hid hset; have HC := Lib.hid (And.intro hcs hsd); clear hset hcs hsd
        have hcell := HB.out.cell (outAt_get _ hlt)
        have hfr := HB.out.frozen (N - 1 - i)
        have hix : IntKind.i64.wrap ((n : Int) - i) = ((N - 1 - i : Nat) : Int) := by have := HL.out.2.1; rw [IntWalk.i64_in _ (by omega)]; omega
        have hj1 : ((N - 1 - i : Nat) : Int) < N := by omega
        have hj0 : (0 : Int) ≤ ((N - 1 - i : Nat) : Int) := by omega
        have hx := dgt_range HD.out.1 i
        have hy := dgt_range HD.out.2 i
        have hra : raw a.data.toList b.data.toList less i = dgt a.data.toList i + ((if less then - dgt b.data.toList i else dgt b.data.toList i) + car a.data.toList b.data.toList less i) := rfl
        have hAi := fun w => HA.out i w (by omega)
        have hBi := fun w => HBB.out i w (by omega)
        generalize dgt a.data.toList i = x at *
        generalize dgt b.data.toList i = y at *
        generalize car a.data.toList b.data.toList less i = c at *
        have HR := Lib.hid hra; have HAi := Lib.hid hAi; have HBi := Lib.hid hBi; clear hra hAi hBi
        generalize N - 1 - i = j at *
        obtain ⟨x0, x1⟩ := hx
        obtain ⟨y0, y1⟩ := hy
        cases less with
        | false =>
          obtain ⟨c1, c2⟩ := hcr.1 rfl
          clear hcr
          have hraw := HR.out
          simp only [Bool.false_eq_true, if_false] at hraw
          have HRW := Lib.hid hraw; clear hraw HR
          go_wp2_with (first
            | (go_at_call 84; with_reducible refine (HAi.out _).mono ?_; rintro e w2 ⟨rfl, rfl⟩)
            | (go_at_call 84; with_reducible refine (HBi.out _).mono ?_; rintro e w2 ⟨rfl, rfl⟩)
            | fail)
          all_goals first
            | exact ⟨⟨i + 1, by simp, by omega, by rw [HC.out.1, HRW.out, if_pos (by omega)], HS.out.setv (by have e := HC.out.2; rw [HRW.out, if_pos (by omega)] at e; omega)⟩, by simp [intOf]; omega⟩
            | exact ⟨⟨i + 1, by simp, by omega, by rw [HC.out.1, HRW.out, if_neg (by omega), if_pos (by omega)], HS.out.setv (by have e := HC.out.2; rw [HRW.out, if_neg (by omega), if_pos (by omega)] at e; omega)⟩, by simp [intOf]; omega⟩
            | exact ⟨⟨i + 1, by simp, by omega, by rw [HC.out.1, HRW.out, if_neg (by omega), if_neg (by omega)], HS.out.setv (by have e := HC.out.2; rw [HRW.out, if_neg (by omega), if_neg (by omega)] at e; omega)⟩, by simp [intOf]; omega⟩
            | (exfalso; omega)
            | fail
          trace_state
        | true =>
          obtain ⟨c1, c2⟩ := hcr.2 rfl
          clear hcr
          have hraw := HR.out
          simp only [if_true] at hraw
          have HRW := Lib.hid hraw; clear hraw HR
          go_wp2_with (first
            | (go_at_call 84; with_reducible refine (HAi.out _).mono ?_; rintro e w2 ⟨rfl, rfl⟩)
            | (go_at_call 84; with_reducible refine (HBi.out _).mono ?_; rintro e w2 ⟨rfl, rfl⟩)
            | fail)
          all_goals first
            | exact ⟨⟨i + 1, by simp, by omega, by rw [HC.out.1, HRW.out, if_pos (by omega)], HS.out.setv (by have e := HC.out.2; rw [HRW.out, if_pos (by omega)] at e; omega)⟩, by simp [intOf]; omega⟩
            | exact ⟨⟨i + 1, by simp, by omega, by rw [HC.out.1, HRW.out, if_neg (by omega), if_pos (by omega)], HS.out.setv (by have e := HC.out.2; rw [HRW.out, if_neg (by omega), if_pos (by omega)] at e; omega)⟩, by simp [intOf]; omega⟩
            | exact ⟨⟨i + 1, by simp, by omega, by rw [HC.out.1, HRW.out, if_neg (by omega), if_neg (by omega)], HS.out.setv (by have e := HC.out.2; rw [HRW.out, if_neg (by omega), if_neg (by omega)] at e; omega)⟩, by simp [intOf]; omega⟩
            | (exfalso; omega)
            | fail
          trace_state
      · have hle : ¬ (i : Int) ≤ n := by have := HL.out.2.1; omega
        have hfin := HB.out
        rw [show i = N by omega] at hfin
        rw [show outAt N (sby a.data.toList b.data.toList less) N = sumL a.data.toList b.data.toList less N by unfold outAt sumL; simp] at hfin
        have hzl := sumL_length a.data.toList b.data.toList less N
        have hpl := HL.out.2.2
        generalize sumL a.data.toList b.data.toList less N = z at hfin hzl hpl
        have HF := Lib.hid (And.intro hfin (And.intro hpl hzl)); clear hfin hpl hzl
        go_wp2_with fail
        go_loopw [12] (fun fv wx => ∃ k : Nat, fv = .int .i64 k ∧ k ≤ n ∧ wx = wr ∧ Lib.trimLeftB z 48 = Lib.trimLeftB (z.drop k) 48) (fun fv _ => n - (intOf fv).toNat)
        case atStart => exact ⟨0, rfl, Nat.zero_le _, rfl, rfl⟩
        case round =>
          obtain ⟨k, rfl, hk, rfl, ht⟩ := hrel
          have HT := Lib.hid ht; clear ht
          have hN2 := HL.out.2.1
          have hback := HF.out.1.backAt k (n := N - k) (by rw [HF.out.2.2]) (N - k)
          by_cases hkn : k < n
          · have hkn1 : (k : Int) < n := by omega
            have hcg : z[k]? = some (z[k]'(by rw [HF.out.2.2]; omega)) := List.getElem?_eq_getElem _
            have hcell := HF.out.1.cell hcg
            have hdr := List.drop_eq_getElem_cons (l := z) (i := k) (by rw [HF.out.2.2]; omega)
            generalize z[k]'(by rw [HF.out.2.2]; omega) = c at hcell hcg hdr
            have kN : (k : Int) < N := by omega
            have kN2 : (k : Int) ≤ N := by omega
            by_cases hc : c = 48
            · subst hc
              have ht2 : Lib.trimLeftB z 48 = Lib.trimLeftB (z.drop (k + 1)) 48 := by rw [HT.out, hdr, trimL_cons, if_pos rfl]
              have HT2 := Lib.hid ht2; clear ht2 hdr hcg hN2
              go_wp2_with fail
              all_goals first
                | exact ⟨⟨k + 1, by simp, by omega, trivial, HT2.out⟩, by simp [intOf]; omega⟩
                | trace_state
            · have hc2 : ¬ (c.toNat : Int) = 48 := fun e => hc (UInt8.toNat_inj.1 (by show c.toNat = 48; omega))
              have hfinal := trim_keep z n k (by rw [HF.out.2.2]; omega) hk HT.out (.inr (by rw [hcg]; intro e; injection e with e; exact hc e))
              have HFI := Lib.hid hfinal; clear hfinal hdr hcg hc hN2
              go_wp2_with fail
              go_ret
              exact ⟨by rw [HF.out.2.1, HFI.out]; rfl, HF.out.1.below⟩
          · have hfinal := trim_keep z n k (by rw [HF.out.2.2]; omega) hk HT.out (.inl (by omega))
            have HFI := Lib.hid hfinal; clear hfinal
            have hkn1 : ¬ (k : Int) < n := by omega
            have kN2 : (k : Int) ≤ N := by omega
            clear hN2
            go_wp2_with fail
            go_ret
            exact ⟨by rw [HF.out.2.1, HFI.out]; rfl, HF.out.1.below⟩
end Go.Proofs.YtpnnbffhdhbonaaGreatDoor
