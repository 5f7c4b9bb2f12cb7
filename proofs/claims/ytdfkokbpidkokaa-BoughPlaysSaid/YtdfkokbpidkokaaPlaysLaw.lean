/- rosterlaw12.BoughPlays: two boughs, any calls, against the document's answer: the law's walk. -/
import Derived.Test.YtdfkokbpidkokaaPlaySt
import Derived.Deep.CutBlock
namespace Go.Proofs.Ytdfkokbpidkokaa
open Go.RowKit

def psnew (o : Int) (w : World) : World := ((w.alloc (.cells #[.int .i64 o] 3)).alloc (.cells #[.func (.func 51) #[] #[.pointer (some ⟨w.heap.size, 0, none⟩)], .slice none 0 0, .int .i64 0] 99)).alloc (.cells #[.int .i64 o, .slice none 0 0] 102)
theorem psnew_chg (o : Int) (w : World) : Chg (fun _ => False) w (psnew o w) := (((Chg.refl _ w).alloc _).alloc _).alloc _
theorem psnew_size (o : Int) (w : World) : (psnew o w).heap.size = w.heap.size + 1 + 1 + 1 := by simp [psnew]
theorem new_ps (o : Int) (w : World) : ∃ FT, PS o (w.heap.size + 1) (w.heap.size + 1 + 1) [] [] 16 FT (psnew o w) ∧ ∀ x ∈ FT, w.heap.size ≤ x := by
  obtain ⟨F, h1, h2, h3⟩ := new_liveB o w
  have hl := h1.lt
  have hc := (Chg.refl (fun _ => False) ((w.alloc (.cells #[.int .i64 o] 3)).alloc (.cells #[.func (.func 51) #[] #[.pointer (some ⟨w.heap.size, 0, none⟩)], .slice none 0 0, .int .i64 0] 99))).alloc (.cells #[.int .i64 o, .slice none 0 0] 102)
  have hp := new_prep o ((w.alloc (.cells #[.int .i64 o] 3)).alloc (.cells #[.func (.func 51) #[] #[.pointer (some ⟨w.heap.size, 0, none⟩)], .slice none 0 0, .int .i64 0] 99))
  simp only [World.size_alloc] at hp hl
  refine ⟨F ++ [w.heap.size + 1 + 1], ⟨F, none, 0, (h1.chg hc (fun _ _ h => h)).mono (by omega), hp, fun x hx => ⟨by have := hl x hx; omega, by simp⟩, rfl⟩, fun x hx => ?_⟩
  rw [List.mem_append, List.mem_singleton] at hx
  rcases hx with hx | rfl
  · exact h3 x hx
  · omega

theorem Try.info55 : (Try.prog.info? 55).map (fun i => (i.zero, i.size, i.bytes)) = some (some (.agg #[.nilFunc, .slice none 0 0]), 2, 32) := by kernel_rfl
/-- what the law is told of a script: call i does D i, with K i, V i, N i -/
def Steps (w : World) (v : Value) (n : Nat) (D K : Nat → Int) (V : Nat → ByteArray) (N : Nat → Int) : Prop :=
  SeesR w v n 4 (fun i j => match j with | 0 => .int .i64 (D i) | 1 => .int .i64 (K i) | 2 => .string (V i) | _ => .int .i64 (N i))

set_option maxRecDepth 100000 in
set_option maxHeartbeats 40000000 in
theorem plays_law {w : World} (o1 o2 : Int) {va vb : Value} {n1 n2 : Nat} {D1 K1 N1 D2 K2 N2 : Nat → Int} {V1 V2 : Nat → ByteArray} (hv1 : Steps w va n1 D1 K1 V1 N1) (hv2 : Steps w vb n2 D2 K2 V2 N2) (hn1 : n1 * 40 ≤ 140737488351232) (hn2 : n2 * 40 ≤ 140737488351232) :
    Calls Try.prog 4 #[.int .i64 o1, .int .i64 o2, va, vb] w fun e w' => e = .returned (.bool true) ∧ Chg (fun _ => False) w w' := by
  obtain ⟨sa1, c1, b1, of1, rfl, hsa1, hc1⟩ := hv1
  obtain ⟨sa2, c2, b2, of2, rfl, hsa2, hc2⟩ := hv2
  have HS1 := Lib.hid hsa1; clear hsa1
  have HS2 := Lib.hid hsa2; clear hsa2
  have HC1 := Lib.hid hc1; clear hc1
  have HC2 := Lib.hid hc2; clear hc2
  go_enter Try.func4, Try.ntmps4
  go_wp2_with fail
  refine (order_any o1 w).mono ?_
  rintro e w1 ⟨rfl, rfl⟩
  go_wp2_with fail
  refine (new_repB _ _).mono ?_
  rintro e w1 ⟨rfl, rfl⟩
  go_wp2_with fail
  refine (new_p o1 _).mono ?_
  rintro e w1 ⟨rfl, hw1⟩
  obtain rfl : psnew o1 w = w1 := hw1
  obtain ⟨F1, P1, f1⟩ := new_ps o1 w
  have hl1 := P1.lt
  have hch1 := psnew_chg o1 w
  simp only [World.size_alloc]
  generalize w.heap.size + 1 + 1 = t1 at P1 ⊢
  generalize w.heap.size + 1 = h1 at P1 ⊢
  generalize w.heap.size = q1
  generalize psnew o1 w = W1 at P1 hl1 hch1 ⊢
  have HA := Lib.hid (And.intro P1 (And.intro f1 (And.intro hl1 hch1))); clear P1 f1 hl1 hch1
  go_wp2_with fail
  refine (order_any o2 W1).mono ?_
  rintro e w1 ⟨rfl, rfl⟩
  go_wp2_with fail
  refine (new_repB _ _).mono ?_
  rintro e w1 ⟨rfl, rfl⟩
  go_wp2_with fail
  refine (new_p o2 _).mono ?_
  rintro e w1 ⟨rfl, hw1⟩
  obtain rfl : psnew o2 W1 = w1 := hw1
  obtain ⟨F2, P2, f2⟩ := new_ps o2 W1
  have hch2 := psnew_chg o2 W1
  simp only [World.size_alloc]
  generalize W1.heap.size + 1 + 1 = t2 at P2 ⊢
  generalize W1.heap.size + 1 = h2 at P2 ⊢
  have hI : PW w o1 h1 t1 o2 h2 t2 0 0 (.slice none 0 0) (psnew o2 W1) :=
    PSt.init (HA.out.1.chg hch2 (fun _ _ h => h)) P2 (fun x hx hy => by have h1 := HA.out.2.2.1 x hx; have h2 := f2 x hy; omega) HA.out.2.1 (fun x hx => by have h1 := f2 x hx; have h2 := HA.out.2.2.2.size; omega) ((HA.out.2.2.2.trans hch2).mono fun _ _ h => h.elim)
  generalize W1.heap.size = q2
  generalize psnew o2 W1 = W2 at hI ⊢
  have HI := Lib.hid hI; clear hI P2 f2 hch2 HA
  go_wp2_with fail
  refine (alive_any _).mono ?_
  rintro e W3 ⟨rfl, hc3⟩
  have HI3 : Hid (PW w o1 h1 t1 o2 h2 t2 0 0 (.slice none 0 0) W3) := by
    obtain ⟨l1, l2, p1, p2, F1, F2, ks, ga, ca, he, hS, hr⟩ := HI.out
    exact ⟨l1, l2, p1, p2, F1, F2, ks, ga, ca, he, hS.same hc3, hr⟩
  clear HI hc3
  go_wp2
  have hcell1 : ∀ W, Chg (fun x => w.heap.size ≤ x) w W → ∀ i, i < n1 → W.cell? ⟨b1, of1 + i * 4, none⟩ = some (.int .i64 (D1 i)) ∧ W.cell? ⟨b1, of1 + i * 4 + 1, none⟩ = some (.int .i64 (K1 i)) ∧ W.cell? ⟨b1, of1 + i * 4 + 2, none⟩ = some (.string (V1 i)) ∧ W.cell? ⟨b1, of1 + i * 4 + 3, none⟩ = some (.int .i64 (N1 i)) := fun W hW i hi => by
    have hk : ∀ j (hj : j < 4), W.cell? ⟨b1, of1 + i * 4 + j, none⟩ = _ := fun j hj => (World.cell?_of_block (hW.block b1 (World.block_lt_of_cell? w _ (HC1.out i hi j hj)) (fun h => by have := World.block_lt_of_cell? w _ (HC1.out i hi j hj); simp only at this; omega))).trans (HC1.out i hi j hj)
    exact ⟨hk 0 (by omega), hk 1 (by omega), hk 2 (by omega), hk 3 (by omega)⟩
  have hcell2 : ∀ W, Chg (fun x => w.heap.size ≤ x) w W → ∀ i, i < n2 → W.cell? ⟨b2, of2 + i * 4, none⟩ = some (.int .i64 (D2 i)) ∧ W.cell? ⟨b2, of2 + i * 4 + 1, none⟩ = some (.int .i64 (K2 i)) ∧ W.cell? ⟨b2, of2 + i * 4 + 2, none⟩ = some (.string (V2 i)) ∧ W.cell? ⟨b2, of2 + i * 4 + 3, none⟩ = some (.int .i64 (N2 i)) := fun W hW i hi => by
    have hk : ∀ j (hj : j < 4), W.cell? ⟨b2, of2 + i * 4 + j, none⟩ = _ := fun j hj => (World.cell?_of_block (hW.block b2 (World.block_lt_of_cell? w _ (HC2.out i hi j hj)) (fun h => by have := World.block_lt_of_cell? w _ (HC2.out i hi j hj); simp only at this; omega))).trans (HC2.out i hi j hj)
    exact ⟨hk 0 (by omega), hk 1 (by omega), hk 2 (by omega), hk 3 (by omega)⟩
  have HCC1 := Lib.hid hcell1; clear hcell1 HC1
  have HCC2 := Lib.hid hcell2; clear hcell2 HC2
  go_loopw [13, 14] (fun av iv wr => ∃ i : Nat, iv = .int .i64 i ∧ i ≤ max n1 n2 ∧ PW w o1 h1 t1 o2 h2 t2 i i av wr) (fun _ iv _ => (max n1 n2 - intOf iv).toNat)
  case atStart => exact ⟨0, rfl, Nat.zero_le _, HI3.out⟩
  case round =>
    clear HI3
    obtain ⟨i, rfl, hi, l1, l2, p1, p2, F1, F2, ks, ga, ca, rfl, hS, hr1, hr2, hr3, hr4, hr5⟩ := hrel
    have HS := Lib.hid hS; clear hS
    by_cases hlt : i < n1 ∨ i < n2
    · by_cases ha : i < n1
      · go_upto_if 58 with fail
        go_cut [13] from 43 to 98 (fun s13 wx => PW w o1 h1 t1 o2 h2 t2 (i + 1) i s13 wx)
        case first =>
          obtain rfl := HS1.out (by omega)
          obtain ⟨k1, k2, k3, k4⟩ := HCC1.out wr HS.out.old i ha
          have b0 : (0 : Int) ≤ i := by omega
          have b1' : (i : Int) < n1 := by omega
          go_wp2_with fail
          refine (step_any HS.out.a HS.out.s1 (by omega) (by omega) (D1 i) (K1 i) (V1 i) (N1 i)).mono ?_
          intro e w2 hso
          obtain ⟨l1', p1', F1', kr, rfl, hS2, hb1, hb2, hkr⟩ := HS.out.step hso
          have HS2' := Lib.hid hS2
          have HKR := Lib.hid hkr
          clear hso hS2 hkr HS k1 k2 k3 k4
          have HFS : Hid (w2.heap.size = w2.heap.size) := rfl
          rcases kr with _ | r
          · simp only [kf, kw]
            have hne0 : ∀ w, (binOp .neq 52 .nilFunc .nilFunc).run Try.prog w = .ok (.bool false) w := fun _ => by kernel_rfl
            go_wp2_with fail
            go_meet
            exact ⟨l1', l2, p1', p2, F1', F2, ks, ga, ca, rfl, HS2'.out.same ((Chg.refl _ w2).alloc _), by omega, by omega, by omega, by omega, hr5⟩
          · simp only [kf, kw]
            have hne1 : ∀ w, (binOp .neq 52 (.func (.func 68) #[] #[.pointer (some ⟨r.q, 0, none⟩)]) .nilFunc).run Try.prog w = .ok (.bool true) w := fun _ => by kernel_rfl
            simp only [sv]
            by_cases h40 : ks.length < 40
            · have h40' : (ks.length : Int) < 40 := by omega
              obtain ⟨i55, hi55, hz0, hz1, hz2⟩ := info_parts Try.info55
              have HI := Lib.hid (And.intro hi55 (And.intro hz0 (And.intro hz1 hz2)))
              clear hi55 hz0 hz1 hz2
              have hby : (ks.length + 1) * 32 ≤ 140737488355328 := by omega
              have HBY := Lib.hid hby; clear hby
              have hcc : Chg (fun _ => False) w2 ((w2.alloc (.cells #[.func (.func 68) #[] #[.pointer (some ⟨r.q, 0, none⟩)], .slice (r.wg.map fun g => (⟨g, 0, none⟩ : Addr)) r.ps.length r.wc] 55)).alloc (.cells #[.func (.func 68) #[] #[.pointer (some ⟨r.q, 0, none⟩)], .slice (r.wg.map fun g => (⟨g, 0, none⟩ : Addr)) r.ps.length r.wc] 55)) := ((Chg.refl _ w2).alloc _).alloc _
              have hnn := news_new (w2.alloc (.cells #[.func (.func 68) #[] #[.pointer (some ⟨r.q, 0, none⟩)], .slice (r.wg.map fun g => (⟨g, 0, none⟩ : Addr)) r.ps.length r.wc] 55)) [.func (.func 68) #[] #[.pointer (some ⟨r.q, 0, none⟩)], .slice (r.wg.map fun g => (⟨g, 0, none⟩ : Addr)) r.ps.length r.wc] #[.func (.func 68) #[] #[.pointer (some ⟨r.q, 0, none⟩)], .slice (r.wg.map fun g => (⟨g, 0, none⟩ : Addr)) r.ps.length r.wc] 55 rfl
              rw [World.size_alloc] at hnn
              have HN := Lib.hid (And.intro hcc (And.intro (HS2'.out.same hcc).k.1 hnn))
              clear hnn
              clear hcc
              go_wp2_with (at_builtin; refine wpList_app0 rfl (.tmp 79) (.tmp 81) 50 rfl 55 i55 (.agg #[.nilFunc, .slice none 0 0]) 2 32 Try.underlying50 HI.out.1 HI.out.2.1 HI.out.2.2.1 HI.out.2.2.2 rfl (by decide) (by decide) ga ks.length ca (kcl ks) rfl HN.out.2.1 (some ⟨w2.heap.size + 1, 0, none⟩) 1 1 [.func (.func 68) #[] #[.pointer (some ⟨r.q, 0, none⟩)], .slice (r.wg.map fun g => (⟨g, 0, none⟩ : Addr)) r.ps.length r.wc] rfl (fun h => by cases h) rfl HN.out.2.2 (fun u hu => by simp at hu; rcases hu with rfl | rfl <;> rfl) HBY.out ?_)
              intro ga' ca' w3 o3 g3 f3
              have hS3 := PSt.more HS2'.out r (HKR.out r rfl).1 (HKR.out r rfl).2 HN.out.1 g3 (f3.imp id (fun e => by simpa using e)) o3
              have HS3 : Hid (PW w o1 h1 t1 o2 h2 t2 (i + 1) i (.slice (ga'.map fun g => (⟨g, 0, none⟩ : Addr)) (ks.length + 1) ca') w3) := ⟨l1', l2, p1', p2, F1', F2, ks ++ [r], ga', ca', by simp, hS3, by omega, by omega, by omega, by omega, by simp; omega⟩
              clear o3 g3 f3 hS3 HN h40 h40'
              go_wp2_with fail
              go_meet
              exact HS3.out
            · have h40' : ¬ (ks.length : Int) < 40 := by omega
              have h40'' : (40 : Int) ≤ ks.length := by omega
              go_wp2_with fail
              go_meet
              exact ⟨l1', l2, p1', p2, F1', F2, ks, ga, ca, rfl, HS2'.out.same ((Chg.refl _ w2).alloc _), by omega, by omega, by omega, by omega, hr5⟩
        case rest =>
          clear HS hr1 hr2 hr3 hr4 hr5
          obtain ⟨l1, l2, p1, p2, F1, F2, ks, ga, ca, rfl, hS, hr1, hr2, hr3, hr4, hr5⟩ := hcut
          have HS := Lib.hid hS; clear hS
          by_cases hb : i < n2
          · clear hlt
            obtain rfl := HS2.out (by omega)
            obtain ⟨k1, k2, k3, k4⟩ := HCC2.out wc HS.out.old i hb
            have b0 : (0 : Int) ≤ i := by omega
            have b2' : (i : Int) < n2 := by omega
            go_wp2_with fail
            refine (step_any HS.out.b HS.out.s2 (by omega) (by omega) (D2 i) (K2 i) (V2 i) (N2 i)).mono ?_
            intro e w4 hso
            obtain ⟨l2', p2', F2', kr, rfl, hS4, hb1, hb2, hkr⟩ := HS.out.flip.step hso
            have HS4 := Lib.hid (hS4.flip.same ((Chg.refl (fun _ => False) w4).alloc (.cells #[kf kr, kw kr] 55)))
            clear hso hS4 hkr HS k1 k2 k3 k4
            rcases kr with _ | r
            all_goals
              simp only [kf, kw, sv] at HS4 ⊢
              go_wp2
              go_roundw
              case rel => exact ⟨i + 1, by go_num, by omega, _, l2', _, p2', _, F2', ks, ga, ca, rfl, HS4.out, by omega, by omega, by omega, by omega, hr5⟩
              case measure => simp [intOf]; omega
          · have hb' : decide (i < n2) = false := by simpa using hb
            clear hlt
            go_wp2
            go_roundw
            case rel => exact ⟨i + 1, by go_num, by omega, l1, l2, p1, p2, F1, F2, ks, ga, ca, rfl, HS.out, by omega, by omega, by omega, by omega, hr5⟩
            case measure => simp [intOf]; omega
      · have hb : i < n2 := by omega
        have ha' : decide (i < n1) = false := by simpa using ha
        clear hlt ha
        obtain rfl := HS2.out (by omega)
        obtain ⟨k1, k2, k3, k4⟩ := HCC2.out wr HS.out.old i hb
        have b0 : (0 : Int) ≤ i := by omega
        have b2' : (i : Int) < n2 := by omega
        go_wp2_with fail
        refine (step_any HS.out.b HS.out.s2 (by omega) (by omega) (D2 i) (K2 i) (V2 i) (N2 i)).mono ?_
        intro e w4 hso
        obtain ⟨l2', p2', F2', kr, rfl, hS4, hb1, hb2, hkr⟩ := HS.out.flip.step hso
        have HS4 := Lib.hid (hS4.flip.same ((Chg.refl (fun _ => False) w4).alloc (.cells #[kf kr, kw kr] 55)))
        clear hso hS4 hkr HS k1 k2 k3 k4
        rcases kr with _ | r
        all_goals
          simp only [kf, kw, sv] at HS4 ⊢
          go_wp2
          go_roundw
          case rel => exact ⟨i + 1, by go_num, by omega, _, l2', _, p2', _, F2', ks, ga, ca, rfl, HS4.out, by omega, by omega, by omega, by omega, hr5⟩
          case measure => simp [intOf]; omega
    · have ha : decide (i < n1) = false := by simp; omega
      have hb : decide (i < n2) = false := by simp; omega
      clear hlt
      go_wp2_with fail
      clear ha hb
      obtain ⟨wo, rfl⟩ : ∃ wo : World, wo = wr := ⟨_, rfl⟩
      go_loopw [19] (fun iv wx => ∃ j : Nat, iv = .int .i64 j ∧ j ≤ ks.length ∧ Chg (fun _ => False) wo wx) (fun iv _ => (ks.length - intOf iv).toNat)
      case atStart => exact ⟨0, rfl, Nat.zero_le _, Chg.refl _ _⟩
      case round =>
        obtain ⟨j, rfl, hj, hch⟩ := hrel
        have HSY := Lib.hid (HS.out.same hch)
        have HCH := Lib.hid hch; clear hch
        by_cases hjl : j < ks.length
        · obtain ⟨g, rfl⟩ : ∃ g, ga = some g := by
            cases ga with
            | none => have := HS.out.k.1.2.1; omega
            | some g => exact ⟨g, rfl⟩
          simp only [Option.map_some]
          have kc1 := HSY.out.k.1.row.cell (kcl_f ks hjl)
          have kc2 := HSY.out.k.1.row.cell (kcl_w ks hjl)
          have hok := HSY.out.k.2 _ (List.getElem_mem hjl)
          have j0 : (0 : Int) ≤ j := by omega
          have j1 : (j : Int) < ks.length := by omega
          generalize ks[j] = r at kc1 kc2 hok
          have HT : Hid (Calls Try.prog 25 #[kf (some r), kw (some r), .int .i64 1] wr.drew fun e w' => e = .returned (.bool true) ∧ Chg (fun _ => False) wr.drew w') := KRec.told (hok.chg (Chg.refl (fun _ => False) wr).drew (fun _ _ h => h)) 1
          simp only [kf, kw, sv] at kc1 kc2 HT
          clear hok
          go_wp2_with fail
          go_region_held3 (fun w' => w'.cell? ⟨g, j * 2, none⟩ = some (.func (.func 68) #[] #[.pointer (some ⟨r.q, 0, none⟩)]) ∧ w'.cell? ⟨g, j * 2 + 1, none⟩ = some (.slice (r.wg.map fun g => (⟨g, 0, none⟩ : Addr)) r.ps.length r.wc))
            (first | exact ⟨kc1, kc2⟩ | exact ⟨kc3, kc4⟩)
            (first
              | (go_at_call 25; refine HT.out.mono ?_; rintro e w5 ⟨rfl, hc5⟩; have hcc5 := (Chg.refl (fun _ => False) wr).drew.trans hc5; have kc3 := (World.cell?_of_block (hcc5.block g (World.block_lt_of_cell? wr _ kc1) (fun h => h))).trans kc1; have kc4 := (World.cell?_of_block (hcc5.block g (World.block_lt_of_cell? wr _ kc2) (fun h => h))).trans kc2; have HC5 := Lib.hid (HCH.out.trans hcc5); clear hc5 hcc5)
              | fail)
          clear kc1 kc2 kc3 kc4 HT HSY HCH
          go_wp2
          go_roundw
          case rel => exact ⟨j + 1, by go_num, hjl, HC5.out⟩
          case measure => simp [intOf]; omega
        · have hjd : decide ((j : Int) < ks.length) = false := by simp; omega
          go_wp2_with fail
          refine (ps_ball HSY.out.a (by omega)).mono ?_
          rintro e v1 hg1
          have hgs := hg1
          obtain ⟨q, g, rfl, hI⟩ := hg1
          have HG1 := Lib.hid hgs; clear hgs
          have HS1' := Lib.hid (HSY.out.same hI.2.2.2.2.2); clear hI
          go_wp2_with fail
          refine (ps_rall HS1'.out.a (by omega)).mono ?_
          rintro e v2 hg2
          have hgs := hg2
          obtain ⟨wg, wc, rfl, hI⟩ := hg2
          obtain ⟨r, hrq, hrw, hrc, hrp, hok, hft⟩ := krec_get (by omega) HG1.out hgs
          have HS2' := Lib.hid (HS1'.out.same hI.2.1); clear hI hgs HG1 hft
          have HT : Hid (Calls Try.prog 25 #[.func (.func 68) #[] #[.pointer (some ⟨q, 0, none⟩)], sv wg l1.length wc, .int .i64 (-1)] v2 fun e w' => e = .returned (.bool true) ∧ Chg (fun _ => False) v2 w') := by
            have := KRec.told hok (-1)
            simp only [kf, kw, hrq, hrw, hrc, hrp] at this
            exact this
          clear hrq hrw hrc hrp hok
          go_wp2_with fail
          refine HT.out.mono ?_
          rintro e v3 ⟨rfl, hc3⟩
          have HS3 := Lib.hid (HS2'.out.same hc3); clear hc3 HS1' HS2' HT
          go_wp2_with fail
          refine (ps_ball HS3.out.b (by omega)).mono ?_
          rintro e v1 hg1
          have hgs := hg1
          obtain ⟨q, g, rfl, hI⟩ := hg1
          have HG1 := Lib.hid hgs; clear hgs
          have HS1' := Lib.hid (HS3.out.same hI.2.2.2.2.2); clear hI
          go_wp2_with fail
          refine (ps_rall HS1'.out.b (by omega)).mono ?_
          rintro e v2 hg2
          have hgs := hg2
          obtain ⟨wg, wc, rfl, hI⟩ := hg2
          obtain ⟨r, hrq, hrw, hrc, hrp, hok, hft⟩ := krec_get (by omega) HG1.out hgs
          have HS2' := Lib.hid (HS1'.out.same hI.2.1); clear hI hgs HG1 hft
          have HT : Hid (Calls Try.prog 25 #[.func (.func 68) #[] #[.pointer (some ⟨q, 0, none⟩)], sv wg l2.length wc, .int .i64 (-1)] v2 fun e w' => e = .returned (.bool true) ∧ Chg (fun _ => False) v2 w') := by
            have := KRec.told hok (-1)
            simp only [kf, kw, hrq, hrw, hrc, hrp] at this
            exact this
          clear hrq hrw hrc hrp hok
          go_wp2_with fail
          refine HT.out.mono ?_
          rintro e v3 ⟨rfl, hc3⟩
          have HS6 := Lib.hid (HS2'.out.same hc3); clear hc3 HS1' HS2' HT
          go_wp2_with fail
          refine (ps_blen HS6.out.a).mono ?_
          rintro e v7 ⟨rfl, rfl⟩
          go_wp2_with fail
          refine (ps_rlen HS6.out.a).mono ?_
          rintro e v7 ⟨rfl, rfl⟩
          go_wp2_with fail
          refine (ps_blen HS6.out.b).mono ?_
          rintro e v7 ⟨rfl, rfl⟩
          go_wp2_with fail
          refine (ps_rlen HS6.out.b).mono ?_
          rintro e v7 ⟨rfl, rfl⟩
          go_wp2_with fail
          go_ret
          exact ⟨rfl, HS6.out.old.mono (T := fun _ => False) fun k hk hm => by omega⟩
end Go.Proofs.Ytdfkokbpidkokaa
