/- rosterlaw12.BoughTexts: a bough of texts against the document's answer, any calls: the law's walk. -/
import Derived.Test.YtdfkokbpidkokaaTxtSt
import Derived.Test.YtdfkokbpidkokaaAlive
import Derived.Deep.DeepCutAuto
import Derived.Deep.CutBlock
import Derived.Deep.RegionHeld3
namespace Go.Proofs.Ytdfkokbpidkokaa
open Go.RowKit

/-- what the law's walk is told of its script: call i does D i, with the key K i and the list at va i -/
def Words (w : World) (v : Value) (n : Nat) (D : Nat → Int) (K : Nat → ByteArray) (va : Nat → Option Addr) (vn vc : Nat → Nat) : Prop :=
  SeesR w v n 3 (fun i j => match j with | 0 => .int .i64 (D i) | 1 => .string (K i) | _ => .slice (va i) (vn i) (vc i)) ∧ ∀ i, i < n → 0 < vn i → ∃ b o, va i = some ⟨b, o, none⟩

def gv (va : Nat → Option Addr) (vn vc : Nat → Nat) (i : Int) : Value := .slice (va i.toNat) (vn i.toNat) (vc i.toNat)

theorem new_tx (g : Int → Value) (w : World) : TxH w g w.heap.size (w.heap.size + 1) [] [] 16 ((w.alloc (.cells #[.func (.func 9) #[] #[], .slice none 0 0, .int .i64 0] 90)).alloc (.cells #[.slice none 0 0, .slice none 0 0] 30)) := by
  obtain ⟨F, h1, h2, h3⟩ := new_liveA w
  have hl := h1.lt
  have hc := (Chg.refl (fun _ => False) (w.alloc (.cells #[.func (.func 9) #[] #[], .slice none 0 0, .int .i64 0] 90))).alloc (.cells #[.slice none 0 0, .slice none 0 0] 30)
  refine ⟨F, none, none, 0, 0, ⟨(h1.chg hc (fun _ _ h => h)).mono (by omega), ⟨?_, Own.nil _ _ _, Own.nil _ _ _, (fun _ h => by cases h), (fun _ h => by cases h), (fun _ h => by cases h)⟩, fun x hx => ⟨h3 x hx, ?_, by simp, by simp⟩, by omega, (fun _ h => by cases h), (fun _ h => by cases h), h2.trans (hc.mono fun _ _ h => h.elim)⟩⟩
  · have := heap_alloc_new (w.alloc (.cells #[.func (.func 9) #[] #[], .slice none 0 0, .int .i64 0] 90)) (.cells #[.slice none 0 0, .slice none 0 0] 30)
    rwa [World.size_alloc] at this
  · intro e
    have := hl x hx
    simp at this
    omega

def Inv (i : Nat) (l : List (ByteArray × Int)) : Prop := Sorted txc l ∧ l.length ≤ i ∧ ∀ q ∈ l, 0 ≤ q.2 ∧ q.2.toNat < i
theorem Inv.put {i : Nat} {l : List (ByteArray × Int)} (h : Inv i l) (k : ByteArray) : Inv (i + 1) (putL txc l k i) := by
  refine ⟨putL_sorted txc_ord h.1 _ _, ?_, fun q hq => ?_⟩
  · rw [putL_length]
    have := h.2.1
    split <;> omega
  · rcases mem_putL txc hq with rfl | hq
    · simp
    · have := h.2.2 q hq; omega
theorem Inv.del {i : Nat} {l : List (ByteArray × Int)} (h : Inv i l) (k : ByteArray) : Inv (i + 1) (delL txc l k) := by
  refine ⟨delL_sorted h.1 _, ?_, fun q hq => ?_⟩
  · rw [delL_length]
    have := h.2.1
    split <;> omega
  · have := h.2.2 q (mem_delL txc hq); omega
theorem Inv.up {i : Nat} {l : List (ByteArray × Int)} (h : Inv i l) : Inv (i + 1) l := ⟨h.1, by have := h.2.1; omega, fun q hq => by have := h.2.2 q hq; omega⟩
/-- what a round leaves -/
def After (w : World) (g : Int → Value) (h t i bx : Nat) (row : Obj) (wx : World) : Prop := ∃ l', TxE w g h t l' l' (16 + (i + 1)) bx row wx ∧ Inv (i + 1) l'
theorem After.mk {w : World} {g : Int → Value} {h t i bx : Nat} {row : Obj} {wx : World} {l' : List (ByteArray × Int)} {p : Nat} (X : TxE w g h t l' l' p bx row wx) (hp : p ≤ 16 + (i + 1)) (hi : Inv (i + 1) l') : After w g h t i bx row wx := ⟨l', X.mono hp, hi⟩

set_option maxRecDepth 100000 in
set_option maxHeartbeats 4000000 in
theorem texts_law {w : World} {v : Value} {n : Nat} {D : Nat → Int} {K : Nat → ByteArray} {va : Nat → Option Addr} {vn vc : Nat → Nat} (hv : Words w v n D K va vn vc) (hn : n * 48 ≤ 140737488351232) :
    Calls Try.prog 3 #[v] w fun e w' => e = .returned (.bool true) ∧ Chg (fun _ => False) w w' := by
  obtain ⟨⟨sa, c, b, o, rfl, hsa, hcells⟩, hva⟩ := hv
  have HS := Lib.hid hsa; clear hsa
  have HC := Lib.hid hcells; clear hcells
  have HV := Lib.hid hva; clear hva
  have HX0 := Lib.hid (new_tx (gv va vn vc) w)
  go_enter Try.func3, Try.ntmps3
  go_wp2_with fail
  refine (new_repA _).mono ?_
  rintro e w1 ⟨rfl, rfl⟩
  go_wp2
  generalize hW : (w.alloc (.cells #[.func (.func 9) #[] #[], .slice none 0 0, .int .i64 0] 90)).alloc (.cells #[.slice none 0 0, .slice none 0 0] 30) = W0 at *
  have HW := Lib.hid hW; clear hW
  generalize hh : w.heap.size = h at *
  generalize ht : h + 1 = t at *
  have HH := Lib.hid hh; clear hh ht
  go_loopw [5] (fun iv wr => ∃ (i : Nat) (l : List (ByteArray × Int)), iv = .int .i64 i ∧ i ≤ n ∧ TxH w (gv va vn vc) h t l l (16 + i) wr ∧ Inv i l)
    (fun iv _ => (n - intOf iv).toNat)
  case atStart => exact ⟨0, [], rfl, Nat.zero_le _, HX0.out, sorted_nil, Nat.le_refl _, fun _ h => by cases h⟩
  case round =>
    obtain ⟨i, l, rfl, hi, hX, hin⟩ := hrel
    by_cases hlt : i < n
    · obtain rfl := HS.out (by omega)
      have hcD : wr.cell? ⟨b, o + i * 3 + 0, none⟩ = some (.int .i64 (D i)) := (World.cell?_of_block (hX.old.block b (World.block_lt_of_cell? w _ (HC.out i hlt 0 (by omega))) (fun h => by have := World.block_lt_of_cell? w _ (HC.out i hlt 0 (by omega)); simp only at this; omega))).trans (HC.out i hlt 0 (by omega))
      have hcK : wr.cell? ⟨b, o + i * 3 + 1, none⟩ = some (.string (K i)) := (World.cell?_of_block (hX.old.block b (World.block_lt_of_cell? w _ (HC.out i hlt 0 (by omega))) (fun h => by have := World.block_lt_of_cell? w _ (HC.out i hlt 0 (by omega)); simp only at this; omega))).trans (HC.out i hlt 1 (by omega))
      have hcV : wr.cell? ⟨b, o + i * 3 + 2, none⟩ = some (.slice (va i) (vn i) (vc i)) := (World.cell?_of_block (hX.old.block b (World.block_lt_of_cell? w _ (HC.out i hlt 0 (by omega))) (fun h => by have := World.block_lt_of_cell? w _ (HC.out i hlt 0 (by omega)); simp only at this; omega))).trans (HC.out i hlt 2 (by omega))
      rw [Nat.add_zero] at hcD
      have HX := Lib.hid (hX.box (.cells #[.int .i64 (D i), .string (K i), .slice (va i) (vn i) (vc i)] 32)); clear hX
      have HSO := Lib.hid hin; clear hin
      have b1 : (i : Int) < n := by omega
      have b0 : (0 : Int) ≤ i := by omega
      go_upto_block 2 with fail
      clear hcD hcK hcV
      have c1 := HX.out.cell (j := 1) (v := .string (K i)) rfl
      have c2 := HX.out.cell (j := 2) (v := .slice (va i) (vn i) (vc i)) rfl
      have hbl : wr.heap.size < (wr.alloc (.cells #[.int .i64 (D i), .string (K i), .slice (va i) (vn i) (vc i)] 32)).heap.size := by simp
      generalize wr.alloc (.cells #[.int .i64 (D i), .string (K i), .slice (va i) (vn i) (vc i)] 32) = W1 at HX c1 c2 hbl ⊢
      generalize wr.heap.size = bx at HX c1 c2 hbl ⊢
      have hg : gv va vn vc (i : Int) = .slice (va i) (vn i) (vc i) := by simp [gv]
      have HG := Lib.hid hg; clear hg
      have hpb : 16 + i ≤ 70368744177664 := by omega
      have hlb : (l.length + 1) * 16 ≤ 140737488355328 := by have := HSO.out.2.1; omega
      go_cut [7] (fun s7 wx => s7 = .bool true ∧ After w (gv va vn vc) h t i bx (.cells #[.int .i64 (D i), .string (K i), .slice (va i) (vn i) (vc i)] 32) wx)
      case first =>
        by_cases d1 : D i = 1
        · have e1 : (D i == 1) = true := by simp [d1]
          clear d1
          go_wp2_with fail
          go_region_held3 (fun w' => w'.cell? ⟨bx, 1, none⟩ = some (.string (K i)) ∧ w'.cell? ⟨bx, 2, none⟩ = some (.slice (va i) (vn i) (vc i)))
            (first | exact ⟨c1, c2⟩ | exact ⟨H2.out.cell (j := 1) rfl, H2.out.cell (j := 2) rfl⟩ | exact ⟨H3.out.cell (j := 1) rfl, H3.out.cell (j := 2) rfl⟩)
            (first
              | (go_at_call 10; refine (tx_bput HX.out.drew (K i) i (va i) (vn i) (vc i) HG.out HSO.out.1 hpb).mono ?_; rintro e w2 ⟨rfl, H2⟩)
              | (go_at_call 11; refine (tx_tput H2.out (K i) i hlb).mono ?_; rintro e w3 ⟨rfl, H3⟩))
          go_wp2_with fail
          go_meet
          exact ⟨rfl, After.mk H3.out (by omega) (HSO.out.put _)⟩
        · have e1 : (D i == 1) = false := by simpa using d1
          clear d1
          by_cases d2 : D i = 2
          · have e2 : (D i == 2) = true := by simp [d2]
            clear d2
            go_wp2_with fail
            go_region_held3 (fun w' => w'.cell? ⟨bx, 1, none⟩ = some (.string (K i)))
              (first | exact c1 | exact H2.out.cell (j := 1) rfl | exact H3.out.cell (j := 1) rfl)
              (first
                | (go_at_call 12; refine (tx_bdel HX.out.drew (K i) HSO.out.1 hpb).mono ?_; rintro e w2 ⟨rfl, H2⟩)
                | (go_at_call 13; refine (tx_tdel H2.out (K i) hlb).mono ?_; rintro e w3 ⟨rfl, H3⟩))
            go_wp2_with fail
            go_meet
            exact ⟨rfl, After.mk H3.out (by omega) (HSO.out.del _)⟩
          · have e2 : (D i == 2) = false := by simpa using d2
            clear d2
            by_cases d3 : D i = 3
            · have e3 : (D i == 3) = true := by simp [d3]
              clear d3
              have hhg := hasL_isSome txc l (K i)
              cases hgl : getL txc l (K i) with
              | none =>
                have hhf : hasL txc l (K i) = false := by rw [hhg, hgl]; rfl
                have HQ := Lib.hid hgl; clear hgl hhg
                have HF := Lib.hid hhf; clear hhf
                go_wp2_with fail
                refine (tx_bget HX.out (K i) HSO.out.1 hpb).mono ?_
                rw [HQ.out, HF.out]
                rintro e w2 ⟨rfl, H2⟩
                have c1' := H2.out.cell (j := 1) (v := .string (K i)) rfl
                go_wp2_with fail
                refine (tx_tget H2.out (K i) (by omega)).mono ?_
                rw [HQ.out]
                rintro e w3 ⟨rfl, rfl⟩
                go_wp2_with fail
                go_meet
                exact ⟨rfl, After.mk H2.out (by omega) HSO.out.up⟩
              | some m =>
                have hhf : hasL txc l (K i) = true := by rw [hhg, hgl]; rfl
                obtain ⟨q, hq, rfl⟩ := getL_mem txc hgl
                have hq2 := HSO.out.2.2 q hq
                obtain ⟨m, hm⟩ : ∃ m : Nat, q.2 = m := ⟨q.2.toNat, by omega⟩
                rw [hm] at hgl hq2
                clear hq hm
                have hmi : m < i := by have := hq2.2; simpa using this
                have HQ := Lib.hid hgl; clear hgl hhg hq2
                have HF := Lib.hid hhf; clear hhf
                have m0 : (0 : Int) ≤ m := by omega
                have m1 : (m : Int) < n := by omega
                have hgm : gv va vn vc (m : Int) = .slice (va m) (vn m) (vc m) := by simp [gv]
                have HGM := Lib.hid hgm; clear hgm
                go_wp2_with fail
                refine (tx_bget HX.out (K i) HSO.out.1 hpb).mono ?_
                rw [HQ.out, HF.out, Option.map_some, Option.getD_some, HGM.out]
                rintro e w2 ⟨rfl, H2⟩
                have c1' := H2.out.cell (j := 1) (v := .string (K i)) rfl
                go_wp2_with fail
                refine (tx_tget H2.out (K i) (by omega)).mono ?_
                rw [HQ.out, Option.getD_some]
                rintro e w3 ⟨rfl, rfl⟩
                have hbw := World.block_lt_of_cell? w _ (HC.out m (by omega) 2 (by omega))
                have hcm : w2.cell? ⟨b, o + m * 3 + 2, none⟩ = some (.slice (va m) (vn m) (vc m)) := (World.cell?_of_block (H2.out.old.block b hbw (fun h => by simp only at hbw; omega))).trans (HC.out m (by omega) 2 (by omega))
                go_wp2_with fail
                refine (same_any (va m) (vn m) (vc m) (HV.out m (by omega)) w2).mono ?_
                rintro e w3 ⟨rfl, nq, rfl⟩
                go_wp2_with fail
                go_meet
                exact ⟨rfl, After.mk (H2.out.drewN nq) (by omega) HSO.out.up⟩
            · have e3 : (D i == 3) = false := by simpa using d3
              clear d3
              by_cases d4 : D i = 4
              · have e4 : (D i == 4) = true := by simp [d4]
                clear d4
                go_wp2_with fail
                go_quiet (first
                  | (go_at_call 17; exact Calls.quiet_of (tx_brank (HX.out.drewN _) (K i) HSO.out.1 hpb))
                  | (go_at_call 18; exact quiet_eq (tx_trank (HX.out.drewN _) (K i) (by omega))))
                go_wp2_with fail
                go_meet
                exact ⟨rfl, After.mk (HX.out.drewN nq) (by omega) HSO.out.up⟩
              · have e4 : (D i == 4) = false := by simpa using d4
                clear d4
                go_wp2_with fail
                go_meet
                exact ⟨rfl, After.mk HX.out (by omega) HSO.out.up⟩
      case rest =>
        obtain ⟨rfl, l', hX', hin'⟩ := hcut
        have HI := Lib.hid hin'; clear hin'
        obtain ⟨kg, kc, hc0⟩ := hX'.tcell
        have HX2 := Lib.hid hX'; clear hX'
        have t1 : (((l'.length : Nat) : Int) != l'.length) = false := by simp
        clear HX hbl hlb hpb HG HSO
        go_wp2_with fail
        go_quiet ((go_at_call 19; exact quiet_eq (tx_blen (HX2.out.drewN _))))
        clear t1 hc0
        go_wp2
        go_roundw
        case rel => exact ⟨i + 1, l', by go_num, hlt, (HX2.out.drewN nq).head, HI.out⟩
        case measure => simp [intOf]; omega
    · obtain rfl : i = n := by omega
      have HX := Lib.hid hX; clear hX
      have hd : decide ((i : Int) < i) = false := by simp
      go_wp2_with fail
      refine (alive_any _).mono ?_
      rintro e w2 ⟨rfl, hc2⟩
      have HC2 := Lib.hid hc2; clear hc2
      go_wp2_with fail
      go_ret
      exact ⟨rfl, (HX.out.old.mono (T := fun _ => False) fun k hk hm => by omega).trans HC2.out⟩

end Go.Proofs.Ytdfkokbpidkokaa
