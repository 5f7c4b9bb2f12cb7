/- Lists of ints in memory; two of them compared (function 35), one turned round (40), an iterator's pairs gathered (33). -/
import Derived.Test.YtdfkokbpidkokaaSeq_C
import Derived.RangeFuncWrites
import Derived.OwnWalkIn
namespace Go.Proofs.Ytdfkokbpidkokaa
open Go.RowKit Go.Shelf

/-- the slice value v reads as the ints xs -/
def SeesI (w : World) (v : Value) (xs : List Int) : Prop :=
  ∃ sa c g o, v = .slice sa xs.length c ∧ (0 < xs.length → sa = some ⟨g, o, none⟩) ∧ ∀ j (h : j < xs.length), w.cell? ⟨g, o + j, none⟩ = some (.int .i64 (xs[j]))
def iv (xs : List Int) : List Value := xs.map (Value.int .i64)
theorem iv_len (xs : List Int) : (iv xs).length = xs.length := by simp [iv]
theorem iv_one (xs : List Int) : ∀ u ∈ iv xs, u.oneCell' = true := by
  intro u hu
  obtain ⟨x, _, rfl⟩ := List.mem_map.1 hu
  rfl
theorem SeesI.chg {w w' : World} {v : Value} {xs : List Int} (h : SeesI w v xs) {S : Nat → Prop} (hc : Chg S w w') (hS : ∀ g, g < w.heap.size → ¬ S g) : SeesI w' v xs := by
  obtain ⟨sa, c, g, o, h1, h2, h3⟩ := h
  refine ⟨sa, c, g, o, h1, h2, fun j hj => ?_⟩
  have hl := World.block_lt_of_cell? w _ (h3 j hj)
  exact (World.cell?_of_block (hc.block g hl (hS g hl))).trans (h3 j hj)
theorem SeesI.of_own {w : World} {go : Option Nat} {n cap : Nat} {xs : List Int} (h : Own w 3 1 go n cap (iv xs)) : SeesI w (sv go n cap) xs := by
  have hl := h.len
  rw [iv_len, Nat.mul_one] at hl
  subst hl
  cases go with
  | none =>
    have h0 : xs.length = 0 := h.2.1
    exact ⟨none, cap, 0, 0, rfl, fun h => absurd h (by omega), fun j h => absurd h (by omega)⟩
  | some g =>
    refine ⟨_, cap, g, 0, rfl, fun _ => rfl, fun j hj => ?_⟩
    rw [Nat.zero_add]
    exact h.row.cell (by simp [iv, hj])

theorem take_step {xs ys : List Int} {k : Nat} (h : xs.take k = ys.take k) (h1 : k < xs.length) (h2 : k < ys.length) (e : xs[k] = ys[k]) : xs.take (k + 1) = ys.take (k + 1) := by
  rw [List.take_succ_eq_append_getElem h1, List.take_succ_eq_append_getElem h2, h, e]
theorem take_apart {xs ys : List Int} {k : Nat} (h1 : k < xs.length) (h2 : k < ys.length) (e : xs[k] ≠ ys[k]) : xs ≠ ys := fun h => e (by subst h; rfl)

set_option maxRecDepth 20000 in
set_option maxHeartbeats 1000000 in
theorem ints_any {w : World} {va vb : Value} {a b : List Int} (ha : SeesI w va a) (hb : SeesI w vb b) (hl : a.length ≤ 4611686018427387903) (hl2 : b.length ≤ 4611686018427387903) :
    Calls Try.prog 35 #[va, vb] w fun e w' => e = .returned (.bool (decide (a = b))) ∧ ∃ n, w' = w.drewN n := by
  obtain ⟨sa, ca, ga, oa, rfl, h1, h2⟩ := ha
  obtain ⟨sb, cb, gb, ob, rfl, h3, h4⟩ := hb
  have HA := Lib.hid (And.intro h1 h2); clear h1 h2
  have HB := Lib.hid (And.intro h3 h4); clear h3 h4
  by_cases hn : a.length = b.length
  · have t1 : (((a.length : Int) != b.length)) = false := by simp; omega
    have HN := Lib.hid hn; clear hn
    go_enter Try.func35, Try.ntmps35
    go_wp2
    clear t1
    go_loopw [5] (fun iv wr => ∃ k : Nat, iv = .int .i64 k ∧ k ≤ a.length ∧ a.take k = b.take k ∧ ∃ n, wr = w.drewN n)
      (fun iv _ => (a.length - intOf iv).toNat)
    case atStart => exact ⟨0, rfl, Nat.zero_le _, rfl, 0, rfl⟩
    case round =>
      obtain ⟨k, rfl, hk, ht, n, hw⟩ := hrel
      have HT := Lib.hid (And.intro ht hw)
      by_cases hlt : k < a.length
      · have hlt2 : k < b.length := by have := HN.out; omega
        have hkb : (k : Int) < b.length := by omega
        obtain rfl := HA.out.1 (by omega)
        obtain rfl := HB.out.1 (by omega)
        have c1 : wr.cell? ⟨ga, oa + k, none⟩ = some (.int .i64 (a[k])) := by rw [hw]; exact HA.out.2 k hlt
        have c2 : wr.cell? ⟨gb, ob + k, none⟩ = some (.int .i64 (b[k])) := by rw [hw]; exact HB.out.2 k hlt2
        clear ht hw
        have k0 : (0 : Int) ≤ k := by omega
        by_cases he : a[k] = b[k]
        · have t2 : (a[k] != b[k]) = false := by simp [he]
          have HE := Lib.hid he; clear he
          go_wp2
          go_quiet (fail)
          go_wp2
          go_roundw
          case rel => exact ⟨k + 1, by go_num, hlt, take_step HT.out.1 hlt hlt2 HE.out, n + nq, by rw [HT.out.2]; simp [World.drewN, Nat.add_assoc]⟩
          case measure => simp [intOf]; omega
        · have t2 : (a[k] != b[k]) = true := by simp [he]
          have HE := Lib.hid he; clear he
          go_wp2
          go_quiet (fail)
          go_wp2
          go_ret
          refine ⟨?_, n + nq, by rw [HT.out.2]; simp [World.drewN, Nat.add_assoc]⟩
          rw [decide_eq_false (take_apart hlt hlt2 HE.out)]
          rfl
      · clear ht hw
        go_wp2
        go_ret
        refine ⟨?_, n, HT.out.2⟩
        have h1 := HT.out.1
        have hn := HN.out
        rw [List.take_of_length_le (by omega), List.take_of_length_le (by omega)] at h1
        rw [decide_eq_true h1]
        rfl
  · have t1 : (((a.length : Int) != b.length)) = true := by simp; omega
    have hd : decide (a = b) = false := decide_eq_false fun h => hn (by rw [h])
    have HD := Lib.hid hd; clear hd hn
    go_enter Try.func35, Try.ntmps35
    go_wp2
    go_ret
    exact ⟨by rw [HD.out]; rfl, 0, rfl⟩

theorem Try.info3 : (Try.prog.info? 3).map (fun i => (i.zero, i.size, i.bytes)) = some (some (.int .i64 0), 1, 8) := by kernel_rfl

theorem Own.chg {S : Nat → Prop} {w w' : World} {e sz n cap : Nat} {go : Option Nat} {xs : List Value} (h : Own w e sz go n cap xs) (hc : Chg S w w') (hn : ∀ g, go = some g → ¬ S g) : Own w' e sz go n cap xs :=
  h.keep fun g hg => hc.block g (by subst hg; exact h.row.lt) (hn g hg)

/-- a slice of the call's own: nothing, or in a block that was not there in w0 -/
def Fresh (w0 : World) (go : Option Nat) : Prop := ∀ g, go = some g → w0.heap.size ≤ g
theorem Fresh.none (w0 : World) : Fresh w0 none := fun _ h => by cases h
theorem Fresh.step {w0 w1 : World} {go go' : Option Nat} (h : Fresh w0 go) (hs : w0.heap.size ≤ w1.heap.size) (e : go' = go ∨ go' = some w1.heap.size) : Fresh w0 go' := by
  intro g hg
  rcases e with rfl | rfl
  · exact h g hg
  · simp only [Option.some.injEq] at hg; omega

set_option maxRecDepth 20000 in
set_option maxHeartbeats 1000000 in
theorem back_any {w : World} {v : Value} {xs : List Int} (hv : SeesI w v xs) (hl : xs.length * 8 ≤ 140737488355328) :
    Calls Try.prog 40 #[v] w fun e w' => ∃ go cap, e = .returned (sv go xs.length cap) ∧ Own w' 3 1 go xs.length cap (iv xs.reverse) ∧ Fresh w go ∧ Chg (fun _ => False) w w' := by
  have HV := Lib.hid hv
  obtain ⟨sa, ca, ga, oa, rfl, h1, h2⟩ := hv
  have HA := Lib.hid (And.intro h1 h2); clear h1 h2
  obtain ⟨i0, hi, hz0, hz1, hz2⟩ := info_parts Try.info3
  have HI := Lib.hid (And.intro hi (And.intro hz0 (And.intro hz1 hz2)))
  clear hi hz0 hz1 hz2
  have hw1 := IntWalk.i64_in ((xs.length : Int) - 1) (by omega)
  go_enter Try.func40, Try.ntmps40
  go_wp2
  clear hw1
  go_loopw [3, 4] (fun mv iv' wr => ∃ (k : Nat) (go : Option Nat) (cap : Nat), iv' = .int .i64 ((xs.length : Int) - 1 - k) ∧ k ≤ xs.length ∧ mv = sv go k cap ∧ Own wr 3 1 go k cap (iv (xs.reverse.take k)) ∧ Fresh w go ∧ Chg (fun _ => False) w wr)
    (fun _ iv' _ => (intOf iv' + 1).toNat)
  case atStart => exact ⟨0, none, 0, by simp, Nat.zero_le _, rfl, by simpa [iv] using Own.nil _ _ _, Fresh.none _, Chg.refl _ _⟩
  case round =>
    obtain ⟨k, go, cap, rfl, hk, rfl, hown, hfr, hch⟩ := hrel
    by_cases hlt : k < xs.length
    · obtain ⟨j, hj⟩ : ∃ j, j = xs.length - 1 - k := ⟨_, rfl⟩
      have hj2 : (xs.length : Int) - 1 - k = j := by omega
      have hjl : j < xs.length := by omega
      rw [hj2]
      obtain rfl := HA.out.1 (by omega)
      have c1 : wr.cell? ⟨ga, oa + j, none⟩ = some (.int .i64 (xs[j])) := (World.cell?_of_block (hch.block ga (World.block_lt_of_cell? w _ (HA.out.2 j hjl)) (fun h => h))).trans (HA.out.2 j hjl)
      have hx : (xs.reverse.take (k + 1)) = xs.reverse.take k ++ [xs[j]] := by
        rw [List.take_succ_eq_append_getElem (by simpa using hlt)]
        congr 2
        rw [List.getElem_reverse]
        congr 1
        omega
      have hown1 : Own (wr.alloc (.cells #[.int .i64 (xs[j])] 3)) 3 1 go k cap (iv (xs.reverse.take k)) := hown.chg ((Chg.refl (fun _ => False) wr).alloc _) (fun _ _ h => h)
      have HO := Lib.hid (And.intro hown1 (And.intro hfr (And.intro hch hx))); clear hown hown1 hfr hch hx
      have hnews := news_new wr [.int .i64 (xs[j])] #[.int .i64 (xs[j])] 3 rfl
      have HNE := Lib.hid hnews; clear hnews
      have HJ := Lib.hid hj; clear hj hj2
      have hb : (k + 1) * 8 ≤ 140737488355328 := by omega
      have HB := Lib.hid hb; clear hb
      have b0 : (0 : Int) ≤ j := by omega
      have b1 : (j : Int) < xs.length := by omega
      have hw2 := IntWalk.i64_in ((j : Int) - 1) (by omega)
      go_wp2_with (at_builtin; refine wpList_app0 rfl (.tmp 12) (.tmp 17) 25 rfl 3 i0 (.int .i64 0) 1 8 Try.underlying25 HI.out.1 HI.out.2.1 HI.out.2.2.1 HI.out.2.2.2 rfl (by decide) (by decide) go k cap (iv (xs.reverse.take k)) rfl HO.out.1 (some ⟨wr.heap.size, 0, none⟩) 1 1 [.int .i64 (xs[j])] rfl (fun h => by cases h) rfl HNE.out (fun u hu => by simp at hu; subst hu; rfl) HB.out ?_)
      intro go' cap' w3 h3 h4 h5
      have hres : Own w3 3 1 go' (k + 1) cap' (iv (xs.reverse.take (k + 1))) ∧ Fresh w go' ∧ Chg (fun _ => False) w w3 := by
        obtain ⟨g1, g2, g3, g4⟩ := HO.out
        refine ⟨by rw [g4]; simpa [iv] using h3, ?_, ?_⟩
        · refine g2.step (w1 := wr.alloc (.cells #[.int .i64 (xs[j])] 3)) ?_ (by simpa using h5)
          have := g3.size; simp; omega
        · refine (g3.alloc _).grown h4 (fun k' e hk' => ?_)
          have := g2 k' e; omega
      have HRES := Lib.hid hres
      clear h3 h4 h5 hres c1
      go_wp2
      go_roundw
      case rel => exact ⟨k + 1, go', cap', by have := HJ.out; congr 1; omega, hlt, rfl, HRES.out.1, HRES.out.2.1, HRES.out.2.2⟩
      case measure => have := HJ.out; simp [intOf] <;> omega
    · obtain rfl : k = xs.length := by omega
      have hm1 : ((xs.length : Int) - 1 - xs.length) = -1 := by omega
      rw [hm1]
      have HO := Lib.hid (And.intro hown (And.intro hfr hch)); clear hown hfr hch hm1
      go_wp2
      go_ret
      refine ⟨go, cap, rfl, ?_, HO.out.2.1, HO.out.2.2⟩
      have h1 := HO.out.1
      rwa [List.take_of_length_le (by simp)] at h1
end Go.Proofs.Ytdfkokbpidkokaa
