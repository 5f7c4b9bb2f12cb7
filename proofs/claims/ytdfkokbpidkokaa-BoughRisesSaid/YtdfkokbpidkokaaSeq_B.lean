/- bough.over's closure at [int, string]: it tells all pairs, in order. -/
import Derived.Test.YtdfkokbpidkokaaIterB
import Derived.RangeFuncNested
import Derived.RangeFuncBound
import Derived.RangeFuncCalls
import Derived.RangeFuncLeaves
import Derived.RangeFuncBox
import Derived.Shelf.Abstract
import Derived.OwnWalkIn
import Derived.TacticsInMore
import Derived.LoopNIn
import Derived.LoopIn
namespace Go.Proofs.Ytdfkokbpidkokaa
open Go.RowKit Go.Shelf

attribute [local go_sem] Oper.semAt_some

set_option maxRecDepth 100000 in
set_option maxHeartbeats 2000000 in
theorem seq_inB (F : Fence) (n : Nat) (h7 : F.fn 68) (hro : F.round = none) (hn : 1 ≤ n) (l q g : Nat) (ps : List (Int × ByteArray)) (hN : ps.length ≤ 4611686018427387903) (J Jx : List (Int × ByteArray) → World → Prop)
    (hY : ∀ pre x W, J pre W → pre.length < ps.length → YieldAt F (n - 1) Try.prog l #[.int .i64 x.1, .string x.2] W fun e W' =>
      (e = .returned (.bool true) ∧ J (pre ++ [x]) W' ∧ KG g W W') ∨ (e = .returned (.bool false) ∧ Jx (pre ++ [x]) W'))
    (hJ : ∀ s W o, J s W → J s (W.alloc o)) (W : World) (hI : IterAt (.int .i64) W q g (ps.map fun p => (p.1, .string p.2))) (h0 : J [] W) :
    CallsIn F n Try.prog 68 #[.func (.yield l) #[] #[], .pointer (some ⟨q, 0, none⟩)] W fun e W' => (∃ v, e = .returned v) ∧
      ((∃ ys, ys = ps ∧ J ys W') ∨ (∃ pre, pre <+: ps ∧ Jx pre W')) := by
  obtain ⟨sa, o, c, hc1, hsa, hcells⟩ := hI
  rw [List.length_map] at hc1 hsa
  refine callsIn_of_wp Try.func68 rfl h7 ?_ hro
  simp only [Try.ntmps68, List.size_toArray, List.length_cons, List.length_nil, Nat.reduceAdd, Nat.reduceSub, Array.replicate_succ, Array.replicate_zero, List.push_toArray, List.append_toArray, List.nil_append, List.cons_append]
  have hcell : ∀ k (h : k < ps.length), W.cell? ⟨g, o + k * 2, none⟩ = some (.int .i64 (ps[k]).1) ∧ W.cell? ⟨g, o + k * 2 + 1, none⟩ = some (.string (ps[k]).2) := fun k hk => by
    have := hcells k (by simpa using hk)
    simpa using this
  clear hcells
  have HC := Lib.hid hcell; clear hcell
  have HSA := Lib.hid hsa; clear hsa
  gi_wp2
  clear hc1
  gi_loopw [7] (fun i wr => ∃ k : Nat, k ≤ ps.length ∧ i = .int .i64 k ∧ J (ps.take k) wr ∧ KG g W wr)
    (fun i _ => ps.length - (intOf i).toNat)
  case atStart => exact ⟨0, Nat.zero_le _, rfl, h0, KG.refl _ _⟩
  case round =>
    obtain ⟨k, hk, rfl, hJs, hnx⟩ := hrel
    by_cases hlt : k < ps.length
    · obtain rfl := HSA.out (by omega)
      have hc1 : wr.cell? ⟨g, o + k * 2, none⟩ = some (.int .i64 (ps[k]).1) := hnx.cell (HC.out k hlt).1
      have hc2 : wr.cell? ⟨g, o + k * 2 + 1, none⟩ = some (.string (ps[k]).2) := hnx.cell (HC.out k hlt).2
      have hJ1 : J (ps.take k) (wr.alloc (.cells #[.int .i64 (ps[k]).1, .string (ps[k]).2] 120)) := hJ _ _ _ hJs
      obtain ⟨fn, tmps, assign, body, hy, hR⟩ := hY _ (ps[k]) _ hJ1 (by rw [List.length_take]; omega)
      have HR := Lib.hid hR; clear hR
      have HJ1 := Lib.hid hJ1; clear hJ1
      gi_wp2
      refine HR.out.mono ?_
      rintro e W3 (⟨rfl, hJ3, hk3⟩ | ⟨rfl, hJx3⟩)
      · gi_wp2
        go_roundw
        case rel => exact ⟨k + 1, hlt, by simp, by rw [List.take_succ_eq_append_getElem hlt]; exact hJ3, (hnx.alloc _).trans hk3⟩
        case measure => simp [intOf]; omega
      · gi_wp2
        refine bodyPost_ret (results_none rfl _ _ _) rfl ?_
        exact ⟨⟨_, rfl⟩, .inr ⟨_, by rw [← List.take_succ_eq_append_getElem hlt]; exact List.take_prefix _ _, hJx3⟩⟩
    · obtain rfl : k = ps.length := by omega
      gi_wp2
      go_end0
      exact ⟨⟨_, rfl⟩, .inl ⟨_, rfl, by rw [List.take_length] at hJs; exact hJs⟩⟩

theorem seq_stopsB (F : Fence) (n : Nat) (h7 : F.fn 68) (hro : F.round = none) (hn : 1 ≤ n) (q g : Nat) (ps : List (Int × ByteArray)) (hN : ps.length ≤ 4611686018427387903) (w : World) (hq : q < w.heap.size) (hg : g < w.heap.size)
    (hI : IterAt (.int .i64) w q g (ps.map fun p => (p.1, .string p.2))) :
    SeqStopsK F n Try.prog 68 #[.pointer (some ⟨q, 0, none⟩)] (fun x : Int × ByteArray => #[.int .i64 x.1, .string x.2]) (KG g) (fun ys => ys = ps) (fun pre => pre <+: ps) ps.length w := fun l J Jx W hW hJ _ hY h0 => by
  refine seq_inB F n h7 hro hn l q g ps hN J Jx hY (fun s W1 o h => ?_) W (hI.below hW hq (fun _ => hg)) h0
  exact hJ s W1 _ none h (World.grownBy_alloc W1 o none) (fun r e => by cases e)
end Go.Proofs.Ytdfkokbpidkokaa
