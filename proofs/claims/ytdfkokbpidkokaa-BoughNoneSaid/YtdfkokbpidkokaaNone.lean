/- rosterlaw12.BoughNone: without an order there is no bough, and what there is not tells zeros: the law's walk, for every input. -/
import Derived.Test.YtdfkokbpidkokaaNilB
import Derived.Test.YtdfkokbpidkokaaAlive
namespace Go.Proofs.Ytdfkokbpidkokaa
open Go.RowKit Go.Shelf

attribute [local go_sem] Oper.semAt_some

theorem nil_range {p1 p2 : Nat} {g : Operand} {body : Code} {Q : Exit → Act → World → Prop} {a : Act} {w : World} {q : Nat} (hg : a.eval g = .func (.func 68) #[] #[.pointer (some ⟨q, 0, none⟩)]) (hq : w.cell? ⟨q, 0, none⟩ = some (.slice none 0 0))
    (hQ : ∀ D W, w.heap.size ≤ D → Chg (fun _ => False) w W → W.heap[D]? = some (.deferred (some [])) → Q .normal { a with defers := { target := .collected D, args := #[] } :: a.defers } W) :
    (Code.rangeFunc g #[p1, p2] Code.skip body).wpIn Fence.wide 5 Try.prog Q a w := by
  have hlt := World.block_lt_of_cell? w _ hq
  refine wpIn_rangeFunc_ownG (F := Fence.wide) (n := 5) rfl (by decide) (gf := 68) (lb := #[.pointer (some ⟨q, 0, none⟩)]) hg trivial (enters_of Try.func68 (by kernel_rfl) rfl)
    (seq_stopsB Fence.wide 4 trivial rfl (by decide) q q [] (by decide) w hlt hlt ⟨none, 0, 0, hq, fun h => absurd h (by decide), fun j h => absurd h (by simp)⟩) KG.trans (fun W l o o' => KG.putObj hlt W l o o') (Below.refl _ _) (fun _ => rfl)
    (fun _ W => Chg (fun _ => False) w W)
    (fun _ _ _ => False)
    (fun s W W' row hs hg hr => hs.grown hg (fun k e hk => absurd hk (by have := (hr k e).1; omega)))
    (fun _ _ _ _ _ hs _ _ => hs)
    (Chg.refl _ _)
    (fun x => { tmps := (a.tmps.setIfInBounds p1 (.int .i64 x.1)).setIfInBounds p2 (.string x.2), defers := [] }) ?assign ?body ?done ?stop
  case assign =>
    intro l x W K hK
    gi_wp2
    exact hK
  case body =>
    intro l pre x W _ h
    exact absurd h (by simp)
  case done =>
    intro D ys W hD _ hc hd
    exact hQ D W hD hc hd
  case stop =>
    rintro D c pre W _ _ h _
    exact h.elim

def nilF (q : Nat) : Value := .func (.func 68) #[] #[.pointer (some ⟨q, 0, none⟩)]
/-- what the loop reads: the list of three iterators at s, each over nothing -/
structure Three (w : World) (s q1 q2 q3 : Nat) (W : World) : Prop where
  res : W.heap[w.heap.size]? = some (.cells #[.bool false] 4)
  row : W.heap[s]? = some (.cells #[nilF q1, nilF q2, nilF q3] 51)
  c1 : W.cell? ⟨q1, 0, none⟩ = some (.slice none 0 0)
  c2 : W.cell? ⟨q2, 0, none⟩ = some (.slice none 0 0)
  c3 : W.cell? ⟨q3, 0, none⟩ = some (.slice none 0 0)
  old : Chg (fun x => w.heap.size ≤ x) w W
  big : w.heap.size < W.heap.size
theorem Three.chg {w W W' : World} {s q1 q2 q3 : Nat} (h : Three w s q1 q2 q3 W) (hc : Chg (fun _ => False) W W') : Three w s q1 q2 q3 W' where
  res := (hc.block _ h.big (fun h => h)).trans h.res
  row := (hc.block _ (Array.getElem?_eq_some_iff.1 h.row).1 (fun h => h)).trans h.row
  c1 := (World.cell?_of_block (hc.block q1 (World.block_lt_of_cell? W _ h.c1) (fun h => h))).trans h.c1
  c2 := (World.cell?_of_block (hc.block q2 (World.block_lt_of_cell? W _ h.c2) (fun h => h))).trans h.c2
  c3 := (World.cell?_of_block (hc.block q3 (World.block_lt_of_cell? W _ h.c3) (fun h => h))).trans h.c3
  old := h.old.trans (hc.mono fun _ _ h => h.elim)
  big := Nat.lt_of_lt_of_le h.big hc.size
theorem Three.l1 {w W : World} {s q1 q2 q3 : Nat} (h : Three w s q1 q2 q3 W) : W.cell? ⟨s, 0, none⟩ = some (nilF q1) := by rw [cell_of_row W s 0 _ _ (0, 0) h.row]; rfl
theorem Three.l2 {w W : World} {s q1 q2 q3 : Nat} (h : Three w s q1 q2 q3 W) : W.cell? ⟨s, 1, none⟩ = some (nilF q2) := by rw [cell_of_row W s 1 _ _ (0, 0) h.row]; rfl
theorem Three.l3 {w W : World} {s q1 q2 q3 : Nat} (h : Three w s q1 q2 q3 W) : W.cell? ⟨s, 2, none⟩ = some (nilF q3) := by rw [cell_of_row W s 2 _ _ (0, 0) h.row]; rfl

set_option maxRecDepth 100000 in
set_option maxHeartbeats 4000000 in
theorem none_any (k : Int) (v : ByteArray) (w : World) : Calls Try.prog 6 #[.int .i64 k, .string v] w fun e w' => e = .returned (.bool true) ∧ Chg (fun _ => False) w w' := by
  refine (callsIn_wide (n := 5)).1 (callsIn_of_wp_marks Try.func6 rfl trivial ?_ rfl)
  simp only [Try.ntmps6, List.size_toArray, List.length_cons, List.length_nil, Nat.reduceAdd, Nat.reduceSub, Array.replicate_succ, Array.replicate_zero, List.push_toArray, List.append_toArray, List.nil_append, List.cons_append]
  gi_wp2_with fail
  refine ⟨trivial, ?_⟩
  refine ((callsIn_wide (n := 4)).2 (new_nilB _)).mono ?_
  rintro e w1 ⟨rfl, rfl⟩
  have hR : (w.alloc (.cells #[.bool false] 4)).heap[w.heap.size]? = some (.cells #[.bool false] 4) := heap_alloc_new _ _
  have hB : Chg (fun x => w.heap.size ≤ x) w (w.alloc (.cells #[.bool false] 4)) := (Chg.refl _ w).alloc _
  have hl0 : w.heap.size < (w.alloc (.cells #[.bool false] 4)).heap.size := by simp
  have HR := Lib.hid (And.intro hR (And.intro hB hl0)); clear hR hB hl0
  gi_wp2_with fail
  refine ⟨trivial, ?_⟩
  refine ((callsIn_wide (n := 4)).2 (get_nilB _ _)).mono ?_
  rintro e w1 ⟨rfl, hc1⟩
  gi_wp2_with fail
  refine ⟨trivial, ?_⟩
  refine ((callsIn_wide (n := 4)).2 (nth_nilB _ _)).mono ?_
  rintro e w2 ⟨rfl, hc2⟩
  gi_wp2_with fail
  refine ⟨trivial, ?_⟩
  refine ((callsIn_wide (n := 4)).2 (from_nilB _ _)).mono ?_
  rintro e w3 ⟨rfl, hw3⟩
  have H2 : Hid (w2.heap[w.heap.size]? = some (.cells #[.bool false] 4) ∧ Chg (fun x => w.heap.size ≤ x) w w2 ∧ w.heap.size < w2.heap.size) := by
    obtain ⟨h1, h2, h3⟩ := HR.out
    have hc := hc1.trans hc2
    exact ⟨(hc.block _ h3 (fun h => h)).trans h1, h2.trans (hc.mono fun _ _ h => h.elim), Nat.lt_of_lt_of_le h3 hc.size⟩
  clear HR hc1 hc2
  have hq1 : w3.cell? ⟨w2.heap.size, 0, none⟩ = some (.slice none 0 0) := by rw [← hw3]; exact World.cell?_alloc_new _ _ _ _
  have hs3 : w2.heap.size + 1 = w3.heap.size := by rw [← hw3]; simp
  have hc3 : Chg (fun _ => False) w2 w3 := by rw [← hw3]; exact (Chg.refl _ _).alloc _
  have H3 := Lib.hid (And.intro hq1 (And.intro hs3 hc3)); clear hq1 hs3 hc3 hw3
  gi_wp2_with fail
  refine ⟨trivial, ?_⟩
  refine ((callsIn_wide (n := 4)).2 (up_nilB _ _)).mono ?_
  rintro e w4 ⟨n4, rfl, hw4⟩
  have hq1 : w4.cell? ⟨w3.heap.size, 0, none⟩ = some (.slice none 0 0) := by rw [← hw4]; exact World.cell?_alloc_new (w3.drewN n4) _ _ _
  have hs3 : w3.heap.size + 1 = w4.heap.size := by rw [← hw4]; simp
  have hc3 : Chg (fun _ => False) w3 w4 := by rw [← hw4]; exact ((Chg.refl _ _).drewN _).alloc _
  have H4 := Lib.hid (And.intro hq1 (And.intro hs3 hc3)); clear hq1 hs3 hc3 hw4
  gi_wp2_with fail
  refine ⟨trivial, ?_⟩
  refine ((callsIn_wide (n := 4)).2 (all_nilB _)).mono ?_
  rintro e w5 ⟨rfl, hw5⟩
  have hq1 : w5.cell? ⟨w4.heap.size, 0, none⟩ = some (.slice none 0 0) := by rw [← hw5]; exact World.cell?_alloc_new _ _ _ _
  have hs3 : w4.heap.size + 1 = w5.heap.size := by rw [← hw5]; simp
  have hc3 : Chg (fun _ => False) w4 w5 := by rw [← hw5]; exact (Chg.refl _ _).alloc _
  have H5 := Lib.hid (And.intro hq1 (And.intro hs3 hc3)); clear hq1 hs3 hc3 hw5
  gi_wp2_with fail
  have hne : ∀ (q : Nat) w, (binOp .eql 51 (.func (.func 68) #[] #[.pointer (some ⟨q, 0, none⟩)]) .nilFunc).run Try.prog w = .ok (.bool false) w := fun _ _ => by kernel_rfl
  have T0 : Three w w5.heap.size w2.heap.size w3.heap.size w4.heap.size (w5.alloc (.cells #[nilF w2.heap.size, nilF w3.heap.size, nilF w4.heap.size] 51)) := by
    have hc3 : Chg (fun _ => False) w3 w5 := H4.out.2.2.trans H5.out.2.2
    have hc2 : Chg (fun _ => False) w2 w5 := H3.out.2.2.trans hc3
    have hc5 := (Chg.refl (fun _ => False) w5).alloc (.cells #[nilF w2.heap.size, nilF w3.heap.size, nilF w4.heap.size] 51)
    have hb : w.heap.size < w5.heap.size := Nat.lt_of_lt_of_le H2.out.2.2 hc2.size
    exact {
      res := ((hc2.trans hc5).block _ H2.out.2.2 (fun h => h)).trans H2.out.1
      row := heap_alloc_new _ _
      c1 := (World.cell?_of_block ((hc3.trans hc5).block _ (by have := H3.out.2.1; simp only; omega) (fun h => h))).trans H3.out.1
      c2 := (World.cell?_of_block ((H5.out.2.2.trans hc5).block _ (by have := H4.out.2.1; simp only; omega) (fun h => h))).trans H4.out.1
      c3 := (World.cell?_of_block (hc5.block _ (by have := H5.out.2.1; simp only; omega) (fun h => h))).trans H5.out.1
      old := H2.out.2.1.trans ((hc2.trans hc5).mono fun _ _ h => h.elim)
      big := by simp; omega }
  have HT0 := Lib.hid T0; clear T0 H2 H3 H4 H5
  change (Code.loop _).wpIn _ _ _ _ _ (w5.alloc (.cells #[nilF w2.heap.size, nilF w3.heap.size, nilF w4.heap.size] 51))
  generalize w5.alloc (.cells #[nilF w2.heap.size, nilF w3.heap.size, nilF w4.heap.size] 51) = W0 at HT0 ⊢
  generalize w5.heap.size = s at *
  generalize w2.heap.size = q1 at *
  generalize w3.heap.size = q2 at *
  generalize w4.heap.size = q3 at *
  have HT0b := HT0.out.big
  have l1 := HT0.out.l1
  unfold nilF at l1
  refine wpIn_loop_rounds 4 ?_
  rw [roundsIn_succ]
  gi_wp2_with fail
  refine nil_range (q := q1) rfl HT0.out.c1 fun D1 W1 hD1 hc1 hd1 => ?_
  clear l1
  have HT1 := Lib.hid (HT0.out.chg hc1); clear HT0 hc1
  have HD1 := Lib.hid hd1
  have hd1l : D1 < W1.heap.size := (Array.getElem?_eq_some_iff.1 hd1).1
  clear hd1
  have l2 := HT1.out.l2
  unfold nilF at l2
  gi_wp2_with fail
  rw [roundsIn_succ]
  gi_wp2_with fail
  refine nil_range (q := q2) rfl HT1.out.c2 fun D2 W2 hD2 hc2 hd2 => ?_
  clear l2
  have HT2 := Lib.hid (HT1.out.chg hc2); clear HT1
  have HD2 : Hid (W2.heap[D1]? = some (.deferred (some [])) ∧ W2.heap[D2]? = some (.deferred (some []))) := ⟨(hc2.block _ (Array.getElem?_eq_some_iff.1 HD1.out).1 (fun h => h)).trans HD1.out, hd2⟩
  have hd2l : D2 < W2.heap.size := (Array.getElem?_eq_some_iff.1 hd2).1
  clear hd2 hc2 HD1
  have l3 := HT2.out.l3
  unfold nilF at l3
  gi_wp2_with fail
  rw [roundsIn_succ]
  gi_wp2_with fail
  refine nil_range (q := q3) rfl HT2.out.c3 fun D3 W3 hD3 hc3 hd3 => ?_
  clear l3
  have HT3 := Lib.hid (HT2.out.chg hc3); clear HT2
  have HD3 : Hid (W3.heap[D1]? = some (.deferred (some [])) ∧ W3.heap[D2]? = some (.deferred (some [])) ∧ W3.heap[D3]? = some (.deferred (some []))) :=
    ⟨(hc3.block _ (Array.getElem?_eq_some_iff.1 HD2.out.1).1 (fun h => h)).trans HD2.out.1, (hc3.block _ (Array.getElem?_eq_some_iff.1 HD2.out.2).1 (fun h => h)).trans HD2.out.2, hd3⟩; clear hd3 hc3 HD2
  gi_wp2_with fail
  rw [roundsIn_succ]
  gi_wp2_with fail
  refine ⟨trivial, ?_⟩
  refine ((callsIn_wide (n := 4)).2 (put_nilB _ _ _)).mono ?_
  rintro e W4 ⟨rfl, rfl⟩
  gi_wp2_with fail
  refine ⟨trivial, ?_⟩
  refine ((callsIn_wide (n := 4)).2 (del_nilB _ _)).mono ?_
  rintro e W4 ⟨rfl, rfl⟩
  gi_wp2_with fail
  refine ⟨trivial, ?_⟩
  refine ((callsIn_wide (n := 4)).2 (len_nilB _)).mono ?_
  rintro e W4 ⟨rfl, rfl⟩
  gi_wp2_with fail
  refine ⟨trivial, ?_⟩
  refine ((callsIn_wide (n := 4)).2 (rank_nilB _ _)).mono ?_
  rintro e W4 ⟨rfl, rfl⟩
  gi_wp2_with fail
  refine ⟨trivial, ?_⟩
  refine ((callsIn_wide (n := 4)).2 (alive_any _)).mono ?_
  rintro e W4 ⟨rfl, hc4⟩
  have HT4 := Lib.hid (HT3.out.chg hc4); clear HT3
  have HD4 : Hid (W4.heap[D1]? = some (.deferred (some [])) ∧ W4.heap[D2]? = some (.deferred (some [])) ∧ W4.heap[D3]? = some (.deferred (some []))) :=
    ⟨(hc4.block _ (Array.getElem?_eq_some_iff.1 HD3.out.1).1 (fun h => h)).trans HD3.out.1, (hc4.block _ (Array.getElem?_eq_some_iff.1 HD3.out.2.1).1 (fun h => h)).trans HD3.out.2.1, (hc4.block _ (Array.getElem?_eq_some_iff.1 HD3.out.2.2).1 (fun h => h)).trans HD3.out.2.2⟩; clear hc4 HD3
  have hr := HT4.out.res
  have hrc : W4.cell? ⟨w.heap.size, 0, none⟩ = some (.bool false) := by rw [cell_of_row W4 _ 0 _ _ (0, 0) hr]; rfl
  have hrf : W4.frozen? ⟨w.heap.size, 0, none⟩ = false := frozen_of_row W4 _ 0 _ _ hr
  have HRC := Lib.hid hr; clear hr
  gi_wp2_with fail
  obtain ⟨k1, k2, k3⟩ := HD4.out
  have hbig := HT4.out.old
  have hw0 : w.heap.size < W0.heap.size := HT0b
  have n1 : D1 ≠ w.heap.size := by omega
  have n2 : D2 ≠ w.heap.size := by omega
  have n3 : D3 ≠ w.heap.size := by omega
  have hr2 := HRC.out
  have e0 : ∀ D, D ≠ w.heap.size → (W4.setCell ⟨w.heap.size, 0, none⟩ (.bool true)).heap[D]? = W4.heap[D]? := fun D h => Below.heap_setCell W4 _ _ D h
  refine ⟨by simp, .inl ⟨_, _, rfl, run_takeDeferred ((e0 D3 n3).trans k3), ?_⟩⟩
  refine ⟨by simp, .inl ⟨_, _, rfl, run_takeDeferred ((World.putObj_heap_other (by omega)).trans ((e0 D2 n2).trans k2)), ?_⟩⟩
  refine ⟨by simp, .inl ⟨_, _, rfl, run_takeDeferred ((World.putObj_heap_other (by omega)).trans ((World.putObj_heap_other (by omega)).trans ((e0 D1 n1).trans k1))), ?_⟩⟩
  generalize hW : W4.setCell ⟨w.heap.size, 0, none⟩ (.bool true) = W5 at *
  have hrow5 : W5.heap[w.heap.size]? = some (.cells #[.bool true] 4) := by rw [← hW]; exact heap_setCell_same W4 _ 0 _ 4 _ hr2
  have hch5 : Chg (fun x => w.heap.size ≤ x) w W5 := by rw [← hW]; exact hbig.setCell (p := ⟨w.heap.size, 0, none⟩) (fun _ => Nat.le_refl _) _
  have hp : ∀ (W : World) (D : Nat) (o : Obj), Chg (fun x => x = D) W (W.putObj D o) := fun W D o => ⟨rfl, rfl, rfl, by simp, fun k _ hn => World.putObj_heap_other (by omega)⟩

  generalize hW6 : ((W5.putObj D3 (.deferred none)).putObj D2 (.deferred none)).putObj D1 (.deferred none) = W6 at ⊢
  have hc6 : W6.heap[w.heap.size]? = some (.cells #[.bool true] 4) := by
    rw [← hW6, World.putObj_heap_other (by omega), World.putObj_heap_other (by omega), World.putObj_heap_other (by omega)]; exact hrow5
  have hch6 : Chg (fun _ => False) w W6 := by
    rw [← hW6]
    have h1 := ((hch5.mono (T := fun _ => False) fun k hk hm => absurd hk (by omega)))
    exact ((h1.then (hp _ _ _) (fun k hk e => by omega)).then (hp _ _ _) (fun k hk e => by omega)).then (hp _ _ _) (fun k hk e => by omega)
  have hcell : W6.cell? ⟨w.heap.size, 0, none⟩ = some (.bool true) := by rw [cell_of_row W6 _ 0 _ _ (0, 0) hc6]; rfl
  clear hW hW6 e0 k1 k2 k3
  refine ⟨.bool true, ?_, rfl, hch6⟩
  simp [results, go_sem, hcell]

theorem none_walk (k : Int) (_ : (Lit.int .i64 k).wf = true) (v : ByteArray) (_ : v.size ≤ maxLen) (w : World) : Calls Try.prog 6 #[.int .i64 k, .string v] w fun e w' => e = .returned (.bool true) ∧ Below w.heap.size w w' :=
  (none_any k v w).mono fun _ _ ⟨he, hc⟩ => ⟨he, hc.below (Nat.le_refl _) (fun _ _ h => h)⟩
end Go.Proofs.Ytdfkokbpidkokaa
