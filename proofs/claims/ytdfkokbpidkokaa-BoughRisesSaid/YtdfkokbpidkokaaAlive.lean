/- rosterlaw12.alive: it is true, and nothing that lay is turned. -/
import Derived.Test.YtdfkokbpidkokaaLiveB
import Derived.RangeFuncWrites
namespace Go.Proofs.Ytdfkokbpidkokaa
open Go.RowKit Go.Shelf

attribute [local go_sem] Oper.semAt_some

def sA : Value := .string ⟨#[97]⟩
def sB : Value := .string ⟨#[98]⟩
def sC : Value := .string ⟨#[99]⟩
def fl1 : List (Int × Value) := [(11, sA)]
def fl2 : List (Int × Value) := [(11, sA), (35, sB)]
def fl3 : List (Int × Value) := [(19, sC), (35, sB)]
def fl4 : List (Int × Value) := [(35, sB)]
theorem p1 : putL (cmpI 2) [] 11 (.string ⟨#[97]⟩) = fl1 := by kernel_rfl
theorem p2 : putL (cmpI 2) fl1 35 (.string ⟨#[98]⟩) = fl2 := by kernel_rfl
theorem p3 : putL (cmpI 2) fl2 19 (.string ⟨#[99]⟩) = fl3 := by kernel_rfl
theorem b1 : (!hasL (cmpI 2) ([] : List (Int × Value)) 11) = true := by kernel_rfl
theorem b2 : (!hasL (cmpI 2) fl1 35) = true := by kernel_rfl
theorem b3 : (!hasL (cmpI 2) fl2 19) = false := by kernel_rfl
theorem b4 : hasL (cmpI 2) fl3 12 = true := by kernel_rfl
theorem g4 : (getL (cmpI 2) fl3 12).getD (.string ByteArray.empty) = .string ⟨#[99]⟩ := by kernel_rfl
theorem r5 : rk (cmpI 2) fl3 20 = 1 := by kernel_rfl
theorem r6 : rk (cmpI 2) fl3 40 = 2 := by kernel_rfl
theorem d7 : delL (cmpI 2) fl3 12 = fl4 := by kernel_rfl
theorem so1 : Sorted (cmpI 2) fl1 := by rw [← p1]; exact putL_sorted (cmpI_ord 2) sorted_nil _ _
theorem so2 : Sorted (cmpI 2) fl2 := by rw [← p2]; exact putL_sorted (cmpI_ord 2) so1 _ _
theorem so3 : Sorted (cmpI 2) fl3 := by rw [← p3]; exact putL_sorted (cmpI_ord 2) so2 _ _

section
variable {w0 w : World} {h : Nat} {p : Nat}
theorem al1 (H : LiveB 2 w0 w h [] 0) : Calls Try.prog 47 #[.pointer (some ⟨h, 0, none⟩), .int .i64 11, .string ⟨#[97]⟩] w fun e w' => e = .returned (.bool true) ∧ Hid (LiveB 2 w0 w' h fl1 100) := by
  refine (put_liveB H 11 ⟨#[97]⟩ sorted_nil (by decide)).mono ?_
  rintro e w' ⟨rfl, L⟩
  rw [p1] at L
  exact ⟨by rw [b1], L.mono (by decide)⟩
theorem al2 (H : LiveB 2 w0 w h fl1 100) : Calls Try.prog 47 #[.pointer (some ⟨h, 0, none⟩), .int .i64 35, .string ⟨#[98]⟩] w fun e w' => e = .returned (.bool true) ∧ Hid (LiveB 2 w0 w' h fl2 101) := by
  refine (put_liveB H 35 ⟨#[98]⟩ so1 (by decide)).mono ?_
  rintro e w' ⟨rfl, L⟩
  rw [p2] at L
  exact ⟨by rw [b2], L.mono (by decide)⟩
theorem al3 (H : LiveB 2 w0 w h fl2 101) : Calls Try.prog 47 #[.pointer (some ⟨h, 0, none⟩), .int .i64 19, .string ⟨#[99]⟩] w fun e w' => e = .returned (.bool false) ∧ Hid (LiveB 2 w0 w' h fl3 102) := by
  refine (put_liveB H 19 ⟨#[99]⟩ so2 (by decide)).mono ?_
  rintro e w' ⟨rfl, L⟩
  rw [p3] at L
  exact ⟨by rw [b3], L.mono (by decide)⟩
theorem al4 (H : LiveB 2 w0 w h fl3 102) : Calls Try.prog 43 #[.pointer (some ⟨h, 0, none⟩), .int .i64 12] w fun e w' => e = .returned (.tuple #[.string ⟨#[99]⟩, .bool true]) ∧ Hid (LiveB 2 w0 w' h fl3 102) := by
  refine (get_liveB H 12 so3 (by decide)).mono ?_
  rintro e w' ⟨rfl, L⟩
  exact ⟨by rw [b4, g4], L⟩
theorem al5 (H : LiveB 2 w0 w h fl3 102) : Calls Try.prog 44 #[.pointer (some ⟨h, 0, none⟩), .int .i64 1] w fun e w' => e = .returned (.tuple #[.int .i64 35, .string ⟨#[98]⟩, .bool true]) ∧ Hid (LiveB 2 w0 w' h fl3 102) := by
  refine (nth_live_inB H (by decide) 1 (by decide)).mono ?_
  rintro e w' ⟨rfl, L⟩
  exact ⟨rfl, L⟩
theorem al6 (H : LiveB 2 w0 w h fl3 102) : Calls Try.prog 45 #[.pointer (some ⟨h, 0, none⟩), .int .i64 20] w fun e w' => ∃ q g, e = .returned (.func (.func 68) #[] #[.pointer (some ⟨q, 0, none⟩)]) ∧
    Hid (IterAt (.int .i64) w' q g fl4 ∧ w.heap.size ≤ q ∧ w.heap.size ≤ g ∧ q < w'.heap.size ∧ g < w'.heap.size ∧ Chg (fun _ => False) w w' ∧ LiveB 2 w0 w' h fl3 102) := by
  refine (from_liveB H 20 so3 (by decide)).mono ?_
  rintro e w' ⟨⟨q, g, he, r⟩, L⟩
  rw [r5] at r
  exact ⟨q, g, he, r.1, r.2.1, r.2.2.1, r.2.2.2.1, r.2.2.2.2.1, r.2.2.2.2.2, L⟩
theorem al7 (H : LiveB 2 w0 w h fl3 102) : Calls Try.prog 49 #[.pointer (some ⟨h, 0, none⟩), .int .i64 40] w fun e w' => e = .returned (.int .i64 2) ∧ ∃ n, w' = w.drewN n := by
  obtain ⟨F, h1, h2, h3⟩ := H
  refine (rank_hasB h1 40 so3 (by decide)).mono ?_
  rintro e w' ⟨rfl, L⟩
  exact ⟨by rw [r6]; rfl, L⟩
theorem al8 (H : LiveB 2 w0 w h fl3 102) : Calls Try.prog 28 #[.pointer (some ⟨h, 0, none⟩)] w fun e w' => e = .returned (.int .i64 2) ∧ w = w' := by
  obtain ⟨F, h1, h2, h3⟩ := H
  exact len_hasB h1
theorem al9 (H : LiveB 2 w0 w h fl3 102) : Calls Try.prog 48 #[.pointer (some ⟨h, 0, none⟩), .int .i64 12] w fun e w' => e = .returned (.bool true) ∧ Hid (LiveB 2 w0 w' h fl4 102) := by
  refine (del_liveB H 12 so3 (by decide)).mono ?_
  rintro e w' ⟨rfl, L⟩
  rw [d7] at L
  exact ⟨by rw [b4], L⟩
theorem al7' {F : List Nat} (h1 : HasB 2 w h fl3 102 F) : Calls Try.prog 49 #[.pointer (some ⟨h, 0, none⟩), .int .i64 40] w fun e w' => e = .returned (.int .i64 2) ∧ ∃ n, w' = w.drewN n := by
  refine (rank_hasB h1 40 so3 (by decide)).mono ?_
  rintro e w' ⟨rfl, L⟩
  exact ⟨by rw [r6]; rfl, L⟩
theorem al9' {F : List Nat} (h1 : HasB 2 w h fl3 102 F) : Calls Try.prog 48 #[.pointer (some ⟨h, 0, none⟩), .int .i64 12] w fun e w' => e = .returned (.bool true) ∧ Hid (TurnedB 2 w h fl4 102 F w') := by
  refine (del_hasB h1 12 so3 (by decide)).mono ?_
  rintro e w' ⟨rfl, L⟩
  rw [d7] at L
  exact ⟨by rw [b4], L⟩
theorem al10 (H : LiveB 2 w0 w h fl4 102) : Calls Try.prog 28 #[.pointer (some ⟨h, 0, none⟩)] w fun e w' => e = .returned (.int .i64 1) ∧ w = w' := by
  obtain ⟨F, h1, h2, h3⟩ := H
  exact len_hasB h1
end

def sumW : List Int → Int := List.foldl (fun s v => wrap64 (s + v)) 0
theorem sum35 : sumW (List.map (fun x => x.1) [((35 : Int), (⟨#[98]⟩ : ByteArray))]) = 35 := by kernel_rfl
theorem sumW_snoc (pre : List Int) (x : Int) : sumW (pre ++ [x]) = wrap64 (sumW pre + x) := by simp [sumW]

set_option maxRecDepth 100000 in
set_option maxHeartbeats 4000000 in
theorem alive_any (w : World) : Calls Try.prog 20 #[] w fun e w' => e = .returned (.bool true) ∧ Chg (fun _ => False) w w' := by
  refine (callsIn_wide (n := 5)).1 (callsIn_of_wp_marks Try.func20 rfl trivial ?_ rfl)
  simp only [Try.ntmps20, List.size_toArray, List.length_nil, Nat.reduceSub, Array.replicate_succ, Array.replicate_zero, List.push_toArray, List.append_toArray, List.nil_append, List.cons_append]
  gi_wp2_with fail
  refine ⟨trivial, ?_⟩
  refine ((callsIn_wide (n := 4)).2 (order_any 2 w)).mono ?_
  rintro e w1 ⟨rfl, rfl⟩
  gi_wp2_with fail
  refine ⟨trivial, ?_⟩
  refine ((callsIn_wide (n := 4)).2 (new_repB _ _)).mono ?_
  rintro e w1 ⟨rfl, rfl⟩
  have L0 := Lib.hid (new_liveB 2 w)
  generalize hW : (w.alloc (.cells #[.int .i64 2] 3)).alloc (.cells #[.func (.func 51) #[] #[.pointer (some ⟨w.heap.size, 0, none⟩)], .slice none 0 0, .int .i64 0] 99) = W0 at *
  simp only [World.size_alloc]
  generalize hh : w.heap.size + 1 = h at *
  have HH := Lib.hid hh
  clear hW hh
  gi_wp2_with fail
  refine ⟨trivial, ?_⟩
  refine ((callsIn_wide (n := 4)).2 (al1 L0.out)).mono ?_
  rintro e w1 ⟨rfl, L1⟩
  gi_wp2_with fail
  refine ⟨trivial, ?_⟩
  refine ((callsIn_wide (n := 4)).2 (al2 L1.out)).mono ?_
  rintro e w2 ⟨rfl, L2⟩
  gi_wp2_with fail
  refine ⟨trivial, ?_⟩
  refine ((callsIn_wide (n := 4)).2 (al3 L2.out)).mono ?_
  rintro e w3 ⟨rfl, L3⟩
  gi_wp2_with fail
  refine ⟨trivial, ?_⟩
  refine ((callsIn_wide (n := 4)).2 (al4 L3.out)).mono ?_
  rintro e w4 ⟨rfl, L4⟩
  gi_wp2_with fail
  refine ⟨trivial, ?_⟩
  refine ((callsIn_wide (n := 4)).2 (al5 L4.out)).mono ?_
  rintro e w5 ⟨rfl, L5⟩
  have hcn : (w5.alloc (.cells #[.int .i64 0] 3)).cell? ⟨w5.heap.size, 0, none⟩ = some (.int .i64 0) := World.cell?_alloc_new _ _ _ _
  have HCN := Lib.hid hcn; clear hcn
  have HFZ : Hid ((w5.alloc (.cells #[.int .i64 0] 3)).frozen? ⟨w5.heap.size, 0, none⟩ = false) := frozen_of_row _ _ _ #[.int .i64 0] 3 (heap_alloc_new _ _)
  have L5' : Hid (LiveB 2 w (w5.alloc (.cells #[.int .i64 0] 3)) h fl3 102) := L5.out.chg ((Chg.refl _ w5).alloc _)
  have hwn : w.heap.size ≤ w5.heap.size := L5.out.frame.size
  gi_wp2_with fail
  refine ⟨trivial, ?_⟩
  refine ((callsIn_wide (n := 4)).2 (al6 L5'.out)).mono ?_
  rintro e w6 ⟨q, g, rfl, X⟩
  have hne : ∀ w, (binOp .eql 52 (.func (.func 68) #[] #[.pointer (some ⟨q, 0, none⟩)]) .nilFunc).run Try.prog w = .ok (.bool false) w := fun _ => by kernel_rfl
  gi_wp2
  have HX := Lib.hid X; clear X
  have hq6 := HX.out.2.2.2.1
  have hg6 := HX.out.2.2.2.2.1
  have hcn6 : w6.cell? ⟨w5.heap.size, 0, none⟩ = some (.int .i64 0) := (World.cell?_of_block (HX.out.2.2.2.2.2.1.block w5.heap.size (by simp) (fun h => h))).trans HCN.out
  have hfz6 : w6.frozen? ⟨w5.heap.size, 0, none⟩ = false := (World.frozen?_of_block (HX.out.2.2.2.2.2.1.block w5.heap.size (by simp) (fun h => h))).trans HFZ.out
  have hgn : g ≠ w5.heap.size := by have := HX.out.2.2.1; simp at this; omega
  have hn6 : w5.heap.size < w6.heap.size := World.block_lt_of_cell? w6 _ hcn6
  clear hne
  refine wpIn_rangeFunc_ownG (F := Fence.wide) (n := 5) rfl (by decide) (gf := 68) (lb := #[.pointer (some ⟨q, 0, none⟩)]) rfl trivial (enters_of Try.func68 (by kernel_rfl) rfl)
    (seq_stopsB Fence.wide 4 trivial rfl (by decide) q g [(35, ⟨#[98]⟩)] (by decide) w6 hq6 hg6 HX.out.1) KG.trans (fun W l o o' => KG.putObj hg6 W l o o') (Below.refl _ _) (fun _ => rfl)
    (fun pre W => (W.cell? ⟨w5.heap.size, 0, none⟩ = some (.int .i64 (sumW (pre.map (·.1)))) ∧ W.frozen? ⟨w5.heap.size, 0, none⟩ = false) ∧ Chg (fun x => x = w5.heap.size) w6 W)
    (fun _ _ _ => False)
    (OwnFrom.and (Own.from (fun s A B row hs hg hr => ⟨cell_kept hs.1 hg hr, (frozen_kept hs.1 hg hr).trans hs.2⟩) _) (fun s W W' row hs hg hr => hs.grown hg (fun k e hk => absurd hk (by have := (hr k e).1; omega))))
    (fun _ _ _ _ _ hs _ _ => hs)
    ⟨⟨hcn6, hfz6⟩, Chg.refl _ _⟩
    (fun x => { tmps := #[.bool false, .pointer (some ⟨h, 0, none⟩), .bool true, .string ⟨#[99]⟩, .bool true, .int .i64 35, .string ⟨#[98]⟩, .bool true, .pointer (some ⟨w5.heap.size, 0, none⟩), .func (.func 68) #[] #[.pointer (some ⟨q, 0, none⟩)], .int .i64 x.1, .func (.func 51) #[] #[.pointer (some ⟨w.heap.size, 0, none⟩)], .pointer (some ⟨h, 0, none⟩), .pointer (some ⟨h, 0, none⟩), .bool false, .pointer (some ⟨h, 0, none⟩), .bool true, .bool true, .pointer (some ⟨h, 0, none⟩), .bool true, .bool true, .bool true, .pointer (some ⟨h, 0, none⟩), .bool false, .bool true, .bool true, .tuple #[.string ⟨#[99]⟩, .bool true], .pointer (some ⟨h, 0, none⟩), .tuple #[.string ⟨#[99]⟩, .bool true], .string ⟨#[99]⟩, .bool true, .tuple #[.int .i64 35, .string ⟨#[98]⟩, .bool true], .pointer (some ⟨h, 0, none⟩), .tuple #[.int .i64 35, .string ⟨#[98]⟩, .bool true], .int .i64 35, .string ⟨#[98]⟩, .bool true, .pointer (some ⟨h, 0, none⟩), .func (.func 68) #[] #[.pointer (some ⟨q, 0, none⟩)], .func (.func 68) #[] #[.pointer (some ⟨q, 0, none⟩)], .bool false, .func (.func 68) #[] #[.pointer (some ⟨q, 0, none⟩)], .int .i64 x.1, .string x.2, undef, undef, undef, undef, undef, undef, undef, undef, undef, undef, undef, undef, undef, undef, undef, undef, undef, undef, undef, undef, undef, undef, undef, undef, undef, undef, undef, undef, undef, undef, undef, undef, undef, undef, undef, undef, undef, undef, undef, undef, undef, undef, undef, undef, undef], defers := [] }) ?assign ?body ?done ?stop
  case assign =>
    intro l x W K hK
    gi_wp2
    exact hK
  case body =>
    rintro l pre x W ⟨⟨hc, hf⟩, hB⟩ _
    gi_wp2
    refine ⟨(KeepsOthers.setCell _ _ _).from _, KG.chg (Chg.setCell (S := fun x => x = w5.heap.size) (Chg.refl _ W) (p := ⟨w5.heap.size, 0, none⟩) (fun _ => rfl) _) hgn, ⟨?_, by rw [World.frozen?_setCell]; exact hf⟩, hB.setCell (p := ⟨w5.heap.size, 0, none⟩) (fun _ => rfl) _⟩
    rw [List.map_append, List.map_cons, List.map_nil, sumW_snoc]
    exact World.cell?_setCell_same' _ _ _ (by rw [hc]; rfl)
  case done =>
    rintro D ys W hD rfl ⟨⟨hc, _⟩, hB⟩ hK
    obtain ⟨F, h1, h2, h3⟩ := L5.out
    have hlt := h1.lt
    have hCh : Chg (fun x => x = w5.heap.size) w5 W := (((Chg.refl _ w5).alloc _).trans (HX.out.2.2.2.2.2.1.mono fun _ _ h => h.elim)).trans hB
    have H6 : Hid (HasB 2 W h fl3 102 F) := h1.chg hCh (fun k hk e => by have := hlt k hk; omega)
    have HB : Hid (Chg (fun x => w.heap.size ≤ x) w W) := h2.trans (hCh.mono fun k _ e => by omega)
    have HF3 : Hid (∀ x ∈ F, w.heap.size ≤ x) := h3
    have hDF : Hid (D ∉ F) := fun hm => by have := hlt D hm; omega
    have HK := Lib.hid hK
    have hDw : w.heap.size ≤ D := by omega
    have hcl : W.cell? ⟨w5.heap.size, 0, none⟩ = some (.int .i64 35) := by rw [hc, sum35]
    clear hc hlt h1 h2 h3 hK hCh
    gi_wp2_with fail
    refine ⟨trivial, ?_⟩
    refine ((callsIn_wide (n := 4)).2 (al7' H6.out)).mono ?_
    rintro e W1 ⟨rfl, nr, rfl⟩
    have H7 : Hid (HasB 2 (W.drewN nr) h fl3 102 F) := Lib.hid (H6.out.chg ((Chg.refl (fun _ => False) W).drewN nr) (fun _ _ h => h))
    have HB7 : Hid (Chg (fun x => w.heap.size ≤ x) w (W.drewN nr)) := Lib.hid (HB.out.drewN nr)
    have HK7 : Hid ((W.drewN nr).heap[D]? = some (.deferred (some []))) := HK
    generalize W.drewN nr = W1 at H7 HB7 HK7 ⊢
    clear H6 HB HK
    gi_wp2_with fail
    refine ⟨trivial, ?_⟩
    refine ((callsIn_wide (n := 4)).2 (len_hasB H7.out)).mono ?_
    rintro e W2 ⟨rfl, rfl⟩
    gi_wp2_with fail
    refine ⟨trivial, ?_⟩
    refine ((callsIn_wide (n := 4)).2 (al9' H7.out)).mono ?_
    rintro e W2 ⟨rfl, T⟩
    obtain ⟨F', h4, h5, h6⟩ := T.out
    have H8 := Lib.hid h4
    have HB8 : Hid (Chg (fun x => w.heap.size ≤ x) w W2) := Lib.hid (HB7.out.then h5 (fun k hk hm => HF3.out k hm))
    have HK8 : Hid (W2.heap[D]? = some (.deferred (some []))) := Lib.hid ((h5.block D (by have := HK7.out; exact (Array.getElem?_eq_some_iff.1 this).1) hDF.out).trans HK7.out)
    clear h4 h5 h6 T H7 HB7 HK7
    gi_wp2_with fail
    refine ⟨trivial, ?_⟩
    refine ((callsIn_wide (n := 4)).2 (len_hasB H8.out)).mono ?_
    rintro e W3 ⟨rfl, rfl⟩
    gi_wp2_with fail
    refine ⟨by simp, .inl ⟨_, _, rfl, run_takeDeferred HK8.out, ?_⟩⟩
    refine ⟨_, results_tmp rfl _ _ _, rfl, ?_⟩
    refine (HB8.out.mono (T := fun _ => False) fun k hk hm => by omega).then (T := fun x => x = D) ⟨rfl, rfl, rfl, by simp, fun k _ hn => World.putObj_heap_other (by omega)⟩ (fun k hk e => by omega)
  case stop =>
    rintro D c pre W _ _ h _
    exact h.elim
end Go.Proofs.Ytdfkokbpidkokaa
