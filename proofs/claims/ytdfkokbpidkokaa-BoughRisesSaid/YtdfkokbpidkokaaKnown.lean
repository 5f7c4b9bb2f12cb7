/- rosterlaw12.BoughKnown: the chapter's examples: the closed law's walk. -/
import Derived.Test.YtdfkokbpidkokaaKeepC
import Derived.Test.YtdfkokbpidkokaaRange
import Derived.Test.YtdfkokbpidkokaaAlive
namespace Go.Proofs.Ytdfkokbpidkokaa
open Go.RowKit Go.Shelf

attribute [local go_sem] Oper.semAt_some

def vi (n : Int) : Value := .int .i64 n
def k1 : List (Int × Value) := [(11, vi 1)]
def k2 : List (Int × Value) := [(11, vi 1), (35, vi 2)]
def k3 : List (Int × Value) := [(19, vi 3), (35, vi 2)]
theorem kp1 : putL (cmpI 2) [] 11 (.int .i64 1) = k1 := by kernel_rfl
theorem kp2 : putL (cmpI 2) k1 35 (.int .i64 2) = k2 := by kernel_rfl
theorem kp3 : putL (cmpI 2) k2 19 (.int .i64 3) = k3 := by kernel_rfl
theorem kb1 : (!hasL (cmpI 2) ([] : List (Int × Value)) 11) = true := by kernel_rfl
theorem kb2 : (!hasL (cmpI 2) k1 35) = true := by kernel_rfl
theorem kb3 : (!hasL (cmpI 2) k2 19) = false := by kernel_rfl
theorem kr1 : rk (cmpI 2) k3 35 = 1 := by kernel_rfl
theorem kr2 : rk (cmpI 2) k3 30 = 1 := by kernel_rfl
theorem kr3 : rk (cmpI 2) k3 0 = 0 := by kernel_rfl
theorem ku1 : upL (cmpI 2) k3 39 = 2 := by kernel_rfl
theorem ku2 : upL (cmpI 2) k3 9 = 0 := by kernel_rfl
theorem ks1 : Sorted (cmpI 2) k1 := by rw [← kp1]; exact putL_sorted (cmpI_ord 2) sorted_nil _ _
theorem ks2 : Sorted (cmpI 2) k2 := by rw [← kp2]; exact putL_sorted (cmpI_ord 2) ks1 _ _
theorem ks3 : Sorted (cmpI 2) k3 := by rw [← kp3]; exact putL_sorted (cmpI_ord 2) ks2 _ _

/-- the bough lies at h; the variable that points to it in block b0 -/
def St (w : World) (b0 h : Nat) (fl : List (Int × Value)) (p : Nat) (W : World) : Prop :=
  KeepC 2 w (fun x => x = b0) W h fl p ∧ W.heap[b0]? = some (.cells #[.pointer (some ⟨h, 0, none⟩)] 64) ∧ w.heap.size ≤ b0
section
variable {w : World} {b0 h : Nat} {fl : List (Int × Value)} {p : Nat} {W : World}
theorem St.cell (S : St w b0 h fl p W) : W.cell? ⟨b0, 0, none⟩ = some (.pointer (some ⟨h, 0, none⟩)) := by rw [cell_of_row _ _ 0 _ _ (0, 0) S.2.1]; rfl
theorem St.chg {W' : World} {fl' : List (Int × Value)} {p' : Nat} (S : St w b0 h fl p W) (hk : KeepC 2 w (fun x => x = b0) W' h fl' p') (hc : Chg (fun x => w.heap.size ≤ x ∧ ¬ x = b0) W W') : St w b0 h fl' p' W' :=
  ⟨hk, (hc.block b0 (S.1.lt rfl) (fun h => h.2 rfl)).trans S.2.1, S.2.2⟩
theorem St.same {W' : World} (S : St w b0 h fl p W) (hc : Chg (fun _ => False) W W') : St w b0 h fl p W' := S.chg (S.1.same hc) (hc.mono fun _ _ h => h.elim)
theorem kn1 (S : St w b0 h [] 0 W) : Calls Try.prog 32 #[.pointer (some ⟨h, 0, none⟩), .int .i64 11, .int .i64 1] W fun e w' => e = .returned (.bool true) ∧ Hid (St w b0 h k1 100 w') := by
  refine (put_keepC S.1 11 1 sorted_nil (by decide)).mono ?_
  rintro e w' ⟨rfl, L, hc, _⟩
  rw [kp1] at L
  exact ⟨by rw [kb1], S.chg (L.mono (by decide)) hc⟩
theorem kn2 (S : St w b0 h k1 100 W) : Calls Try.prog 32 #[.pointer (some ⟨h, 0, none⟩), .int .i64 35, .int .i64 2] W fun e w' => e = .returned (.bool true) ∧ Hid (St w b0 h k2 101 w') := by
  refine (put_keepC S.1 35 2 ks1 (by decide)).mono ?_
  rintro e w' ⟨rfl, L, hc, _⟩
  rw [kp2] at L
  exact ⟨by rw [kb2], S.chg (L.mono (by decide)) hc⟩
theorem kn3 (S : St w b0 h k2 101 W) : Calls Try.prog 32 #[.pointer (some ⟨h, 0, none⟩), .int .i64 19, .int .i64 3] W fun e w' => e = .returned (.bool false) ∧ Hid (St w b0 h k3 102 w') := by
  refine (put_keepC S.1 19 3 ks2 (by decide)).mono ?_
  rintro e w' ⟨rfl, L, hc, _⟩
  rw [kp3] at L
  exact ⟨by rw [kb3], S.chg (L.mono (by decide)) hc⟩
/-- a call that tells an iterator -/
theorem knI2 {f : FuncId} {args : Array Value} {W : World} {ps : List (Int × Value)} (h : Calls Try.prog f args W (GivesIterC W ps)) :
    Calls Try.prog f args W fun e w' => ∃ q g, e = .returned (.func (.func 69) #[] #[.pointer (some ⟨q, 0, none⟩)]) ∧ Hid (IterAt (.int .i64) w' q g ps ∧ q < w'.heap.size ∧ g < w'.heap.size ∧ W.heap.size ≤ q ∧ W.heap.size ≤ g ∧ Chg (fun _ => False) W w') :=
  h.mono fun _ _ ⟨q, g, he, h1, h2, h3, h4, h5, h6⟩ => ⟨q, g, he, h1, h4, h5, h2, h3, h6⟩
/-- what stands behind the loop -/
structure Zed (w : World) (X : Nat → Prop) (h B0 N0 D q g : Nat) (W : World) : Prop where
  k : KeepC 2 w X W h [(101, vi 1)] 104
  n : W.heap[N0]? = some (.cells #[.int .i64 2] 3)
  b : W.heap[B0]? = some (.cells #[.pointer (some ⟨h, 0, none⟩)] 64)
  d : W.heap[D]? = some (.deferred (some []))
  i : IterAt (.int .i64) W q g k3
  q : q < W.heap.size
  g : g < W.heap.size
theorem Zed.same {w W W' : World} {X : Nat → Prop} {h B0 N0 D q g : Nat} (Z : Zed w X h B0 N0 D q g W) (hc : Chg (fun _ => False) W W') : Zed w X h B0 N0 D q g W' where
  k := Z.k.same hc
  n := (hc.block _ (Array.getElem?_eq_some_iff.1 Z.n).1 (fun h => h)).trans Z.n
  b := (hc.block _ (Array.getElem?_eq_some_iff.1 Z.b).1 (fun h => h)).trans Z.b
  d := (hc.block _ (Array.getElem?_eq_some_iff.1 Z.d).1 (fun h => h)).trans Z.d
  i := Z.i.keep (hc.block _ Z.q (fun h => h)) (hc.block _ Z.g (fun h => h))
  q := Nat.lt_of_lt_of_le Z.q hc.size
  g := Nat.lt_of_lt_of_le Z.g hc.size
theorem Zed.cb {w W : World} {X : Nat → Prop} {h B0 N0 D q g : Nat} (Z : Zed w X h B0 N0 D q g W) : W.cell? ⟨B0, 0, none⟩ = some (.pointer (some ⟨h, 0, none⟩)) := by rw [cell_of_row _ _ 0 _ _ (0, 0) Z.b]; rfl
theorem Zed.cn {w W : World} {X : Nat → Prop} {h B0 N0 D q g : Nat} (Z : Zed w X h B0 N0 D q g W) : W.cell? ⟨N0, 0, none⟩ = some (.int .i64 2) := by rw [cell_of_row _ _ 0 _ _ (0, 0) Z.n]; rfl
theorem knI {f : FuncId} {args : Array Value} (_ : St w b0 h fl p W) {ps : List (Int × Value)} (h : Calls Try.prog f args W (GivesIterC W ps)) :
    Calls Try.prog f args W fun e w' => ∃ q g, e = .returned (.func (.func 69) #[] #[.pointer (some ⟨q, 0, none⟩)]) ∧ Hid (IterAt (.int .i64) w' q g ps ∧ q < w'.heap.size ∧ g < w'.heap.size ∧ W.heap.size ≤ q ∧ W.heap.size ≤ g ∧ Chg (fun _ => False) W w') :=
  h.mono fun _ _ ⟨q, g, he, h1, h2, h3, h4, h5, h6⟩ => ⟨q, g, he, h1, h4, h5, h2, h3, h6⟩
/-- a call of pairs, and what was seen before -/
theorem knP {q g : Nat} {ps : List (Int × Int)} (hI : IterAt (.int .i64) W q g (ps.map fun p => (p.1, .int .i64 p.2))) (hq : q < W.heap.size) (hg : g < W.heap.size) (hl : ps.length * 8 ≤ 140737488355328) :
    Calls Try.prog 33 #[.func (.func 69) #[] #[.pointer (some ⟨q, 0, none⟩)]] W fun e w' => ∃ va vb, e = .returned (.tuple #[va, vb]) ∧ Hid (SeesI w' va (ps.map (·.1)) ∧ SeesI w' vb (ps.map (·.2)) ∧ Chg (fun _ => False) W w') :=
  (pairs_any hI hq hg hl).mono fun _ _ ⟨go, cap, go2, cap2, he, h1, h2, h3, h4, h5⟩ => ⟨_, _, he, by
    have e1 := SeesI.of_own h1
    have e2 := SeesI.of_own h2
    exact ⟨e1, e2, h5⟩⟩
theorem knR (S : St w b0 h k3 102 W) (k n : Int) (hn : (rk (cmpI 2) k3 k : Int) = n) : Calls Try.prog 37 #[.pointer (some ⟨h, 0, none⟩), .int .i64 k] W fun e w' => e = .returned (.int .i64 n) ∧ Hid (Chg (fun _ => False) W w') := by
  refine (rank_keepC S.1 k ks3 (by decide)).mono ?_
  rintro e w' ⟨rfl, m, rfl⟩
  exact ⟨by rw [hn], (Chg.refl _ W).drewN m⟩
def Seen (W : World) (l : List (Value × List Int)) : Prop := ∀ p ∈ l, SeesI W p.1 p.2
theorem Seen.same {W W' : World} {l : List (Value × List Int)} (H : Seen W l) (hc : Chg (fun _ => False) W W') : Seen W' l := fun p hp => (H p hp).chg hc (fun _ _ h => h)
theorem SeesI.lit {W : World} {g cap : Nat} {t : TypeId} (xs : List Int) (h : W.heap[g]? = some (.cells (iv xs).toArray t (0, 0))) : SeesI W (.slice (some ⟨g, 0, none⟩) xs.length cap) xs := by
  refine ⟨_, cap, g, 0, rfl, fun _ => rfl, fun j hj => ?_⟩
  rw [cell_of_row W g _ _ t (0, 0) h]
  simp [iv, hj]
end

/-- a list held against a literal one -/
theorem knJ {W : World} {va : Value} {xs : List Int} (ys : List Int) (cap : Nat) (hv : SeesI W va xs) (he : xs = ys) (hl : ys.length ≤ 100) :
    Calls Try.prog 35 #[va, .slice (some ⟨W.heap.size, 0, none⟩) ys.length cap] (W.alloc (.cells (iv ys).toArray 3)) fun e w' => e = .returned (.bool true) ∧ Hid (Chg (fun _ => False) W w') := by
  subst he
  have h1 := hv.chg ((Chg.refl (fun _ => False) W).alloc (.cells (iv xs).toArray 3)) (fun _ _ h => h)
  have h2 : SeesI (W.alloc (.cells (iv xs).toArray 3)) (.slice (some ⟨W.heap.size, 0, none⟩) xs.length cap) xs := SeesI.lit xs (heap_alloc_new _ _)
  refine (ints_any h1 h2 (by omega) (by omega)).mono ?_
  rintro e w' ⟨rfl, n, rfl⟩
  exact ⟨by simp, (((Chg.refl _ W).alloc _).drewN n)⟩

/-- a list held against a literal one, whatever of new memory was made ahead -/
theorem knJ' {W V : World} {va : Value} {xs : List Int} (ys : List Int) (cap : Nat) (hv : SeesI V va xs) (he : xs = ys) (hl : ys.length ≤ 100) (hc : Chg (fun _ => False) V W) :
    Calls Try.prog 35 #[va, .slice (some ⟨W.heap.size, 0, none⟩) ys.length cap] (W.alloc (.cells (iv ys).toArray 3)) fun e w' => e = .returned (.bool true) ∧ Hid (Chg (fun _ => False) W w') :=
  knJ ys cap (hv.chg hc (fun _ _ h => h)) he hl

/-- what the loop over All leaves behind some pairs: the bough's pairs, and how many rounds there were -/
def kst (pre : List (Int × Int)) : List (Int × Value) × Int := pre.foldl (fun s x => (putL (cmpI 2) (delL (cmpI 2) s.1 x.1) (100 + s.2) (.int .i64 s.2), s.2 + 1)) (k3, 0)
theorem kst_end : (kst [(19, 3), (35, 2)]).1 = [(101, vi 1)] := by kernel_rfl
theorem kst_snoc (pre : List (Int × Int)) (x : Int × Int) : kst (pre ++ [x]) = (putL (cmpI 2) (delL (cmpI 2) (kst pre).1 x.1) (100 + (kst pre).2) (.int .i64 (kst pre).2), (kst pre).2 + 1) := by simp [kst]
theorem kst_count (pre : List (Int × Int)) : (kst pre).2 = pre.length := by
  suffices h : ∀ (s : List (Int × Value) × Int), (pre.foldl (fun s x => (putL (cmpI 2) (delL (cmpI 2) s.1 x.1) (100 + s.2) (.int .i64 s.2), s.2 + 1)) s).2 = s.2 + pre.length by unfold kst; rw [h]; simp
  induction pre with
  | nil => simp
  | cons x pre ih => intro s; rw [List.foldl_cons, ih]; simp; omega
theorem kst_sorted (pre : List (Int × Int)) : Sorted (cmpI 2) (kst pre).1 := by
  suffices h : ∀ (s : List (Int × Value) × Int), Sorted (cmpI 2) s.1 → Sorted (cmpI 2) (pre.foldl (fun s x => (putL (cmpI 2) (delL (cmpI 2) s.1 x.1) (100 + s.2) (.int .i64 s.2), s.2 + 1)) s).1 from h (k3, 0) ks3
  induction pre with
  | nil => intro s h; exact h
  | cons x pre ih => intro s h; rw [List.foldl_cons]; exact ih _ (putL_sorted (cmpI_ord 2) (delL_sorted h _) _ _)

set_option maxRecDepth 100000 in
set_option maxHeartbeats 4000000 in
theorem known_any (w : World) : Calls Try.prog 7 #[] w fun e w' => e = .returned (.bool true) ∧ Chg (fun _ => False) w w' := by
  refine (callsIn_wide (n := 5)).1 (callsIn_of_wp_marks Try.func7 rfl trivial ?_ rfl)
  simp only [Try.ntmps7, List.size_toArray, List.length_nil, Nat.reduceSub, Array.replicate_succ, Array.replicate_zero, List.push_toArray, List.append_toArray, List.nil_append, List.cons_append]
  gi_wp2_with fail
  refine ⟨trivial, ?_⟩
  refine ((callsIn_wide (n := 4)).2 (order_any 2 w)).mono ?_
  rintro e w1 ⟨rfl, rfl⟩
  gi_wp2_with fail
  refine ⟨trivial, ?_⟩
  refine ((callsIn_wide (n := 4)).2 (new_repC _ _)).mono ?_
  rintro e w1 ⟨rfl, rfl⟩
  have L0 := Lib.hid (new_keepC 2 w)
  generalize hW : (w.alloc (.cells #[.int .i64 2] 3)).alloc (.cells #[.func (.func 51) #[] #[.pointer (some ⟨w.heap.size, 0, none⟩)], .slice none 0 0, .int .i64 0] 111) = W0 at *
  simp only [World.size_alloc]
  generalize hh : w.heap.size + 1 = h at *
  have S0 : Hid (St w W0.heap.size h [] 0 (W0.alloc (.cells #[.pointer (some ⟨h, 0, none⟩)] 64))) :=
    ⟨L0.out.more ((Chg.refl _ _).alloc _) (fun x hx => .inr (by simp; omega)), heap_alloc_new _ _, L0.out.frame.size⟩
  clear hW hh L0
  gi_wp2_with fail
  refine ⟨trivial, ?_⟩
  refine ((callsIn_wide (n := 4)).2 (kn1 S0.out)).mono ?_
  rintro e W1 ⟨rfl, S1⟩
  have hc := S1.out.cell
  gi_wp2_with fail
  refine ⟨trivial, ?_⟩
  refine ((callsIn_wide (n := 4)).2 (kn2 S1.out)).mono ?_
  rintro e W2 ⟨rfl, S2⟩
  clear hc
  have hc := S2.out.cell
  gi_wp2_with fail
  refine ⟨trivial, ?_⟩
  refine ((callsIn_wide (n := 4)).2 (kn3 S2.out)).mono ?_
  rintro e W3 ⟨rfl, S3⟩
  clear hc
  have hc := S3.out.cell
  gi_wp2_with fail
  refine ⟨trivial, ?_⟩
  refine ((callsIn_wide (n := 4)).2 (knI S3.out (all_keepC S3.out.1 (by decide)))).mono ?_
  rintro e W4 ⟨q4, g4, rfl, I4⟩
  clear hc
  have S4 := Lib.hid (S3.out.same I4.out.2.2.2.2.2)
  gi_wp2_with fail
  refine ⟨trivial, ?_⟩
  refine ((callsIn_wide (n := 4)).2 (knP (ps := [(19, 3), (35, 2)]) I4.out.1 I4.out.2.1 I4.out.2.2.1 (by decide))).mono ?_
  rintro e W5 ⟨k, v, rfl, P5⟩
  have S5 := Lib.hid (S4.out.same P5.out.2.2)
  have hc := S5.out.cell
  gi_wp2_with fail
  refine ⟨trivial, ?_⟩
  refine ((callsIn_wide (n := 4)).2 (knI S5.out (from_keepC S5.out.1 35 ks3 (by decide)))).mono ?_
  rintro e W6 ⟨q6, g6, rfl, I6⟩
  clear hc
  have S6 := Lib.hid (S5.out.same I6.out.2.2.2.2.2)
  have e6 := I6.out.1
  rw [kr1] at e6
  have E6 := Lib.hid e6; clear e6
  gi_wp2_with fail
  refine ⟨trivial, ?_⟩
  refine ((callsIn_wide (n := 4)).2 (knP (ps := [(35, 2)]) E6.out I6.out.2.1 I6.out.2.2.1 (by decide))).mono ?_
  rintro e W7 ⟨up, up2, rfl, P7⟩
  have S7 := Lib.hid (S6.out.same P7.out.2.2)
  have hc := S7.out.cell
  gi_wp2_with fail
  refine ⟨trivial, ?_⟩
  refine ((callsIn_wide (n := 4)).2 (knI S7.out (up_keepC S7.out.1 39 ks3 (by decide)))).mono ?_
  rintro e W8 ⟨q8, g8, rfl, I8⟩
  clear hc
  have S8 := Lib.hid (S7.out.same I8.out.2.2.2.2.2)
  have e8 := I8.out.1
  rw [ku1] at e8
  have E8 := Lib.hid e8; clear e8
  gi_wp2_with fail
  refine ⟨trivial, ?_⟩
  refine ((callsIn_wide (n := 4)).2 (knP (ps := [(35, 2), (19, 3)]) E8.out I8.out.2.1 I8.out.2.2.1 (by decide))).mono ?_
  rintro e W9 ⟨down, down2, rfl, P9⟩
  have S9 := Lib.hid (S8.out.same P9.out.2.2)
  have hc := S9.out.cell
  gi_wp2_with fail
  refine ⟨trivial, ?_⟩
  refine ((callsIn_wide (n := 4)).2 (knI S9.out (up_keepC S9.out.1 9 ks3 (by decide)))).mono ?_
  rintro e W10 ⟨q10, g10, rfl, I10⟩
  clear hc
  have S10 := Lib.hid (S9.out.same I10.out.2.2.2.2.2)
  have e10 := I10.out.1
  rw [ku2] at e10
  have E10 := Lib.hid e10; clear e10
  gi_wp2_with fail
  refine ⟨trivial, ?_⟩
  refine ((callsIn_wide (n := 4)).2 (knP (ps := []) E10.out I10.out.2.1 I10.out.2.2.1 (by decide))).mono ?_
  rintro e W11 ⟨none, none2, rfl, P11⟩
  have S11 := Lib.hid (S10.out.same P11.out.2.2)
  have hc := S11.out.cell
  obtain ⟨sN, cN, gN, oN, rfl, -, -⟩ := P11.out.1
  simp only [List.map_nil, List.length_nil]
  have hE : Seen W11 [(k, [19, 35]), (v, [3, 2]), (up, [35]), (down, [35, 19])] := by
    have c45 := P5.out.2.2
    have c11 : Chg (fun _ => False) W5 W11 := (I6.out.2.2.2.2.2.trans P7.out.2.2).trans ((I8.out.2.2.2.2.2.trans P9.out.2.2).trans (I10.out.2.2.2.2.2.trans P11.out.2.2))
    have c7 : Chg (fun _ => False) W7 W11 := (I8.out.2.2.2.2.2.trans P9.out.2.2).trans (I10.out.2.2.2.2.2.trans P11.out.2.2)
    have c9 : Chg (fun _ => False) W9 W11 := I10.out.2.2.2.2.2.trans P11.out.2.2
    intro p hp
    simp only [List.mem_cons, List.not_mem_nil, or_false] at hp
    rcases hp with rfl | rfl | rfl | rfl
    · exact P5.out.1.chg c11 (fun _ _ h => h)
    · exact P5.out.2.1.chg c11 (fun _ _ h => h)
    · exact P7.out.1.chg c7 (fun _ _ h => h)
    · exact P9.out.1.chg c9 (fun _ _ h => h)
  have E11 := Lib.hid hE; clear hE
  clear I4 S4 P5 I6 S6 E6 P7 S7 I8 S8 E8 P9 S9 I10 S10 E10 P11 S0 S1 S2 S3 S5
  gi_wp2_with fail
  refine ⟨trivial, ?_⟩
  refine ((callsIn_wide (n := 4)).2 (knJ (xs := [19, 35]) [19, 35] 2 (E11.out (k, [19, 35]) (by simp)) rfl (by decide))).mono ?_
  rintro e W12 ⟨rfl, J12⟩
  have S12 := Lib.hid (S11.out.same J12.out)
  have E12 := Lib.hid (E11.out.same J12.out)
  clear hc J12 S11 E11
  have hc := S12.out.cell
  gi_wp2_with fail
  refine ⟨trivial, ?_⟩
  refine ((callsIn_wide (n := 4)).2 (knJ (xs := [3, 2]) [3, 2] 2 (E12.out (v, [3, 2]) (by simp)) rfl (by decide))).mono ?_
  rintro e W13 ⟨rfl, J13⟩
  have S13 := Lib.hid (S12.out.same J13.out)
  have E13 := Lib.hid (E12.out.same J13.out)
  clear hc J13 S12 E12
  have hc := S13.out.cell
  gi_wp2_with fail
  refine ⟨trivial, ?_⟩
  refine ((callsIn_wide (n := 4)).2 (knJ (xs := [35]) [35] 1 (E13.out (up, [35]) (by simp)) rfl (by decide))).mono ?_
  rintro e W14 ⟨rfl, J14⟩
  have S14 := Lib.hid (S13.out.same J14.out)
  have E14 := Lib.hid (E13.out.same J14.out)
  clear hc J14 S13 E13
  have hc := S14.out.cell
  gi_wp2_with fail
  refine ⟨trivial, ?_⟩
  refine ((callsIn_wide (n := 4)).2 (knJ (xs := [35, 19]) [35, 19] 2 (E14.out (down, [35, 19]) (by simp)) rfl (by decide))).mono ?_
  rintro e W15 ⟨rfl, J15⟩
  have S15 := Lib.hid (S14.out.same J15.out)
  have E15 := Lib.hid (E14.out.same J15.out)
  clear hc J15 S14 E14
  have hc := S15.out.cell
  gi_wp2_with fail
  refine ⟨trivial, ?_⟩
  refine ((callsIn_wide (n := 4)).2 (knR S15.out 30 1 (by rw [kr2]; rfl))).mono ?_
  rintro e W16 ⟨rfl, J16⟩
  have S16 := Lib.hid (S15.out.same J16.out)
  have E16 := Lib.hid (E15.out.same J16.out)
  clear hc J16 S15 E15
  have hc := S16.out.cell
  gi_wp2_with fail
  refine ⟨trivial, ?_⟩
  refine ((callsIn_wide (n := 4)).2 (knR S16.out 0 0 (by rw [kr3]; rfl))).mono ?_
  rintro e W17 ⟨rfl, J17⟩
  have S17 := Lib.hid (S16.out.same J17.out)
  have E17 := Lib.hid (E16.out.same J17.out)
  clear hc J17 S16 E16
  have hc := S17.out.cell
  gi_wp2_with fail
  refine ⟨trivial, ?_⟩
  refine ((callsIn_wide (n := 4)).2 (knI S17.out (all_keepC S17.out.1 (by decide)))).mono ?_
  rintro e W18 ⟨q, g, rfl, I18⟩
  clear hc
  have hX : Hid (KeepC 2 w (fun x => x = W0.heap.size ∨ x = W18.heap.size ∨ x = q ∨ x = g) (W18.alloc (.cells #[.int .i64 0] 3)) h k3 102 ∧ (W18.alloc (.cells #[.int .i64 0] 3)).heap[W0.heap.size]? = some (.cells #[.pointer (some ⟨h, 0, none⟩)] 64) ∧ w.heap.size ≤ W0.heap.size ∧ W0.heap.size < W18.heap.size ∧ w.heap.size ≤ W17.heap.size) := by
    obtain ⟨i1, i2, i3, i4, i5, i6⟩ := I18.out
    have ch := i6.alloc (.cells #[.int .i64 0] 3)
    have hl := S17.out.1.lt (x := W0.heap.size) rfl
    have hz := i6.size
    refine ⟨S17.out.1.more ch (fun x hx => ?_), (ch.block _ hl (fun h => h)).trans S17.out.2.1, S17.out.2.2, by omega, S17.out.1.frame.size⟩
    simp only [World.size_alloc]
    omega
  have E18 := Lib.hid (E17.out.same I18.out.2.2.2.2.2)
  have hq := I18.out.2.1
  have hg := I18.out.2.2.1
  have hIt : Hid (IterAt (.int .i64) (W18.alloc (.cells #[.int .i64 0] 3)) q g k3) := I18.out.1.keep (Below.heap_alloc _ _ _ I18.out.2.1) (Below.heap_alloc _ _ _ I18.out.2.2.1)
  have hn0 : Hid ((W18.alloc (.cells #[.int .i64 0] 3)).heap[W18.heap.size]? = some (.cells #[.int .i64 0] 3)) := heap_alloc_new _ _
  have hgn : Hid (q ≠ W18.heap.size ∧ g ≠ W18.heap.size ∧ q ≠ W0.heap.size ∧ g ≠ W0.heap.size) := by
    have h1 := I18.out.2.2.2.1
    have h2 := I18.out.2.2.2.2.1
    have hl := S17.out.1.lt (x := W0.heap.size) rfl
    exact ⟨by omega, by omega, by omega, by omega⟩
  clear S17 E17
  gi_wp2
  generalize hV : W18.alloc (.cells #[.int .i64 0] 3) = V0 at *
  have hV0 : W18.heap.size + 1 = V0.heap.size := by rw [← hV]; simp
  have hc18 : Hid (Chg (fun _ => False) W18 V0) := by rw [← hV]; exact (Chg.refl _ _).alloc _
  have HV := Lib.hid hV; clear hV
  generalize W0.heap.size = B0 at *
  generalize hN0 : W18.heap.size = N0 at *
  have HN0 := Lib.hid hN0; clear hN0
  refine range_at (fun tm x => ((tm.setIfInBounds 97 (.int .i64 x.1)).setIfInBounds 98 (.int .i64 x.2)).setIfInBounds 12 (.int .i64 x.1)) (F := Fence.wide) (n := 5)
    (seq_stopsC Fence.wide 4 trivial rfl (by decide) q g [(19, 3), (35, 2)] (by decide) V0 (by omega) (by omega) hIt.out) rfl (by decide) rfl trivial (enters_of Try.func69 (by kernel_rfl) rfl)
    KG.trans (fun W l o o' => KG.putObj (w := V0) (by omega) W l o o') (Below.refl _ _) (fun _ => rfl)
    (fun pre W => KeepC 2 w (fun x => x = B0 ∨ x = N0 ∨ x = q ∨ x = g) W h (kst pre).1 (102 + pre.length) ∧ W.heap[N0]? = some (.cells #[.int .i64 pre.length] 3) ∧ W.heap[B0]? = some (.cells #[.pointer (some ⟨h, 0, none⟩)] 64) ∧ W.heap[q]? = V0.heap[q]? ∧ W.heap[g]? = V0.heap[g]?)
    (fun _ _ _ => False)
    (fun s W W' row hs hgr hr => by
      obtain ⟨h1, h2, h3, h4, h5⟩ := hs
      refine ⟨h1.own hgr (fun r e => ⟨by have := (hr r e).1; have := hX.out.2.2.1; have := hX.out.2.2.2.1; omega, (hr r e).2⟩), heap_own h2 hgr (fun r e => (hr r e).2), heap_own h3 hgr (fun r e => (hr r e).2), ?_, ?_⟩
      · exact (hgr.block q (h1.lt (.inr (.inr (.inl rfl)))) (fun e => by have := (hr q e.symm).1; omega)).trans h4
      · exact (hgr.block g (h1.lt (.inr (.inr (.inr rfl)))) (fun e => by have := (hr g e.symm).1; omega)).trans h5)
    (fun _ _ _ _ _ hs _ _ => hs)
    ⟨hX.out.1, hn0.out, hX.out.2.1, rfl, rfl⟩ ?assign ?body ?done ?stop
  case assign =>
    intro l x W K hK
    gi_wp2
    exact hK
  case body =>
    rintro l pre x W ⟨h1, h2, h3, h4, h5⟩ hlen
    simp only [List.length_cons, List.length_nil, Nat.reduceAdd] at hlen
    have hcB : W.cell? ⟨B0, 0, none⟩ = some (.pointer (some ⟨h, 0, none⟩)) := by rw [cell_of_row _ _ 0 _ _ (0, 0) h3]; rfl
    have HI0 := Lib.hid (And.intro h1 (And.intro h2 (And.intro h3 (And.intro h4 h5)))); clear h1 h2 h3 h4 h5
    simp only [List.setIfInBounds_toArray, List.set_cons_succ, List.set_cons_zero]
    gi_wp2_with fail
    refine ⟨trivial, ?_⟩
    refine (CallsIn.inRound l ((callsIn_wide (n := 2)).2 (del_keepC HI0.out.1 x.1 (kst_sorted pre) (by omega)))).mono ?_
    rintro e Wa ⟨rfl, ka, ca, oa⟩
    have hN1 : Wa.heap[N0]? = some (.cells #[.int .i64 pre.length] 3) := (ca.block N0 (HI0.out.1.lt (.inr (.inl rfl))) (fun h => h.2 (.inr (.inl rfl)))).trans HI0.out.2.1
    have hB1 : Wa.heap[B0]? = some (.cells #[.pointer (some ⟨h, 0, none⟩)] 64) := (ca.block B0 (HI0.out.1.lt (.inl rfl)) (fun h => h.2 (.inl rfl))).trans HI0.out.2.2.1
    have hcB1 : Wa.cell? ⟨B0, 0, none⟩ = some (.pointer (some ⟨h, 0, none⟩)) := by rw [cell_of_row _ _ 0 _ _ (0, 0) hB1]; rfl
    have hcN1 : Wa.cell? ⟨N0, 0, none⟩ = some (.int .i64 pre.length) := by rw [cell_of_row _ _ 0 _ _ (0, 0) hN1]; rfl
    have HA := Lib.hid (And.intro ka (And.intro ca (And.intro oa (And.intro hN1 hB1)))); clear ka ca oa hN1 hB1 hcB
    have hn1 : (100 : Int) + pre.length ≤ 200 := by omega
    gi_wp2_with fail
    refine ⟨trivial, ?_⟩
    refine (CallsIn.inRound l ((callsIn_wide (n := 2)).2 (put_keepC HA.out.1 (100 + (pre.length : Int)) (pre.length : Int) (delL_sorted (kst_sorted pre) _) (by omega)))).mono ?_
    rintro e Wb ⟨rfl, kb, cb, ob⟩
    have hN2 : Wb.heap[N0]? = some (.cells #[.int .i64 pre.length] 3) := (cb.block N0 (HA.out.1.lt (.inr (.inl rfl))) (fun h => h.2 (.inr (.inl rfl)))).trans HA.out.2.2.2.1
    have hB2 : Wb.heap[B0]? = some (.cells #[.pointer (some ⟨h, 0, none⟩)] 64) := (cb.block B0 (HA.out.1.lt (.inl rfl)) (fun h => h.2 (.inl rfl))).trans HA.out.2.2.2.2
    have hcN2 : Wb.cell? ⟨N0, 0, none⟩ = some (.int .i64 pre.length) := by rw [cell_of_row _ _ 0 _ _ (0, 0) hN2]; rfl
    have hfN2 : Wb.frozen? ⟨N0, 0, none⟩ = false := frozen_of_row _ _ _ _ _ hN2
    have HB := Lib.hid (And.intro kb (And.intro cb (And.intro ob (And.intro hN2 hB2)))); clear kb cb ob hN2 hB2 hcB1 hcN1
    gi_wp2
    obtain ⟨h1, h2, h3, h4, h5⟩ := HI0.out
    obtain ⟨ka, ca, oa, -, -⟩ := HA.out
    obtain ⟨kb, cb, ob, hN2, hB2⟩ := HB.out
    have hgn := hgn.out
    have hxx := hX.out
    have cs : Chg (fun x => x = N0) Wb (Wb.setCell ⟨N0, 0, none⟩ (.int .i64 ((pre.length : Int) + 1))) := Chg.setCell (S := fun x => x = N0) (Chg.refl _ Wb) (p := ⟨N0, 0, none⟩) (fun _ => rfl) _
    have cab := ca.trans cb
    have hgq : ∀ y, y = q ∨ y = g → (Wb.setCell ⟨N0, 0, none⟩ (.int .i64 ((pre.length : Int) + 1))).heap[y]? = W.heap[y]? := fun y hy =>
      (cs.block y (kb.lt (.inr (.inr hy))) (by omega)).trans (cab.block y (h1.lt (.inr (.inr hy))) (fun h => h.2 (.inr (.inr hy))))
    refine ⟨((oa.trans ob).trans (KeepsOthers.setCell _ _ _)).from _, ⟨Nat.le_trans cab.size cs.size, fun _ => hgq g (.inr rfl)⟩, ?_, ?_, ?_, (hgq q (.inl rfl)).trans h4, (hgq g (.inr rfl)).trans h5⟩
    · rw [kst_snoc, kst_count]
      refine (kb.chg cs (fun x _ hx => ⟨.inr (.inl hx), by omega⟩)).mono ?_
      rw [List.length_append]
      simp only [List.length_cons, List.length_nil]
      omega
    · rw [List.length_append]
      exact heap_setCell_same Wb N0 0 _ 3 _ hN2
    · exact (cs.block B0 (kb.lt (.inl rfl)) (by omega)).trans hB2
  case done =>
    rintro D ys W hD rfl ⟨h1, h2, h3, h4, h5⟩ hK
    have Z0 : Hid (Zed w (fun x => x = B0 ∨ x = N0 ∨ x = q ∨ x = g) h B0 N0 D q g W) := by
      refine ⟨?_, h2, h3, hK, hIt.out.keep h4 h5, h1.lt (.inr (.inr (.inl rfl))), h1.lt (.inr (.inr (.inr rfl)))⟩
      rw [kst_end] at h1
      exact h1
    clear h1 h2 h3 h4 h5 hK
    have hc := Z0.out.cb
    gi_wp2_with fail
    refine ⟨trivial, ?_⟩
    refine ((callsIn_wide (n := 4)).2 (knI2 (all_keepC Z0.out.k (by decide)))).mono ?_
    rintro e Va ⟨q2, g2, rfl, Ia⟩
    have Z1 := Lib.hid (Z0.out.same Ia.out.2.2.2.2.2)
    clear hc
    gi_wp2_with fail
    refine ⟨trivial, ?_⟩
    refine ((callsIn_wide (n := 4)).2 (knP (ps := [(101, 1)]) Ia.out.1 Ia.out.2.1 Ia.out.2.2.1 (by decide))).mono ?_
    rintro e Vb ⟨k', v', rfl, Pb⟩
    have Z2 := Lib.hid (Z1.out.same Pb.out.2.2)
    gi_wp2_with fail
    refine ⟨trivial, ?_⟩
    refine ((callsIn_wide (n := 4)).2 (knP (ps := [(19, 3), (35, 2)]) Z2.out.i Z2.out.q Z2.out.g (by decide))).mono ?_
    rintro e Vc ⟨old, old2, rfl, Pc⟩
    have Z3 := Lib.hid (Z2.out.same Pc.out.2.2)
    have hc := Z3.out.cn
    gi_wp2_with fail
    refine ⟨trivial, ?_⟩
    refine ((callsIn_wide (n := 4)).2 (knJ' (xs := [101]) [101] 1 Pb.out.1 rfl (by decide) Pc.out.2.2)).mono ?_
    rintro e Vd ⟨rfl, Jd⟩
    have Z4 := Lib.hid (Z3.out.same Jd.out)
    clear hc
    gi_wp2_with fail
    refine ⟨trivial, ?_⟩
    refine ((callsIn_wide (n := 4)).2 (knJ' (xs := [19, 35]) [19, 35] 2 Pc.out.1 rfl (by decide) Jd.out)).mono ?_
    rintro e Ve ⟨rfl, Je⟩
    have Z5 := Lib.hid (Z4.out.same Je.out)
    gi_wp2_with fail
    refine ⟨trivial, ?_⟩
    refine ((callsIn_wide (n := 4)).2 (alive_any _)).mono ?_
    rintro e Vf ⟨rfl, Jf⟩
    have Z6 := Lib.hid (Z5.out.same Jf)
    clear Jf
    gi_wp2_with fail
    refine ⟨by simp, .inl ⟨_, _, rfl, run_takeDeferred Z6.out.d, ?_⟩⟩
    refine ⟨_, results_tmp rfl _ _ _, rfl, ?_⟩
    refine (Z6.out.k.frame.mono (T := fun _ => False) fun k hk hm => by omega).then (T := fun x => x = D) ⟨rfl, rfl, rfl, by simp, fun k _ hn => World.putObj_heap_other (by omega)⟩ (fun k hk e => ?_)
    have h0 := hX.out
    omega
  case stop =>
    rintro D c pre W _ _ h _
    exact h.elim
theorem known_walk (w : World) : Calls Try.prog 7 #[] w fun e w' => e = .returned (.bool true) ∧ Below w.heap.size w w' :=
  (known_any w).mono fun _ _ ⟨he, hc⟩ => ⟨he, hc.below (Nat.le_refl _) (fun _ _ h => h)⟩
end Go.Proofs.Ytdfkokbpidkokaa
