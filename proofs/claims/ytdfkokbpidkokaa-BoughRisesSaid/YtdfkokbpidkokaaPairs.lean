/- rosterlaw12.pairs (function 33): an iterator's keys and values, gathered in two new lists. -/
import Derived.Test.YtdfkokbpidkokaaInts
import Derived.BigRegionIn
import Derived.Sort.QuietIn
namespace Go.Proofs.Ytdfkokbpidkokaa
open Go.RowKit Go.Shelf

attribute [local go_sem] Oper.semAt_some

/-- append of one slice to another inside a fence -/
theorem wpListIn_app0 {F : Fence} {nf : Nat} {P : Program} {w : World} {ops : Array Oper} {rest : List Oper} {o : Oper} {a : Act} {Q : Exit → Act → World → Prop} (hgd : o.guard = none) (s x : Operand) (t : TypeId)
    (ho : o.op = .call { callee := .builtin .append, args := #[s, x], argTypes := #[t, t] })
    (e : TypeId) (i : TypeInfo) (z : Value) (sz bytes : Nat) (ht : P.underlying t = some (.slice e)) (hi : P.info? e = some i) (hz : i.zero = some z)
    (hsize : i.size = sz) (hby : i.bytes = bytes) (hzs : z.cells.size = sz) (hsz : 0 < sz) (hbp : 0 < bytes)
    (go : Option Nat) (n cap : Nat) (xs : List Value) (hs : a.eval s = sv go n cap) (hown : Own w e sz go n cap xs)
    (sa : Option Addr) (m c : Nat) (news : List Value) (hx : a.eval x = .slice sa m c) (hsn : sa = none → m = 0 ∧ c = 0) (hl : news.length = m * sz)
    (hnews : ∀ ad, sa = some ad → ∀ j u, news[j]? = some u → w.cell? (ad.add j) = some u) (h1 : ∀ u ∈ news, u.oneCell' = true)
    (hbytes : (n + m) * bytes ≤ 140737488355328)
    (h : ∀ go' cap' w', Own w' e sz go' (n + m) cap' (xs ++ news) → w.grownBy w' go → (go' = go ∨ go' = some w.heap.size) → wpListIn F nf P ops Q rest (a.put o.dst (sv go' (n + m) cap')) w') : wpListIn F nf P ops Q (o :: rest) a w := by
  refine wpListIn_plain hgd fun K hK' => ?_
  obtain ⟨go', cap', w', hr, h2, h3, h4⟩ := run_app (P := P) w t o.type e i z sz bytes ht hi hz hsize hby hzs hsz hbp hown sa m c news hsn hl hnews h1 hbytes
  unfold Oper.wpIn
  refine ⟨?_, ?_⟩
  · simp [Oper.about, ho, resolve, Target.leads, Sem.run_pure]
  · rw [Oper.semAt_plain F _ _ (by rw [ho]; intro c hc'; cases hc')]
    simp [execOp, ho, resolve, invoke, builtin, hs, hx, hr, Result.andThen]
    exact hK' _ _ (h go' cap' w' h2 h3 h4)

theorem Row.own {w w' : World} {row : Option Nat} {g e sz cap : Nat} {xs : List Value} (h : Row w g e sz cap xs) (hg : w.grownBy w' row) (hr : ∀ r, row = some r → ∃ o : Obj, w.heap[r]? = some o ∧ o.isCells = false) : Row w' g e sz cap xs := by
  refine h.grown hg fun e => ?_
  obtain ⟨o, h1, h2⟩ := hr g e.symm
  obtain ⟨sp, h3, _⟩ := h
  rw [h1] at h3
  cases h3
  cases h2
theorem Own.own {w w' : World} {row : Option Nat} {go : Option Nat} {e sz n cap : Nat} {xs : List Value} (h : Own w e sz go n cap xs) (hg : w.grownBy w' row) (hr : ∀ r, row = some r → ∃ o : Obj, w.heap[r]? = some o ∧ o.isCells = false) : Own w' e sz go n cap xs := by
  cases go with
  | none => exact h
  | some g => exact ⟨h.1, h.2.1, h.2.2.own hg hr⟩
theorem heap_own {w w' : World} {row : Option Nat} {g : Nat} {cs : Array Value} {t : TypeId} {fr : Nat × Nat} (h : w.heap[g]? = some (.cells cs t fr)) (hg : w.grownBy w' row) (hr : ∀ r, row = some r → ∃ o : Obj, w.heap[r]? = some o ∧ o.isCells = false) : w'.heap[g]? = some (.cells cs t fr) := by
  refine (hg.block g (Array.getElem?_eq_some_iff.1 h).1 fun e => ?_).trans h
  obtain ⟨o, h1, h2⟩ := hr g e.symm
  rw [h1] at h
  cases h
  cases h2
theorem Own.isCells {w : World} {go : Option Nat} {e sz n cap : Nat} {xs : List Value} (h : Own w e sz go n cap xs) : ∀ (j : Nat) (o : Obj), go = some j → w.heap[j]? = some o → o.isCells = true := by
  intro j o hj ho
  subst hj
  obtain ⟨sp, h3, _⟩ := h.row
  rw [ho] at h3
  cases h3
  rfl

/-- two boxes, at w's size and behind it, that hold the lists xs and ys, each in new memory of its own -/
structure PI (w W : World) (xs ys : List Int) (go : Option Nat) (cap : Nat) (go2 : Option Nat) (cap2 : Nat) : Prop where
  a : W.heap[w.heap.size]? = some (.cells #[sv go xs.length cap] 25)
  b : W.heap[w.heap.size + 1]? = some (.cells #[sv go2 ys.length cap2] 25)
  oa : Own W 3 1 go xs.length cap (iv xs)
  ob : Own W 3 1 go2 ys.length cap2 (iv ys)
  fa : ∀ g, go = some g → w.heap.size + 2 ≤ g
  fb : ∀ g, go2 = some g → w.heap.size + 2 ≤ g
  ne : ∀ g, go = some g → go2 ≠ some g
  ch : Chg (fun x => w.heap.size ≤ x) w W
  big : w.heap.size + 2 ≤ W.heap.size

theorem PI.own {w W W' : World} {xs ys : List Int} {go go2 : Option Nat} {cap cap2 : Nat} {row : Option Nat} (h : PI w W xs ys go cap go2 cap2) (hg : W.grownBy W' row) (hr : ∀ r, row = some r → w.heap.size ≤ r ∧ ∃ o : Obj, W.heap[r]? = some o ∧ o.isCells = false) : PI w W' xs ys go cap go2 cap2 where
  a := heap_own h.a hg (fun r e => (hr r e).2)
  b := heap_own h.b hg (fun r e => (hr r e).2)
  oa := h.oa.own hg (fun r e => (hr r e).2)
  ob := h.ob.own hg (fun r e => (hr r e).2)
  fa := h.fa
  fb := h.fb
  ne := h.ne
  ch := h.ch.grown hg (fun k e _ => (hr k e).1)
  big := Nat.le_trans h.big hg.size

theorem PI.stepA {w W W2 : World} {xs ys : List Int} {go go2 go' : Option Nat} {cap cap2 cap' : Nat} {x : Int} {o : Obj} (h : PI w W xs ys go cap go2 cap2)
    (h1 : Own W2 3 1 go' (xs.length + 1) cap' (iv (xs ++ [x]))) (h2 : (W.alloc o).grownBy W2 go) (h3 : go' = go ∨ go' = some (W.alloc o).heap.size) :
    W2.heap[w.heap.size]? = some (.cells #[sv go xs.length cap] 25) ∧ PI w (W2.setCell ⟨w.heap.size, 0, none⟩ (sv go' (xs.length + 1) cap')) (xs ++ [x]) ys go' cap' go2 cap2 ∧ KeepsOthers W (W2.setCell ⟨w.heap.size, 0, none⟩ (sv go' (xs.length + 1) cap')) ∧ Chg (fun x => w.heap.size ≤ x) W (W2.setCell ⟨w.heap.size, 0, none⟩ (sv go' (xs.length + 1) cap')) := by
  have hb := h.big
  have hc1 : Chg (fun k => go = some k) W W2 := ((Chg.refl _ W).alloc o).grown h2 (fun k e _ => e)
  have ha1 : W2.heap[w.heap.size]? = some (.cells #[sv go xs.length cap] 25) := (hc1.block _ (by omega) (fun e => by have := h.fa _ e; omega)).trans h.a
  have ha2 : W2.heap[w.heap.size + 1]? = some (.cells #[sv go2 ys.length cap2] 25) := (hc1.block _ (by omega) (fun e => by have := h.fa _ e; omega)).trans h.b
  have hfa : ∀ g, go' = some g → w.heap.size + 2 ≤ g := by
    intro g hg
    rcases h3 with rfl | rfl
    · exact h.fa g hg
    · simp at hg; omega
  have hob1 : Own W2 3 1 go2 ys.length cap2 (iv ys) := h.ob.chg hc1 (fun g hg e => h.ne g e hg)
  have hset : Chg (fun x => w.heap.size ≤ x) W (W2.setCell ⟨w.heap.size, 0, none⟩ (sv go' (xs.length + 1) cap')) := (hc1.mono (T := fun x => w.heap.size ≤ x) (fun k _ e => by have := h.fa k e; omega)).setCell (p := ⟨w.heap.size, 0, none⟩) (fun _ => Nat.le_refl _) _
  have hk : Chg (fun x => x = w.heap.size) W2 (W2.setCell ⟨w.heap.size, 0, none⟩ (sv go' (xs.length + 1) cap')) := Chg.setCell (S := fun x => x = w.heap.size) (Chg.refl _ W2) (p := ⟨w.heap.size, 0, none⟩) (fun _ => rfl) _
  have hs2 := hc1.size
  refine ⟨ha1, ⟨?_, (hk.block _ (by omega) (by simp)).trans ha2, ?_, ?_, hfa, h.fb, ?_, h.ch.trans hset, by have := hset.size; omega⟩, ?_, hset⟩
  · rw [List.length_append]; exact heap_setCell_same W2 _ 0 _ 25 _ ha1
  · rw [List.length_append]; exact h1.chg hk (fun g hg e => by have := hfa g hg; omega)
  · exact hob1.chg hk (fun g hg e => by have := h.fb g hg; omega)
  · intro g hg hg2
    rcases h3 with rfl | rfl
    · exact h.ne g hg hg2
    · simp only [Option.some.injEq] at hg
      subst hg
      have := h.ob
      rw [hg2] at this
      have := this.row.lt
      simp at this
      omega
  · have hA : Own (W.alloc o) 3 1 go xs.length cap (iv xs) := h.oa.chg ((Chg.refl (fun _ => False) W).alloc o) (fun _ _ h => h)
    exact ((KeepsOthers.alloc W o).trans (KeepsOthers.of_grownBy h2 hA.isCells)).trans (KeepsOthers.setCell _ _ _)

theorem PI.stepB {w W W2 : World} {xs ys : List Int} {go go2 go' : Option Nat} {cap cap2 cap' : Nat} {x : Int} {o : Obj} (h : PI w W xs ys go cap go2 cap2)
    (h1 : Own W2 3 1 go' (ys.length + 1) cap' (iv (ys ++ [x]))) (h2 : (W.alloc o).grownBy W2 go2) (h3 : go' = go2 ∨ go' = some (W.alloc o).heap.size) :
    W2.heap[w.heap.size + 1]? = some (.cells #[sv go2 ys.length cap2] 25) ∧ PI w (W2.setCell ⟨w.heap.size + 1, 0, none⟩ (sv go' (ys.length + 1) cap')) xs (ys ++ [x]) go cap go' cap' ∧ KeepsOthers W (W2.setCell ⟨w.heap.size + 1, 0, none⟩ (sv go' (ys.length + 1) cap')) ∧ Chg (fun x => w.heap.size ≤ x) W (W2.setCell ⟨w.heap.size + 1, 0, none⟩ (sv go' (ys.length + 1) cap')) := by
  have hb := h.big
  have hc1 : Chg (fun k => go2 = some k) W W2 := ((Chg.refl _ W).alloc o).grown h2 (fun k e _ => e)
  have ha1 : W2.heap[w.heap.size]? = some (.cells #[sv go xs.length cap] 25) := (hc1.block _ (by omega) (fun e => by have := h.fb _ e; omega)).trans h.a
  have ha2 : W2.heap[w.heap.size + 1]? = some (.cells #[sv go2 ys.length cap2] 25) := (hc1.block _ (by omega) (fun e => by have := h.fb _ e; omega)).trans h.b
  have hfb : ∀ g, go' = some g → w.heap.size + 2 ≤ g := by
    intro g hg
    rcases h3 with rfl | rfl
    · exact h.fb g hg
    · simp at hg; omega
  have hoa1 : Own W2 3 1 go xs.length cap (iv xs) := h.oa.chg hc1 (fun g hg e => h.ne g hg e)
  have hset : Chg (fun x => w.heap.size ≤ x) W (W2.setCell ⟨w.heap.size + 1, 0, none⟩ (sv go' (ys.length + 1) cap')) := (hc1.mono (T := fun x => w.heap.size ≤ x) (fun k _ e => by have := h.fb k e; omega)).setCell (p := ⟨w.heap.size + 1, 0, none⟩) (fun _ => by simp) _
  have hk : Chg (fun x => x = w.heap.size + 1) W2 (W2.setCell ⟨w.heap.size + 1, 0, none⟩ (sv go' (ys.length + 1) cap')) := Chg.setCell (S := fun x => x = w.heap.size + 1) (Chg.refl _ W2) (p := ⟨w.heap.size + 1, 0, none⟩) (fun _ => rfl) _
  have hs2 := hc1.size
  refine ⟨ha2, ⟨(hk.block _ (by omega) (by simp)).trans ha1, ?_, ?_, ?_, h.fa, hfb, ?_, h.ch.trans hset, by have := hset.size; omega⟩, ?_, hset⟩
  · rw [List.length_append]; exact heap_setCell_same W2 _ 0 _ 25 _ ha2
  · exact hoa1.chg hk (fun g hg e => by have := h.fa g hg; omega)
  · rw [List.length_append]; exact h1.chg hk (fun g hg e => by have := hfb g hg; omega)
  · intro g hg hg2
    rcases h3 with rfl | rfl
    · exact h.ne g hg hg2
    · simp only [Option.some.injEq] at hg2
      subst hg2
      have := h.oa
      rw [hg] at this
      have := this.row.lt
      simp at this
      omega
  · have hA : Own (W.alloc o) 3 1 go2 ys.length cap2 (iv ys) := h.ob.chg ((Chg.refl (fun _ => False) W).alloc o) (fun _ _ h => h)
    exact ((KeepsOthers.alloc W o).trans (KeepsOthers.of_grownBy h2 hA.isCells)).trans (KeepsOthers.setCell _ _ _)
theorem PI.ca {w W : World} {xs ys : List Int} {go go2 : Option Nat} {cap cap2 : Nat} (h : PI w W xs ys go cap go2 cap2) : W.cell? ⟨w.heap.size, 0, none⟩ = some (sv go xs.length cap) := by rw [cell_of_row W _ 0 _ _ (0, 0) h.a]; rfl
theorem PI.cb {w W : World} {xs ys : List Int} {go go2 : Option Nat} {cap cap2 : Nat} (h : PI w W xs ys go cap go2 cap2) : W.cell? ⟨w.heap.size + 1, 0, none⟩ = some (sv go2 ys.length cap2) := by rw [cell_of_row W _ 0 _ _ (0, 0) h.b]; rfl

/-- what pairs leaves: two lists in new memory -/
def GivesPairs (w : World) (ps : List (Int × Int)) (e : Ending) (w' : World) : Prop :=
  ∃ go cap go2 cap2, e = .returned (.tuple #[sv go ps.length cap, sv go2 ps.length cap2]) ∧ Own w' 3 1 go ps.length cap (iv (ps.map (·.1))) ∧ Own w' 3 1 go2 ps.length cap2 (iv (ps.map (·.2))) ∧ Fresh w go ∧ Fresh w go2 ∧ Chg (fun _ => False) w w'

set_option maxRecDepth 100000 in
set_option maxHeartbeats 4000000 in
theorem pairs_any {w : World} {q g : Nat} {ps : List (Int × Int)} (hI : IterAt (.int .i64) w q g (ps.map fun p => (p.1, .int .i64 p.2))) (hq : q < w.heap.size) (hg : g < w.heap.size) (hl : ps.length * 8 ≤ 140737488355328) :
    Calls Try.prog 33 #[.func (.func 69) #[] #[.pointer (some ⟨q, 0, none⟩)]] w (GivesPairs w ps) := by
  have HIT := Lib.hid hI; clear hI
  obtain ⟨i0, hi, hz0, hz1, hz2⟩ := info_parts Try.info3
  have HI := Lib.hid (And.intro hi (And.intro hz0 (And.intro hz1 hz2)))
  clear hi hz0 hz1 hz2
  have hne : ∀ w, (binOp .eql 70 (.func (.func 69) #[] #[.pointer (some ⟨q, 0, none⟩)]) .nilFunc).run Try.prog w = .ok (.bool false) w := fun _ => by kernel_rfl
  refine (callsIn_wide (n := 5)).1 (callsIn_of_wp_marks Try.func33 rfl trivial ?_ rfl)
  simp only [Try.ntmps33, List.size_toArray, List.length_cons, List.length_nil, Nat.reduceAdd, Nat.reduceSub, Array.replicate_succ, Array.replicate_zero, List.push_toArray, List.append_toArray, List.nil_append, List.cons_append]
  gi_wp2
  clear hne
  have hb0 : Below w.heap.size w ((w.alloc (.cells #[.slice none 0 0] 25)).alloc (.cells #[.slice none 0 0] 25)) := ((Below.refl _ _).alloc (Nat.le_refl _) _).alloc (by simp) _
  have hP0 : PI w ((w.alloc (.cells #[.slice none 0 0] 25)).alloc (.cells #[.slice none 0 0] 25)) [] [] none 0 none 0 := by
    refine ⟨?_, ?_, Own.nil _ _ _, Own.nil _ _ _, (fun _ h => by cases h), (fun _ h => by cases h), (fun _ h => by cases h), ((Chg.refl _ _).alloc _).alloc _, (by simp)⟩
    · rw [Below.heap_alloc _ _ _ (by simp)]; exact heap_alloc_new _ _
    · have := heap_alloc_new (w.alloc (.cells #[.slice none 0 0] 25)) (.cells #[.slice none 0 0] 25)
      rwa [World.size_alloc] at this
  have HB0 := Lib.hid hb0; clear hb0
  have HP0 := Lib.hid hP0; clear hP0
  have hIx : ∀ g', g' < w.heap.size → KG g' w w := fun _ _ => KG.refl _ _
  generalize hWW : (w.alloc (.cells #[.slice none 0 0] 25)).alloc (.cells #[.slice none 0 0] 25) = W0 at *
  have hw0 : w.heap.size + 2 = W0.heap.size := by rw [← hWW]; simp
  clear hWW hIx
  refine wpIn_rangeFunc_ownG (F := Fence.wide) (n := 5) rfl (by decide) (gf := 69) (lb := #[.pointer (some ⟨q, 0, none⟩)]) rfl trivial (enters_of Try.func69 (by kernel_rfl) rfl)
    (seq_stopsC Fence.wide 4 trivial rfl (by decide) q g ps (by omega) w hq hg HIT.out) KG.trans (fun W l o o' hl => KG.putObj hg W l o o' (by omega)) HB0.out (fun _ => rfl)
    (fun pre W => ∃ go cap go2 cap2, PI w W (pre.map (·.1)) (pre.map (·.2)) go cap go2 cap2)
    (fun _ _ _ => False)
    (fun s W W' row hs hgr hr => by
      obtain ⟨go, cap, go2, cap2, h⟩ := hs
      exact ⟨go, cap, go2, cap2, h.own hgr (fun r e => ⟨by have := (hr r e).1; omega, (hr r e).2⟩)⟩)
    (fun _ _ _ _ _ hs _ _ => hs)
    ⟨none, 0, none, 0, HP0.out⟩
    (fun x => { tmps := #[.func (.func 69) #[] #[.pointer (some ⟨q, 0, none⟩)], undef, .slice none 0 0, .slice none 0 0, .pointer (some ⟨w.heap.size, 0, none⟩), .pointer (some ⟨w.heap.size + 1, 0, none⟩), .int .i64 x.1, .int .i64 x.2, .func (.func 69) #[] #[.pointer (some ⟨q, 0, none⟩)], .bool false, .func (.func 69) #[] #[.pointer (some ⟨q, 0, none⟩)], .int .i64 x.1, .int .i64 x.2, undef, undef, undef, undef, undef, undef, undef, undef, undef, undef], defers := [] }) ?assign ?body ?done ?stop
  case assign =>
    intro l x W K hK
    gi_wp2
    exact hK
  case body =>
    rintro l pre x W ⟨go, cap, go2, cap2, hP⟩ hlen
    have hca := hP.ca
    have hfa : W.frozen? ⟨w.heap.size, 0, none⟩ = false := frozen_of_row _ _ _ _ _ hP.a
    simp only [List.length_map] at hca
    have HP := Lib.hid hP; clear hP
    have hoa : Own (W.alloc (.cells #[.int .i64 x.1] 3)) 3 1 go pre.length cap (iv (pre.map (·.1))) := by
      have := HP.out.oa.chg ((Chg.refl (fun _ => False) W).alloc (.cells #[.int .i64 x.1] 3)) (fun _ _ h => h)
      rwa [List.length_map] at this
    have hnews := news_new W [.int .i64 x.1] #[.int .i64 x.1] 3 rfl
    have HOA := Lib.hid hoa; clear hoa
    have HNE := Lib.hid hnews; clear hnews
    have hb : (pre.length + 1) * 8 ≤ 140737488355328 := by omega
    have HB := Lib.hid hb; clear hb
    gi_wp2_with (gi_at_builtin; refine wpListIn_app0 rfl (.tmp 13) (.tmp 15) 25 rfl 3 i0 (.int .i64 0) 1 8 Try.underlying25 HI.out.1 HI.out.2.1 HI.out.2.2.1 HI.out.2.2.2 rfl (by decide) (by decide) go pre.length cap (iv (pre.map (·.1))) rfl HOA.out (some ⟨W.heap.size, 0, none⟩) 1 1 [.int .i64 x.1] rfl (fun h => by cases h) rfl HNE.out (fun u hu => by simp at hu; subst hu; rfl) HB.out ?_)
    intro go' cap' w2 h1 h2 h3
    have h := HP.out.stepA (x := x.1) (o := .cells #[.int .i64 x.1] 3) (by rw [List.length_map]; simpa [iv] using h1) h2 (by simpa using h3)
    simp only [List.length_map] at h
    obtain ⟨hrow2, hP2, hko2, hch2⟩ := h
    have hc2 : w2.cell? ⟨w.heap.size, 0, none⟩ = some (sv go pre.length cap) := by rw [cell_of_row _ _ 0 _ _ (0, 0) hrow2]; rfl
    have hf2 : w2.frozen? ⟨w.heap.size, 0, none⟩ = false := frozen_of_row _ _ _ _ _ hrow2
    have HK2 := Lib.hid (And.intro hko2 hch2); clear hko2 hch2 h1 h2 h3 hca hfa hrow2 HOA HNE
    have HP2 := Lib.hid hP2; clear hP2 HP
    have hcb := HP2.out.cb
    simp only [List.length_map] at hcb
    have hset : ∀ v, w2.setCell ⟨w.heap.size, 0, none⟩ v = w2.setCell ⟨w.heap.size, 0, none⟩ v := fun _ => rfl
    have hoB : ∀ W4 : World, W4 = w2.setCell ⟨w.heap.size, 0, none⟩ (sv go' (pre.length + 1) cap') → Own (W4.alloc (.cells #[.int .i64 x.2] 3)) 3 1 go2 pre.length cap2 (iv (pre.map (·.2))) := by
      rintro W4 rfl
      have := HP2.out.ob.chg ((Chg.refl (fun _ => False) _).alloc (.cells #[.int .i64 x.2] 3)) (fun _ _ h => h)
      rwa [List.length_map] at this
    generalize hW3 : w2.setCell ⟨w.heap.size, 0, none⟩ (sv go' (pre.length + 1) cap') = W3 at HK2 HP2 hcb hoB
    have HOB := Lib.hid (hoB W3 rfl); clear hoB hset
    have hnews := news_new W3 [.int .i64 x.2] #[.int .i64 x.2] 3 rfl
    have HNE2 := Lib.hid hnews; clear hnews
    have hfb : W3.frozen? ⟨w.heap.size + 1, 0, none⟩ = false := frozen_of_row _ _ _ _ _ HP2.out.b
    simp only [sv] at hW3 hcb hc2 ⊢
    gi_wp2_with (gi_at_builtin; refine wpListIn_app0 rfl (.tmp 17) (.tmp 19) 25 rfl 3 i0 (.int .i64 0) 1 8 Try.underlying25 HI.out.1 HI.out.2.1 HI.out.2.2.1 HI.out.2.2.2 rfl (by decide) (by decide) go2 pre.length cap2 (iv (pre.map (·.2))) rfl HOB.out (some ⟨W3.heap.size, 0, none⟩) 1 1 [.int .i64 x.2] rfl (fun h => by cases h) rfl HNE2.out (fun u hu => by simp at hu; subst hu; rfl) HB.out ?_)
    intro go3 cap3 w4 h1 h2 h3
    have h := HP2.out.stepB (x := x.2) (o := .cells #[.int .i64 x.2] 3) (by rw [List.length_map]; simpa [iv] using h1) h2 (by simpa using h3)
    simp only [List.length_map] at h
    obtain ⟨hrow4, hP4, hko4, hch4⟩ := h
    have hc4 : w4.cell? ⟨w.heap.size + 1, 0, none⟩ = some (sv go2 pre.length cap2) := by rw [cell_of_row _ _ 0 _ _ (0, 0) hrow4]; rfl
    have hf4 : w4.frozen? ⟨w.heap.size + 1, 0, none⟩ = false := frozen_of_row _ _ _ _ _ hrow4
    have HE := Lib.hid (And.intro (HK2.out.1.trans hko4) (And.intro (HK2.out.2.trans hch4) hP4)); clear hko4 hch4 hP4 h1 h2 h3 hcb hfb hrow4 HOB HNE2 hc2 hf2 hW3
    simp only [sv] at hc4 ⊢
    gi_wp2
    refine ⟨HE.out.1.from _, KG.chg HE.out.2.1 (by omega), go', cap', go3, cap3, ?_⟩
    have h := HE.out.2.2
    rw [List.map_append, List.map_append]
    exact h
  case done =>
    rintro D ys W hD rfl ⟨go, cap, go2, cap2, hP⟩ hK
    have hca := hP.ca
    have hcb := hP.cb
    have HP := Lib.hid hP; clear hP
    have HK := Lib.hid hK; clear hK
    simp only [sv, List.length_map] at hca hcb
    gi_wp2
    gi_quiet (fail)
    gi_wp2
    refine ⟨by simp, .inl ⟨_, _, rfl, run_takeDeferred (w := W.drewN nq) HK.out, ?_⟩⟩
    refine ⟨_, results_tmp2 rfl _ _ _, ?_⟩
    have hP := HP.out
    have hput : Chg (fun x => x = D) W ((W.drewN nq).putObj D (.deferred none)) := ((Chg.refl _ W).drewN nq).then (T := fun x => x = D) ⟨rfl, rfl, rfl, by simp, fun k _ hn => World.putObj_heap_other (by omega)⟩ (fun _ _ e => e)
    refine ⟨go, cap, go2, cap2, rfl, ?_, ?_, fun g e => by have := hP.fa g e; omega, fun g e => by have := hP.fb g e; omega, ?_⟩
    · have h := hP.oa.chg hput (fun g e hgD => by
        subst hgD
        have := hP.oa.isCells g _ e HK.out
        cases this)
      rwa [List.length_map] at h
    · have h := hP.ob.chg hput (fun g e hgD => by
        subst hgD
        have := hP.ob.isCells g _ e HK.out
        cases this)
      rwa [List.length_map] at h
    · exact (hP.ch.mono (T := fun _ => False) (fun k hk hm => by omega)).then hput (fun k hk e => by omega)
  case stop =>
    rintro D c pre W _ _ h _
    exact h.elim
end Go.Proofs.Ytdfkokbpidkokaa
