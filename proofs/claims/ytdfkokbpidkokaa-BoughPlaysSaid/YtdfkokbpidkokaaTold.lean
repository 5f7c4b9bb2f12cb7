/- rosterlaw12.told (25): an iterator that tells the wanted pairs is said to. -/
import Derived.Test.YtdfkokbpidkokaaPUp
import Derived.Test.YtdfkokbpidkokaaAlive
namespace Go.Proofs.Ytdfkokbpidkokaa
open Go.RowKit Go.Shelf

attribute [local go_sem] Oper.semAt_some

theorem pre_snoc {α : Type} {pre ps : List α} {x : α} (h : pre <+: ps) (hl : pre.length < ps.length) : pre ++ [x] <+: ps ↔ x = ps[pre.length] := by
  obtain ⟨r, rfl⟩ := h
  cases r with
  | nil => simp at hl
  | cons y r =>
    simp only [List.getElem_append_right (Nat.le_refl _), Nat.sub_self, List.getElem_cons_zero]
    rw [List.prefix_append_right_inj]
    constructor
    · intro h
      obtain ⟨r', h⟩ := h
      simp at h
      exact h.1
    · rintro rfl
      exact ⟨r, rfl⟩

/-- told's own variables: the list, where to leave, the result, the count -/
structure TB (w : World) (v : Value) (lv : Int) (Ds : List Nat) (n : Nat) (W : World) : Prop where
  b4 : W.heap[w.heap.size]? = some (.cells #[v] 53 (0, 0))
  b5 : W.heap[w.heap.size + 1]? = some (.cells #[.int .i64 lv] 3 (0, 0))
  b6 : W.heap[w.heap.size + 1 + 1]? = some (.cells #[.bool false] 4 (0, 0))
  bn : W.heap[w.heap.size + 1 + 1 + 1]? = some (.cells #[.int .i64 n] 3 (0, 0))
  old : Chg (fun x => w.heap.size ≤ x) w W
  ds : ∀ D ∈ Ds, W.heap[D]? = some (.deferred (some [])) ∧ w.heap.size + 1 + 1 + 1 < D
  nd : Ds.Nodup
section
variable {w W : World} {v : Value} {lv : Int} {Ds : List Nat} {n : Nat}
theorem TB.new (w : World) (v : Value) (lv : Int) : TB w v lv [] 0 ((((w.alloc (.cells #[v] 53)).alloc (.cells #[.int .i64 lv] 3)).alloc (.cells #[.bool false] 4)).alloc (.cells #[.int .i64 0] 3)) where
  b4 := (Below.heap_alloc _ _ _ (by simp; omega)).trans ((Below.heap_alloc _ _ _ (by simp; omega)).trans ((Below.heap_alloc _ _ _ (by simp)).trans (heap_alloc_new _ _)))
  b5 := (Below.heap_alloc _ _ _ (by simp)).trans ((Below.heap_alloc _ _ _ (by simp)).trans (by have := heap_alloc_new (w.alloc (.cells #[v] 53)) (.cells #[.int .i64 lv] 3); rwa [World.size_alloc] at this))
  b6 := (Below.heap_alloc _ _ _ (by simp)).trans (by have := heap_alloc_new ((w.alloc (.cells #[v] 53)).alloc (.cells #[.int .i64 lv] 3)) (.cells #[.bool false] 4); rwa [World.size_alloc, World.size_alloc] at this)
  bn := by have := heap_alloc_new (((w.alloc (.cells #[v] 53)).alloc (.cells #[.int .i64 lv] 3)).alloc (.cells #[.bool false] 4)) (.cells #[.int .i64 0] 3); rwa [World.size_alloc, World.size_alloc, World.size_alloc] at this
  old := ((((Chg.refl _ w).alloc _).alloc _).alloc _).alloc _
  ds := fun _ h => by cases h
  nd := List.nodup_nil
theorem TB.lt (H : TB w v lv Ds n W) : w.heap.size + 1 + 1 + 1 < W.heap.size := (Array.getElem?_eq_some_iff.1 H.bn).1
theorem TB.chg {W' : World} (H : TB w v lv Ds n W) (hc : Chg (fun x => w.heap.size + 1 + 1 + 1 < x ∧ x ∉ Ds) W W') : TB w v lv Ds n W' := by
  have hl := H.lt
  exact ⟨(hc.block _ (by omega) (by omega)).trans H.b4, (hc.block _ (by omega) (by omega)).trans H.b5, (hc.block _ (by omega) (by omega)).trans H.b6, (hc.block _ (by omega) (by omega)).trans H.bn, H.old.then hc (fun k _ h => by have h' : _ < k := h.1; omega),
    fun D hD => ⟨(hc.block D (Array.getElem?_eq_some_iff.1 (H.ds D hD).1).1 (fun h => h.2 hD)).trans (H.ds D hD).1, (H.ds D hD).2⟩, H.nd⟩
theorem TB.set (H : TB w v lv Ds n W) {z : Int} {m : Nat} (hz : z = m) : TB w v lv Ds m (W.setCell ⟨w.heap.size + 1 + 1 + 1, 0, none⟩ (.int .i64 z)) := by
  subst hz
  exact ⟨(Below.heap_setCell W _ _ _ (by simp; omega)).trans H.b4, (Below.heap_setCell W _ _ _ (by simp)).trans H.b5, (Below.heap_setCell W _ _ _ (by simp)).trans H.b6, heap_setCell_same W _ 0 _ 3 _ H.bn, H.old.setCell (p := ⟨w.heap.size + 1 + 1 + 1, 0, none⟩) (fun _ => by simp only; omega) _,
    fun D hD => ⟨(Below.heap_setCell W _ _ D (by have := (H.ds D hD).2; simp only; omega)).trans (H.ds D hD).1, (H.ds D hD).2⟩, H.nd⟩
theorem TB.c4 (H : TB w v lv Ds n W) : W.cell? ⟨w.heap.size, 0, none⟩ = some v := by rw [cell_of_row W _ 0 _ _ (0, 0) H.b4]; rfl
theorem TB.c5 (H : TB w v lv Ds n W) : W.cell? ⟨w.heap.size + 1, 0, none⟩ = some (.int .i64 lv) := by rw [cell_of_row W _ 0 _ _ (0, 0) H.b5]; rfl
theorem TB.c6 (H : TB w v lv Ds n W) : W.cell? ⟨w.heap.size + 1 + 1, 0, none⟩ = some (.bool false) := by rw [cell_of_row W _ 0 _ _ (0, 0) H.b6]; rfl
theorem TB.cn (H : TB w v lv Ds n W) : W.cell? ⟨w.heap.size + 1 + 1 + 1, 0, none⟩ = some (.int .i64 n) := by rw [cell_of_row W _ 0 _ _ (0, 0) H.bn]; rfl
theorem TB.f6 (H : TB w v lv Ds n W) : W.frozen? ⟨w.heap.size + 1 + 1, 0, none⟩ = false := frozen_of_row W _ 0 _ _ H.b6
theorem TB.fn (H : TB w v lv Ds n W) : W.frozen? ⟨w.heap.size + 1 + 1 + 1, 0, none⟩ = false := frozen_of_row W _ 0 _ _ H.bn

/-- what holds between two rounds, and where a round leaves -/
def ToldI (ps : List (Int × ByteArray)) (w : World) (v : Value) (lv : Int) (Ds : List Nat) (pre : List (Int × ByteArray)) (X : World) : Prop := pre <+: ps ∧ TB w v lv Ds pre.length X
def ToldX (ps : List (Int × ByteArray)) (w : World) (v : Value) (lv : Int) (Ds : List Nat) (br : Bool) (c : Code) (xs : List (Int × ByteArray)) (X : World) : Prop := c = .ret ∧ ¬ xs <+: ps ∨ br = true ∧ c = .exit 0 ∧ ∃ n, TB w v lv Ds n X
/-- a range over the iterator: the body goes on with each of the pairs, or leaves -/
theorem told_range {ps : List (Int × ByteArray)} (hN : ps.length ≤ 4611686018427387903) {q g : Nat} (hq : q < w.heap.size) (hg : g < w.heap.size)
    (hI : IterAt (.int .i64) w q g (ps.map fun p => (p.1, .string p.2))) (br : Bool) (H0 : TB w v lv Ds 0 W)
    {p1 p2 : Nat} {gop : Operand} {asg body : Code} {Q : Exit → Act → World → Prop} {a : Act} (s1 s2 : Nat) (hop : a.eval gop = .func (.func 68) #[] #[.pointer (some ⟨q, 0, none⟩)])
    (hassign : ∀ (l : Nat) (x : Int × ByteArray) (W : World) (K : Act → World → Prop), K { tmps := (((a.tmps.setIfInBounds p1 (.int .i64 x.1)).setIfInBounds p2 (.string x.2)).setIfInBounds s1 (.int .i64 x.1)).setIfInBounds s2 (.string x.2), defers := [] } W →
      asg.wpIn (Fence.wide.inRound l) 3 Try.prog (Exit.then K (fun _ _ _ => False)) { tmps := (a.tmps.setIfInBounds p1 (.int .i64 x.1)).setIfInBounds p2 (.string x.2), defers := [] } W)
    (hbody : ∀ (l : Nat) (pre : List (Int × ByteArray)) (x : Int × ByteArray) (X : World), pre <+: ps → TB w v lv Ds pre.length X → (hl : pre.length < ps.length) →
      body.wpIn (Fence.wide.inRound l) 3 Try.prog (ownPostG W.heap.size (KG g) (ToldI ps w v lv Ds) (ToldX ps w v lv Ds br) (pre ++ [x]) X) { tmps := (((a.tmps.setIfInBounds p1 (.int .i64 x.1)).setIfInBounds p2 (.string x.2)).setIfInBounds s1 (.int .i64 x.1)).setIfInBounds s2 (.string x.2), defers := [] } X)
    (hdone : ∀ (D n : Nat) (X : World), (br = false → n = ps.length) → TB w v lv (D :: Ds) n X → Q .normal { a with defers := { target := .collected D, args := #[] } :: a.defers } X)
    (hstop : br = true → ∀ (a' : Act) (X : World), Q .normal a' X → Q (.exit 0) a' X) :
    (Code.rangeFunc gop #[p1, p2] asg body).wpIn Fence.wide 5 Try.prog Q a W := by
  have hl0 := H0.lt
  have hqW : q < W.heap.size := by omega
  have hgW : g < W.heap.size := by omega
  have hIW : IterAt (.int .i64) W q g (ps.map fun p => (p.1, .string p.2)) := hI.keep (H0.old.block q hq (by omega)) (H0.old.block g hg (by omega))
  have hds : ∀ D ∈ Ds, D < W.heap.size := fun D hD => (Array.getElem?_eq_some_iff.1 (H0.ds D hD).1).1
  have fin : ∀ {D n : Nat} {X : World}, W.heap.size ≤ D → TB w v lv Ds n X → X.heap[D]? = some (.deferred (some [])) → TB w v lv (D :: Ds) n X := fun {D n X} hD h hd =>
    ⟨h.b4, h.b5, h.b6, h.bn, h.old, fun D' hD' => by
      rcases List.mem_cons.1 hD' with rfl | hD'
      · exact ⟨hd, by omega⟩
      · exact h.ds D' hD', List.nodup_cons.2 ⟨fun hm => by have := hds D hm; omega, h.nd⟩⟩
  have own : ∀ {n : Nat} {X X' : World} {row : Option Nat}, TB w v lv Ds n X → X.grownBy X' row → (∀ r, row = some r → W.heap.size ≤ r ∧ ∃ o : Obj, X.heap[r]? = some o ∧ o.isCells = false) → TB w v lv Ds n X' := by
    intro n X X' row hs hgr hr
    exact hs.chg (Chg.grown (Chg.refl _ X) hgr (fun k e _ => ⟨by have := (hr k e).1; omega, fun hm => by have := (hr k e).1; have := hds k hm; omega⟩))
  refine wpIn_rangeFunc_ownG (F := Fence.wide) (n := 5) rfl (by decide) (gf := 68) (lb := #[.pointer (some ⟨q, 0, none⟩)]) hop trivial (enters_of Try.func68 (by kernel_rfl) rfl)
    (seq_stopsB Fence.wide 4 trivial rfl (by decide) q g ps hN W hqW hgW hIW) KG.trans (fun X l o o' => KG.putObj hgW X l o o') (Below.refl _ _) (fun _ => rfl)
    (ToldI ps w v lv Ds) (ToldX ps w v lv Ds br)
    (fun s X X' row hs hgr hr => ⟨hs.1, own hs.2 hgr hr⟩)
    (fun c s X X' row hs hgr hr => hs.elim .inl (fun ⟨h1, h2, n, h3⟩ => .inr ⟨h1, h2, n, own h3 hgr hr⟩))
    ⟨List.nil_prefix, H0⟩ (fun x => { tmps := (((a.tmps.setIfInBounds p1 (.int .i64 x.1)).setIfInBounds p2 (.string x.2)).setIfInBounds s1 (.int .i64 x.1)).setIfInBounds s2 (.string x.2), defers := [] }) (fun l x X K hK => by simpa using hassign l x X K hK) (fun l pre x X hs hl => hbody l pre x X hs.1 hs.2 hl) ?_ ?_
  · rintro D ys X hD rfl ⟨_, h⟩ hd
    exact hdone D _ X (fun _ => rfl) (fin hD h hd)
  · rintro D c pre X hD hp (⟨_, hn⟩ | ⟨h1, rfl, n, h2⟩) hd
    · exact absurd hp hn
    · exact wpIn_exit (hstop h1 _ _ (hdone D n X (fun h => by rw [h1] at h; cases h) (fin hD h2 hd)))
/-- what is left when the result is stored and the three marks are taken -/
theorem told_end {D1 D2 D3 : Nat} (H : TB w v lv [D3, D2, D1] n W) :
    (W.setCell ⟨w.heap.size + 1 + 1, 0, none⟩ (.bool true)).heap[D3]? = some (.deferred (some [])) ∧
    ((W.setCell ⟨w.heap.size + 1 + 1, 0, none⟩ (.bool true)).putObj D3 (.deferred none)).heap[D2]? = some (.deferred (some [])) ∧
    (((W.setCell ⟨w.heap.size + 1 + 1, 0, none⟩ (.bool true)).putObj D3 (.deferred none)).putObj D2 (.deferred none)).heap[D1]? = some (.deferred (some [])) ∧
    ((((W.setCell ⟨w.heap.size + 1 + 1, 0, none⟩ (.bool true)).putObj D3 (.deferred none)).putObj D2 (.deferred none)).putObj D1 (.deferred none)).cell? ⟨w.heap.size + 1 + 1, 0, none⟩ = some (.bool true) ∧
    Chg (fun _ => False) w ((((W.setCell ⟨w.heap.size + 1 + 1, 0, none⟩ (.bool true)).putObj D3 (.deferred none)).putObj D2 (.deferred none)).putObj D1 (.deferred none)) := by
  obtain ⟨k3, m3⟩ := H.ds D3 (by simp)
  obtain ⟨k2, m2⟩ := H.ds D2 (by simp)
  obtain ⟨k1, m1⟩ := H.ds D1 (by simp)
  have hnd := H.nd
  simp only [List.nodup_cons, List.mem_cons, List.not_mem_nil, or_false, not_or] at hnd
  obtain ⟨⟨n32, n31⟩, n21, _⟩ := hnd
  have e0 : ∀ D, D ≠ w.heap.size + 1 + 1 → (W.setCell ⟨w.heap.size + 1 + 1, 0, none⟩ (.bool true)).heap[D]? = W.heap[D]? := fun D h => Below.heap_setCell W _ _ D h
  have hp : ∀ (X : World) (D : Nat) (o : Obj), Chg (fun x => x = D) X (X.putObj D o) := fun X D o => ⟨rfl, rfl, rfl, by simp, fun k _ hn => World.putObj_heap_other (by omega)⟩
  have hrow := heap_setCell_same W (w.heap.size + 1 + 1) 0 _ 4 (.bool true) H.b6
  have hc5 : Chg (fun x => w.heap.size ≤ x) w (W.setCell ⟨w.heap.size + 1 + 1, 0, none⟩ (.bool true)) := H.old.setCell (p := ⟨w.heap.size + 1 + 1, 0, none⟩) (fun _ => by simp only; omega) _
  refine ⟨(e0 D3 (by omega)).trans k3, (World.putObj_heap_other (by omega)).trans ((e0 D2 (by omega)).trans k2), (World.putObj_heap_other (by omega)).trans ((World.putObj_heap_other (by omega)).trans ((e0 D1 (by omega)).trans k1)), ?_, ?_⟩
  · have h6 := (World.putObj_heap_other (w := ((W.setCell ⟨w.heap.size + 1 + 1, 0, none⟩ (.bool true)).putObj D3 (.deferred none)).putObj D2 (.deferred none)) (o := .deferred none) (show w.heap.size + 1 + 1 ≠ D1 by omega)).trans ((World.putObj_heap_other (show w.heap.size + 1 + 1 ≠ D2 by omega)).trans ((World.putObj_heap_other (show w.heap.size + 1 + 1 ≠ D3 by omega)).trans hrow))
    rw [cell_of_row _ _ 0 _ _ (0, 0) h6]; rfl
  · have h1 := ((hc5.mono (T := fun _ => False) fun k hk hm => absurd hk (by omega)))
    exact ((h1.then (hp _ _ _) (fun k hk e => by omega)).then (hp _ _ _) (fun k hk e => by omega)).then (hp _ _ _) (fun k hk e => by omega)
end

set_option maxRecDepth 100000 in
set_option maxHeartbeats 4000000 in
theorem told_any (ps : List (Int × ByteArray)) (hN : ps.length ≤ 4611686018427387903) (q g : Nat) (wg : Option Nat) (wc : Nat) (leave : Int) (w : World) (hq : q < w.heap.size) (hg : g < w.heap.size)
    (hI : IterAt (.int .i64) w q g (ps.map fun p => (p.1, .string p.2))) (hw : Own w 105 2 wg ps.length wc (pcl ps)) :
    Calls Try.prog 25 #[.func (.func 68) #[] #[.pointer (some ⟨q, 0, none⟩)], sv wg ps.length wc, .int .i64 leave] w fun e w' => e = .returned (.bool true) ∧ Chg (fun _ => False) w w' := by
  have hne : ∀ w, (binOp .eql 52 (.func (.func 68) #[] #[.pointer (some ⟨q, 0, none⟩)]) .nilFunc).run Try.prog w = .ok (.bool false) w := fun _ => by kernel_rfl
  refine (callsIn_wide (n := 5)).1 (callsIn_of_wp_marks Try.func25 rfl trivial ?_ rfl)
  simp only [Try.ntmps25, List.size_toArray, List.length_cons, List.length_nil, Nat.reduceAdd, Nat.reduceSub, Array.replicate_succ, Array.replicate_zero, List.push_toArray, List.append_toArray, List.nil_append, List.cons_append, sv]
  gi_wp2_with fail
  clear hne
  have T0 := Lib.hid (TB.new w (.slice (wg.map fun g => (⟨g, 0, none⟩ : Addr)) ps.length wc) leave)
  generalize (((w.alloc (.cells #[.slice (wg.map fun g => (⟨g, 0, none⟩ : Addr)) ps.length wc] 53)).alloc (.cells #[.int .i64 leave] 3)).alloc (.cells #[.bool false] 4)).alloc (.cells #[.int .i64 0] 3) = W0 at T0 ⊢
  refine told_range hN hq hg hI true T0.out 8 9 rfl ?assign ?body ?done ?stop
  case assign =>
    intro l x W K hK
    simp only [List.setIfInBounds_toArray, List.set_cons_zero, List.set_cons_succ] at hK ⊢
    gi_wp2
    exact hK
  case body =>
    intro l pre x X hp hT hl
    simp only [List.setIfInBounds_toArray, List.set_cons_zero, List.set_cons_succ]
    have hps := pre_snoc (x := x) hp hl
    have hpl : 0 < ps.length := by omega
    have hwX := hw.keep (w' := X) (fun g' e => hT.old.block g' (by subst e; exact hw.row.lt) (by subst e; have := hw.row.lt; omega))
    obtain ⟨g0, rfl⟩ : ∃ g0, wg = some g0 := by
      cases wg with
      | none => have := hw.2.1; omega
      | some g0 => exact ⟨g0, rfl⟩
    simp only [Option.map_some]
    have hk := hwX.row.cell (pcl_key ps hl)
    have hv := hwX.row.cell (pcl_val ps hl)
    have c4 := hT.c4
    have c5 := hT.c5
    have cn := hT.cn
    have f6 := hT.f6
    have c6 := hT.c6
    have fn := hT.fn
    simp only [Option.map_some] at c4
    have hgn : g ≠ w.heap.size + 1 + 1 + 1 := by omega
    have hset : ∀ z : Int, z = ((pre ++ [x]).length : Nat) → (pre ++ [x] <+: ps) → KeepsFrom W0.heap.size X (X.setCell ⟨w.heap.size + 1 + 1 + 1, 0, none⟩ (.int .i64 z)) ∧ KG g X (X.setCell ⟨w.heap.size + 1 + 1 + 1, 0, none⟩ (.int .i64 z)) ∧ ToldI ps w (.slice (some ⟨g0, 0, none⟩) ps.length wc) leave _ (pre ++ [x]) (X.setCell ⟨w.heap.size + 1 + 1 + 1, 0, none⟩ (.int .i64 z)) :=
      fun z hz hp' => ⟨(KeepsOthers.setCell _ _ _).from _, KG.chg (Chg.setCell (S := fun x => x = w.heap.size + 1 + 1 + 1) (Chg.refl _ X) (p := ⟨_, 0, none⟩) (fun _ => rfl) _) hgn, hp', hT.set hz⟩
    have HSET := Lib.hid hset; clear hset
    have HT := Lib.hid hT; clear hT
    have HPS := Lib.hid hps; clear hps
    have hl0 : (0 : Int) ≤ pre.length := by omega
    have hl1 : (pre.length : Int) < ps.length := by omega
    have hl2 : pre.length ≤ 4611686018427387903 := by omega
    generalize ps[pre.length] = y at *
    have HL : Hid ((pre ++ [x]).length = pre.length + 1) := by simp [Hid]
    generalize pre.length = m at *
    clear hw hwX hp
    by_cases hlv : (m : Int) = leave
    · have t1 : ((m : Int) == leave) = true := by simpa using hlv
      clear hlv
      gi_wp2
      exact ⟨KeepsFrom.refl _ _, .inr ⟨rfl, rfl, m, HT.out⟩⟩
    · have t1 : ((m : Int) == leave) = false := by simpa using hlv
      clear hlv
      by_cases hx : x = y
      · have HXP := HPS.out.2 hx
        have HXH := Lib.hid HXP; clear HXP
        subst hx
        have t2 : (x.1 != x.1) = false := by simp
        have t3 : (x.2.toList == x.2.toList) = true := by simp
        gi_wp2
        exact HSET.out _ (by rw [HL.out]; simp) HXH.out
      · have hbad : ¬ (pre ++ [x] <+: ps) := fun h => hx (HPS.out.1 h)
        have HB := Lib.hid hbad; clear hbad
        by_cases h1 : x.1 = y.1
        · have t2 : (x.1 != y.1) = false := by simpa using h1
          have t3 : (x.2.toList == y.2.toList) = false := by
            rw [beq_eq_false_iff_ne]
            intro h2
            exact hx (Prod.ext h1 (by
              rw [ByteArray.toList_eq, ByteArray.toList_eq] at h2
              exact ByteArray.ext (Array.ext' h2)))
          clear hx h1
          gi_wp2
          exact ⟨(KeepsOthers.setCell _ _ _).from _, .inl ⟨rfl, HB.out⟩⟩
        · have t2 : (x.1 != y.1) = true := by simpa using h1
          clear hx h1
          gi_wp2
          exact ⟨(KeepsOthers.setCell _ _ _).from _, .inl ⟨rfl, HB.out⟩⟩
  case stop =>
    intro _ a' X h
    exact h
  case done =>
    intro D1 n1 X1 _ hT1
    have HT1 := Lib.hid hT1
    clear hT1
    gi_wp2_with fail
    clear T0
    refine wpIn_loop_rounds 3 ?_
    rw [roundsIn_succ]
    have cn1 := HT1.out.cn
    have fn1 := HT1.out.fn
    gi_wp2_with fail
    have HT2 : Hid (TB w (.slice (wg.map fun g => (⟨g, 0, none⟩ : Addr)) ps.length wc) leave [D1] 0 (X1.setCell ⟨w.heap.size + 1 + 1 + 1, 0, none⟩ (.int .i64 0))) := HT1.out.set rfl
    generalize X1.setCell ⟨w.heap.size + 1 + 1 + 1, 0, none⟩ (.int .i64 0) = W2 at HT2 ⊢
    clear cn1 fn1 HT1
    refine told_range hN hq hg hI false HT2.out 11 12 rfl ?assign2 ?body2 ?done2 ?stop2
    case assign2 =>
      intro l x W K hK
      simp only [List.setIfInBounds_toArray, List.set_cons_zero, List.set_cons_succ] at hK ⊢
      gi_wp2
      exact hK
    case body2 =>
      intro l pre x X hp hT hl
      simp only [List.setIfInBounds_toArray, List.set_cons_zero, List.set_cons_succ]
      have hps := pre_snoc (x := x) hp hl
      have hpl : 0 < ps.length := by omega
      have hwX := hw.keep (w' := X) (fun g' e => hT.old.block g' (by subst e; exact hw.row.lt) (by subst e; have := hw.row.lt; omega))
      obtain ⟨g0, rfl⟩ : ∃ g0, wg = some g0 := by
        cases wg with
        | none => have := hw.2.1; omega
        | some g0 => exact ⟨g0, rfl⟩
      simp only [Option.map_some]
      have hk := hwX.row.cell (pcl_key ps hl)
      have hv := hwX.row.cell (pcl_val ps hl)
      have c4 := hT.c4
      have c5 := hT.c5
      have cn := hT.cn
      have f6 := hT.f6
      have c6 := hT.c6
      have fn := hT.fn
      simp only [Option.map_some] at c4
      have hgn : g ≠ w.heap.size + 1 + 1 + 1 := by omega
      have hset : ∀ z : Int, z = ((pre ++ [x]).length : Nat) → (pre ++ [x] <+: ps) → KeepsFrom W2.heap.size X (X.setCell ⟨w.heap.size + 1 + 1 + 1, 0, none⟩ (.int .i64 z)) ∧ KG g X (X.setCell ⟨w.heap.size + 1 + 1 + 1, 0, none⟩ (.int .i64 z)) ∧ ToldI ps w (.slice (some ⟨g0, 0, none⟩) ps.length wc) leave _ (pre ++ [x]) (X.setCell ⟨w.heap.size + 1 + 1 + 1, 0, none⟩ (.int .i64 z)) :=
        fun z hz hp' => ⟨(KeepsOthers.setCell _ _ _).from _, KG.chg (Chg.setCell (S := fun x => x = w.heap.size + 1 + 1 + 1) (Chg.refl _ X) (p := ⟨_, 0, none⟩) (fun _ => rfl) _) hgn, hp', hT.set hz⟩
      have HSET := Lib.hid hset; clear hset
      have HT := Lib.hid hT; clear hT
      have HPS := Lib.hid hps; clear hps
      have hl0 : (0 : Int) ≤ pre.length := by omega
      have hl1 : (pre.length : Int) < ps.length := by omega
      have hl2 : pre.length ≤ 4611686018427387903 := by omega
      generalize ps[pre.length] = y at *
      have HL : Hid ((pre ++ [x]).length = pre.length + 1) := by simp [Hid]
      generalize pre.length = m at *
      clear hw hwX hp
      by_cases hx : x = y
      · have HXP := HPS.out.2 hx
        have HXH := Lib.hid HXP; clear HXP
        subst hx
        have t2 : (x.1 != x.1) = false := by simp
        have t3 : (x.2.toList == x.2.toList) = true := by simp
        gi_wp2
        exact HSET.out _ (by rw [HL.out]; simp) HXH.out
      · have hbad : ¬ (pre ++ [x] <+: ps) := fun h => hx (HPS.out.1 h)
        have HB := Lib.hid hbad; clear hbad
        by_cases h1 : x.1 = y.1
        · have t2 : (x.1 != y.1) = false := by simpa using h1
          have t3 : (x.2.toList == y.2.toList) = false := by
            rw [beq_eq_false_iff_ne]
            intro h2
            exact hx (Prod.ext h1 (by
              rw [ByteArray.toList_eq, ByteArray.toList_eq] at h2
              exact ByteArray.ext (Array.ext' h2)))
          clear hx h1
          gi_wp2
          exact ⟨(KeepsOthers.setCell _ _ _).from _, .inl ⟨rfl, HB.out⟩⟩
        · have t2 : (x.1 != y.1) = true := by simpa using h1
          clear hx h1
          gi_wp2
          exact ⟨(KeepsOthers.setCell _ _ _).from _, .inl ⟨rfl, HB.out⟩⟩
    case stop2 =>
      intro h
      cases h
    case done2 =>
      intro D2 n2 X2 hn2 hT2
      obtain rfl := hn2 rfl
      have HT3 := Lib.hid hT2
      clear hT2 hn2 HT2
      have cn2 := HT3.out.cn
      have c42 := HT3.out.c4
      have t2 : ((ps.length : Int) != ps.length) = false := by simp
      gi_wp2_with fail
      rw [roundsIn_succ]
      have fn2 := HT3.out.fn
      clear t2
      gi_wp2_with fail
      have HT4 : Hid (TB w (.slice (wg.map fun g => (⟨g, 0, none⟩ : Addr)) ps.length wc) leave [D2, D1] 0 (X2.setCell ⟨w.heap.size + 1 + 1 + 1, 0, none⟩ (.int .i64 0))) := HT3.out.set rfl
      generalize X2.setCell ⟨w.heap.size + 1 + 1 + 1, 0, none⟩ (.int .i64 0) = W4 at HT4 ⊢
      clear cn2 c42 fn2 HT3
      refine told_range hN hq hg hI false HT4.out 11 12 rfl ?assign3 ?body3 ?done3 ?stop3
      case assign3 =>
        intro l x W K hK
        simp only [List.setIfInBounds_toArray, List.set_cons_zero, List.set_cons_succ] at hK ⊢
        gi_wp2
        exact hK
      case body3 =>
        intro l pre x X hp hT hl
        simp only [List.setIfInBounds_toArray, List.set_cons_zero, List.set_cons_succ]
        have hps := pre_snoc (x := x) hp hl
        have hpl : 0 < ps.length := by omega
        have hwX := hw.keep (w' := X) (fun g' e => hT.old.block g' (by subst e; exact hw.row.lt) (by subst e; have := hw.row.lt; omega))
        obtain ⟨g0, rfl⟩ : ∃ g0, wg = some g0 := by
          cases wg with
          | none => have := hw.2.1; omega
          | some g0 => exact ⟨g0, rfl⟩
        simp only [Option.map_some]
        have hk := hwX.row.cell (pcl_key ps hl)
        have hv := hwX.row.cell (pcl_val ps hl)
        have c4 := hT.c4
        have c5 := hT.c5
        have cn := hT.cn
        have f6 := hT.f6
        have c6 := hT.c6
        have fn := hT.fn
        simp only [Option.map_some] at c4
        have hgn : g ≠ w.heap.size + 1 + 1 + 1 := by omega
        have hset : ∀ z : Int, z = ((pre ++ [x]).length : Nat) → (pre ++ [x] <+: ps) → KeepsFrom W4.heap.size X (X.setCell ⟨w.heap.size + 1 + 1 + 1, 0, none⟩ (.int .i64 z)) ∧ KG g X (X.setCell ⟨w.heap.size + 1 + 1 + 1, 0, none⟩ (.int .i64 z)) ∧ ToldI ps w (.slice (some ⟨g0, 0, none⟩) ps.length wc) leave _ (pre ++ [x]) (X.setCell ⟨w.heap.size + 1 + 1 + 1, 0, none⟩ (.int .i64 z)) :=
          fun z hz hp' => ⟨(KeepsOthers.setCell _ _ _).from _, KG.chg (Chg.setCell (S := fun x => x = w.heap.size + 1 + 1 + 1) (Chg.refl _ X) (p := ⟨_, 0, none⟩) (fun _ => rfl) _) hgn, hp', hT.set hz⟩
        have HSET := Lib.hid hset; clear hset
        have HT := Lib.hid hT; clear hT
        have HPS := Lib.hid hps; clear hps
        have hl0 : (0 : Int) ≤ pre.length := by omega
        have hl1 : (pre.length : Int) < ps.length := by omega
        have hl2 : pre.length ≤ 4611686018427387903 := by omega
        generalize ps[pre.length] = y at *
        have HL : Hid ((pre ++ [x]).length = pre.length + 1) := by simp [Hid]
        generalize pre.length = m at *
        clear hw hwX hp
        by_cases hx : x = y
        · have HXP := HPS.out.2 hx
          have HXH := Lib.hid HXP; clear HXP
          subst hx
          have t2 : (x.1 != x.1) = false := by simp
          have t3 : (x.2.toList == x.2.toList) = true := by simp
          gi_wp2
          exact HSET.out _ (by rw [HL.out]; simp) HXH.out
        · have hbad : ¬ (pre ++ [x] <+: ps) := fun h => hx (HPS.out.1 h)
          have HB := Lib.hid hbad; clear hbad
          by_cases h1 : x.1 = y.1
          · have t2 : (x.1 != y.1) = false := by simpa using h1
            have t3 : (x.2.toList == y.2.toList) = false := by
              rw [beq_eq_false_iff_ne]
              intro h2
              exact hx (Prod.ext h1 (by
                rw [ByteArray.toList_eq, ByteArray.toList_eq] at h2
                exact ByteArray.ext (Array.ext' h2)))
            clear hx h1
            gi_wp2
            exact ⟨(KeepsOthers.setCell _ _ _).from _, .inl ⟨rfl, HB.out⟩⟩
          · have t2 : (x.1 != y.1) = true := by simpa using h1
            clear hx h1
            gi_wp2
            exact ⟨(KeepsOthers.setCell _ _ _).from _, .inl ⟨rfl, HB.out⟩⟩
      case stop3 =>
        intro h
        cases h
      case done3 =>
        intro D3 n3 X3 hn3 hT3
        obtain rfl := hn3 rfl
        have HT5 := Lib.hid hT3
        clear hT3 hn3 HT4
        have cn3 := HT5.out.cn
        have c43 := HT5.out.c4
        have t3 : ((ps.length : Int) != ps.length) = false := by simp
        gi_wp2_with fail
        rw [roundsIn_succ]
        have c63 := HT5.out.c6
        have f63 := HT5.out.f6
        clear t3
        gi_wp2_with fail
        obtain ⟨k3, k2, k1, hcell, hch⟩ := told_end HT5.out
        refine ⟨by simp, .inl ⟨_, _, rfl, run_takeDeferred k3, ?_⟩⟩
        refine ⟨by simp, .inl ⟨_, _, rfl, run_takeDeferred k2, ?_⟩⟩
        refine ⟨by simp, .inl ⟨_, _, rfl, run_takeDeferred k1, ?_⟩⟩
        clear k3 k2 k1 cn3 c43 c63 f63
        refine ⟨.bool true, ?_, rfl, hch⟩
        simp [results, go_sem, hcell]
end Go.Proofs.Ytdfkokbpidkokaa
