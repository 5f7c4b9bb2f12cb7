/- rosterref12.Bough: Put, Del, whatever the key; From (58), All (27), New (23). -/
import Derived.Test.YtdfkokbpidkokaaPPut
import Derived.Test.YtdfkokbpidkokaaTxtAll
import Derived.Deep.RegionHeldLaw
namespace Go.Proofs.Ytdfkokbpidkokaa
open Go.RowKit

/-- append at a step of a region that draws its order; the value a letter -/
theorem step_app0 {P : Program} {w : World} {ops : Array Oper} {o : Oper} {a : Act} {K : Act → World → Prop} {Q : Exit → Act → World → Prop} {E : Prop} (hgd : o.guard = none) (s x : Operand) (t : TypeId)
    (ho : o.op = .call { callee := .builtin .append, args := #[s, x], argTypes := #[t, t] })
    (e : TypeId) (i : TypeInfo) (z : Value) (sz bytes : Nat) (ht : P.underlying t = some (.slice e)) (hi : P.info? e = some i) (hz : i.zero = some z)
    (hsize : i.size = sz) (hby : i.bytes = bytes) (hzs : z.cells.size = sz) (hsz : 0 < sz) (hbp : 0 < bytes)
    (go : Option Nat) (n cap : Nat) (xs : List Value) (hs : a.eval s = sv go n cap) (hown : Own w e sz go n cap xs)
    (sa : Option Addr) (m c : Nat) (news : List Value) (hx : a.eval x = .slice sa m c) (hsn : sa = none → m = 0 ∧ c = 0) (hl : news.length = m * sz)
    (hnews : ∀ ad, sa = some ad → ∀ j u, news[j]? = some u → w.cell? (ad.add j) = some u) (h1 : ∀ u ∈ news, u.oneCell' = true)
    (hbytes : (n + m) * bytes ≤ 140737488355328)
    (h : ∀ go' cap' w', Own w' e sz go' (n + m) cap' (xs ++ news) → w.grownBy w' go → (go' = go ∨ go' = some w.heap.size) → K (a.put o.dst (sv go' (n + m) cap')) w') :
    if Region.wanted o (yielded ops a.tmps) = true then Oper.wp P o a w K Q else E := by
  have hw : Region.wanted o (yielded ops a.tmps) = true := by simp [Region.wanted, hgd]
  rw [if_pos hw]
  exact wp_app s x t ho e i z sz bytes ht hi hz hsize hby hzs hsz hbp go n cap xs hs hown sa m c news hx hsn hl hnews h1 hbytes h

section
variable {w : World} {o : Int} {t : Nat} {l : List (Int × ByteArray)} {pg : Option Nat} {pc : Nat}
theorem pset_fin {W : World} {g r : Nat} (T : PRep w o t l (some g) pc) (hc : Chg (fun _ => False) w W) (hr : r < l.length) (k : Int) (v : ByteArray) :
    PPost o w t (some g) (l.set r (k, v)) ((W.setCell ⟨g, r * 2, none⟩ (.int .i64 k)).setCell ⟨g, r * 2 + 1, none⟩ (.string v)) := by
  have T1 := T.chg hc (fun h => h) (fun _ _ h => h)
  have h1 := T1.r.row.set (j := r * 2) (by simp; omega) (.int .i64 k)
  have h2 := h1.set (j := r * 2 + 1) (by simp; omega) (.string v)
  have h3 : ((pcl l).set (r * 2) (.int .i64 k)).set (r * 2 + 1) (.string v) = pcl (l.set r (k, v)) := by
    unfold pcl
    rw [cells_set _ _ _ (by simpa using hr), List.map_set]
    rfl
  rw [h3] at h2
  have hs : Chg (fun x => x = g) W ((W.setCell ⟨g, r * 2, none⟩ (.int .i64 k)).setCell ⟨g, r * 2 + 1, none⟩ (.string v)) :=
    (Chg.setCell (S := fun x => x = g) (Chg.refl _ W) (p := ⟨g, r * 2, none⟩) (fun _ => rfl) _).setCell (p := ⟨g, r * 2 + 1, none⟩) (fun _ => rfl) _
  have hgt := T.tp g rfl
  refine ⟨some g, pc, ⟨?_, ?_, T.tp⟩, ((hc.mono fun _ _ h => h.elim).trans hs).mono fun x _ h => .inr (by rw [h]), fun g' e => .inl e⟩
  · rw [List.length_set]; exact (hs.block t T1.lt (by omega)).trans T1.hd
  · rw [List.length_set]; exact Own.mk h2 (by simp) T.le

set_option maxRecDepth 20000 in
set_option maxHeartbeats 1000000 in
theorem put_p0 (T : PRep w o t l pg pc) (k : Int) (v : ByteArray) (hl : l.length ≤ 4611686018427387903) (hh : hasL (cmpI o) l k = true) :
    Calls Try.prog 53 #[.pointer (some ⟨t, 0, none⟩), .int .i64 k, .string v] w fun e w' => e = .returned (.bool false) ∧ PPost o w t pg (putL (cmpI o) l k v) w' := by
  have ha := at_p T k hl
  rw [atV_yes hh] at ha
  have HA := Lib.hid ha; clear ha
  have hlt := hasL_lt (cmpI o) hh
  have hp : putL (cmpI o) l k v = l.set (rk (cmpI o) l k) (k, v) := by unfold putL; rw [if_pos hh]
  rw [hp]
  obtain ⟨g, rfl⟩ := T.some' (by omega)
  have b0 : (0 : Int) ≤ rk (cmpI o) l k := by omega
  have b1 : ((rk (cmpI o) l k : Nat) : Int) < l.length := by omega
  have HT := Lib.hid T; clear T hh hp
  generalize rk (cmpI o) l k = r at *
  go_enter Try.func53, Try.ntmps53
  go_wp2_with fail
  refine HA.out.mono ?_
  rintro e w1 ⟨rfl, n1, rfl⟩
  have hch0 : Chg (fun _ => False) w (w.drewN n1) := (Chg.refl _ w).drewN n1
  generalize w.drewN n1 = W at hch0 ⊢
  have T1 := HT.out.chg hch0 (fun h => h) (fun _ _ h => h)
  have hc1 := T1.c1
  simp only [sv, Option.map_some] at hc1
  have hk := T1.key hlt
  have hv := T1.val hlt
  have hf1 := T1.r.row.frozen (r * 2)
  have hf2 := T1.r.row.frozen (r * 2 + 1)
  have HFIN := Lib.hid (pset_fin HT.out hch0 hlt k v)
  clear T1 hch0
  generalize l[r] = z at *
  go_wp2
  go_ret
  exact ⟨rfl, HFIN.out⟩

theorem put_p (T : PRep w o t l pg pc) (k : Int) (v : ByteArray) (hl : (l.length + 1) * 24 ≤ 140737488355328) :
    Calls Try.prog 53 #[.pointer (some ⟨t, 0, none⟩), .int .i64 k, .string v] w fun e w' => e = .returned (.bool (!hasL (cmpI o) l k)) ∧ PPost o w t pg (putL (cmpI o) l k v) w' := by
  cases hh : hasL (cmpI o) l k
  · have hp : putL (cmpI o) l k v = l.take (rk (cmpI o) l k) ++ (k, v) :: l.drop (rk (cmpI o) l k) := by unfold putL; rw [if_neg (by rw [hh]; simp)]
    rw [hp]
    have ha := at_p T k (by omega)
    rw [atV_no hh] at ha
    have HA := Lib.hid ha; clear ha
    have HR : Hid (∀ m, Calls Try.prog 56 #[.pointer (some ⟨t, 0, none⟩), .int .i64 k] (w.drewN m) fun e w' => e = .returned (.int .i64 (rk (cmpI o) l k)) ∧ ∃ n, w' = (w.drewN m).drewN n) := fun m => rank_p (T.drewN m) k (by omega)
    have hrl := rk_le (cmpI o) l k
    cases pg with
    | none =>
      obtain ⟨h1, rfl⟩ := T.r.2
      obtain rfl : l = [] := List.eq_nil_of_length_eq_zero h1
      exact put_p_nil T k v HA HR
    | some g =>
      by_cases hz : pc = rk (cmpI o) l k
      · exact put_p_eq T hz k v hl hrl HA HR
      · exact put_p_ne T hz k v hl hrl HA HR
  · exact put_p0 T k v (by omega) hh

set_option maxRecDepth 20000 in
set_option maxHeartbeats 1000000 in
theorem del_p0 (T : PRep w o t l pg pc) (k : Int) (hl : l.length ≤ 4611686018427387903) (hh : hasL (cmpI o) l k = false) :
    Calls Try.prog 54 #[.pointer (some ⟨t, 0, none⟩), .int .i64 k] w fun e w' => e = .returned (.bool false) ∧ ∃ n, w' = w.drewN n := by
  have ha := at_p T k hl
  rw [atV_no hh] at ha
  have HA := Lib.hid ha; clear ha T
  go_enter Try.func54, Try.ntmps54
  go_wp2_with fail
  refine HA.out.mono ?_
  rintro e w1 ⟨rfl, n1, rfl⟩
  go_wp2
  go_ret
  exact ⟨rfl, n1, rfl⟩
theorem PPost.same {W : World} (T : PRep w o t l pg pc) (hc : Chg (fun _ => False) w W) : PPost o w t pg l W :=
  ⟨pg, pc, T.chg hc (fun h => h) (fun _ _ h => h), hc.mono fun _ _ h => h.elim, fun _ h => .inl h⟩
theorem del_p (T : PRep w o t l pg pc) (k : Int) (hl : (l.length + 1) * 24 ≤ 140737488355328) :
    Calls Try.prog 54 #[.pointer (some ⟨t, 0, none⟩), .int .i64 k] w fun e w' => e = .returned (.bool (hasL (cmpI o) l k)) ∧ PPost o w t pg (delL (cmpI o) l k) w' := by
  cases hh : hasL (cmpI o) l k
  · have hp : delL (cmpI o) l k = l := by unfold delL; rw [if_neg (by rw [hh]; simp)]
    rw [hp]
    refine (del_p0 T k (by omega) hh).mono ?_
    rintro e w' ⟨rfl, n, rfl⟩
    exact ⟨rfl, PPost.same T ((Chg.refl _ w).drewN n)⟩
  · have hp : delL (cmpI o) l k = l.take (rk (cmpI o) l k) ++ l.drop (rk (cmpI o) l k + 1) := by unfold delL; rw [if_pos hh]
    rw [hp]
    have ha := at_p T k (by omega)
    rw [atV_yes hh] at ha
    have HA := Lib.hid ha; clear ha
    have hlt := hasL_lt (cmpI o) hh
    obtain ⟨g, rfl⟩ := T.some' (by omega)
    by_cases hz : pc = rk (cmpI o) l k + 1
    · exact del_p_eq T hz k hl hlt HA
    · exact del_p_ne T hz k hl hlt HA

/-- a list of pairs in new memory -/
def GivesP (w : World) (l' : List (Int × ByteArray)) (e : Ending) (w' : World) : Prop :=
  ∃ g c, e = .returned (sv g l'.length c) ∧ Own w' 105 2 g l'.length c (pcl l') ∧ Chg (fun _ => False) w w' ∧ Fresh w g
theorem GivesP.mk {w w1 w' : World} {l' : List (Int × ByteArray)} {g : Option Nat} {n c : Nat} {xs : List Value} (hc : Chg (fun _ => False) w w1) (ho : Own w' 105 2 g n c xs) (hg : w1.grownBy w' none) (hf : g = none ∨ g = some w1.heap.size) (hx : xs = pcl l') :
    n = l'.length → GivesP w l' (.returned (sv g n c)) w' := by
  intro hn
  subst hn hx
  exact ⟨g, c, rfl, ho, hc.grown hg (fun k e => by cases e), (Fresh.none w).step hc.size hf⟩

set_option maxRecDepth 20000 in
set_option maxHeartbeats 1000000 in
theorem all_p (T : PRep w o t l pg pc) (hl : l.length * 24 ≤ 140737488355328) :
    Calls Try.prog 27 #[.pointer (some ⟨t, 0, none⟩)] w (GivesP w l) := by
  obtain ⟨i5, hi, hz0, hz1, hz2⟩ := info_parts Try.info105
  have HI := Lib.hid (And.intro hi (And.intro hz0 (And.intro hz1 hz2)))
  clear hi hz0 hz1 hz2
  have hc1 := T.c1
  simp only [sv] at hc1
  have hby : (0 + l.length) * 24 ≤ 140737488355328 := by omega
  have HBY := Lib.hid hby; clear hby
  have hsn : (pg.map fun g => (⟨g, 0, none⟩ : Addr)) = none → l.length = 0 ∧ pc = 0 := by
    cases pg with
    | none => exact fun _ => T.r.2
    | some g => intro h; cases h
  have hn : ∀ ad, (pg.map fun g => (⟨g, 0, none⟩ : Addr)) = some ad → ∀ j u, (pcl l)[j]? = some u → w.cell? (ad.add j) = some u := by
    cases pg with
    | none => intro ad h; cases h
    | some g => exact news_row T.r.row
  have HN := Lib.hid (And.intro hsn hn); clear hsn hn T
  go_enter Try.func27, Try.ntmps27
  go_wp2_with (at_builtin; refine wpList_app0 rfl (.tmp 4) (.tmp 8) 53 rfl 105 i5 (.agg #[.int .i64 0, .string ByteArray.empty]) 2 24 Try.underlying53 HI.out.1 HI.out.2.1 HI.out.2.2.1 HI.out.2.2.2 rfl (by decide) (by decide) none 0 0 [] rfl (Own.nil _ _ _) (pg.map fun g => (⟨g, 0, none⟩ : Addr)) l.length pc (pcl l) rfl HN.out.1 (pcl_length l) HN.out.2 (pcl_one _) HBY.out ?_)
  intro a1 ac1 w1 o1 g1 f1
  have HF := Lib.hid (GivesP.mk (Chg.refl _ w) o1 g1 f1 rfl rfl); clear o1 g1 f1
  go_wp2
  go_ret
  exact HF.out

set_option maxRecDepth 20000 in
set_option maxHeartbeats 1000000 in
theorem from_p_ne {g r : Nat} (T : PRep w o t l (some g) pc) (hz : ¬ pc = r) (k : Int) (hl : l.length * 24 ≤ 140737488355328) (hrl : r ≤ l.length)
    (HR : Hid (∀ m, Calls Try.prog 56 #[.pointer (some ⟨t, 0, none⟩), .int .i64 k] (w.drewN m) fun e w' => e = .returned (.int .i64 r) ∧ ∃ n, w' = (w.drewN m).drewN n)) :
    Calls Try.prog 58 #[.pointer (some ⟨t, 0, none⟩), .int .i64 k] w (GivesP w (l.drop r)) := by
  obtain ⟨i5, hi, hz0, hz1, hz2⟩ := info_parts Try.info105
  have HI := Lib.hid (And.intro hi (And.intro hz0 (And.intro hz1 hz2)))
  clear hi hz0 hz1 hz2
  have hc1 := T.c1
  simp only [sv, Option.map_some] at hc1
  have hlk := T.le
  have HT := Lib.hid T; clear T
  have hr0 : (0 : Int) ≤ r := by omega
  have hr1 : (r : Int) ≤ l.length := by omega
  have hr2 : (r : Int) ≤ pc := by omega
  have hr3 : (l.length : Int) ≤ pc := by omega
  go_enter Try.func58, Try.ntmps58
  go_wp2_with fail
  have hby : (0 + (l.length - r)) * 24 ≤ 140737488355328 := by omega
  have HBY := Lib.hid hby; clear hby
  have hln : (pcl (l.drop r)).length = (l.length - r) * 2 := by simp
  have HLN := Lib.hid hln; clear hln
  have HTL := Lib.hid (fun n => (HT.out.drewN n).tail r (some ⟨g, r * 2, none⟩) (if_neg hz).symm)
  have HKP : Hid (∀ n w1, (w.drewN n).grownBy w1 none → w1.cell? ⟨t, 1, none⟩ = some (.slice (some ⟨g, 0, none⟩) l.length pc)) := fun n w1 g1 => by
    have := ((HT.out.drewN n).chg (Chg.grown (S := fun _ => False) (Chg.refl _ _) g1 (fun k e => by cases e)) (fun h => h) (fun _ _ h => h)).c1
    simpa only [sv, Option.map_some] using this
  go_region_held_law (fun w' => w'.cell? ⟨t, 1, none⟩ = some (.slice (some ⟨g, 0, none⟩) l.length pc))
    (first | exact hc1 | exact HKP.out _ _ g1)
    (first
      | (go_at_call 56; refine (HR.out 1).mono ?_; rintro e w2 ⟨rfl, n2, rfl⟩)
      | (refine step_app0 (o := ⟨some 15, _, _, _, _, _⟩) ?h1 (.tmp 6) (.tmp 14) 53 ?h2 105 i5 (.agg #[.int .i64 0, .string ByteArray.empty]) 2 24 Try.underlying53 HI.out.1 HI.out.2.1 HI.out.2.2.1 HI.out.2.2.2 rfl (by decide) (by decide) none 0 0 [] ?h3 (Own.nil _ _ _) (some ⟨g, r * 2, none⟩) (l.length - r) (pc - r) (pcl (l.drop r)) ?h4 (fun h => by cases h) HLN.out ?h5 (pcl_one _) HBY.out ?_; (case h1 => rfl); (case h2 => rfl); (case h3 => rfl); (case h4 => go_simp); (case h5 => exact HTL.out _); intro a1 ac1 w1 o1 g1 f1)
      | fail)
  try simp only [Nat.zero_add, List.nil_append] at o1
  have HF := Lib.hid (GivesP.mk ((Chg.refl _ w).drewN (1 + n2)) o1 g1 f1 rfl (by simp)); clear o1 g1 f1
  go_simp
  go_wp2
  go_ret
  exact HF.out
set_option maxRecDepth 20000 in
set_option maxHeartbeats 1000000 in
theorem from_p_eq {g r : Nat} (T : PRep w o t l (some g) pc) (hz : pc = r) (k : Int) (hl : l.length * 24 ≤ 140737488355328) (hrl : r ≤ l.length)
    (HR : Hid (∀ m, Calls Try.prog 56 #[.pointer (some ⟨t, 0, none⟩), .int .i64 k] (w.drewN m) fun e w' => e = .returned (.int .i64 r) ∧ ∃ n, w' = (w.drewN m).drewN n)) :
    Calls Try.prog 58 #[.pointer (some ⟨t, 0, none⟩), .int .i64 k] w (GivesP w (l.drop r)) := by
  obtain ⟨i5, hi, hz0, hz1, hz2⟩ := info_parts Try.info105
  have HI := Lib.hid (And.intro hi (And.intro hz0 (And.intro hz1 hz2)))
  clear hi hz0 hz1 hz2
  obtain rfl := hz.symm
  have hc1 := T.c1
  simp only [sv, Option.map_some] at hc1
  have hlk := T.le
  have HT := Lib.hid T; clear T
  have hr0 : (0 : Int) ≤ r := by omega
  have hr1 : (r : Int) ≤ l.length := by omega
  have hr3 : (l.length : Int) ≤ r := by omega
  go_enter Try.func58, Try.ntmps58
  go_wp2_with fail
  have hby : (0 + 0) * 24 ≤ 140737488355328 := by omega
  have HBY := Lib.hid hby; clear hby
  have HLN : Hid (l.drop r = []) := List.drop_eq_nil_of_le (by omega)
  have HKP : Hid (∀ n w1, (w.drewN n).grownBy w1 none → w1.cell? ⟨t, 1, none⟩ = some (.slice (some ⟨g, 0, none⟩) l.length r)) := fun n w1 g1 => by
    have := ((HT.out.drewN n).chg (Chg.grown (S := fun _ => False) (Chg.refl _ _) g1 (fun k e => by cases e)) (fun h => h) (fun _ _ h => h)).c1
    simpa only [sv, Option.map_some] using this
  go_region_held_law (fun w' => w'.cell? ⟨t, 1, none⟩ = some (.slice (some ⟨g, 0, none⟩) l.length r))
    (first | exact hc1 | exact HKP.out _ _ g1)
    (first
      | (go_at_call 56; refine (HR.out 1).mono ?_; rintro e w2 ⟨rfl, n2, rfl⟩)
      | (refine step_app0 (o := ⟨some 15, _, _, _, _, _⟩) ?h1 (.tmp 6) (.tmp 14) 53 ?h2 105 i5 (.agg #[.int .i64 0, .string ByteArray.empty]) 2 24 Try.underlying53 HI.out.1 HI.out.2.1 HI.out.2.2.1 HI.out.2.2.2 rfl (by decide) (by decide) none 0 0 [] ?h3 (Own.nil _ _ _) (some ⟨g, 0, none⟩) 0 0 [] ?h4 (fun h => by cases h) rfl (fun _ _ _ _ h => by simp at h) (fun u hu => by cases hu) HBY.out ?_; (case h1 => rfl); (case h2 => rfl); (case h3 => rfl); (case h4 => go_simp); intro a1 ac1 w1 o1 g1 f1)
      | fail)
  try simp only [Nat.zero_add, List.nil_append] at o1
  have HF := Lib.hid (GivesP.mk (l' := l.drop r) ((Chg.refl _ w).drewN (1 + n2)) o1 g1 f1 (by rw [HLN.out]; rfl) (by rw [HLN.out]; rfl)); clear o1 g1 f1
  go_simp
  go_wp2
  go_ret
  exact HF.out
set_option maxRecDepth 20000 in
set_option maxHeartbeats 1000000 in
theorem from_p_nil (T : PRep w o t ([] : List (Int × ByteArray)) none 0) (k : Int)
    (HR : Hid (∀ m, Calls Try.prog 56 #[.pointer (some ⟨t, 0, none⟩), .int .i64 k] (w.drewN m) fun e w' => e = .returned (.int .i64 ((0 : Nat) : Int)) ∧ ∃ n, w' = (w.drewN m).drewN n)) :
    Calls Try.prog 58 #[.pointer (some ⟨t, 0, none⟩), .int .i64 k] w (GivesP w (([] : List (Int × ByteArray)).drop 0)) := by
  obtain ⟨i5, hi, hz0, hz1, hz2⟩ := info_parts Try.info105
  have HI := Lib.hid (And.intro hi (And.intro hz0 (And.intro hz1 hz2)))
  clear hi hz0 hz1 hz2
  have hc1 := T.c1
  simp only [sv, Option.map_none, List.length_nil] at hc1
  have HT := Lib.hid T; clear T
  go_enter Try.func58, Try.ntmps58
  go_wp2_with fail
  have hby : (0 + 0) * 24 ≤ 140737488355328 := by omega
  have HBY := Lib.hid hby; clear hby
  have HLN : Hid (([] : List (Int × ByteArray)).drop 0 = []) := rfl
  have HKP : Hid (∀ n w1, (w.drewN n).grownBy w1 none → w1.cell? ⟨t, 1, none⟩ = some (.slice none 0 0)) := fun n w1 g1 => by
    have := ((HT.out.drewN n).chg (Chg.grown (S := fun _ => False) (Chg.refl _ _) g1 (fun k e => by cases e)) (fun h => h) (fun _ _ h => h)).c1
    simpa only [sv, Option.map_none, List.length_nil] using this
  go_region_held_law (fun w' => w'.cell? ⟨t, 1, none⟩ = some (.slice none 0 0))
    (first | exact hc1 | exact HKP.out _ _ g1)
    (first
      | (go_at_call 56; refine (HR.out 1).mono ?_; rintro e w2 ⟨rfl, n2, rfl⟩)
      | (refine step_app0 (o := ⟨some 15, _, _, _, _, _⟩) ?h1 (.tmp 6) (.tmp 14) 53 ?h2 105 i5 (.agg #[.int .i64 0, .string ByteArray.empty]) 2 24 Try.underlying53 HI.out.1 HI.out.2.1 HI.out.2.2.1 HI.out.2.2.2 rfl (by decide) (by decide) none 0 0 [] ?h3 (Own.nil _ _ _) none 0 0 [] ?h4 (fun _ => ⟨rfl, rfl⟩) rfl (fun _ _ _ _ h => by simp at h) (fun u hu => by cases hu) HBY.out ?_; (case h1 => rfl); (case h2 => rfl); (case h3 => rfl); (case h4 => go_simp); intro a1 ac1 w1 o1 g1 f1)
      | fail)
  try simp only [Nat.zero_add, List.nil_append] at o1
  have HF := Lib.hid (GivesP.mk (l' := ([] : List (Int × ByteArray)).drop 0) ((Chg.refl _ w).drewN (1 + n2)) o1 g1 f1 (by rw [HLN.out]; rfl) (by rw [HLN.out]; rfl)); clear o1 g1 f1
  go_simp
  go_wp2
  go_ret
  exact HF.out
theorem from_p (T : PRep w o t l pg pc) (k : Int) (hl : l.length * 24 ≤ 140737488355328) :
    Calls Try.prog 58 #[.pointer (some ⟨t, 0, none⟩), .int .i64 k] w (GivesP w (l.drop (rk (cmpI o) l k))) := by
  have HR : Hid (∀ m, Calls Try.prog 56 #[.pointer (some ⟨t, 0, none⟩), .int .i64 k] (w.drewN m) fun e w' => e = .returned (.int .i64 (rk (cmpI o) l k)) ∧ ∃ n, w' = (w.drewN m).drewN n) := fun m => rank_p (T.drewN m) k (by omega)
  have hrl := rk_le (cmpI o) l k
  cases pg with
  | none =>
    obtain ⟨h1, rfl⟩ := T.r.2
    obtain rfl : l = [] := List.eq_nil_of_length_eq_zero h1
    exact from_p_nil T k HR
  | some g =>
    by_cases hz : pc = rk (cmpI o) l k
    · exact from_p_eq T hz k hl hrl HR
    · exact from_p_ne T hz k hl hrl HR
set_option maxRecDepth 20000 in
set_option maxHeartbeats 1000000 in
theorem new_p (o : Int) (w : World) : Calls Try.prog 23 #[.int .i64 o] w fun e w' => e = .returned (.pointer (some ⟨w.heap.size, 0, none⟩)) ∧ w.alloc (.cells #[.int .i64 o, .slice none 0 0] 102) = w' := by
  go_enter Try.func23, Try.ntmps23
  go_wp2
  go_ret
  exact ⟨rfl, rfl⟩
theorem new_prep (o : Int) (w : World) : PRep (w.alloc (.cells #[.int .i64 o, .slice none 0 0] 102)) o w.heap.size [] none 0 :=
  ⟨heap_alloc_new _ _, Own.nil _ _ _, fun _ h => by cases h⟩
end
end Go.Proofs.Ytdfkokbpidkokaa
