/- rosterref12.Bough.UpTo (59). -/
import Derived.Test.YtdfkokbpidkokaaPFrom
namespace Go.Proofs.Ytdfkokbpidkokaa
open Go.RowKit

theorem up_iff {K V : Type} {c : K → K → Int} (ho : Ord c) {l : List (K × V)} (hs : Sorted c l) (k : K) {i : Nat} (hi : i < l.length) : c (l[i]).1 k ≤ 0 ↔ i < upL c l k := by
  have h1 := rk_iff c ho hs (k := k) (List.getElem?_eq_getElem hi)
  unfold upL
  rcases Nat.lt_trichotomy i (rk c l k) with h | h | h
  · have := h1.2 h
    constructor
    · intro _; split <;> omega
    · intro _; omega
  · subst h
    have h2 := hasL_at c l k _ (List.getElem?_eq_getElem hi)
    have h3 := rk_ge_first c (List.getElem?_eq_getElem hi)
    constructor
    · intro h4
      have h5 : c (l[rk c l k]).1 k = 0 := by omega
      rw [h2, h5]
      simp
    · intro h4
      split at h4
      · rename_i h5
        rw [h2] at h5
        have : c (l[rk c l k]).1 k = 0 := by simpa using h5
        omega
      · omega
  · have hr : rk c l k < l.length := by omega
    have h3 := rk_ge_first c (List.getElem?_eq_getElem hr)
    have h4 := (List.pairwise_iff_getElem.1 hs) (rk c l k) i hr hi h
    constructor
    · intro h5
      exfalso
      rcases Int.lt_or_eq_of_le h5 with h6 | h6
      · exact h3 (ho.tr h4 h6)
      · exact h3 (ho.er h4 h6)
    · intro h5
      split at h5 <;> omega

/-- what the loop has gathered when j pairs are left -/
def upAcc (l : List (Int × ByteArray)) (m j : Nat) : List (Int × ByteArray) := ((l.take m).drop j).reverse
theorem upAcc_skip (l : List (Int × ByteArray)) {m i : Nat} (h : ¬ i < m) : upAcc l m (i + 1) = upAcc l m i := by
  unfold upAcc
  rw [List.drop_eq_nil_of_le (by simp; omega), List.drop_eq_nil_of_le (by simp; omega)]
theorem upAcc_snoc (l : List (Int × ByteArray)) {m i : Nat} (h : i < m) (hl : i < l.length) : upAcc l m i = upAcc l m (i + 1) ++ [l[i]] := by
  unfold upAcc
  rw [List.drop_eq_getElem_cons (by simp; omega : i < (l.take m).length), List.reverse_cons, List.getElem_take]
theorem upAcc_end (l : List (Int × ByteArray)) (m : Nat) : upAcc l m l.length = [] := by
  unfold upAcc
  rw [List.drop_eq_nil_of_le (by simp; omega)]; rfl
theorem upAcc_zero (l : List (Int × ByteArray)) (m : Nat) : upAcc l m 0 = (l.take m).reverse := rfl
theorem upAcc_le (l : List (Int × ByteArray)) (m j : Nat) : (upAcc l m j).length ≤ l.length - j := by unfold upAcc; simp; omega
/-- the list under way -/
def UpSt (w : World) (l : List (Int × ByteArray)) (m j : Nat) (lv : Value) (wr : World) : Prop :=
  ∃ g c, lv = sv g (upAcc l m j).length c ∧ Own wr 105 2 g (upAcc l m j).length c (pcl (upAcc l m j)) ∧ Chg (fun _ => False) w wr ∧ Fresh w g

section
variable {w : World} {o : Int} {t : Nat} {l : List (Int × ByteArray)} {pg : Option Nat} {pc : Nat}
set_option maxRecDepth 20000 in
set_option maxHeartbeats 1000000 in
theorem up_p (T : PRep w o t l pg pc) (hs : Sorted (cmpI o) l) (k : Int) (hl : l.length * 24 ≤ 140737488355328) :
    Calls Try.prog 59 #[.pointer (some ⟨t, 0, none⟩), .int .i64 k] w (GivesP w (l.take (upL (cmpI o) l k)).reverse) := by
  obtain ⟨i5, hi, hz0, hz1, hz2⟩ := info_parts Try.info105
  have HI := Lib.hid (And.intro hi (And.intro hz0 (And.intro hz1 hz2)))
  clear hi hz0 hz1 hz2
  have HT := Lib.hid T; clear T
  have HUP := Lib.hid (fun i (h : i < l.length) => up_iff (cmpI_ord o) hs k h)
  have hml := upL_le (cmpI o) l k
  generalize upL (cmpI o) l k = m at *
  have hc1 := HT.out.c1
  simp only [sv] at hc1
  have hll : l.length ≤ 5864062014805 := by omega
  go_enter Try.func59, Try.ntmps59
  go_wp2
  clear hc1
  go_loopw [5, 6] (fun lv iv wr => ∃ (z : Int) (j : Nat), iv = .int .i64 z ∧ z + 1 = j ∧ j ≤ l.length ∧ UpSt w l m j lv wr) (fun _ iv _ => (intOf iv + 1).toNat)
  case atStart => exact ⟨_, l.length, rfl, by omega, Nat.le_refl _, none, 0, by rw [upAcc_end]; rfl, by rw [upAcc_end]; exact Own.nil _ _ _, Chg.refl _ _, Fresh.none _⟩
  case round =>
    obtain ⟨z, j, rfl, hz, hj, g0, c0, rfl, ho, hch, hfr⟩ := hrel
    have T2 := Lib.hid (HT.out.chg hch (fun h => h) (fun _ _ h => h))
    have H0 := Lib.hid (And.intro ho (And.intro hch hfr)); clear ho hch hfr
    by_cases h0 : j = 0
    · obtain rfl : z = -1 := by omega
      subst h0
      have HF : Hid (GivesP w (upAcc l m 0) (.returned (sv g0 (upAcc l m 0).length c0)) wr) := ⟨g0, c0, rfl, H0.out.1, H0.out.2.1, H0.out.2.2⟩
      rw [upAcc_zero] at HF ⊢
      generalize (l.take m).reverse = x at *
      go_wp2
      go_ret
      exact HF.out
    · obtain ⟨i, rfl⟩ : ∃ i, j = i + 1 := ⟨j - 1, by omega⟩
      obtain rfl : z = (i : Int) := by omega
      have hlt : i < l.length := by omega
      clear h0 hz
      obtain ⟨g, rfl⟩ := T2.out.some' (by omega)
      simp only [Option.map_some]
      have HKV := Lib.hid (fun n => And.intro ((T2.out.drewN n).key hlt) ((T2.out.drewN n).val hlt))
      have hc0 := T2.out.c0
      have hc1 := T2.out.c1
      simp only [sv, Option.map_some] at hc1
      have hk := T2.out.key hlt
      have hv := T2.out.val hlt
      have b0 : (0 : Int) ≤ i := by omega
      have b1 : (i : Int) < l.length := by omega
      have hup := HUP.out i hlt
      have hal := upAcc_le l m (i + 1)
      by_cases him : i < m
      · have hcm := hup.2 him
        have HSN := Lib.hid (upAcc_snoc l him hlt)
        have HLN : Hid ((upAcc l m i).length = (upAcc l m (i + 1)).length + 1) := by rw [HSN.out]; simp [Hid]
        clear hup
        generalize l[i] = y at *
        generalize upAcc l m (i + 1) = acc at *
        have HPC : Hid (pcl (upAcc l m i) = pcl acc ++ [.int .i64 y.1, .string y.2]) := by rw [HSN.out]; simp [Hid, pcl, onV]
        have hby : (acc.length + 1) * 24 ≤ 140737488355328 := by omega
        have HBY := Lib.hid hby; clear hby hal
        go_wp2_with fail
        go_quiet ((go_at_call 52; exact quiet_eq (cmp_any o _ _ _)))
        have hcq : Chg (fun _ => False) wr (wr.drewN nq) := (Chg.refl _ wr).drewN nq
        have T3 := T2.out.chg hcq (fun h => h) (fun _ _ h => h)
        have H3 := Lib.hid (And.intro (H0.out.1.news2 (hcq.alloc (.cells #[.int .i64 y.1, .string y.2] 105))) (And.intro ((H0.out.2.1.trans hcq).alloc (.cells #[.int .i64 y.1, .string y.2] 105)) H0.out.2.2))
        have HN := Lib.hid (news_new (wr.drewN nq) [.int .i64 y.1, .string y.2] #[.int .i64 y.1, .string y.2] 105 rfl)
        clear hc0 hc1 hk hv hcq hcm
        have hc1 := T3.c1
        simp only [sv, Option.map_some] at hc1
        obtain ⟨hk, hv⟩ := HKV.out nq
        clear T3
        go_wp2_with (at_builtin; refine wpList_app0 rfl (.tmp 32) (.tmp 40) 53 rfl 105 i5 (.agg #[.int .i64 0, .string ByteArray.empty]) 2 24 Try.underlying53 HI.out.1 HI.out.2.1 HI.out.2.2.1 HI.out.2.2.2 rfl (by decide) (by decide) g0 acc.length c0 (pcl acc) rfl H3.out.1 (some ⟨wr.heap.size, 0, none⟩) 1 1 [.int .i64 y.1, .string y.2] rfl (fun h => by cases h) rfl HN.out (fun u hu => by simp at hu; rcases hu with rfl | rfl <;> rfl) HBY.out ?_)
        intro a1 ac1 w1 o1 g1 f1
        have hsz := H3.out.2.1.size
        have HR : Hid (UpSt w l m i (sv a1 (acc.length + 1) ac1) w1) := ⟨a1, ac1, by rw [HLN.out], by rw [HLN.out, HPC.out]; exact o1, H3.out.2.1.grown g1 (fun k' e hk' => by have := H3.out.2.2 k' e; omega), H3.out.2.2.step hsz (by simpa using f1)⟩
        clear o1 g1 f1 hc1 hk hv hsz
        go_wp2
        go_roundw
        case rel => exact ⟨(i : Int) - 1, i, rfl, by omega, by omega, HR.out⟩
        case measure => simp [intOf]
      · have hcm : ¬ cmpI o (l[i]).1 k ≤ 0 := fun h => him (hup.1 h)
        have HSK := Lib.hid (upAcc_skip l him)
        clear hup him
        generalize l[i] = y at *
        have HR : Hid (∀ n, UpSt w l m i (sv g0 (upAcc l m (i + 1)).length c0) (wr.drewN n)) := fun n => by
          rw [HSK.out] at H0 ⊢
          exact ⟨g0, c0, rfl, H0.out.1.news2 ((Chg.refl _ wr).drewN n), H0.out.2.1.drewN n, H0.out.2.2⟩
        generalize upAcc l m (i + 1) = acc at *
        go_wp2_with fail
        go_quiet ((go_at_call 52; exact quiet_eq (cmp_any o _ _ _)))
        clear hc0 hc1 hk hv
        go_wp2
        go_roundw
        case rel => exact ⟨(i : Int) - 1, i, rfl, by omega, by omega, HR.out nq⟩
        case measure => simp [intOf]
end
end Go.Proofs.Ytdfkokbpidkokaa
