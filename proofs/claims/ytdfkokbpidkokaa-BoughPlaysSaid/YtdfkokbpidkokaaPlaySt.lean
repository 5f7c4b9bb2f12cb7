/- BoughPlays: two boughs, the document's beside them, and the iterators that are kept. -/
import Derived.Test.YtdfkokbpidkokaaStep
import Derived.Test.YtdfkokbpidkokaaArg
namespace Go.Proofs.Ytdfkokbpidkokaa
open Go.RowKit

def kcl (ks : List KRec) : List Value := cells (fun r => kf (some r)) (ks.map fun r => (r, kw (some r)))
@[simp] theorem kcl_length (ks : List KRec) : (kcl ks).length = ks.length * 2 := by simp [kcl]
theorem kcl_snoc (ks : List KRec) (r : KRec) : kcl (ks ++ [r]) = kcl ks ++ [kf (some r), kw (some r)] := by simp [kcl]
theorem kcl_f (ks : List KRec) {i : Nat} (hi : i < ks.length) : (kcl ks)[i * 2]? = some (kf (some ks[i])) := by
  unfold kcl; rw [cells_key _ _ _ (by simpa using hi)]; simp
theorem kcl_w (ks : List KRec) {i : Nat} (hi : i < ks.length) : (kcl ks)[i * 2 + 1]? = some (kw (some ks[i])) := by
  unfold kcl; rw [cells_val _ _ _ (by simpa using hi)]; simp

/-- the kept ones and the list of them -/
def KA (ks : List KRec) (ga : Option Nat) (ca : Nat) (W : World) : Prop := Own W 55 2 ga ks.length ca (kcl ks) ∧ ∀ r ∈ ks, r.ok W
def kfoot (ks : List KRec) (ga : Option Nat) : List Nat := ga.toList ++ ks.flatMap KRec.foot
section
variable {ks : List KRec} {ga : Option Nat} {ca : Nat} {W W' : World}
theorem KA.lt (H : KA ks ga ca W) : ∀ x ∈ kfoot ks ga, x < W.heap.size := by
  intro x hx
  simp only [kfoot, List.mem_append, Option.mem_toList, List.mem_flatMap] at hx
  rcases hx with hx | ⟨r, hr, hx⟩
  · have := H.1; rw [hx] at this; exact this.row.lt
  · exact (H.2 r hr).lt x hx
theorem KA.chg {S : Nat → Prop} (H : KA ks ga ca W) (hc : Chg S W W') (hn : ∀ x ∈ kfoot ks ga, ¬ S x) : KA ks ga ca W' :=
  ⟨H.1.chg hc (fun g e => hn g (by simp [kfoot, e])), fun r hr => (H.2 r hr).chg hc (fun x hx => hn x (by simp only [kfoot, List.mem_append, List.mem_flatMap]; exact .inr ⟨r, hr, hx⟩))⟩
end

structure PSt (w : World) (o1 : Int) (h1 t1 : Nat) (o2 : Int) (h2 t2 : Nat) (l1 l2 : List (Int × ByteArray)) (p1 p2 : Nat) (F1 F2 : List Nat) (ks : List KRec) (ga : Option Nat) (ca : Nat) (W : World) : Prop where
  a : PS o1 h1 t1 l1 l1 p1 F1 W
  b : PS o2 h2 t2 l2 l2 p2 F2 W
  k : KA ks ga ca W
  s1 : Sorted (cmpI o1) l1
  s2 : Sorted (cmpI o2) l2
  d : ∀ x ∈ F1, x ∉ F2
  e1 : ∀ x ∈ kfoot ks ga, x ∉ F1
  e2 : ∀ x ∈ kfoot ks ga, x ∉ F2
  n1 : ∀ x ∈ F1, w.heap.size ≤ x
  n2 : ∀ x ∈ F2, w.heap.size ≤ x
  nk : ∀ x ∈ kfoot ks ga, w.heap.size ≤ x
  ek : ∀ g, ga = some g → ∀ r ∈ ks, g ∉ r.foot
  old : Chg (fun x => w.heap.size ≤ x) w W
/-- the state behind i rounds, its inner parts unnamed -/
def PW (w : World) (o1 : Int) (h1 t1 : Nat) (o2 : Int) (h2 t2 : Nat) (m1 m2 : Nat) (av : Value) (W : World) : Prop :=
  ∃ l1 l2 p1 p2 F1 F2 ks ga ca, av = .slice (ga.map fun g => (⟨g, 0, none⟩ : Addr)) ks.length ca ∧ PSt w o1 h1 t1 o2 h2 t2 l1 l2 p1 p2 F1 F2 ks ga ca W ∧ l1.length ≤ m1 ∧ l2.length ≤ m2 ∧ p1 ≤ 16 + m1 ∧ p2 ≤ 16 + m2 ∧ ks.length ≤ 40
section
variable {w : World} {o1 : Int} {h1 t1 : Nat} {o2 : Int} {h2 t2 : Nat} {l1 l2 : List (Int × ByteArray)} {p1 p2 : Nat} {F1 F2 : List Nat} {ks : List KRec} {ga : Option Nat} {ca : Nat} {W W' : World}
theorem PSt.same (H : PSt w o1 h1 t1 o2 h2 t2 l1 l2 p1 p2 F1 F2 ks ga ca W) (hc : Chg (fun _ => False) W W') : PSt w o1 h1 t1 o2 h2 t2 l1 l2 p1 p2 F1 F2 ks ga ca W' :=
  ⟨H.a.chg hc (fun _ _ h => h), H.b.chg hc (fun _ _ h => h), H.k.chg hc (fun _ _ h => h), H.s1, H.s2, H.d, H.e1, H.e2, H.n1, H.n2, H.nk, H.ek, H.old.trans (hc.mono fun _ _ h => h.elim)⟩
theorem PSt.flip (H : PSt w o1 h1 t1 o2 h2 t2 l1 l2 p1 p2 F1 F2 ks ga ca W) : PSt w o2 h2 t2 o1 h1 t1 l2 l1 p2 p1 F2 F1 ks ga ca W :=
  ⟨H.b, H.a, H.k, H.s2, H.s1, fun x hx hy => H.d x hy hx, H.e2, H.e1, H.n2, H.n1, H.nk, H.ek, H.old⟩
/-- a call on the first two -/
theorem PSt.step (H : PSt w o1 h1 t1 o2 h2 t2 l1 l2 p1 p2 F1 F2 ks ga ca W) {e : Ending} (S : StepOut W o1 h1 t1 l1 p1 F1 e W') :
    ∃ l1' p1' F1' kr, e = .returned (.tuple #[.agg #[kf kr, kw kr], .bool true]) ∧ PSt w o1 h1 t1 o2 h2 t2 l1' l2 p1' p2 F1' F2 ks ga ca W' ∧ l1'.length ≤ l1.length + 1 ∧ p1' ≤ max 16 (p1 + 1) ∧
      ∀ r, kr = some r → r.ok W' ∧ ∀ x ∈ r.foot, w.heap.size ≤ x ∧ x ∉ F1' ∧ x ∉ F2 ∧ ga ≠ some x := by
  obtain ⟨l', p', F', kr, he, g1, g2, g3, g4, g5, g6, g7⟩ := S
  have hb := H.b.lt
  have hk := H.k.lt
  have hs := H.old.size
  refine ⟨l', p', F', kr, he, ⟨g1, H.b.chg g5 (fun x hx hm => H.d x hm hx), H.k.chg g5 (fun x hx hm => H.e1 x hx hm), g2, H.s2, fun x hx hy => ?_, fun x hx hy => ?_, H.e2, fun x hx => ?_, H.n2, H.nk, H.ek, H.old.then g5 (fun x _ hm => H.n1 x hm)⟩, g3, g4, fun r hr => ⟨(g7 r hr).1, fun x hx => ⟨?_, ((g7 r hr).2 x hx).2, fun hy => ?_, fun e => ?_⟩⟩⟩
  · rcases g6 x hx with h5 | h5
    · exact H.d x h5 hy
    · have := hb x hy; omega
  · rcases g6 x hy with h5 | h5
    · exact H.e1 x hx h5
    · have := hk x hx; omega
  · rcases g6 x hx with h5 | h5
    · exact H.n1 x h5
    · omega
  · have := ((g7 r hr).2 x hx).1; omega
  · have := ((g7 r hr).2 x hx).1; have := hb x hy; omega
  · have := ((g7 r hr).2 x hx).1; have := hk x (by simp [kfoot, e]); omega
/-- one more is kept -/
theorem PSt.more {W0 : World} (H : PSt w o1 h1 t1 o2 h2 t2 l1 l2 p1 p2 F1 F2 ks ga ca W) (r : KRec) (hr : r.ok W) (hf : ∀ x ∈ r.foot, w.heap.size ≤ x ∧ x ∉ F1 ∧ x ∉ F2 ∧ ga ≠ some x) {ga' : Option Nat} {ca' : Nat}
    (hc : Chg (fun _ => False) W W0) (hg : W0.grownBy W' ga) (hf' : ga' = ga ∨ ga' = some W0.heap.size) (ho : Own W' 55 2 ga' (ks.length + 1) ca' (kcl ks ++ [kf (some r), kw (some r)])) :
    PSt w o1 h1 t1 o2 h2 t2 l1 l2 p1 p2 F1 F2 (ks ++ [r]) ga' ca' W' := by
  have hne : ∀ g, ga = some g → g ∉ r.foot ∧ ∀ r' ∈ ks, g ∉ r'.foot := fun g e => ⟨fun hm => (hf g hm).2.2.2 e, H.ek g e⟩
  have ha := H.a.lt
  have hb := H.b.lt
  have hk := H.k.lt
  have hs := hc.size
  have hwz := H.old.size
  have hcg : Chg (fun x => ga = some x) W W' := (hc.mono fun _ _ h => h.elim).grown hg (fun k e _ => e)
  have hft : ∀ x ∈ kfoot (ks ++ [r]) ga', x ∈ kfoot ks ga ∨ x ∈ r.foot ∨ x = W0.heap.size := by
    intro x hx
    simp only [kfoot, List.mem_append, Option.mem_toList, List.mem_flatMap, List.mem_singleton] at hx ⊢
    rcases hx with hx | ⟨r', hr' | rfl, hx⟩
    · rcases hf' with e | e
      · exact .inl (.inl (by rw [← e]; exact hx))
      · rw [e] at hx; simp only [Option.some.injEq] at hx; exact .inr (.inr hx.symm)
    · exact .inl (.inr ⟨r', hr', hx⟩)
    · exact .inr (.inl hx)
  refine ⟨H.a.chg hcg (fun x hx e => H.e1 x (by simp [kfoot, e]) hx), H.b.chg hcg (fun x hx e => H.e2 x (by simp [kfoot, e]) hx), ⟨?_, fun r' hr' => ?_⟩, H.s1, H.s2, H.d, fun x hx => ?_, fun x hx => ?_, H.n1, H.n2, fun x hx => ?_, fun g e r' hr' hm => ?_, H.old.then hcg (fun x _ e => H.nk x (by simp [kfoot, e]))⟩
  · rw [List.length_append, kcl_snoc]; exact ho
  · rw [List.mem_append, List.mem_singleton] at hr'
    rcases hr' with hr' | rfl
    · exact (H.k.2 r' hr').chg hcg (fun x hx e => (hne x e).2 r' hr' hx)
    · exact hr.chg hcg (fun x hx e => (hne x e).1 hx)
  · rcases hft x hx with h5 | h5 | h5
    · exact H.e1 x h5
    · exact (hf x h5).2.1
    · exact fun hy => by have := ha x hy; omega
  · rcases hft x hx with h5 | h5 | h5
    · exact H.e2 x h5
    · exact (hf x h5).2.2.1
    · exact fun hy => by have := hb x hy; omega
  · rcases hft x hx with h5 | h5 | h5
    · exact H.nk x h5
    · exact (hf x h5).1
    · omega
  · rw [List.mem_append, List.mem_singleton] at hr'
    have hl : ga' = some W0.heap.size → False := fun e2 => by
      rw [e2] at e
      simp only [Option.some.injEq] at e
      rcases hr' with hr' | rfl
      · have := (H.k.2 r' hr').lt g hm; omega
      · have := hr.lt g hm; omega
    rcases hf' with e2 | e2
    · rcases hr' with hr' | rfl
      · exact (hne g (by rw [← e2]; exact e)).2 r' hr' hm
      · exact (hne g (by rw [← e2]; exact e)).1 hm
    · exact hl e2
theorem PSt.init {W : World} (H1 : PS o1 h1 t1 [] [] 16 F1 W) (H2 : PS o2 h2 t2 [] [] 16 F2 W) (hd : ∀ x ∈ F1, x ∉ F2) (hn1 : ∀ x ∈ F1, w.heap.size ≤ x) (hn2 : ∀ x ∈ F2, w.heap.size ≤ x) (ho : Chg (fun x => w.heap.size ≤ x) w W) :
    PW w o1 h1 t1 o2 h2 t2 0 0 (.slice none 0 0) W :=
  ⟨[], [], 16, 16, F1, F2, [], none, 0, rfl, ⟨H1, H2, ⟨Own.nil _ _ _, fun _ h => by cases h⟩, sorted_nil, sorted_nil, hd, fun _ h => by simp [kfoot] at h, fun _ h => by simp [kfoot] at h, hn1, hn2, fun _ h => by simp [kfoot] at h, (fun _ h => by cases h), ho⟩, Nat.le_refl _, Nat.le_refl _, Nat.le_refl _, Nat.le_refl _, by simp⟩
end
end Go.Proofs.Ytdfkokbpidkokaa
