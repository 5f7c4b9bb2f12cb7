/- BoughRises: a bough of ints and two lists beside it; what each step leaves. -/
import Derived.Test.YtdfkokbpidkokaaKeepQ
import Derived.Test.YtdfkokbpidkokaaPairs
namespace Go.Proofs.Ytdfkokbpidkokaa
open Go.RowKit

structure RS (o : Int) (q : Nat) (w : World) (h : Nat) (lb : List (Int × Int)) (ks vs : List Int) (p : Nat) (gk : Option Nat) (ck : Nat) (gv : Option Nat) (cv : Nat) (W : World) : Prop where
  b : KeepQ o q w (fun x => x = q ∨ gk = some x ∨ gv = some x) W h (lb.map (onV (Value.int .i64))) p
  k : Own W 3 1 gk ks.length ck (iv ks)
  v : Own W 3 1 gv vs.length cv (iv vs)
  fk : ∀ g, gk = some g → w.heap.size ≤ g ∧ g ≠ q
  fv : ∀ g, gv = some g → w.heap.size ≤ g ∧ g ≠ q
  ne : ∀ g, gk = some g → gv ≠ some g

section
variable {o : Int} {q : Nat} {w : World} {h : Nat} {lb : List (Int × Int)} {ks vs : List Int} {p : Nat} {gk : Option Nat} {ck : Nat} {gv : Option Nat} {cv : Nat} {W : World}

theorem RS.bough {lb' : List (Int × Int)} {p' : Nat} {W' : World} (R : RS o q w h lb ks vs p gk ck gv cv W) (hb : KeepQ o q w (fun x => x = q ∨ gk = some x ∨ gv = some x) W' h (lb'.map (onV (Value.int .i64))) p')
    (hc : Chg (fun x => w.heap.size ≤ x ∧ ¬ (x = q ∨ gk = some x ∨ gv = some x)) W W') : RS o q w h lb' ks vs p' gk ck gv cv W' :=
  ⟨hb, R.k.chg hc (fun _ e h => h.2 (.inr (.inl e))), R.v.chg hc (fun _ e h => h.2 (.inr (.inr e))), R.fk, R.fv, R.ne⟩
theorem RS.same {W' : World} (R : RS o q w h lb ks vs p gk ck gv cv W) (hc : Chg (fun _ => False) W W') : RS o q w h lb ks vs p gk ck gv cv W' :=
  ⟨R.b.same hc, R.k.chg hc (fun _ _ h => h), R.v.chg hc (fun _ _ h => h), R.fk, R.fv, R.ne⟩
theorem RS.drew (R : RS o q w h lb ks vs p gk ck gv cv W) : RS o q w h lb ks vs p gk ck gv cv W.drew := R.same (Chg.refl _ W).drew
theorem RS.drewN (R : RS o q w h lb ks vs p gk ck gv cv W) (n : Nat) : RS o q w h lb ks vs p gk ck gv cv (W.drewN n) := R.same ((Chg.refl _ W).drewN n)
theorem RS.klt (R : RS o q w h lb ks vs p gk ck gv cv W) {g : Nat} (e : gk = some g) : g < W.heap.size := R.b.lt (.inr (.inl e))
theorem RS.vlt (R : RS o q w h lb ks vs p gk ck gv cv W) {g : Nat} (e : gv = some g) : g < W.heap.size := R.b.lt (.inr (.inr e))
theorem RS.kle (R : RS o q w h lb ks vs p gk ck gv cv W) : ks.length ≤ ck := by
  cases gk with
  | none => have := R.k.2.1; omega
  | some g => exact R.k.le
theorem RS.vle (R : RS o q w h lb ks vs p gk ck gv cv W) : vs.length ≤ cv := by
  cases gv with
  | none => have := R.v.2.1; omega
  | some g => exact R.v.le
theorem RS.setk {ks' : List Int} {gk' : Option Nat} {ck' : Nat} {W' : World} (R : RS o q w h lb ks vs p gk ck gv cv W) (hk : Own W' 3 1 gk' ks'.length ck' (iv ks')) (hc : Chg (fun x => gk = some x) W W') (hg : gk' = gk ∨ ∃ g, gk' = some g ∧ W.heap.size ≤ g) :
    RS o q w h lb ks' vs p gk' ck' gv cv W' := by
  have hs := R.b.frame.size
  refine ⟨R.b.chg hc (fun x _ e => ⟨.inr (.inl e), R.fk x e⟩) (.inl rfl) (fun x hx => ?_), hk, R.v.chg hc (fun g e h => R.ne g h e), fun g e => ?_, R.fv, fun g e e2 => ?_⟩
  · rcases hx with hx | hx | hx
    · exact .inl (.inl hx)
    · rcases hg with rfl | ⟨g, rfl, hg⟩
      · exact .inl (.inr (.inl hx))
      · refine .inr ⟨by simp only [Option.some.injEq] at hx; omega, ?_⟩
        rw [Option.some.inj hx] at hk
        exact hk.row.lt
    · exact .inl (.inr (.inr hx))
  · rcases hg with rfl | ⟨g', rfl, hg⟩
    · exact R.fk g e
    · have hq := R.b.lt (.inl rfl)
      simp only [Option.some.injEq] at e
      omega
  · rcases hg with rfl | ⟨g', rfl, hg⟩
    · exact R.ne g e e2
    · have := R.vlt e2
      simp only [Option.some.injEq] at e
      omega
theorem RS.setv {vs' : List Int} {gv' : Option Nat} {cv' : Nat} {W' : World} (R : RS o q w h lb ks vs p gk ck gv cv W) (hk : Own W' 3 1 gv' vs'.length cv' (iv vs')) (hc : Chg (fun x => gv = some x) W W') (hg : gv' = gv ∨ ∃ g, gv' = some g ∧ W.heap.size ≤ g) :
    RS o q w h lb ks vs' p gk ck gv' cv' W' := by
  have hs := R.b.frame.size
  refine ⟨R.b.chg hc (fun x _ e => ⟨.inr (.inr e), R.fv x e⟩) (.inl rfl) (fun x hx => ?_), R.k.chg hc (fun g e h => R.ne g e h), hk, R.fk, fun g e => ?_, fun g e e2 => ?_⟩
  · rcases hx with hx | hx | hx
    · exact .inl (.inl hx)
    · exact .inl (.inr (.inl hx))
    · rcases hg with rfl | ⟨g, rfl, hg⟩
      · exact .inl (.inr (.inr hx))
      · refine .inr ⟨by simp only [Option.some.injEq] at hx; omega, ?_⟩
        rw [Option.some.inj hx] at hk
        exact hk.row.lt
  · rcases hg with rfl | ⟨g', rfl, hg⟩
    · exact R.fv g e
    · have hq := R.b.lt (.inl rfl)
      simp only [Option.some.injEq] at e
      omega
  · rcases hg with rfl | ⟨g', rfl, hg⟩
    · exact R.ne g e e2
    · have := R.klt e
      simp only [Option.some.injEq] at e2
      omega
theorem RS.kcell {g : Nat} (R : RS o q w h lb ks vs p (some g) ck gv cv W) {i : Nat} (hi : i < ks.length) : W.cell? ⟨g, i, none⟩ = some (.int .i64 (ks[i])) := R.k.row.cell (by simp [iv, hi])
theorem RS.vcell {g : Nat} (R : RS o q w h lb ks vs p gk ck (some g) cv W) {i : Nat} (hi : i < vs.length) : W.cell? ⟨g, i, none⟩ = some (.int .i64 (vs[i])) := R.v.row.cell (by simp [iv, hi])
theorem RS.ksome (R : RS o q w h lb ks vs p gk ck gv cv W) (h : 0 < ks.length) : ∃ g, gk = some g := by
  cases gk with
  | none => have := R.k.2.1; omega
  | some g => exact ⟨g, rfl⟩
theorem RS.vsome (R : RS o q w h lb ks vs p gk ck gv cv W) (h : 0 < vs.length) : ∃ g, gv = some g := by
  cases gv with
  | none => have := R.v.2.1; omega
  | some g => exact ⟨g, rfl⟩

theorem news_tail1' {w : World} {e n c g : Nat} {xs : List Value} (h : Own w e 1 (some g) n c xs) (r : Nat) (z : Option Addr) (hz : z = if c = r then some (⟨g, 0, none⟩ : Addr) else some ⟨g, r, none⟩) :
    ∀ ad, z = some ad → ∀ j u, (xs.drop r)[j]? = some u → w.cell? (ad.add j) = some u := by
  intro ad had j u hu
  subst hz
  rw [List.getElem?_drop] at hu
  split at had
  · rename_i hc
    have h1 := h.le
    have h2 := h.len
    have := (List.getElem?_eq_some_iff.1 hu).1
    omega
  · simp only [Option.some.injEq] at had
    subst had
    rw [Addr.add_lit]
    exact h.row.cell hu

theorem Own.front {w : World} {e n c : Nat} {go : Option Nat} {xs : List Value} (h : Own w e 1 go n c xs) (r : Nat) (hr : r ≤ n) : Own w e 1 go r c (xs.take r) := by
  have hl := h.len
  cases go with
  | none =>
    have := h.2.1
    exact ⟨by simp; omega, by omega, h.2.2⟩
  | some g => exact Own.mk (h.row.take r) (by simp; omega) (Nat.le_trans hr h.le)

theorem ins_one (k : Int) (xs : List Int) (r : Nat) : ∀ u ∈ [Value.int .i64 k] ++ (iv xs).drop r, u.oneCell' = true := by
  intro u hu
  simp only [List.mem_append, List.mem_cons, List.not_mem_nil, or_false] at hu
  rcases hu with rfl | hu
  · rfl
  · exact iv_one _ u (List.mem_of_mem_drop hu)
theorem ins_len (k : Int) (xs : List Int) (r n : Nat) (hn : xs.length = n) : ([Value.int .i64 k] ++ (iv xs).drop r).length = (1 + (n - r)) * 1 := by
  simp [iv]; omega

/-- the loop's relation behind i rounds -/
def Rise (o : Int) (q : Nat) (w : World) (h i : Nat) (l : List (Int × Int)) (kv vv : Value) (W : World) : Prop :=
  ∃ gk ck gv cv, kv = sv gk l.length ck ∧ vv = sv gv l.length cv ∧ RS o q w h l (l.map (·.1)) (l.map (·.2)) (16 + i) gk ck gv cv W ∧ (gk = none ↔ gv = none) ∧ Sorted (cmpI o) l ∧ l.length ≤ i
theorem Rise.mk {l' : List (Int × Int)} {i' : Nat} (R : RS o q w h l' ks vs p gk ck gv cv W) (hk : ks = l'.map (·.1)) (hv : vs = l'.map (·.2)) (hp : p ≤ 16 + i') (hn : gk = none ↔ gv = none) (hs : Sorted (cmpI o) l') (hl : l'.length ≤ i') {n m : Nat} (hn1 : n = l'.length) (hm1 : m = l'.length) :
    Rise o q w h i' l' (.slice (gk.map fun g => (⟨g, 0, none⟩ : Addr)) n ck) (.slice (gv.map fun g => (⟨g, 0, none⟩ : Addr)) m cv) W := by
  subst hk hv hn1 hm1
  exact ⟨gk, ck, gv, cv, rfl, rfl, ⟨R.b.mono hp, R.k, R.v, R.fk, R.fv, R.ne⟩, hn, hs, hl⟩
theorem iv_take (xs : List Int) (n : Nat) : iv (xs.take n) = (iv xs).take n := by simp [iv]
theorem iv_drop (xs : List Int) (n : Nat) : iv (xs.drop n) = (iv xs).drop n := by simp [iv]
theorem iv_append (xs ys : List Int) : iv (xs ++ ys) = iv xs ++ iv ys := by simp [iv]
/-- a place is taken out of the keys' list, in place -/
theorem RS.outk {g r : Nat} {W' : World} (R : RS o q w h lb ks vs p (some g) ck gv cv W) (hr : r < ks.length) (hrow : Row W' g 3 1 ck ((iv ks).take r ++ (iv ks).drop (r + 1))) (hg : W.drew.grownBy W' (some g)) :
    RS o q w h lb (ks.take r ++ ks.drop (r + 1)) vs p (some g) ck gv cv W' := by
  have hl := R.k.le
  refine R.setk (Own.mk ?_ (by rw [iv_len]; omega) ?_) (Chg.grown (S := fun x => some g = some x) (Chg.refl _ W).drew hg (fun k e _ => e)) (.inl rfl)
  · rw [iv_append, iv_take, iv_drop]; exact hrow
  · simp; omega
theorem RS.outv {g r : Nat} {W' : World} (R : RS o q w h lb ks vs p gk ck (some g) cv W) (hr : r < vs.length) (hrow : Row W' g 3 1 cv ((iv vs).take r ++ (iv vs).drop (r + 1))) (hg : W.drew.grownBy W' (some g)) :
    RS o q w h lb ks (vs.take r ++ vs.drop (r + 1)) p gk ck (some g) cv W' := by
  have hl := R.v.le
  refine R.setv (Own.mk ?_ (by rw [iv_len]; omega) ?_) (Chg.grown (S := fun x => some g = some x) (Chg.refl _ W).drew hg (fun k e _ => e)) (.inl rfl)
  · rw [iv_append, iv_take, iv_drop]; exact hrow
  · simp; omega
/-- a place's number is another one -/
theorem RS.putk {g r : Nat} (R : RS o q w h lb ks vs p (some g) ck gv cv W) (hr : r < ks.length) (k : Int) : RS o q w h lb (ks.set r k) vs p (some g) ck gv cv (W.setCell ⟨g, r, none⟩ (.int .i64 k)) := by
  refine R.setk (Own.mk ?_ (by rw [iv_len, List.length_set]; omega) (by rw [List.length_set]; exact R.k.le)) (Chg.setCell (S := fun x => some g = some x) (Chg.refl _ W) (p := ⟨g, r, none⟩) (fun _ => rfl) _) (.inl rfl)
  have h1 := R.k.row.set (j := r) (by rw [iv_len]; exact hr) (.int .i64 k)
  have h2 : iv (ks.set r k) = (iv ks).set r (.int .i64 k) := by simp [iv, List.map_set]
  rw [h2]; exact h1
theorem RS.putv {g r : Nat} (R : RS o q w h lb ks vs p gk ck (some g) cv W) (hr : r < vs.length) (k : Int) : RS o q w h lb ks (vs.set r k) p gk ck (some g) cv (W.setCell ⟨g, r, none⟩ (.int .i64 k)) := by
  refine R.setv (Own.mk ?_ (by rw [iv_len, List.length_set]; omega) (by rw [List.length_set]; exact R.v.le)) (Chg.setCell (S := fun x => some g = some x) (Chg.refl _ W) (p := ⟨g, r, none⟩) (fun _ => rfl) _) (.inl rfl)
  have h1 := R.v.row.set (j := r) (by rw [iv_len]; exact hr) (.int .i64 k)
  have h2 : iv (vs.set r k) = (iv vs).set r (.int .i64 k) := by simp [iv, List.map_set]
  rw [h2]; exact h1
/-- a number is put in at a place: two appends -/
theorem ins_chg {V W3 W4 W5 : World} {ob : Obj} {g : Option Nat} {g3 : Nat} (h1 : (V.alloc ob).grownBy W4 (some V.heap.size)) (hs : V.heap = W3.heap ∧ V.os = W3.os ∧ V.tape = W3.tape ∧ V.output = W3.output) (h2 : W4.grownBy W5 g) (h3 : g = some g3 ∨ g3 = W4.heap.size) :
    Chg (fun x => g = some x) W3 W5 ∧ (some g3 = g ∨ ∃ g', some g3 = some g' ∧ W3.heap.size ≤ g') := by
  obtain ⟨e1, e2, e3, e4⟩ := hs
  have c1 : Chg (fun x => g = some x) V W4 := ((Chg.refl _ V).alloc ob).grown h1 (fun k e hk => by simp only [Option.some.injEq] at e; omega)
  have c2 := c1.grown h2 (fun k e _ => e)
  refine ⟨⟨c2.os.trans e2, c2.tape.trans e3, c2.output.trans e4, by rw [← e1]; exact c2.size, fun k hk hn => by rw [← e1]; exact c2.block k (by rw [e1]; exact hk) hn⟩, ?_⟩
  rcases h3 with h3 | h3
  · exact .inl h3.symm
  · refine .inr ⟨g3, rfl, ?_⟩
    have := c1.size
    rw [← e1]
    omega
theorem RS.insk {r n : Nat} {g3 ck' : Nat} {k : Int} {V W4 W5 : World} {ob : Obj} (R : RS o q w h lb ks vs p gk ck gv cv W) (hn : n = (ks.take r ++ k :: ks.drop r).length) (h1 : (V.alloc ob).grownBy W4 (some V.heap.size)) (hs : V.heap = W.heap ∧ V.os = W.os ∧ V.tape = W.tape ∧ V.output = W.output) (h2 : W4.grownBy W5 gk) (h3 : gk = some g3 ∨ g3 = W4.heap.size)
    (hown : Own W5 3 1 (some g3) n ck' ((iv ks).take r ++ (Value.int .i64 k :: (iv ks).drop r))) : RS o q w h lb (ks.take r ++ k :: ks.drop r) vs p (some g3) ck' gv cv W5 := by
  obtain ⟨c1, c2⟩ := ins_chg h1 hs h2 h3
  refine R.setk ?_ c1 (c2.elim .inl (fun ⟨g', e, hg⟩ => .inr ⟨g', e, hg⟩))
  rw [← hn]
  have e : iv (ks.take r ++ k :: ks.drop r) = (iv ks).take r ++ (Value.int .i64 k :: (iv ks).drop r) := by simp [iv]
  rw [e]; exact hown
theorem RS.insv {r n : Nat} {g3 cv' : Nat} {k : Int} {V W4 W5 : World} {ob : Obj} (R : RS o q w h lb ks vs p gk ck gv cv W) (hn : n = (vs.take r ++ k :: vs.drop r).length) (h1 : (V.alloc ob).grownBy W4 (some V.heap.size)) (hs : V.heap = W.heap ∧ V.os = W.os ∧ V.tape = W.tape ∧ V.output = W.output) (h2 : W4.grownBy W5 gv) (h3 : gv = some g3 ∨ g3 = W4.heap.size)
    (hown : Own W5 3 1 (some g3) n cv' ((iv vs).take r ++ (Value.int .i64 k :: (iv vs).drop r))) : RS o q w h lb ks (vs.take r ++ k :: vs.drop r) p gk ck (some g3) cv' W5 := by
  obtain ⟨c1, c2⟩ := ins_chg h1 hs h2 h3
  refine R.setv ?_ c1 (c2.elim .inl (fun ⟨g', e, hg⟩ => .inr ⟨g', e, hg⟩))
  rw [← hn]
  have e : iv (vs.take r ++ k :: vs.drop r) = (iv vs).take r ++ (Value.int .i64 k :: (iv vs).drop r) := by simp [iv]
  rw [e]; exact hown
theorem rk_self {l : List (Int × Int)} (hs : Sorted (cmpI o) l) {i : Nat} (hi : i < l.length) : rk (cmpI o) l (l[i]).1 = i := by
  have h1 := rk_iff (cmpI o) (cmpI_ord o) hs (k := (l[i]).1) (List.getElem?_eq_getElem hi)
  have h2 : ¬ i < rk (cmpI o) l (l[i]).1 := by
    rw [← h1, (cmpI_ord o).rf]; omega
  rcases Nat.lt_or_ge (rk (cmpI o) l (l[i]).1) i with h3 | h3
  · have h4 : rk (cmpI o) l (l[i]).1 < l.length := by omega
    have h5 := rk_iff (cmpI o) (cmpI_ord o) hs (k := (l[i]).1) (List.getElem?_eq_getElem h4)
    have h6 := List.pairwise_iff_getElem.1 hs _ i h4 hi h3
    exact absurd (h5.1 h6) (by omega)
  · omega
theorem has_self {l : List (Int × Int)} (hs : Sorted (cmpI o) l) {i : Nat} (hi : i < l.length) : hasL (cmpI o) l (l[i]).1 = true ∧ getL (cmpI o) l (l[i]).1 = some (l[i]).2 := by
  have hr := rk_self hs hi
  have h0 : (cmpI o (l[i]).1 (l[i]).1 == 0) = true := by rw [(cmpI_ord o).rf]; rfl
  unfold hasL getL
  rw [hr, List.getElem?_eq_getElem hi]
  exact ⟨h0, by simp [h0]⟩
theorem SeesI.tail {g n c r : Nat} {xs : List Int} {W : World} (h : Own W 3 1 (some g) n c (iv xs)) (hr : r ≤ n) (z : Option Addr) (hz : z = if c = r then some (⟨g, 0, none⟩ : Addr) else some ⟨g, r, none⟩) (m : Nat) : SeesI W (.slice z (n - r) m) (xs.drop r) := by
  have hl := h.len
  rw [iv_len, Nat.mul_one] at hl
  have hle := h.le
  refine ⟨z, m, g, r, by rw [List.length_drop, hl], fun h0 => ?_, fun j hj => ?_⟩
  · rw [List.length_drop] at h0
    rw [hz, if_neg (by omega)]
  · rw [List.length_drop] at hj
    exact h.row.cell (by simp [iv])
theorem SeesI.head {g n c r : Nat} {xs : List Int} {W : World} (h : Own W 3 1 (some g) n c (iv xs)) (hr : r ≤ n) (m : Nat) : SeesI W (.slice (some ⟨g, 0, none⟩) r m) (xs.take r) := by
  have hl := h.len
  rw [iv_len, Nat.mul_one] at hl
  refine ⟨_, m, g, 0, by rw [List.length_take]; congr 1; omega, fun _ => rfl, fun j hj => ?_⟩
  rw [List.length_take] at hj
  rw [Nat.zero_add]
  exact h.row.cell (by simp [iv] <;> omega)
theorem SeesI.empty (W : World) : SeesI W (.slice none 0 0) [] := ⟨Option.none, 0, 0, 0, rfl, fun h => absurd h (by decide), fun j h => absurd h (by simp)⟩
theorem ints_yes {w : World} {va vb : Value} {a b : List Int} (ha : SeesI w va a) (hb : SeesI w vb b) (he : a = b) (hl : a.length ≤ 4611686018427387903) :
    Calls Try.prog 35 #[va, vb] w fun e w' => e = .returned (.bool true) ∧ ∃ n, w' = w.drewN n := by
  have h := ints_any ha hb hl (by rw [← he]; exact hl)
  rwa [decide_eq_true he] at h
theorem back_sees {w : World} {v : Value} {xs : List Int} (hv : SeesI w v xs) (hl : xs.length * 8 ≤ 140737488355328) :
    Calls Try.prog 40 #[v] w fun e w' => ∃ vb, e = .returned vb ∧ SeesI w' vb xs.reverse ∧ Chg (fun _ => False) w w' :=
  (back_any hv hl).mono fun _ _ ⟨_, _, he, ho, _, hc⟩ => ⟨_, he, SeesI.of_own ho, hc⟩
theorem nth_self {l : List (Int × Int)} (R : RS o q w h l (l.map (·.1)) (l.map (·.2)) p gk ck gv cv W) (hp : p ≤ 70368744177664) {i : Nat} (hi : i < l.length) :
    Calls Try.prog 41 #[.pointer (some ⟨h, 0, none⟩), .int .i64 i] W fun e w' => e = .returned (.tuple #[.int .i64 (l[i]).1, .int .i64 (l[i]).2, .bool true]) ∧ Chg (fun _ => False) W w' := by
  have h1 := nth_in_Q R.b hp i (by simpa using hi)
  simpa [onV] using h1
theorem get_self {l : List (Int × Int)} (R : RS o q w h l (l.map (·.1)) (l.map (·.2)) p gk ck gv cv W) (hs : Sorted (cmpI o) l) (hp : p ≤ 70368744177664) {i : Nat} (hi : i < l.length) :
    Calls Try.prog 42 #[.pointer (some ⟨h, 0, none⟩), .int .i64 (l[i]).1] W fun e w' => e = .returned (.tuple #[.int .i64 (l[i]).2, .bool true]) ∧ Chg (fun _ => False) W w' := by
  have h1 := get_Q R.b (l[i]).1 (sorted_map _ _ hs) hp
  rw [getL_map, hasL_map, (has_self hs hi).1, (has_self hs hi).2] at h1
  exact h1
theorem rank_self {l : List (Int × Int)} (R : RS o q w h l (l.map (·.1)) (l.map (·.2)) p gk ck gv cv W) (hs : Sorted (cmpI o) l) (hp : p ≤ 70368744177664) {i : Nat} (hi : i < l.length) :
    Calls Try.prog 37 #[.pointer (some ⟨h, 0, none⟩), .int .i64 (l[i]).1] W fun e w' => e = .returned (.int .i64 i) ∧ ∃ n, w' = W.drewN n := by
  have h1 := rank_Q R.b (l[i]).1 (sorted_map _ _ hs) hp
  rw [rk_map, rk_self hs hi] at h1
  exact h1
theorem nth_none {l : List (Int × Int)} (R : RS o q w h l (l.map (·.1)) (l.map (·.2)) p gk ck gv cv W) (i : Int) (hi : i < 0 ∨ l.length ≤ i) :
    Calls Try.prog 41 #[.pointer (some ⟨h, 0, none⟩), .int .i64 i] W fun e w' => e = .returned (.tuple #[.int .i64 0, .int .i64 0, .bool false]) ∧ Chg (fun _ => False) W w' :=
  nth_out_Q R.b i (by rw [List.length_map]; exact hi)
end
end Go.Proofs.Ytdfkokbpidkokaa
