/- How a bough lies in memory: a header, a row of leaves, each leaf a row of pairs in a block of its own. No program here. -/
import Derived.Test.YtdfkokbpidkokaaSeq
namespace Go.Proofs.Ytdfkokbpidkokaa
open Go.RowKit

section
variable {K : Type} (kv : K → Value)
def cells (ps : List (K × Value)) : List Value := ps.flatMap fun p => [kv p.1, p.2]
def lval (l : Leaf K Value) : Value := .slice (some ⟨l.b, 0, none⟩) l.ps.length l.c

@[simp] theorem cells_nil : cells kv [] = [] := rfl
@[simp] theorem cells_cons (p : K × Value) (ps : List (K × Value)) : cells kv (p :: ps) = kv p.1 :: p.2 :: cells kv ps := rfl
@[simp] theorem cells_append (xs ys : List (K × Value)) : cells kv (xs ++ ys) = cells kv xs ++ cells kv ys := by simp [cells]
@[simp] theorem cells_length (ps : List (K × Value)) : (cells kv ps).length = ps.length * 2 := by
  induction ps with
  | nil => rfl
  | cons p ps ih => simp [ih]; omega
theorem cells_key (ps : List (K × Value)) (j : Nat) (h : j < ps.length) : (cells kv ps)[j * 2]? = some (kv (ps[j]).1) := by
  induction ps generalizing j with
  | nil => simp at h
  | cons p ps ih =>
    cases j with
    | zero => rfl
    | succ j =>
      rw [cells_cons, show (j + 1) * 2 = j * 2 + 1 + 1 by omega]
      simp only [List.getElem?_cons_succ, List.getElem_cons_succ]
      exact ih j (by simpa using h)
theorem cells_val (ps : List (K × Value)) (j : Nat) (h : j < ps.length) : (cells kv ps)[j * 2 + 1]? = some (ps[j]).2 := by
  induction ps generalizing j with
  | nil => simp at h
  | cons p ps ih =>
    cases j with
    | zero => rfl
    | succ j =>
      rw [cells_cons, show (j + 1) * 2 + 1 = j * 2 + 1 + 1 + 1 by omega]
      simp only [List.getElem?_cons_succ, List.getElem_cons_succ]
      exact ih j (by simpa using h)
theorem cells_take (ps : List (K × Value)) (j : Nat) : (cells kv ps).take (j * 2) = cells kv (ps.take j) := by
  induction ps generalizing j with
  | nil => simp
  | cons p ps ih =>
    cases j with
    | zero => simp
    | succ j => rw [cells_cons, show (j + 1) * 2 = j * 2 + 1 + 1 by omega]; simp [ih]
theorem cells_drop (ps : List (K × Value)) (j : Nat) : (cells kv ps).drop (j * 2) = cells kv (ps.drop j) := by
  induction ps generalizing j with
  | nil => simp
  | cons p ps ih =>
    cases j with
    | zero => simp
    | succ j => rw [cells_cons, show (j + 1) * 2 = j * 2 + 1 + 1 by omega]; simp [ih]
theorem cells_set (ps : List (K × Value)) (j : Nat) (h : j < ps.length) (k : K) (v : Value) : ((cells kv ps).set (j * 2) (kv k)).set (j * 2 + 1) v = cells kv (ps.set j (k, v)) := by
  induction ps generalizing j with
  | nil => simp at h
  | cons p ps ih =>
    cases j with
    | zero => simp
    | succ j =>
      rw [cells_cons, show (j + 1) * 2 + 1 = j * 2 + 1 + 1 + 1 by omega, show (j + 1) * 2 = j * 2 + 1 + 1 by omega]
      simp only [List.set_cons_succ, cells_cons]
      rw [ih j (by simpa using h)]
theorem cells_one (hk : ∀ k, (kv k).oneCell' = true) (ps : List (K × Value)) (hv : ∀ p ∈ ps, p.2.oneCell' = true) : ∀ u ∈ cells kv ps, u.oneCell' = true := by
  intro u hu
  obtain ⟨p, hp, hu⟩ := List.mem_flatMap.1 hu
  simp at hu
  rcases hu with rfl | rfl
  · exact hk _
  · exact hv p hp

/-- the blocks of a bough -/
def blocks (h : Nat) (lo : Option Nat) (ls : List (Leaf K Value)) : List Nat := h :: (lo.toList ++ ls.map (·.b))

/-- a bough at block h -/
structure BRep (eH eL eP : Nat) (w : World) (cv : Value) (h : Nat) (lo : Option Nat) (cl : Nat) (ls : List (Leaf K Value)) : Prop where
  hdr : Row w h eH 3 1 [cv, sv lo ls.length cl, .int .i64 (flat ls).length]
  lv : Own w eL 1 lo ls.length cl (ls.map lval)
  lf : ∀ l ∈ ls, Row w l.b eP 2 l.c (cells kv l.ps) ∧ l.ps.length ≤ l.c ∧ 0 < l.ps.length ∧ l.ps.length ≤ 32 ∧ ∀ p ∈ l.ps, p.2.oneCell' = true
  nd : (blocks h lo ls).Nodup

variable {kv}
variable {eH eL eP : Nat} {w : World} {cv : Value} {h : Nat} {lo : Option Nat} {cl : Nat} {ls : List (Leaf K Value)}

theorem BRep.lt (B : BRep kv eH eL eP w cv h lo cl ls) : ∀ x ∈ blocks h lo ls, x < w.heap.size := by
  intro x hx
  simp only [blocks, List.mem_cons, List.mem_append, Option.mem_toList, List.mem_map] at hx
  rcases hx with rfl | hx | ⟨l, hl, rfl⟩
  · exact B.hdr.lt
  · have h2 := B.lv
    rw [hx] at h2
    exact h2.row.lt
  · exact (B.lf l hl).1.lt

theorem BRep.keep {w' : World} (B : BRep kv eH eL eP w cv h lo cl ls) (hk : ∀ x ∈ blocks h lo ls, w'.heap[x]? = w.heap[x]?) : BRep kv eH eL eP w' cv h lo cl ls where
  hdr := B.hdr.keep (hk h (by simp [blocks]))
  lv := B.lv.keep fun g hg => hk g (by simp [blocks, hg])
  lf l hl := ⟨(B.lf l hl).1.keep (hk l.b (by simp only [blocks, List.mem_cons, List.mem_append, List.mem_map]; exact .inr (.inr ⟨l, hl, rfl⟩))), (B.lf l hl).2⟩
  nd := B.nd

theorem BRep.chg {S : Nat → Prop} {w' : World} (B : BRep kv eH eL eP w cv h lo cl ls) (hc : Chg S w w') (hn : ∀ x ∈ blocks h lo ls, ¬ S x) : BRep kv eH eL eP w' cv h lo cl ls :=
  B.keep fun x hx => hc.block x (B.lt x hx) (hn x hx)

theorem BRep.drewN (B : BRep kv eH eL eP w cv h lo cl ls) (q : Nat) : BRep kv eH eL eP (w.drewN q) cv h lo cl ls := B.keep fun _ _ => rfl

theorem BRep.nl_le (B : BRep kv eH eL eP w cv h lo cl ls) : ls.length ≤ (flat ls).length := by
  have hp : ∀ l ∈ ls, 0 < l.ps.length := fun l hl => (B.lf l hl).2.2.1
  clear B
  induction ls with
  | nil => simp
  | cons l ls ih =>
    have h1 := hp l (by simp)
    have h2 := ih (fun l hl => hp l (by simp [hl]))
    simp; omega

theorem BRep.some_of (B : BRep kv eH eL eP w cv h lo cl ls) (hp : 0 < ls.length) : ∃ L, lo = some L := by
  cases lo with
  | none => have := B.lv.2.1; omega
  | some L => exact ⟨L, rfl⟩

/-- what the walk reads -/
theorem BRep.c0 (B : BRep kv eH eL eP w cv h lo cl ls) : w.cell? ⟨h, 0, none⟩ = some cv := B.hdr.cell rfl
theorem BRep.c1 (B : BRep kv eH eL eP w cv h lo cl ls) : w.cell? ⟨h, 1, none⟩ = some (sv lo ls.length cl) := B.hdr.cell rfl
theorem BRep.c1s {L : Nat} (B : BRep kv eH eL eP w cv h (some L) cl ls) : w.cell? ⟨h, 1, none⟩ = some (.slice (some ⟨L, 0, none⟩) ls.length cl) := B.hdr.cell rfl
theorem BRep.c1n (B : BRep kv eH eL eP w cv h none cl ls) : w.cell? ⟨h, 1, none⟩ = some (.slice none ls.length cl) := B.hdr.cell rfl
theorem BRep.c2 (B : BRep kv eH eL eP w cv h lo cl ls) : w.cell? ⟨h, 2, none⟩ = some (.int .i64 (flat ls).length) := B.hdr.cell rfl
theorem BRep.leaf {L : Nat} (B : BRep kv eH eL eP w cv h (some L) cl ls) {i : Nat} (hi : i < ls.length) : w.cell? ⟨L, i, none⟩ = some (lval (ls[i])) :=
  B.lv.row.cell (by simp [hi])
theorem BRep.row (B : BRep kv eH eL eP w cv h lo cl ls) {i : Nat} (hi : i < ls.length) : Row w (ls[i]).b eP 2 (ls[i]).c (cells kv (ls[i]).ps) := (B.lf _ (List.getElem_mem hi)).1
theorem BRep.key (B : BRep kv eH eL eP w cv h lo cl ls) {i j : Nat} (hi : i < ls.length) (hj : j < (ls[i]).ps.length) : w.cell? ⟨(ls[i]).b, j * 2, none⟩ = some (kv ((ls[i]).ps[j]).1) :=
  (B.row hi).cell (cells_key kv _ j hj)
theorem BRep.val (B : BRep kv eH eL eP w cv h lo cl ls) {i j : Nat} (hi : i < ls.length) (hj : j < (ls[i]).ps.length) : w.cell? ⟨(ls[i]).b, j * 2 + 1, none⟩ = some ((ls[i]).ps[j]).2 :=
  (B.row hi).cell (cells_val kv _ j hj)
theorem BRep.pos (B : BRep kv eH eL eP w cv h lo cl ls) {i : Nat} (hi : i < ls.length) : 0 < (ls[i]).ps.length ∧ (ls[i]).ps.length ≤ 32 ∧ (ls[i]).ps.length ≤ (ls[i]).c :=
  have := B.lf _ (List.getElem_mem hi); ⟨this.2.2.1, this.2.2.2.1, this.2.1⟩

theorem BRep.found {c : K → K → Int} (R : BRep kv eH eL eP w cv h lo cl ls) {k : K} (hh : hasL c (flat ls) k = true) :
    ∃ L b n cp v, lo = some L ∧ (loc ls (rk c (flat ls) k)).1 < ls.length ∧ (loc ls (rk c (flat ls) k)).2 < n ∧ n ≤ 32 ∧
      w.cell? ⟨L, (loc ls (rk c (flat ls) k)).1, none⟩ = some (.slice (some ⟨b, 0, none⟩) n cp) ∧ w.cell? ⟨b, (loc ls (rk c (flat ls) k)).2 * 2 + 1, none⟩ = some v ∧ getL c (flat ls) k = some v := by
  have hlt := hasL_lt c hh
  obtain ⟨s1, s2, s3, s4⟩ := loc_spec ls _ (Nat.le_of_lt hlt)
  have hA : (loc ls (rk c (flat ls) k)).1 < ls.length := by
    rcases Nat.eq_or_lt_of_le s1 with h1 | h1
    · have := (s4 h1).2; omega
    · exact h1
  have hB := s3 hA
  obtain ⟨L, rfl⟩ := R.some_of (by omega)
  refine ⟨L, _, _, _, _, rfl, hA, hB, (R.pos hA).2.1, R.leaf hA, R.val hA hB, ?_⟩
  have hf := flat_get hA hB
  rw [s2] at hf
  unfold hasL at hh
  unfold getL
  rw [hf] at hh ⊢
  simp only at hh ⊢
  rw [if_pos hh]

theorem if_some {α : Type} {c : Prop} [Decidable c] {x y z : α} (h : ¬ c) (e : y = z) : (if c then some x else some y) = some z := by rw [if_neg h, e]

/-- 'copy(l[at+1:], l[at:])': a gap for one pair -/
theorem step_gap {P : Program} {w : World} {ops : Array Oper} {o : Oper} {a : Act} {Kn : Act → World → Prop} {Q : Exit → Act → World → Prop} {E : Prop} (hgd : o.guard = none) (d s : Operand) (dT : TypeId)
    (ho : o.op = .call { callee := .builtin .copy, args := #[d, s], argTypes := #[dT, dT] })
    (e : TypeId) (i : TypeInfo) (hu : P.underlying dT = some (.slice e)) (hi : P.info? e = some i) (hsize : i.size = 2)
    (g cap n B : Nat) (ps : List (K × Value)) (z1 z2 : Value) (hR : Row w g e 2 cap (cells kv ps ++ [z1, z2])) (hn : n = ps.length) (hB : B ≤ n) (hcap : n + 1 ≤ cap) (hone : ∀ u ∈ cells kv ps, u.oneCell' = true)
    (hd : a.eval d = .slice (if cap = B + 1 then some ⟨g, 0, none⟩ else some ⟨g, (B + 1) * 2, none⟩) (n - B) (cap - (B + 1)))
    (hs : a.eval s = .slice (if cap = B then some ⟨g, 0, none⟩ else some ⟨g, B * 2, none⟩) (n + 1 - B) (cap - B))
    (h : ∀ r w', (∃ x y, Row w' g e 2 cap (cells kv (ps.take B) ++ x :: y :: cells kv (ps.drop B))) → w.grownBy w' (some g) → Kn (a.put o.dst r) w') :
    if Region.wanted o (yielded ops a.tmps) = true then Oper.wp P o a w Kn Q else E := by
  subst hn
  obtain ⟨sp, hh, hl, hm⟩ := hR
  have hcl : (cells kv (ps.drop B)).length = (ps.length - B) * 2 := by simp
  have hmin : Nat.min (ps.length + 1 - B) (ps.length - B) = ps.length - B := by
    show min _ _ = _
    omega
  refine step_cpy hgd d s dT dT ho e i 2 hu hi hsize g ((B + 1) * 2) _ _ _ _ _ _ hd hs (cells kv ps ++ [z1, z2] ++ sp) e (cells kv (ps.drop B)) hh (by rw [hcl, hmin]) ?_ ?_ ?_ ?_ ?_
  · intro h0
    rw [hcl] at h0
    exact if_some (by omega) rfl
  · intro h0
    rw [hcl] at h0
    refine ⟨⟨g, B * 2, none⟩, if_some (by omega) rfl, fun j v hv => ?_⟩
    rw [Addr.add_lit]
    have hj : j < (ps.length - B) * 2 := by
      have := (List.getElem?_eq_some_iff.1 hv).1; rwa [hcl] at this
    have hR : Row w g e 2 cap (cells kv ps ++ [z1, z2]) := ⟨sp, hh, hl, hm⟩
    refine hR.cell ?_
    rw [List.getElem?_append_left (by rw [cells_length]; omega), ← hv, ← cells_drop, List.getElem?_drop]
  · simp at hl ⊢; omega
  · intro u hu
    refine hone u ?_
    rw [← cells_drop] at hu
    exact List.mem_of_mem_drop hu
  · intro r w' hh' hg
    refine h r w' ?_ hg
    have h1 : (cells kv ps ++ [z1, z2] ++ sp).take ((B + 1) * 2) = cells kv (ps.take B) ++ ((cells kv (ps.drop B) ++ [z1, z2]).take 2) := by
      rw [List.append_assoc, show (B + 1) * 2 = B * 2 + 2 by omega]
      have e1 : cells kv ps = cells kv (ps.take B) ++ cells kv (ps.drop B) := by rw [← cells_append, List.take_append_drop]
      have e2 : (cells kv (ps.take B)).length = B * 2 := by simp; omega
      rw [e1, List.append_assoc, List.take_append, e2, Nat.add_sub_cancel_left, List.take_of_length_le (by omega), ← List.append_assoc (cells kv (ps.drop B)), List.take_append_of_le_length (by simp)]
    have h2 : ∃ x y, (cells kv (ps.drop B) ++ [z1, z2]).take 2 = [x, y] := by
      cases ps.drop B with
      | nil => exact ⟨z1, z2, rfl⟩
      | cons p l => exact ⟨kv p.1, p.2, rfl⟩
    obtain ⟨x, y, hxy⟩ := h2
    have h3 : (cells kv ps ++ [z1, z2] ++ sp).drop ((B + 1) * 2 + (cells kv (ps.drop B)).length) = sp := by
      rw [hcl, show (B + 1) * 2 + (ps.length - B) * 2 = (cells kv ps ++ [z1, z2]).length by simp; omega, List.drop_left]
    refine ⟨x, y, sp, ?_, ?_, hm⟩
    · rw [hh', h1, h3, hxy]
      simp
    · refine Nat.le_trans hl (Nat.le_of_eq ?_); simp; omega

/-- some leaves M in the midst of a bough give way to N -/
theorem BRep.splice {X M N Y : List (Leaf K Value)} (R : BRep kv eH eL eP w cv h lo cl ls) (hls : ls = X ++ (M ++ Y)) {w' : World} {lo' : Option Nat} {cl' : Nat}
    (hdr' : Row w' h eH 3 1 [cv, sv lo' (X ++ (N ++ Y)).length cl', .int .i64 (flat (X ++ (N ++ Y))).length])
    (lv' : Own w' eL 1 lo' (X ++ (N ++ Y)).length cl' ((X ++ (N ++ Y)).map lval))
    (hN : ∀ l ∈ N, Row w' l.b eP 2 l.c (cells kv l.ps) ∧ l.ps.length ≤ l.c ∧ 0 < l.ps.length ∧ l.ps.length ≤ 32 ∧ ∀ p ∈ l.ps, p.2.oneCell' = true)
    (hNn : (N.map (·.b)).Nodup) (hNb : ∀ l ∈ N, l.b ∈ M.map (·.b) ∨ w.heap.size ≤ l.b)
    (hlo : lo' = lo ∨ ∃ L', lo' = some L' ∧ w.heap.size ≤ L' ∧ ∀ l ∈ N, l.b ≠ L')
    (hkeep : ∀ l ∈ X ++ Y, w'.heap[l.b]? = w.heap[l.b]?) :
    BRep kv eH eL eP w' cv h lo' cl' (X ++ (N ++ Y)) ∧ ∀ x ∈ blocks h lo' (X ++ (N ++ Y)), x ∈ blocks h lo ls ∨ w.heap.size ≤ x := by
  subst hls
  have hlt := R.lt
  have hnd := R.nd
  have sub : ∀ x ∈ blocks h lo' (X ++ (N ++ Y)), x ∈ blocks h lo (X ++ (M ++ Y)) ∨ w.heap.size ≤ x := by
    intro x hx
    simp only [blocks, List.mem_cons, List.mem_append, Option.mem_toList, List.map_append] at hx ⊢
    rcases hx with rfl | hx | hx | hx | hx
    · exact .inl (.inl rfl)
    · rcases hlo with rfl | ⟨L', rfl, hL, _⟩
      · exact .inl (.inr (.inl hx))
      · simp at hx; subst hx; exact .inr hL
    · exact .inl (.inr (.inr (.inl hx)))
    · obtain ⟨l, hl, rfl⟩ := List.mem_map.1 hx
      rcases hNb l hl with h1 | h1
      · exact .inl (.inr (.inr (.inr (.inl h1))))
      · exact .inr h1
    · exact .inl (.inr (.inr (.inr (.inr hx))))
  refine ⟨⟨hdr', lv', ?_, ?_⟩, sub⟩
  · intro l hl
    simp only [List.mem_append] at hl
    rcases hl with hl | hl | hl
    · have := R.lf l (by simp [hl]); exact ⟨this.1.keep (hkeep l (by simp [hl])), this.2⟩
    · exact hN l hl
    · have := R.lf l (by simp [hl]); exact ⟨this.1.keep (hkeep l (by simp [hl])), this.2⟩
  · simp only [blocks, List.map_append, List.nodup_cons, List.nodup_append, List.mem_append, Option.mem_toList, List.mem_cons] at hnd hlt ⊢
    have hNb' : ∀ x ∈ N.map (·.b), x ∈ M.map (·.b) ∨ w.heap.size ≤ x := by
      intro x hx; obtain ⟨l, hl, rfl⟩ := List.mem_map.1 hx; exact hNb l hl
    have hlo' : lo' = lo ∨ ∃ L', lo' = some L' ∧ w.heap.size ≤ L' ∧ L' ∉ N.map (·.b) := by
      rcases hlo with h1 | ⟨L', h1, h2, h3⟩
      · exact .inl h1
      · refine .inr ⟨L', h1, h2, fun hx => ?_⟩
        obtain ⟨l, hl, e⟩ := List.mem_map.1 hx
        exact h3 l hl e
    clear hN hNb hlo hkeep sub lv' hdr' R
    generalize X.map (·.b) = xs at *
    generalize M.map (·.b) = ms at *
    generalize N.map (·.b) = ns at *
    generalize Y.map (·.b) = ys at *
    obtain ⟨n1, n2, ⟨n3, ⟨n4, n5, n6⟩, n7⟩, n8⟩ := hnd
    have lt2 : ∀ x, x = h ∨ lo = some x ∨ x ∈ xs ∨ x ∈ ms ∨ x ∈ ys → x < w.heap.size := hlt
    refine ⟨?_, ?_, ⟨n3, ⟨hNn, n5, ?_⟩, ?_⟩, ?_⟩
    · rintro (h1 | h1 | h1 | h1)
      · rcases hlo' with rfl | ⟨L', rfl, h2, _⟩
        · exact n1 (.inl h1)
        · have := lt2 h (.inl rfl); simp at h1; omega
      · exact n1 (.inr (.inl h1))
      · rcases hNb' h h1 with h2 | h2
        · exact n1 (.inr (.inr (.inl h2)))
        · have := lt2 h (.inl rfl); omega
      · exact n1 (.inr (.inr (.inr h1)))
    · cases lo' <;> simp
    · intro a ha b hb e
      subst e
      rcases hNb' a ha with h2 | h2
      · exact n6 a h2 a hb rfl
      · have := lt2 a (by simp [hb]); omega
    · rintro a ha b (hb | hb) e
      · subst e
        rcases hNb' a hb with h2 | h2
        · exact n7 a ha a (.inl h2) rfl
        · have := lt2 a (by simp [ha]); omega
      · exact n7 a ha b (.inr hb) e
    · intro a ha b hb e
      subst e
      rcases hlo' with rfl | ⟨L', rfl, h2, h3⟩
      · rcases hb with hb | hb | hb
        · exact n8 a ha a (.inl hb) rfl
        · rcases hNb' a hb with h4 | h4
          · exact n8 a ha a (.inr (.inl h4)) rfl
          · have := lt2 a (by simp [ha]); omega
        · exact n8 a ha a (.inr (.inr hb)) rfl
      · simp at ha
        subst ha
        rcases hb with hb | hb | hb
        · have := lt2 L' (by simp [hb]); omega
        · exact h3 hb
        · have := lt2 L' (by simp [hb]); omega

/-- what the leaves may grow to: sixteen for each, and what is above sixteen in each -/
def pot (ls : List (Leaf K Value)) : Nat := (ls.map fun l => 16 + (l.ps.length - 16)).sum
theorem pot_append (xs ys : List (Leaf K Value)) : pot (xs ++ ys) = pot xs + pot ys := by simp [pot]
theorem pot_cons (l : Leaf K Value) (ls : List (Leaf K Value)) : pot (l :: ls) = 16 + (l.ps.length - 16) + pot ls := by simp [pot]
theorem pot_nil : pot ([] : List (Leaf K Value)) = 0 := rfl
theorem pot_len (ls : List (Leaf K Value)) : 16 * ls.length ≤ pot ls := by
  induction ls with
  | nil => simp [pot]
  | cons l ls ih => rw [pot_cons]; simp; omega

/-- what a Put or a Del leaves -/
def Post (kv : K → Value) (eH eL eP : Nat) (w : World) (cv : Value) (h : Nat) (lo : Option Nat) (ls : List (Leaf K Value)) (fl : List (K × Value)) (bound : Nat) (w' : World) : Prop :=
  ∃ lo' cl' ls', BRep kv eH eL eP w' cv h lo' cl' ls' ∧ flat ls' = fl ∧ pot ls' ≤ bound ∧ Chg (fun x => x ∈ blocks h lo ls) w w' ∧ ∀ x ∈ blocks h lo' ls', x ∈ blocks h lo ls ∨ w.heap.size ≤ x

theorem at_split {α : Type} {ls : List α} {i : Nat} (h : i < ls.length) : ls = ls.take i ++ ([ls[i]] ++ ls.drop (i + 1)) := by
  conv => lhs; rw [← List.take_append_drop i ls, List.drop_eq_getElem_cons h]
  rfl

theorem pot_at {ls : List (Leaf K Value)} {i : Nat} (h : i < ls.length) : pot ls = pot (ls.take i) + (16 + ((ls[i]).ps.length - 16) + pot (ls.drop (i + 1))) := by
  have e := congrArg pot (at_split h)
  rw [pot_append, pot_append, pot_cons, pot_nil, Nat.add_zero] at e
  exact e

theorem mem_other {ls : List (Leaf K Value)} {i : Nat} (h : i < ls.length) {l : Leaf K Value} (hl : l ∈ ls.take i ++ ls.drop (i + 1)) (hnd : (ls.map (·.b)).Nodup) : l ∈ ls ∧ l.b ≠ (ls[i]).b := by
  have e := at_split h
  rw [e] at hnd
  simp only [List.map_append, List.map_cons, List.map_nil] at hnd
  rw [List.nodup_append] at hnd
  obtain ⟨n1, n2, n3⟩ := hnd
  rw [List.nodup_append] at n2
  obtain ⟨n4, n5, n6⟩ := n2
  rw [List.mem_append] at hl
  rcases hl with hl | hl
  · exact ⟨List.mem_of_mem_take hl, n3 _ (List.mem_map.2 ⟨l, hl, rfl⟩) _ (by simp)⟩
  · exact ⟨List.mem_of_mem_drop hl, fun e => n6 _ (by simp) _ (List.mem_map.2 ⟨l, hl, rfl⟩) e.symm⟩

theorem BRep.nd3 {L : Nat} (R : BRep kv eH eL eP w cv h (some L) cl ls) : h ≠ L ∧ (∀ l ∈ ls, l.b ≠ h ∧ l.b ≠ L) ∧ (ls.map (·.b)).Nodup := by
  have hnd := R.nd
  simp only [blocks, Option.toList_some, List.nodup_cons, List.nodup_append, List.mem_append, List.mem_singleton, List.mem_map] at hnd
  obtain ⟨n1, _, n3, n4⟩ := hnd
  refine ⟨fun e => n1 (.inl e), fun l hl => ⟨fun e => n1 (.inr ⟨l, hl, e⟩), fun e => n4 L rfl _ ⟨l, hl, rfl⟩ e.symm⟩, n3⟩

theorem BRep.put1 {L : Nat} (R : BRep kv eH eL eP w cv h (some L) cl ls) {A B r : Nat} (hA : A < ls.length) (hr : r = off ls A + B) (hB : B ≤ (ls[A]).ps.length) {k : K} {v : Value} (hv : v.oneCell' = true)
    {g cp' : Nat} {ps' : List (K × Value)} (hps : ps' = (ls[A]).ps.take B ++ (k, v) :: (ls[A]).ps.drop B) {w' : World}
    (h1 : Row w' h eH 3 1 [cv, .slice (some ⟨L, 0, none⟩) ls.length cl, .int .i64 ((flat ls).length + 1)])
    (h2 : Row w' L eL 1 cl ((ls.map lval).set A (.slice (some ⟨g, 0, none⟩) ps'.length cp')))
    (h3 : Row w' g eP 2 cp' (cells kv ps')) (hc : ps'.length ≤ cp') (h32 : ps'.length ≤ 32)
    (h4 : Chg (fun x => x = h ∨ x = L ∨ x = (ls[A]).b) w w') (hg : g = (ls[A]).b ∨ w.heap.size ≤ g) :
    Post kv eH eL eP w cv h (some L) ls ((flat ls).take r ++ (k, v) :: (flat ls).drop r) (pot ls + 1) w' := by
  obtain ⟨d1, d2, d3⟩ := R.nd3
  have hps1 : ∀ p ∈ (ls[A]).ps, p.2.oneCell' = true := (R.lf _ (List.getElem_mem hA)).2.2.2.2
  have hlen : ps'.length = (ls[A]).ps.length + 1 := by rw [hps]; simp; omega
  have hset : ls.set A ⟨g, cp', ps'⟩ = ls.take A ++ ([⟨g, cp', ps'⟩] ++ ls.drop (A + 1)) := by rw [List.set_eq_take_append_cons_drop, if_pos hA]; rfl
  have hfl : flat (ls.take A ++ ([⟨g, cp', ps'⟩] ++ ls.drop (A + 1))) = (flat ls).take r ++ (k, v) :: (flat ls).drop r := by
    conv => rhs; rw [flat_at hA]
    rw [ins_at _ _ _ _ r B hr hB, hps]
    simp
  have hfll : (flat (ls.take A ++ ([⟨g, cp', ps'⟩] ++ ls.drop (A + 1)))).length = (flat ls).length + 1 := by
    rw [hfl]; simp; have := off_succ hA; have := off_le ls (A + 1); omega
  have hll : (ls.take A ++ ([(⟨g, cp', ps'⟩ : Leaf K Value)] ++ ls.drop (A + 1))).length = ls.length := by rw [← hset]; simp
  have hS := BRep.splice (X := ls.take A) (M := [ls[A]]) (N := [⟨g, cp', ps'⟩]) (Y := ls.drop (A + 1)) R (at_split hA) (w' := w') (lo' := some L) (cl' := cl)
    (by rw [hfll, hll]; exact h1)
    (by
      have hlv := R.lv
      rw [hll]
      refine Own.mk ?_ (by rw [List.length_map, hll, Nat.mul_one]) hlv.le
      have : (ls.take A ++ ([(⟨g, cp', ps'⟩ : Leaf K Value)] ++ ls.drop (A + 1))).map lval = (ls.map lval).set A (.slice (some ⟨g, 0, none⟩) ps'.length cp') := by
        rw [← hset, List.map_set]; rfl
      rw [this]; exact h2)
    (by
      intro l hl
      simp at hl; subst hl
      refine ⟨h3, hc, by simp only; omega, h32, ?_⟩
      intro p hp
      simp only [hps, List.mem_append, List.mem_cons] at hp
      rcases hp with hp | rfl | hp
      · exact hps1 p (List.mem_of_mem_take hp)
      · exact hv
      · exact hps1 p (List.mem_of_mem_drop hp))
    (by simp) (by intro l hl; simp at hl; subst hl; simpa using hg) (.inl rfl)
    (by
      intro l hl
      obtain ⟨m1, m2⟩ := mem_other hA hl d3
      obtain ⟨m3, m4⟩ := d2 l m1
      exact h4.block _ (R.lf l m1).1.lt (by simp [m2, m3, m4]))
  refine ⟨some L, cl, _, hS.1, hfl, ?_, ?_, hS.2⟩
  · rw [pot_append, pot_append, pot_cons, pot_nil, pot_at hA]; simp only; omega
  · refine h4.mono fun x _ hx => ?_
    simp only [blocks, List.mem_cons, List.mem_append, Option.mem_toList, List.mem_map]
    rcases hx with rfl | rfl | rfl
    · exact .inl rfl
    · exact .inr (.inl rfl)
    · exact .inr (.inr ⟨_, List.getElem_mem hA, rfl⟩)

theorem BRep.put2 {L : Nat} (R : BRep kv eH eL eP w cv h (some L) cl ls) {A B r : Nat} (hA : A < ls.length) (hr : r = off ls A + B) (hB : B ≤ (ls[A]).ps.length) {k : K} {v : Value} (hv : v.oneCell' = true)
    {g g2 c2 L' cl' : Nat} {ps' : List (K × Value)} (hps : ps' = (ls[A]).ps.take B ++ (k, v) :: (ls[A]).ps.drop B) (hn : (ls[A]).ps.length = 32) {w' : World}
    (h1 : Row w' h eH 3 1 [cv, .slice (some ⟨L', 0, none⟩) (ls.length + 1) cl', .int .i64 ((flat ls).length + 1)])
    (h2 : Row w' L' eL 1 cl' ((ls.map lval).take A ++ .slice (some ⟨g, 0, none⟩) 16 16 :: .slice (some ⟨g2, 0, none⟩) 17 c2 :: (ls.map lval).drop (A + 1))) (hcl : ls.length + 1 ≤ cl')
    (h3 : Row w' g eP 2 16 (cells kv (ps'.take 16))) (h3' : Row w' g2 eP 2 c2 (cells kv (ps'.drop 16))) (hc2 : 17 ≤ c2)
    (h4 : Chg (fun x => x = h ∨ x = L ∨ x = (ls[A]).b) w w') (hg : g = (ls[A]).b ∨ w.heap.size ≤ g) (hg2 : w.heap.size ≤ g2) (hgg : g ≠ g2) (hL : L' = L ∨ (w.heap.size ≤ L' ∧ L' ≠ g ∧ L' ≠ g2)) :
    Post kv eH eL eP w cv h (some L) ls ((flat ls).take r ++ (k, v) :: (flat ls).drop r) (pot ls + 1) w' := by
  obtain ⟨d1, d2, d3⟩ := R.nd3
  have hps1 : ∀ p ∈ (ls[A]).ps, p.2.oneCell' = true := (R.lf _ (List.getElem_mem hA)).2.2.2.2
  have hps2 : ∀ p ∈ ps', p.2.oneCell' = true := by
    intro p hp
    simp only [hps, List.mem_append, List.mem_cons] at hp
    rcases hp with hp | rfl | hp
    · exact hps1 p (List.mem_of_mem_take hp)
    · exact hv
    · exact hps1 p (List.mem_of_mem_drop hp)
  have hlen : ps'.length = 33 := by rw [hps]; simp; omega
  have hfl : flat (ls.take A ++ ([⟨g, 16, ps'.take 16⟩, ⟨g2, c2, ps'.drop 16⟩] ++ ls.drop (A + 1))) = (flat ls).take r ++ (k, v) :: (flat ls).drop r := by
    conv => rhs; rw [flat_at hA]
    rw [ins_at _ _ _ _ r B hr hB, ← hps]
    simp only [flat_append, flat_cons, flat_nil, List.append_nil, List.take_append_drop]
  have hfll : (flat (ls.take A ++ ([(⟨g, 16, ps'.take 16⟩ : Leaf K Value), ⟨g2, c2, ps'.drop 16⟩] ++ ls.drop (A + 1)))).length = (flat ls).length + 1 := by
    rw [hfl]; simp; have := off_succ hA; have := off_le ls (A + 1); omega
  have hll : (ls.take A ++ ([(⟨g, 16, ps'.take 16⟩ : Leaf K Value), ⟨g2, c2, ps'.drop 16⟩] ++ ls.drop (A + 1))).length = ls.length + 1 := by simp; omega
  have hS := BRep.splice (X := ls.take A) (M := [ls[A]]) (N := [⟨g, 16, ps'.take 16⟩, ⟨g2, c2, ps'.drop 16⟩]) (Y := ls.drop (A + 1)) R (at_split hA) (w' := w') (lo' := some L') (cl' := cl')
    (by rw [hfll, hll]; exact h1)
    (by
      rw [hll]
      refine Own.mk ?_ (by rw [List.length_map, hll, Nat.mul_one]) hcl
      have e : (ls.take A ++ ([(⟨g, 16, ps'.take 16⟩ : Leaf K Value), ⟨g2, c2, ps'.drop 16⟩] ++ ls.drop (A + 1))).map lval = (ls.map lval).take A ++ .slice (some ⟨g, 0, none⟩) 16 16 :: .slice (some ⟨g2, 0, none⟩) 17 c2 :: (ls.map lval).drop (A + 1) := by
        simp [lval, hlen]
      rw [e]; exact h2)
    (by
      intro l hl
      simp at hl
      rcases hl with rfl | rfl
      · exact ⟨h3, by simp; omega, by simp; omega, by simp; omega, fun p hp => hps2 p (List.mem_of_mem_take hp)⟩
      · exact ⟨h3', by simp; omega, by simp; omega, by simp; omega, fun p hp => hps2 p (List.mem_of_mem_drop hp)⟩)
    (by simpa using hgg)
    (by
      intro l hl
      simp at hl
      rcases hl with rfl | rfl
      · simpa using hg
      · exact .inr hg2)
    (by
      rcases hL with rfl | ⟨h5, h6, h7⟩
      · exact .inl rfl
      · refine .inr ⟨L', rfl, h5, fun l hl => ?_⟩
        simp at hl
        rcases hl with rfl | rfl
        · exact Ne.symm h6
        · exact Ne.symm h7)
    (by
      intro l hl
      obtain ⟨m1, m2⟩ := mem_other hA hl d3
      obtain ⟨m3, m4⟩ := d2 l m1
      exact h4.block _ (R.lf l m1).1.lt (by simp [m2, m3, m4]))
  refine ⟨some L', cl', _, hS.1, hfl, ?_, ?_, hS.2⟩
  · rw [pot_append, pot_append, pot_cons, pot_cons, pot_nil, pot_at hA]; simp only [List.length_take, List.length_drop]; omega
  · refine h4.mono fun x _ hx => ?_
    simp only [blocks, List.mem_cons, List.mem_append, Option.mem_toList, List.mem_map]
    rcases hx with rfl | rfl | rfl
    · exact .inl rfl
    · exact .inr (.inl rfl)
    · exact .inr (.inr ⟨_, List.getElem_mem hA, rfl⟩)

theorem set_gap0 {α : Type} (X Y : List α) (v x1 v2 : α) : ((X ++ v :: Y).take (X.length + 1) ++ x1 :: (X ++ v :: Y).drop (X.length + 1)).set (X.length + 1) v2 = X ++ v :: v2 :: Y := by
  rw [show X ++ v :: Y = (X ++ [v]) ++ Y by simp, List.take_left' (by simp), List.drop_left' (by simp), List.set_append_right _ _ (by simp)]
  simp
theorem set_gap {α : Type} (xs : List α) (A : Nat) (h : A < xs.length) (v x1 v2 : α) : ((xs.set A v).take (A + 1) ++ x1 :: (xs.set A v).drop (A + 1)).set (A + 1) v2 = xs.take A ++ v :: v2 :: xs.drop (A + 1) := by
  have e2 : (xs.take A).length = A := by simp; omega
  have := set_gap0 (xs.take A) (xs.drop (A + 1)) v x1 v2
  rw [e2] at this
  have e3 : xs.set A v = xs.take A ++ v :: xs.drop (A + 1) := by rw [List.set_eq_take_append_cons_drop, if_pos h]
  rw [e3, this]

/-- 'copy(l[at+1:], l[at:])' where an element is one cell: a gap for one -/
theorem step_gap1 {P : Program} {w : World} {ops : Array Oper} {o : Oper} {a : Act} {Kn : Act → World → Prop} {Q : Exit → Act → World → Prop} {E : Prop} (hgd : o.guard = none) (d s : Operand) (dT : TypeId)
    (ho : o.op = .call { callee := .builtin .copy, args := #[d, s], argTypes := #[dT, dT] })
    (e : TypeId) (i : TypeInfo) (hu : P.underlying dT = some (.slice e)) (hi : P.info? e = some i) (hsize : i.size = 1)
    (g cap n B : Nat) (xs : List Value) (z : Value) (hR : Row w g e 1 cap (xs ++ [z])) (hn : n = xs.length) (hB : B ≤ n) (hcap : n + 1 ≤ cap) (hone : ∀ u ∈ xs, u.oneCell' = true)
    (hd : a.eval d = .slice (if cap = B + 1 then some ⟨g, 0, none⟩ else some ⟨g, B + 1, none⟩) (n - B) (cap - (B + 1)))
    (hs : a.eval s = .slice (if cap = B then some ⟨g, 0, none⟩ else some ⟨g, B, none⟩) (n + 1 - B) (cap - B))
    (h : ∀ r w', (∃ x, Row w' g e 1 cap (xs.take B ++ x :: xs.drop B)) → w.grownBy w' (some g) → Kn (a.put o.dst r) w') :
    if Region.wanted o (yielded ops a.tmps) = true then Oper.wp P o a w Kn Q else E := by
  subst hn
  obtain ⟨sp, hh, hl, hm⟩ := hR
  have hmin : Nat.min (xs.length + 1 - B) (xs.length - B) = xs.length - B := by
    show min _ _ = _
    omega
  refine step_cpy hgd d s dT dT ho e i 1 hu hi hsize g (B + 1) _ _ _ _ _ _ hd hs (xs ++ [z] ++ sp) e (xs.drop B) hh (by rw [hmin]; simp) ?_ ?_ ?_ ?_ ?_
  · intro h0
    simp at h0
    exact if_some (by omega) rfl
  · intro h0
    simp at h0
    refine ⟨⟨g, B, none⟩, if_some (by omega) rfl, fun j v hv => ?_⟩
    rw [Addr.add_lit]
    have hj : j < xs.length - B := by
      have := (List.getElem?_eq_some_iff.1 hv).1; simpa using this
    have hR : Row w g e 1 cap (xs ++ [z]) := ⟨sp, hh, hl, hm⟩
    refine hR.cell ?_
    rw [List.getElem?_append_left (by omega), ← hv, List.getElem?_drop]
  · simp at hl ⊢; omega
  · exact fun u hu => hone u (List.mem_of_mem_drop hu)
  · intro r w' hh' hg
    refine h r w' ?_ hg
    have h1 : (xs ++ [z] ++ sp).take (B + 1) = xs.take B ++ ((xs.drop B ++ [z]).take 1) := by
      rw [List.append_assoc]
      conv => lhs; rw [← List.take_append_drop B xs]
      have e2 : (xs.take B).length = B := by simp; omega
      rw [List.append_assoc, List.take_append, e2, Nat.add_sub_cancel_left, List.take_of_length_le (by omega), ← List.append_assoc (xs.drop B), List.take_append_of_le_length (by simp)]
    have h2 : ∃ x, (xs.drop B ++ [z]).take 1 = [x] := by
      cases xs.drop B with
      | nil => exact ⟨z, rfl⟩
      | cons p l => exact ⟨p, rfl⟩
    obtain ⟨x, hxy⟩ := h2
    have h3 : (xs ++ [z] ++ sp).drop (B + 1 + (xs.drop B).length) = sp := by
      rw [show B + 1 + (xs.drop B).length = (xs ++ [z]).length by simp; omega, List.drop_left]
    refine ⟨x, sp, ?_, ?_, hm⟩
    · rw [hh', h1, h3, hxy]
      simp
    · refine Nat.le_trans hl (Nat.le_of_eq ?_); simp; omega

theorem BRep.put0 (R : BRep kv eH eL eP w cv h lo cl ls) {A B r : Nat} (hA : A < ls.length) (hr : r = off ls A + B) (hB : B < (ls[A]).ps.length) {k : K} {v : Value} (hv : v.oneCell' = true) {w' : World}
    (h3 : Row w' (ls[A]).b eP 2 (ls[A]).c (cells kv ((ls[A]).ps.set B (k, v)))) (h4 : Chg (fun x => x = (ls[A]).b) w w') :
    Post kv eH eL eP w cv h lo ls ((flat ls).set r (k, v)) (pot ls + 1) w' := by
  have hnd := R.nd
  have hbm : (ls[A]).b ∈ ls.map (·.b) := List.mem_map.2 ⟨_, List.getElem_mem hA, rfl⟩
  have hb1 : (ls[A]).b ≠ h := fun e => by
    simp only [blocks, List.nodup_cons, List.mem_append] at hnd
    exact hnd.1 (.inr (e ▸ hbm))
  have hb2 : ∀ L, lo = some L → (ls[A]).b ≠ L := fun L hL e => by
    simp only [blocks, List.nodup_cons, List.nodup_append, hL, Option.toList_some, List.mem_singleton] at hnd
    exact hnd.2.2.2 L rfl _ hbm e.symm
  have d3 : (ls.map (·.b)).Nodup := by
    simp only [blocks, List.nodup_cons, List.nodup_append] at hnd
    exact hnd.2.2.1
  obtain ⟨p1, p2, p3⟩ := R.pos hA
  have hps1 : ∀ p ∈ (ls[A]).ps, p.2.oneCell' = true := (R.lf _ (List.getElem_mem hA)).2.2.2.2
  have hset : ls.set A ⟨(ls[A]).b, (ls[A]).c, (ls[A]).ps.set B (k, v)⟩ = ls.take A ++ ([⟨(ls[A]).b, (ls[A]).c, (ls[A]).ps.set B (k, v)⟩] ++ ls.drop (A + 1)) := by rw [List.set_eq_take_append_cons_drop, if_pos hA]; rfl
  have hfl : flat (ls.take A ++ ([⟨(ls[A]).b, (ls[A]).c, (ls[A]).ps.set B (k, v)⟩] ++ ls.drop (A + 1))) = (flat ls).set r (k, v) := by
    conv => rhs; rw [flat_at hA]
    rw [set_at _ _ _ _ r B hr hB]
    simp
  have hll : (ls.take A ++ ([(⟨(ls[A]).b, (ls[A]).c, (ls[A]).ps.set B (k, v)⟩ : Leaf K Value)] ++ ls.drop (A + 1))).length = ls.length := by rw [← hset]; simp
  have hmap : (ls.take A ++ ([(⟨(ls[A]).b, (ls[A]).c, (ls[A]).ps.set B (k, v)⟩ : Leaf K Value)] ++ ls.drop (A + 1))).map lval = ls.map lval := by
    have e := congrArg (List.map lval) (at_split hA)
    rw [e]
    simp only [List.map_append, List.map_cons, List.map_nil, lval, List.length_set]
  have hS := BRep.splice (X := ls.take A) (M := [ls[A]]) (N := [⟨(ls[A]).b, (ls[A]).c, (ls[A]).ps.set B (k, v)⟩]) (Y := ls.drop (A + 1)) R (at_split hA) (w' := w') (lo' := lo) (cl' := cl)
    (by rw [hfl, hll, List.length_set]; exact R.hdr.chg h4 (fun e => hb1 e.symm))
    (by
      rw [hll, hmap]
      exact R.lv.keep fun g hg => h4.block g (R.lt g (by simp [blocks, hg])) (fun e => hb2 g hg e.symm))
    (by
      intro l hl
      simp at hl; subst hl
      refine ⟨h3, by simpa using p3, by simpa using p1, by simpa using p2, ?_⟩
      intro p hp
      rcases List.mem_or_eq_of_mem_set hp with hp | rfl
      · exact hps1 p hp
      · exact hv)
    (by simp) (by intro l hl; simp at hl; subst hl; simp) (.inl rfl)
    (by
      intro l hl
      obtain ⟨m1, m2⟩ := mem_other hA hl d3
      exact h4.block _ (R.lf l m1).1.lt m2)
  refine ⟨lo, cl, _, hS.1, hfl, ?_, ?_, hS.2⟩
  · rw [pot_append, pot_append, pot_cons, pot_nil, pot_at hA]; simp only [List.length_set]; omega
  · refine h4.mono fun x _ hx => ?_
    subst hx
    simp only [blocks, List.mem_cons, List.mem_append]
    exact .inr (.inr hbm)

theorem BRep.putN (R : BRep kv eH eL eP w cv h lo cl ls) (h0 : ls = []) {k : K} {v : Value} (hv : v.oneCell' = true) {g L' cl' : Nat} {w' : World}
    (h1 : Row w' h eH 3 1 [cv, .slice (some ⟨L', 0, none⟩) 1 cl', .int .i64 1]) (h2 : Row w' L' eL 1 cl' [.slice (some ⟨g, 0, none⟩) 1 1]) (hcl : 1 ≤ cl') (h3 : Row w' g eP 2 1 [kv k, v])
    (h4 : Chg (fun x => x = h ∨ lo = some x) w w') (hg : w.heap.size ≤ g) (hL : lo = some L' ∨ (w.heap.size ≤ L' ∧ L' ≠ g)) :
    Post kv eH eL eP w cv h lo ls [(k, v)] 16 w' := by
  subst h0
  have hS := BRep.splice (X := []) (M := []) (N := [⟨g, 1, [(k, v)]⟩]) (Y := []) R rfl (w' := w') (lo' := some L') (cl' := cl') h1 (Own.mk h2 rfl hcl)
    (by intro l hl; simp at hl; subst hl; exact ⟨h3, by simp, by simp, by simp, by simpa using hv⟩)
    (by simp) (by intro l hl; simp at hl; subst hl; exact .inr hg)
    (by
      rcases hL with h5 | ⟨h5, h6⟩
      · exact .inl h5.symm
      · exact .inr ⟨L', rfl, h5, by intro l hl; simp at hl; subst hl; exact Ne.symm h6⟩)
    (by simp)
  refine ⟨some L', cl', _, hS.1, rfl, by simp [pot], h4.mono fun x _ hx => ?_, hS.2⟩
  simp only [blocks, List.mem_cons, List.mem_append, Option.mem_toList]
  rcases hx with rfl | hx
  · exact .inl rfl
  · exact .inr (.inl hx)

theorem Post.mono {fl : List (K × Value)} {b b' : Nat} {w' : World} (P : Post kv eH eL eP w cv h lo ls fl b w') (hb : b ≤ b') : Post kv eH eL eP w cv h lo ls fl b' w' := by
  obtain ⟨lo', cl', ls', h1, h2, h3, h4⟩ := P
  exact ⟨lo', cl', ls', h1, h2, Nat.le_trans h3 hb, h4⟩

/-- 'l = append(l[:at], l[at+1:]...)': one pair out of a row -/
theorem step_out {P : Program} {w : World} {ops : Array Oper} {o : Oper} {a : Act} {Kn : Act → World → Prop} {Q : Exit → Act → World → Prop} {E : Prop} (hgd : o.guard = none) (s x : Operand) (t : TypeId)
    (ho : o.op = .call { callee := .builtin .append, args := #[s, x], argTypes := #[t, t] })
    (e : TypeId) (i : TypeInfo) (ht : P.underlying t = some (.slice e)) (hi : P.info? e = some i) (hsize : i.size = 2)
    (g n cap B : Nat) (ps : List (K × Value)) (hs : a.eval s = .slice (some ⟨g, 0, none⟩) B cap) (hR : Row w g e 2 cap (cells kv ps)) (hn : n = ps.length) (hB : B < n) (hcap : n ≤ cap)
    (hone : ∀ u ∈ cells kv ps, u.oneCell' = true)
    (hx : a.eval x = .slice (if cap = B + 1 then some ⟨g, 0, none⟩ else some ⟨g, (B + 1) * 2, none⟩) (n - (B + 1)) (cap - (B + 1)))
    (m : Nat) (hm : B + (n - (B + 1)) = m)
    (h : ∀ w', Row w' g e 2 cap (cells kv (ps.take B ++ ps.drop (B + 1))) → w.grownBy w' (some g) → Kn (a.put o.dst (.slice (some ⟨g, 0, none⟩) m cap)) w') :
    if Region.wanted o (yielded ops a.tmps) = true then Oper.wp P o a w Kn Q else E := by
  subst hn
  subst hm
  refine step_app_room hgd s x t ho e i 2 ht hi hsize g B cap (cells kv (ps.take B)) hs ?_ ?_ _ _ _ (cells kv (ps.drop (B + 1))) hx ?_ (by omega) ?_ ?_ (by decide) ?_
  · rw [← cells_take]; exact hR.take _
  · simp; omega
  · simp
  · intro h0
    simp at h0
    refine ⟨⟨g, (B + 1) * 2, none⟩, if_some (by omega) rfl, fun j u hu => ?_⟩
    rw [Addr.add_lit]
    rw [← cells_drop, List.getElem?_drop] at hu
    exact hR.cell hu
  · intro u hu
    rw [← cells_drop] at hu
    exact hone u (List.mem_of_mem_drop hu)
  · intro w' h1 h2
    rw [← cells_append] at h1
    exact h w' h1 h2

/-- the same where an element is one cell -/
theorem step_out1 {P : Program} {w : World} {ops : Array Oper} {o : Oper} {a : Act} {Kn : Act → World → Prop} {Q : Exit → Act → World → Prop} {E : Prop} (hgd : o.guard = none) (s x : Operand) (t : TypeId)
    (ho : o.op = .call { callee := .builtin .append, args := #[s, x], argTypes := #[t, t] })
    (e : TypeId) (i : TypeInfo) (ht : P.underlying t = some (.slice e)) (hi : P.info? e = some i) (hsize : i.size = 1)
    (g n cap B : Nat) (xs : List Value) (hs : a.eval s = .slice (some ⟨g, 0, none⟩) B cap) (hR : Row w g e 1 cap xs) (hn : n = xs.length) (hB : B < n) (hcap : n ≤ cap)
    (hone : ∀ u ∈ xs, u.oneCell' = true)
    (hx : a.eval x = .slice (if cap = B + 1 then some ⟨g, 0, none⟩ else some ⟨g, B + 1, none⟩) (n - (B + 1)) (cap - (B + 1)))
    (m : Nat) (hm : B + (n - (B + 1)) = m)
    (h : ∀ w', Row w' g e 1 cap (xs.take B ++ xs.drop (B + 1)) → w.grownBy w' (some g) → Kn (a.put o.dst (.slice (some ⟨g, 0, none⟩) m cap)) w') :
    if Region.wanted o (yielded ops a.tmps) = true then Oper.wp P o a w Kn Q else E := by
  subst hn
  subst hm
  refine step_app_room hgd s x t ho e i 1 ht hi hsize g B cap (xs.take B) hs (hR.take _) (by simp; omega) _ _ _ (xs.drop (B + 1)) hx (by simp) (by omega) ?_ (fun u hu => hone u (List.mem_of_mem_drop hu)) (by decide) h
  intro h0
  simp at h0
  refine ⟨⟨g, B + 1, none⟩, if_some (by omega) rfl, fun j u hu => ?_⟩
  rw [Addr.add_lit]
  rw [List.getElem?_drop] at hu
  exact hR.cell hu

theorem lval_one (ls : List (Leaf K Value)) : ∀ u ∈ ls.map lval, u.oneCell' = true := by
  intro u hu
  obtain ⟨l, _, rfl⟩ := List.mem_map.1 hu
  rfl

theorem map_at {α β : Type} (f : α → β) {ls : List α} {i : Nat} (h : i < ls.length) : ls.map f = (ls.map f).take i ++ f (ls[i]) :: (ls.map f).drop (i + 1) := by
  have e := congrArg (List.map f) (at_split h)
  rw [List.map_append, List.map_append, List.map_cons, List.map_nil, List.map_take, List.map_drop] at e
  exact e

/-- one pair gone, its leaf not empty -/
theorem BRep.del1 {L : Nat} (R : BRep kv eH eL eP w cv h (some L) cl ls) {A B r : Nat} (hA : A < ls.length) (hr : r = off ls A + B) (hB : B < (ls[A]).ps.length)
    {ps' : List (K × Value)} (hps : ps' = (ls[A]).ps.take B ++ (ls[A]).ps.drop (B + 1)) (hne : 0 < ps'.length) {w' : World}
    (h1 : Row w' h eH 3 1 [cv, .slice (some ⟨L, 0, none⟩) ls.length cl, .int .i64 ((flat ls).length - 1)])
    (h2 : Row w' L eL 1 cl ((ls.map lval).set A (.slice (some ⟨(ls[A]).b, 0, none⟩) ps'.length (ls[A]).c)))
    (h3 : Row w' (ls[A]).b eP 2 (ls[A]).c (cells kv ps'))
    (h4 : Chg (fun x => x = h ∨ x = L ∨ x = (ls[A]).b) w w') :
    Post kv eH eL eP w cv h (some L) ls ((flat ls).take r ++ (flat ls).drop (r + 1)) (pot ls) w' := by
  obtain ⟨d1, d2, d3⟩ := R.nd3
  obtain ⟨p1, p2, p3⟩ := R.pos hA
  have hps1 : ∀ p ∈ (ls[A]).ps, p.2.oneCell' = true := (R.lf _ (List.getElem_mem hA)).2.2.2.2
  have hlen : ps'.length = (ls[A]).ps.length - 1 := by rw [hps]; simp; omega
  have hset : ls.set A ⟨(ls[A]).b, (ls[A]).c, ps'⟩ = ls.take A ++ ([⟨(ls[A]).b, (ls[A]).c, ps'⟩] ++ ls.drop (A + 1)) := by rw [List.set_eq_take_append_cons_drop, if_pos hA]; rfl
  have hfl : flat (ls.take A ++ ([⟨(ls[A]).b, (ls[A]).c, ps'⟩] ++ ls.drop (A + 1))) = (flat ls).take r ++ (flat ls).drop (r + 1) := by
    conv => rhs; rw [flat_at hA]
    rw [del_at _ _ _ r B hr hB, ← hps]
    simp
  have htl := off_succ hA
  have htl2 := off_le ls (A + 1)
  have hfll : ((flat (ls.take A ++ ([(⟨(ls[A]).b, (ls[A]).c, ps'⟩ : Leaf K Value)] ++ ls.drop (A + 1)))).length : Int) = (flat ls).length - 1 := by
    rw [hfl]; simp; omega
  have hll : (ls.take A ++ ([(⟨(ls[A]).b, (ls[A]).c, ps'⟩ : Leaf K Value)] ++ ls.drop (A + 1))).length = ls.length := by rw [← hset]; simp
  have hS := BRep.splice (X := ls.take A) (M := [ls[A]]) (N := [⟨(ls[A]).b, (ls[A]).c, ps'⟩]) (Y := ls.drop (A + 1)) R (at_split hA) (w' := w') (lo' := some L) (cl' := cl)
    (by rw [hfll, hll]; exact h1)
    (by
      rw [hll]
      refine Own.mk ?_ (by rw [List.length_map, hll, Nat.mul_one]) R.lv.le
      rw [← hset, List.map_set]; exact h2)
    (by
      intro l hl
      simp at hl; subst hl
      refine ⟨h3, by simp only; omega, hne, by simp only; omega, ?_⟩
      intro p hp
      simp only [hps, List.mem_append] at hp
      rcases hp with hp | hp
      · exact hps1 p (List.mem_of_mem_take hp)
      · exact hps1 p (List.mem_of_mem_drop hp))
    (by simp) (by intro l hl; simp at hl; subst hl; simp) (.inl rfl)
    (by
      intro l hl
      obtain ⟨m1, m2⟩ := mem_other hA hl d3
      obtain ⟨m3, m4⟩ := d2 l m1
      exact h4.block _ (R.lf l m1).1.lt (by simp [m2, m3, m4]))
  refine ⟨some L, cl, _, hS.1, hfl, ?_, ?_, hS.2⟩
  · rw [pot_append, pot_append, pot_cons, pot_nil, pot_at hA]; simp only; omega
  · refine h4.mono fun x _ hx => ?_
    simp only [blocks, List.mem_cons, List.mem_append, Option.mem_toList, List.mem_map]
    rcases hx with rfl | rfl | rfl
    · exact .inl rfl
    · exact .inr (.inl rfl)
    · exact .inr (.inr ⟨_, List.getElem_mem hA, rfl⟩)

/-- one pair gone and with it its leaf -/
theorem BRep.del3 {L : Nat} (R : BRep kv eH eL eP w cv h (some L) cl ls) {A r : Nat} (hA : A < ls.length) (hr : r = off ls A) (h1p : (ls[A]).ps.length = 1) {w' : World}
    (h1 : Row w' h eH 3 1 [cv, .slice (some ⟨L, 0, none⟩) (ls.length - 1) cl, .int .i64 ((flat ls).length - 1)])
    (h2 : Row w' L eL 1 cl ((ls.map lval).take A ++ (ls.map lval).drop (A + 1)))
    (h4 : Chg (fun x => x = h ∨ x = L ∨ x = (ls[A]).b) w w') :
    Post kv eH eL eP w cv h (some L) ls ((flat ls).take r ++ (flat ls).drop (r + 1)) (pot ls) w' := by
  obtain ⟨d1, d2, d3⟩ := R.nd3
  have hfl : flat (ls.take A ++ ([] ++ ls.drop (A + 1))) = (flat ls).take r ++ (flat ls).drop (r + 1) := by
    conv => rhs; rw [flat_at hA]
    rw [del_at _ _ _ r 0 hr (by omega)]
    have e0 : (ls[A]).ps.drop (0 + 1) = [] := List.drop_of_length_le (by omega)
    rw [e0]
    simp
  have htl := off_succ hA
  have htl2 := off_le ls (A + 1)
  have hfll : ((flat (ls.take A ++ (([] : List (Leaf K Value)) ++ ls.drop (A + 1)))).length : Int) = (flat ls).length - 1 := by
    rw [hfl]; simp; omega
  have hll : (ls.take A ++ (([] : List (Leaf K Value)) ++ ls.drop (A + 1))).length = ls.length - 1 := by simp; omega
  have hS := BRep.splice (X := ls.take A) (M := [ls[A]]) (N := []) (Y := ls.drop (A + 1)) R (at_split hA) (w' := w') (lo' := some L) (cl' := cl)
    (by rw [hfll, hll]; exact h1)
    (by
      rw [hll]
      refine Own.mk ?_ (by rw [List.length_map, hll, Nat.mul_one]) (by have := R.lv.le; omega)
      simpa using h2)
    (by simp) (by simp) (by simp) (.inl rfl)
    (by
      intro l hl
      obtain ⟨m1, m2⟩ := mem_other hA hl d3
      obtain ⟨m3, m4⟩ := d2 l m1
      exact h4.block _ (R.lf l m1).1.lt (by simp [m2, m3, m4]))
  refine ⟨some L, cl, _, hS.1, hfl, ?_, ?_, hS.2⟩
  · rw [pot_append, pot_append, pot_nil, pot_at hA]; omega
  · refine h4.mono fun x _ hx => ?_
    simp only [blocks, List.mem_cons, List.mem_append, Option.mem_toList, List.mem_map]
    rcases hx with rfl | rfl | rfl
    · exact .inl rfl
    · exact .inr (.inl rfl)
    · exact .inr (.inr ⟨_, List.getElem_mem hA, rfl⟩)

theorem at_split2 {α : Type} {ls : List α} {i : Nat} (h : i + 1 < ls.length) : ls = ls.take i ++ ([ls[i], ls[i + 1]] ++ ls.drop (i + 2)) := by
  conv => lhs; rw [← List.take_append_drop i ls, List.drop_eq_getElem_cons (by omega), List.drop_eq_getElem_cons h]
  rfl

/-- one pair gone and two leaves made one -/
theorem BRep.del2 {L : Nat} (R : BRep kv eH eL eP w cv h (some L) cl ls) {A B r : Nat} (hA : A + 1 < ls.length) (hr : r = off ls A + B) (hB : B < (ls[A]).ps.length)
    {ps' : List (K × Value)} (hps : ps' = (ls[A]).ps.take B ++ (ls[A]).ps.drop (B + 1) ++ (ls[A + 1]).ps) (h32 : ps'.length ≤ 32) {g cp' : Nat} {w' : World}
    (h1 : Row w' h eH 3 1 [cv, .slice (some ⟨L, 0, none⟩) (ls.length - 1) cl, .int .i64 ((flat ls).length - 1)])
    (h2 : Row w' L eL 1 cl ((ls.map lval).take A ++ .slice (some ⟨g, 0, none⟩) ps'.length cp' :: (ls.map lval).drop (A + 2)))
    (h3 : Row w' g eP 2 cp' (cells kv ps')) (hc : ps'.length ≤ cp') (hg : g = (ls[A]).b ∨ w.heap.size ≤ g)
    (h4 : Chg (fun x => x = h ∨ x = L ∨ x = (ls[A]).b) w w') :
    Post kv eH eL eP w cv h (some L) ls ((flat ls).take r ++ (flat ls).drop (r + 1)) (pot ls) w' := by
  obtain ⟨d1, d2, d3⟩ := R.nd3
  obtain ⟨p1, p2, p3⟩ := R.pos hA
  have hA0 : A < ls.length := by omega
  have hps1 : ∀ p ∈ (ls[A]).ps, p.2.oneCell' = true := (R.lf _ (List.getElem_mem hA0)).2.2.2.2
  have hps2 : ∀ p ∈ (ls[A + 1]).ps, p.2.oneCell' = true := (R.lf _ (List.getElem_mem hA)).2.2.2.2
  have hlen : ps'.length = (ls[A]).ps.length - 1 + (ls[A + 1]).ps.length := by rw [hps]; simp; omega
  have hdr : ls.drop (A + 1) = ls[A + 1] :: ls.drop (A + 2) := List.drop_eq_getElem_cons hA
  have hfl : flat (ls.take A ++ ([⟨g, cp', ps'⟩] ++ ls.drop (A + 2))) = (flat ls).take r ++ (flat ls).drop (r + 1) := by
    conv => rhs; rw [flat_at hA0]
    rw [del_at _ _ _ r B hr hB, hps]
    simp only [flat_append, flat_cons, flat_nil, List.append_assoc, List.append_nil]
    rw [hdr, flat_cons]
  have htl := off_succ hA0
  have htl2 := off_le ls (A + 1)
  have hfll : ((flat (ls.take A ++ ([(⟨g, cp', ps'⟩ : Leaf K Value)] ++ ls.drop (A + 2)))).length : Int) = (flat ls).length - 1 := by
    rw [hfl]; simp; omega
  have hll : (ls.take A ++ ([(⟨g, cp', ps'⟩ : Leaf K Value)] ++ ls.drop (A + 2))).length = ls.length - 1 := by simp; omega
  have hother : ∀ l ∈ ls.take A ++ ls.drop (A + 2), l ∈ ls ∧ l.b ≠ (ls[A]).b := by
    intro l hl
    refine mem_other hA0 ?_ d3
    rw [List.mem_append] at hl ⊢
    rcases hl with hl | hl
    · exact .inl hl
    · exact .inr (by rw [hdr]; exact List.mem_cons_of_mem _ hl)
  have hS := BRep.splice (X := ls.take A) (M := [ls[A], ls[A + 1]]) (N := [⟨g, cp', ps'⟩]) (Y := ls.drop (A + 2)) R (at_split2 hA) (w' := w') (lo' := some L) (cl' := cl)
    (by rw [hfll, hll]; exact h1)
    (by
      rw [hll]
      refine Own.mk ?_ (by rw [List.length_map, hll, Nat.mul_one]) (by have := R.lv.le; omega)
      have e : (ls.take A ++ ([(⟨g, cp', ps'⟩ : Leaf K Value)] ++ ls.drop (A + 2))).map lval = (ls.map lval).take A ++ .slice (some ⟨g, 0, none⟩) ps'.length cp' :: (ls.map lval).drop (A + 2) := by
        simp [lval]
      rw [e]; exact h2)
    (by
      intro l hl
      simp at hl; subst hl
      refine ⟨h3, hc, by simp only; omega, h32, ?_⟩
      intro p hp
      simp only [hps, List.mem_append] at hp
      rcases hp with (hp | hp) | hp
      · exact hps1 p (List.mem_of_mem_take hp)
      · exact hps1 p (List.mem_of_mem_drop hp)
      · exact hps2 p hp)
    (by simp)
    (by
      intro l hl
      simp at hl; subst hl
      rcases hg with rfl | hg
      · exact .inl (by simp)
      · exact .inr hg) (.inl rfl)
    (by
      intro l hl
      obtain ⟨m1, m2⟩ := hother l hl
      obtain ⟨m3, m4⟩ := d2 l m1
      exact h4.block _ (R.lf l m1).1.lt (by simp [m2, m3, m4]))
  refine ⟨some L, cl, _, hS.1, hfl, ?_, ?_, hS.2⟩
  · rw [pot_append, pot_append, pot_cons, pot_nil, pot_at hA0, hdr, pot_cons]; simp only; omega
  · refine h4.mono fun x _ hx => ?_
    simp only [blocks, List.mem_cons, List.mem_append, Option.mem_toList, List.mem_map]
    rcases hx with rfl | rfl | rfl
    · exact .inl rfl
    · exact .inr (.inl rfl)
    · exact .inr (.inr ⟨_, List.getElem_mem hA0, rfl⟩)

theorem set_out {α : Type} (xs : List α) (A : Nat) (h : A < xs.length) (v : α) : (xs.set A v).take A ++ (xs.set A v).drop (A + 1) = xs.take A ++ xs.drop (A + 1) := by
  have e2 : (xs.take A).length = A := by simp; omega
  have e3 : xs.set A v = xs.take A ++ v :: xs.drop (A + 1) := by rw [List.set_eq_take_append_cons_drop, if_pos h]
  rw [e3, List.take_left' e2, show xs.take A ++ v :: xs.drop (A + 1) = (xs.take A ++ [v]) ++ xs.drop (A + 1) by simp, List.drop_left' (by simp; omega)]
theorem set_out1 {α : Type} (xs : List α) (A : Nat) (h : A + 1 < xs.length) (v : α) : (xs.set A v).take (A + 1) ++ (xs.set A v).drop (A + 2) = xs.take A ++ v :: xs.drop (A + 2) := by
  have e3 : xs.set A v = (xs.take A ++ [v]) ++ xs.drop (A + 1) := by rw [List.set_eq_take_append_cons_drop, if_pos (by omega)]; simp
  have e4 : xs.drop (A + 1) = xs[A + 1] :: xs.drop (A + 2) := List.drop_eq_getElem_cons h
  have e5 : (xs.take A ++ [v] ++ [xs[A + 1]]).length = A + 2 := by simp; omega
  rw [e3, List.take_left' (by simp; omega), e4, show (xs.take A ++ [v]) ++ xs[A + 1] :: xs.drop (A + 2) = (xs.take A ++ [v] ++ [xs[A + 1]]) ++ xs.drop (A + 2) by simp, List.drop_left' e5]
  simp

/-- a bough without a pair -/
theorem BRep.new {w : World} (hr : Row w h eH 3 1 [cv, sv none 0 0, .int .i64 0]) : BRep kv eH eL eP w cv h none 0 ([] : List (Leaf K Value)) :=
  ⟨hr, Own.nil w eL 1, by simp, by simp [blocks]⟩
end
end Go.Proofs.Ytdfkokbpidkokaa
