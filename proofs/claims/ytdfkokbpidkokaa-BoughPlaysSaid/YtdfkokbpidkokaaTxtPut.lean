/- rosterref12.Texts: Put (11) and Del (13). -/
import Derived.Test.YtdfkokbpidkokaaTxtRef
import Derived.Laws.EntriesVeiled
namespace Go.Proofs.Ytdfkokbpidkokaa
open Go.RowKit

theorem news_own {w : World} {e n c : Nat} {go : Option Nat} {xs : List Value} (h : Own w e 1 go n c xs) (r : Nat) :
    ∀ ad, (go.map fun g => (⟨g, 0, none⟩ : Addr)) = some ad → ∀ j u, (xs.take r)[j]? = some u → w.cell? (ad.add j) = some u := by
  intro ad had j u hu
  cases go with
  | none => cases had
  | some g =>
    simp only [Option.map_some, Option.some.injEq] at had
    subst had
    rw [Addr.add_lit, Nat.zero_add]
    rw [List.getElem?_take] at hu
    split at hu
    · exact h.row.cell hu
    · cases hu
theorem news_tail {w : World} {e n c g : Nat} {xs : List Value} (h : Own w e 1 (some g) n c xs) (r : Nat) (z : Option Addr) (hz : z = if c = r then some (⟨g, 0, none⟩ : Addr) else some ⟨g, r, none⟩) :
    ∀ ad, z = some ad → ∀ j u, (xs.drop r)[j]? = some u → w.cell? (ad.add j) = some u := by
  intro ad had j u hu
  subst hz
  rw [List.getElem?_drop] at hu
  split at had
  · rename_i hc
    have h1 := h.le
    have h2 := h.len
    have := (List.getElem?_eq_some_iff.1 hu).1
    omega
  · simp only [Option.some.injEq] at had
    subst had
    rw [Addr.add_lit]
    exact h.row.cell hu

theorem news_tail1 {w : World} {e n c g : Nat} {xs : List Value} (h : Own w e 1 (some g) n c xs) (r : Nat) :
    ∀ ad, some (⟨g, r, none⟩ : Addr) = some ad → ∀ j u, (xs.drop r)[j]? = some u → w.cell? (ad.add j) = some u := by
  intro ad had j u hu
  rw [List.getElem?_drop] at hu
  simp only [Option.some.injEq] at had
  subst had
  rw [Addr.add_lit]
  exact h.row.cell hu

/-- what Put and Del leave -/
def TPost (w : World) (t : Nat) (kg cg : Option Nat) (l' : List (ByteArray × Int)) (w' : World) : Prop :=
  ∃ kg' kc' cg' cc', TRep w' t l' kg' kc' cg' cc' ∧ Chg (fun x => x = t ∨ kg = some x ∨ cg = some x) w w' ∧ (∀ g, kg' = some g → kg = some g ∨ w.heap.size ≤ g) ∧ (∀ g, cg' = some g → cg = some g ∨ w.heap.size ≤ g)

section
variable {w : World} {t : Nat} {l : List (ByteArray × Int)} {kg cg : Option Nat} {kc cc : Nat}

set_option maxRecDepth 20000 in
set_option maxHeartbeats 1000000 in
theorem put_txt0 (T : TRep w t l kg kc cg cc) (k : ByteArray) (i : Int) (hl : l.length ≤ 4611686018427387903) (hh : hasL txc l k = true) :
    Calls Try.prog 11 #[.pointer (some ⟨t, 0, none⟩), .string k, .int .i64 i] w fun e w' => e = .returned (.bool false) ∧ TPost w t kg cg (putL txc l k i) w' := by
  have hc0 := T.c0
  have hc1 := T.c1
  simp only [sv] at hc0 hc1
  have HR := Lib.hid (rank_txt T k hl)
  have hlt := hasL_lt txc hh
  have hp : putL txc l k i = l.set (rk txc l k) (k, i) := by unfold putL; rw [if_pos hh]
  have hd := hasL_data hlt
  rw [hh] at hd
  obtain ⟨g, rfl⟩ := T.ksome (by omega)
  obtain ⟨g2, rfl⟩ := T.csome (by omega)
  simp only [Option.map_some] at hc0 hc1
  have hk := T.kcell hlt
  have hv := T.ccell hlt
  have hf := T.c.row.frozen (rk txc l k)
  have hb := hd.symm
  have b0 : (0 : Int) ≤ rk txc l k := by omega
  have b1 : ((rk txc l k : Nat) : Int) < l.length := by omega
  -- what is left
  have hfin : TPost w t (some g) (some g2) (putL txc l k i) (w.setCell ⟨g2, rk txc l k, none⟩ (.int .i64 i)) := by
    have hcs : Chg (fun x => x = g2) w (w.setCell ⟨g2, rk txc l k, none⟩ (.int .i64 i)) := Chg.setCell (S := fun x => x = g2) (Chg.refl _ w) (p := ⟨g2, _, none⟩) (fun _ => rfl) _
    have ht2 := T.tc g2 rfl
    have hkc := T.kc' g rfl
    have hkc2 : g ≠ g2 := fun e => hkc (by rw [e])
    have hkd : (l[rk txc l k]).1.toList = k.toList := by simpa using hb
    have hkk : (l[rk txc l k]).1 = k := by
      rw [ByteArray.toList_eq, ByteArray.toList_eq] at hkd
      cases hz : (l[rk txc l k]).1 with
      | mk x =>
        rw [hz] at hkd
        cases k with
        | mk y => exact congrArg ByteArray.mk (Array.ext' hkd)
    refine ⟨some g, kc, some g2, cc, ⟨?_, ?_, ?_, T.tk, T.tc, T.kc'⟩, hcs.mono (fun _ _ e => .inr (.inr (by rw [e]))), fun g e => .inl e, fun g e => .inl e⟩
    · rw [hp, List.length_set]; exact (hcs.block t T.lt (by omega)).trans T.hd
    · have h1 := T.k.chg hcs (fun g' e => by cases e; exact hkc2)
      rw [hp, List.length_set]
      have h2 : ky (l.set (rk txc l k) (k, i)) = ky l := by
        apply List.ext_getElem?
        intro j
        simp only [ky, List.getElem?_map, List.getElem?_set]
        by_cases hj : rk txc l k = j
        · subst hj
          rw [if_pos rfl, if_pos hlt, List.getElem?_eq_getElem hlt]; simp [hkk]
        · rw [if_neg hj]
      rw [h2]; exact h1
    · rw [hp, List.length_set]
      have h1 := T.c.row.set (j := rk txc l k) (by simpa using hlt) (.int .i64 i)
      have h2 : cl (l.set (rk txc l k) (k, i)) = (cl l).set (rk txc l k) (.int .i64 i) := by simp [cl, List.map_set]
      rw [h2]
      exact Own.mk h1 (by simp) T.c.le
  have HFIN := Lib.hid hfin; clear hfin hp hh hd
  clear T
  generalize l[rk txc l k] = z at *
  generalize rk txc l k = r at *
  go_enter Try.func11, Try.ntmps11
  go_wp2_with fail
  refine HR.out.mono ?_
  rintro e w1 ⟨rfl, rfl⟩
  go_wp2
  go_ret
  exact ⟨rfl, HFIN.out⟩

/-- the step that joins two new lists with the two tails: plain bookkeeping -/
theorem put_fin (T : TRep w t l kg kc cg cc) (l' : List (ByteArray × Int)) {w7 : World} {a b : Option Nat} {ac bc : Nat} {v : Value}
    (hc : Chg (fun x => x = t) w w7) (ht : w7.heap[t]? = some (.cells #[sv a l'.length ac, v] 30 (0, 0))) (ha : Own w7 9 1 a l'.length ac (ky l')) (hb : Own w7 3 1 b l'.length bc (cl l')) (fa : Fresh w a) (fb : Fresh w b) (hne : ∀ g, a = some g → b ≠ some g) :
    TPost w t kg cg l' (w7.setCell ⟨t, 1, none⟩ (sv b l'.length bc)) := by
  have hlt := T.lt
  have hs : Chg (fun x => x = t) w7 (w7.setCell ⟨t, 1, none⟩ (sv b l'.length bc)) := Chg.setCell (S := fun x => x = t) (Chg.refl _ w7) (p := ⟨t, 1, none⟩) (fun _ => rfl) _
  refine ⟨a, ac, b, bc, ⟨?_, ?_, ?_, fun g e h => ?_, fun g e h => ?_, hne⟩, (hc.trans hs).mono fun _ _ h => .inl h, fun g e => .inr (fa g e), fun g e => .inr (fb g e)⟩
  · exact heap_setCell_same w7 t 1 _ 30 _ ht
  · exact ha.chg hs (fun g e h => by have := fa g e; omega)
  · exact hb.chg hs (fun g e h => by have := fb g e; omega)
  · have := fa g e; omega
  · have := fb g e; omega

theorem put_split (l : List (ByteArray × Int)) (r : Nat) (k : ByteArray) (i : Int) :
    ky (l.take r ++ (k, i) :: l.drop r) = ((ky l).take r ++ [.string k]) ++ (ky l).drop r ∧ cl (l.take r ++ (k, i) :: l.drop r) = ((cl l).take r ++ [.int .i64 i]) ++ (cl l).drop r := by
  simp [ky, cl, List.map_take, List.map_drop]

theorem put_split_end (l : List (ByteArray × Int)) (k : ByteArray) (i : Int) :
    ky (l.take l.length ++ (k, i) :: l.drop l.length) = ((ky l).take l.length ++ [.string k]) ++ [] ∧ cl (l.take l.length ++ (k, i) :: l.drop l.length) = ((cl l).take l.length ++ [.int .i64 i]) ++ [] := by
  obtain ⟨h1, h2⟩ := put_split l l.length k i
  rw [h1, h2]
  simp

theorem Own.news {w : World} {e n c : Nat} {go : Option Nat} {xs : List Value} (h : Own w e 1 go n c xs) {w' : World} (hc : Chg (fun _ => False) w w') : Own w' e 1 go n c xs := h.chg hc (fun _ _ h => h)

theorem Try.info9 : (Try.prog.info? 9).map (fun i => (i.zero, i.size, i.bytes)) = some (some (.string ByteArray.empty), 1, 16) := by kernel_rfl

end
end Go.Proofs.Ytdfkokbpidkokaa
