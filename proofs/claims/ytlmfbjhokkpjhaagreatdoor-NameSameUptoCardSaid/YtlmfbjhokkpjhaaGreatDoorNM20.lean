/- Part 20 of the walks and plain laws, joined: NewC. -/
import Derived.Test.YtlmfbjhokkpjhaaGreatDoorNM00
import Derived.Test.YtlmfbjhokkpjhaaGreatDoorNM19
import Derived.Test.YtlmfbjhokkpjhaaGreatDoorNM15
set_option linter.unusedVariables false
set_option linter.unusedSimpArgs false
namespace Go.Proofs.YtlmfbjhokkpjhaaGreatDoor
open Go Go.RowKit Go.Maps
section
variable {w w' : World} {g lo hi : Nat} {S : PSchema} {j : Nat} {go : Option Nat} {cap : Nat} {vs : List Value}
theorem Ups.push (h : Ups w g lo hi S j go cap vs) (hh : hi ≤ w.heap.size) (hl : lo < w.heap.size) (hg : g ≤ lo) (hn : ClassedNew S g j w go j vs w') : ∃ go' cap' vs', Ups w' g lo w'.heap.size S (j + 1) go' cap' vs' := by
 obtain ⟨sb, w7, w8, g', cap', hb7, hrow, hsb, hown, hgr, hat, rfl⟩ := hn
 have hch := chg_grown hgr
 have hlen : vs.length = j := by have := h.own.1; omega
 have h67 := (hb7.cell (Zb w _ h.g6)).trans h.g6
 have hgo : ∀ b, go = some b → b ≠ g := fun b e => by have := (h.lie b e).1; omega
 have h68 : w8.cell? ⟨g, 6, none⟩ = some (sv go j cap) := cell_chg hch h67 (fun e => hgo _ e rfl)
 have hs7 := hb7.size
 have hs8 := hgr.size
 have hg' : lo < g' ∧ g' < w8.heap.size := by
  refine ⟨?_, hown.row.lt⟩
  rcases hat with e | e
  ·exact (h.lie g' e).1
  ·omega
 refine ⟨some g', cap', vs ++ [.slice (some ⟨sb, 0, none⟩) S.classes.length S.classes.length], ?_, ?_, ?_, ?_⟩
 rotate_left 1
 ·exact hown.keep fun b e => by cases e; exact Below.heap_setCell w8 ⟨g, 6, none⟩ _ g' (by show g' ≠ g; omega)
 ·intro b e; cases e; rw [size_set]; exact hg'
 ·intro i hi'
  by_cases hij : i < j
  ·obtain ⟨sc, h1, h2, h3, h4, h5⟩ := h.rows i hij
   have hlt := h2.lt
   refine ⟨sc, by rw [List.getElem?_append_left (by omega)]; exact h1, ?_, h3, by rw [size_set]; omega, fun e => ?_⟩
   ·refine h2.keep ?_
    rw [Below.heap_setCell w8 ⟨g, 6, none⟩ _ sc (by show sc ≠ g; omega), hgr.block sc (by omega) (fun e => h5 e.symm)]
    exact hb7.block sc hlt
   ·cases e
    rcases hat with e | e
    ·exact h5 e
    ·omega
  ·have : i = j := by omega
   subst this
   have hlt := hrow.lt
   refine ⟨sb, by rw [← hlen, List.getElem?_append_right (Zr _)]; simp, ?_, by omega, by rw [size_set]; omega, fun e => ?_⟩
   ·refine hrow.keep ?_
    rw [Below.heap_setCell w8 ⟨g, 6, none⟩ _ sb (by show sb ≠ g; omega)]
    exact hgr.block sb hlt (fun e => by have := (h.lie sb e.symm).2; omega)
   ·cases e
    rcases hat with e | e
    ·have := (h.lie _ e).2; omega
    ·omega
 ·rw [World.cell?_setCell_same _ _ _ h68]; rfl
end
section
variable {S : PSchema} {w0 w w' : World} {b0 M g : Nat} {a a2 : Option Addr} {n c n2 c2 hi j : Nat} {go : Option Nat} {cap : Nat} {vs : List Value}
theorem New4.next (h : New4 S w0 w b0 M g a a2 n c n2 c2 hi j go cap vs) (hn : ClassedNew S g j w go j vs w') : ∃ go' cap' vs', New4 S w0 w' b0 M g a a2 n c n2 c2 w'.heap.size (j + 1) go' cap' vs' := by
 have hM : M < w.heap.size := by have := Zb w _ h.five.m; simpa using this
 have hge := h.five.b0e
 obtain ⟨go', cap', vs', hu⟩ := h.ups.push h.top hM (by omega) hn
 obtain ⟨sb, w7, w8, g', cap2, hb7, hrow, hsb, hown, hgr, hat, rfl⟩ := hn
 have hch := chg_grown hgr
 have h7 := h.keep hb7
 have hT : ∀ b, go = some b → M < b := fun b e => (h.ups.lie b e).1
 refine ⟨go', cap', vs', (h7.five.turn hch hT).setG (by omega) _, ?_, ?_, hu, Zr _⟩
 ·rw [World.cell?_setCell_other _ _ _ _ (by intro e; injection e with _ e2 _; omega)]
  exact cell_chg hch h7.g4 (fun e => by have := hT _ e; simp only at this; omega)
 ·rw [World.cell?_setCell_other _ _ _ _ (by intro e; injection e with _ e2 _; omega)]
  exact cell_chg hch h7.g5 (fun e => by have := hT _ e; simp only at this; omega)
end
end Go.Proofs.YtlmfbjhokkpjhaaGreatDoor
