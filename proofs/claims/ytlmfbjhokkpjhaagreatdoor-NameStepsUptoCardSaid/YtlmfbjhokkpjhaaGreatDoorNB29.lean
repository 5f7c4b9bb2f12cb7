/- Part 29 of the walks and plain laws, joined: ValM. -/
import Derived.Test.YtlmfbjhokkpjhaaGreatDoorNB00
import Derived.Test.YtlmfbjhokkpjhaaGreatDoorNB28
import Derived.Test.YtlmfbjhokkpjhaaGreatDoorNB25
import Derived.Test.YtlmfbjhokkpjhaaGreatDoorNB07
import Derived.Test.YtlmfbjhokkpjhaaGreatDoorNB13
import Derived.Test.YtlmfbjhokkpjhaaGreatDoorNB11
set_option linter.unusedVariables false
set_option linter.unusedSimpArgs false
namespace Go.Proofs.YtlmfbjhokkpjhaaGreatDoor
open Go Go.RowKit
theorem eiU8 : EI Tryz.prog 115 5 (.int .u8 0) 1 1 := EI.of Tryz.underlying115 (by kernel_rfl) rfl (by decide) (by decide)
theorem push8 {w : World} {go : Option Nat} {n cap : Nat} {vs : List Value} (h : Own w 5 1 go n cap vs) {ops : Array Oper} {rest : List Oper} {o : Oper} {a : Act} {Q : Exit → Act → World → Prop} (hgd : o.guard = none) (s x : Operand)
  (ho : o.op = .call { callee := .builtin .append, args := #[s, x], argTypes := #[115, 115] })
  (hs : a.eval s = sv go n cap) (v : Int) (hx : a.eval x = .slice (some ⟨w.heap.size, 0, none⟩) 1 1) (hb : n ≤ 1099511627776)
  (hk : ∀ g' cap' w', Own w' 5 1 (some g') (n + 1) cap' (vs ++ [.int .u8 v]) → (w.alloc (.cells #[.int .u8 v] 5)).grownBy w' go → (go = some g' ∨ g' = w.heap.size + 1) → wpList Tryz.prog ops Q rest (a.put o.dst (.slice (some ⟨g', 0, none⟩) (n + 1) cap')) w') :
  wpList Tryz.prog ops Q (o :: rest) a (w.alloc (.cells #[.int .u8 v] 5)) := by
 obtain ⟨i, h2, h3, h4, h5⟩ := eiU8.info
 have hA : Own (w.alloc (.cells #[.int .u8 v] 5)) 5 1 go n cap vs := h.keep fun g e => by subst e; exact ((Zl w.heap.size w).alloc (Zr _) _).block g h.row.lt
 refine wpList_app0 hgd s x 115 ho 5 i (.int .u8 0) 1 1 eiU8.und h2 h3 h4 h5 eiU8.zs eiU8.sz0 eiU8.b0 go n cap vs hs hA (some ⟨w.heap.size, 0, none⟩) 1 1 [.int .u8 v] hx (fun h => by cases h) rfl (news_new w [.int .u8 v] #[.int .u8 v] 5 rfl) (fun u hu => by simp at hu; subst hu; rfl) (by omega) fun go' cap' w' hO hG hat => ?_
 cases go' with
 | none => have := hO.2.1; omega
 | some g' =>
  refine hk g' cap' w' hO hG ?_
  rcases hat with e | e
  ·exact .inl e.symm
  ·exact .inr (by have := Option.some.inj e; simpa using this)
theorem va_next {w wr w' : World} {g g' : Nat} {s : ByteArray} {q q' : Nat} {x : Int} {bad : Option Addr} {go : Option Nat} {n cap cap' : Nat} {vs vs' : List Value} {o : Obj}
  (hg : g < w.heap.size) (rd : Rd wr g s q bad) (own : Own wr 5 1 go n cap vs) (fr : ∀ k, go = some k → w.heap.size ≤ k) (ch : Chg (· = g) w wr)
  (hO : Own w' 5 1 (some g') (n + 1) cap' vs') (hG : (wr.alloc o).grownBy w' go) (hat : go = some g' ∨ g' = wr.heap.size + 1) (hq : q' ≤ s.size) (hx : x = (q' : Nat)) :
  Rd w' g s q bad ∧ Rd (w'.setCell ⟨g, 1, none⟩ (.int .i64 x)) g s q' bad ∧ Own (w'.setCell ⟨g, 1, none⟩ (.int .i64 x)) 5 1 (some g') (n + 1) cap' vs' ∧ (∀ k, some g' = some k → w.heap.size ≤ k) ∧ Chg (· = g) w (w'.setCell ⟨g, 1, none⟩ (.int .i64 x)) := by
 have hgl : ∀ k, go = some k → k ≠ g := fun k e h => by have := fr k e; omega
 have hA : Chg (· = g) w (wr.alloc o) := ch.alloc o
 have hW : Chg (· = g) w w' := hA.grown hG fun k e hk => by have := fr k e; omega
 have hrA := rd.keep ((Zl wr.heap.size wr).alloc (Zr _) o)
 have hbg : w'.heap[g]? = (wr.alloc o).heap[g]? := hG.block g hrA.lt (fun e => hgl g e.symm rfl)
 have hcell : ∀ j, w'.cell? ⟨g, j, none⟩ = (wr.alloc o).cell? ⟨g, j, none⟩ := fun j => by unfold World.cell?; rw [hbg]
 have hfz : ∀ j, w'.frozen? ⟨g, j, none⟩ = (wr.alloc o).frozen? ⟨g, j, none⟩ := fun j => by unfold World.frozen?; simp only [hbg]
 have hr' : Rd w' g s q bad := ⟨by rw [hcell]; exact hrA.c0, by rw [hcell]; exact hrA.c1, by rw [hcell]; exact hrA.c2, fun j => by rw [hfz]; exact hrA.fr j, rd.le, rd.small⟩
 have hg' : w.heap.size ≤ g' := by
  rcases hat with e | e
  ·exact fr g' e
  ·have := ch.size; omega
 refine ⟨hr', hr'.putN hq hx, ?_, fun k e => by cases e; exact hg', hW.setCell (p := ⟨g, 1, none⟩) (fun _ => rfl) _⟩
 exact hO.keep fun k e => by
  cases e
  exact ((Chg.refl (· = g) w').setCell (p := ⟨g, 1, none⟩) (fun _ => rfl) _).block g' hO.row.lt (by show ¬ g' = g; omega)
structure VaI (g : Nat) (s : ByteArray) (q : Nat) (bad : Option Addr) (w wr : World) (go : Option Nat) (b : Str) (cap : Nat) (bare : Option Nat) : Prop where
 rd : Rd wr g s q bad
 own : Own wr 5 1 go b.length cap (bvs b)
 fr : ∀ g', go = some g' → w.heap.size ≤ g'
 ch : Chg (· = g) w wr
 bar : ∀ x, bare = some x → x ≤ s.size
 bl : b.length ≤ q
theorem VaI.drewN {g : Nat} {s : ByteArray} {q : Nat} {bad : Option Addr} {w wr : World} {go : Option Nat} {b : Str} {cap : Nat} {bare : Option Nat} (h : VaI g s q bad w wr go b cap bare) (k : Nat) : VaI g s q bad w (wr.drewN k) go b cap bare := ⟨h.rd.drewN k, h.own, h.fr, h.ch.drewN k, h.bar, h.bl⟩
theorem VaI.next {w wr w' : World} {g g' : Nat} {s : ByteArray} {q q' : Nat} {x : Int} {bad : Option Addr} {go : Option Nat} {cap cap' : Nat} {b : Str} {bare bare' : Option Nat} {o : Obj} {y : UInt8} (h : VaI g s q bad w wr go b cap bare) (hg : g < w.heap.size)
  (hO : Own w' 5 1 (some g') (b.length + 1) cap' (bvs b ++ [.int .u8 (y.toNat : Nat)])) (hG : (wr.alloc o).grownBy w' go) (hat : go = some g' ∨ g' = wr.heap.size + 1) (hq : q < q') (hq2 : q' ≤ s.size) (hx : x = (q' : Nat)) (hb : ∀ x, bare' = some x → x ≤ s.size) :
  Rd w' g s q bad ∧ VaI g s q' bad w (w'.setCell ⟨g, 1, none⟩ (.int .i64 x)) (some g') (b ++ [y]) cap' bare' := by
 obtain ⟨h1, h2, h3, h4, h5⟩ := va_next hg h.rd h.own h.fr h.ch hO hG hat hq2 hx
 exact ⟨h1, h2, by rw [List.length_append]; simpa [bvs] using h3, h4, h5, hb, by have := h.bl; simp; omega⟩
theorem VaI.keep {g : Nat} {s : ByteArray} {q : Nat} {bad : Option Addr} {w wr wa : World} {go : Option Nat} {b : Str} {cap : Nat} {bare : Option Nat} (h : VaI g s q bad w wr go b cap bare) (k : Below wr.heap.size wr wa) : VaI g s q bad w wa go b cap bare :=
 ⟨h.rd.keep k, h.own.keep fun g e => by subst e; exact k.block g h.own.row.lt, h.fr, h.ch.trans ⟨k.os, k.tape, k.output, k.size, fun j hj _ => k.block j hj⟩, h.bar, h.bl⟩
theorem VaI.nextW {w wa w' : World} {g g' : Nat} {s : ByteArray} {q q' : Nat} {x : Int} {bad : Option Addr} {go : Option Nat} {cap cap' : Nat} {b : Str} {bare bare' : Option Nat} {y : UInt8} (h : VaI g s q bad w wa go b cap bare) (hg : g < w.heap.size)
  (hO : Own w' 5 1 (some g') (b.length + 1) cap' (bvs b ++ [.int .u8 (y.toNat : Nat)])) (hG : wa.grownBy w' go) (hat : go = some g' ∨ g' = wa.heap.size) (hq : q < q') (hq2 : q' ≤ s.size) (hx : x = (q' : Nat)) (hb : ∀ x, bare' = some x → x ≤ s.size) :
  Rd w' g s q bad ∧ VaI g s q' bad w (w'.setCell ⟨g, 1, none⟩ (.int .i64 x)) (some g') (b ++ [y]) cap' bare' := by
 have hgl : ∀ k, go = some k → k ≠ g := fun k e h2 => by have := h.fr k e; omega
 have hW : Chg (· = g) w w' := h.ch.grown hG fun k e hk => by have := h.fr k e; omega
 have hbg : w'.heap[g]? = wa.heap[g]? := hG.block g h.rd.lt (fun e => hgl g e.symm rfl)
 have hcell : ∀ j, w'.cell? ⟨g, j, none⟩ = wa.cell? ⟨g, j, none⟩ := fun j => by unfold World.cell?; rw [hbg]
 have hfz : ∀ j, w'.frozen? ⟨g, j, none⟩ = wa.frozen? ⟨g, j, none⟩ := fun j => by unfold World.frozen?; simp only [hbg]
 have hr' : Rd w' g s q bad := ⟨by rw [hcell]; exact h.rd.c0, by rw [hcell]; exact h.rd.c1, by rw [hcell]; exact h.rd.c2, fun j => by rw [hfz]; exact h.rd.fr j, h.rd.le, h.rd.small⟩
 have hg' : w.heap.size ≤ g' := by
  rcases hat with e | e
  ·exact h.fr g' e
  ·have := h.ch.size; omega
 refine ⟨hr', hr'.putN hq2 hx, ?_, fun k e => by cases e; exact hg', hW.setCell (p := ⟨g, 1, none⟩) (fun _ => rfl) _, hb, by have := h.bl; simp; omega⟩
 rw [List.length_append]
 have hO2 : Own (w'.setCell ⟨g, 1, none⟩ (.int .i64 x)) 5 1 (some g') (b.length + 1) cap' (bvs b ++ [.int .u8 (y.toNat : Nat)]) := hO.keep fun k e => by
  cases e
  exact ((Chg.refl (· = g) w').setCell (p := ⟨g, 1, none⟩) (fun _ => rfl) _).block g' hO.row.lt (by show ¬ g' = g; have := h.rd; omega)
 simpa [bvs] using hO2
end Go.Proofs.YtlmfbjhokkpjhaaGreatDoor
