/- What an iterator over pairs has captured. No program here. -/
import Derived.Test.YtdfkokbpidkokaaRep
import Derived.RangeFuncNested
namespace Go.Proofs.Ytdfkokbpidkokaa
open Go.RowKit
section
variable {K : Type} {kv : K → Value}
/-- what an iterator's closure has captured: block q holds a slice, whose pairs lie in block g -/
def IterAt (kv : K → Value) (W : World) (q g : Nat) (ps : List (K × Value)) : Prop :=
  ∃ (sa : Option Addr) (o c : Nat), W.cell? ⟨q, 0, none⟩ = some (.slice sa ps.length c) ∧ (0 < ps.length → sa = some ⟨g, o, none⟩) ∧
    ∀ j (h : j < ps.length), W.cell? ⟨g, o + j * 2, none⟩ = some (kv (ps[j]).1) ∧ W.cell? ⟨g, o + j * 2 + 1, none⟩ = some (ps[j]).2
theorem IterAt.keep {W W' : World} {q g : Nat} {ps : List (K × Value)} (h : IterAt kv W q g ps) (hq : W'.heap[q]? = W.heap[q]?) (hg : W'.heap[g]? = W.heap[g]?) : IterAt kv W' q g ps := by
  obtain ⟨sa, o, c, h1, h2, h3⟩ := h
  refine ⟨sa, o, c, (World.cell?_of_block hq).trans h1, h2, fun j hj => ?_⟩
  exact ⟨(World.cell?_of_block hg).trans (h3 j hj).1, (World.cell?_of_block hg).trans (h3 j hj).2⟩
theorem IterAt.below {W W' : World} {q g : Nat} {ps : List (K × Value)} (h : IterAt kv W q g ps) (hb : Below W.heap.size W W') (hq : q < W.heap.size) (hg : 0 < ps.length → g < W.heap.size) : IterAt kv W' q g ps := by
  obtain ⟨sa, o, c, h1, h2, h3⟩ := h
  refine ⟨sa, o, c, (hb.cell (p := ⟨q, 0, none⟩) hq).trans h1, h2, fun j hj => ?_⟩
  have hgl := hg (by omega)
  exact ⟨(hb.cell (p := ⟨g, _, none⟩) hgl).trans (h3 j hj).1, (hb.cell (p := ⟨g, _, none⟩) hgl).trans (h3 j hj).2⟩
/-- block g lies as it lay -/
def KG (g : Nat) (W W' : World) : Prop := W.heap.size ≤ W'.heap.size ∧ (g < W.heap.size → W'.heap[g]? = W.heap[g]?)
theorem KG.refl (g : Nat) (W : World) : KG g W W := ⟨Nat.le_refl _, fun _ => rfl⟩
theorem KG.trans {g : Nat} {A B C : World} (h : KG g A B) (k : KG g B C) : KG g A C :=
  ⟨Nat.le_trans h.1 k.1, fun hl => (k.2 (Nat.lt_of_lt_of_le hl h.1)).trans (h.2 hl)⟩
theorem KG.chg {S : Nat → Prop} {g : Nat} {W W' : World} (h : Chg S W W') (hn : ¬ S g) : KG g W W' := ⟨h.size, fun hl => h.block g hl hn⟩
theorem KG.alloc {g : Nat} {A W : World} (h : KG g A W) (o : Obj) : KG g A (W.alloc o) := h.trans ⟨by simp, fun hl => Below.heap_alloc W o g hl⟩
theorem KG.putObj {g : Nat} {w : World} (hg : g < w.heap.size) (W : World) (l : Nat) (o o' : Obj) (hl : w.heap.size ≤ l) (_ : W.heap[l]? = some o) (_ : o.isCells = false) (_ : o.isWalk = false) : KG g W (W.putObj l o') :=
  ⟨by simp, fun _ => World.putObj_heap_other (by omega)⟩
theorem KG.cell {g : Nat} {W W' : World} (h : KG g W W') {o : Nat} {v : Value} (hc : W.cell? ⟨g, o, none⟩ = some v) : W'.cell? ⟨g, o, none⟩ = some v :=
  (World.cell?_of_block (h.2 (World.block_lt_of_cell? W _ hc))).trans hc
theorem IterAt.mk {W : World} {q g e cap r n c : Nat} {l : List (K × Value)} (hr : Row W g e 2 cap (cells kv l)) (hq : W.cell? ⟨q, 0, none⟩ = some (.slice (if n = r then some ⟨g, 0, none⟩ else some ⟨g, r * 2, none⟩) (l.length - r) c)) (hn : l.length ≤ n) :
    IterAt kv W q g (l.drop r) := by
  refine ⟨_, r * 2, c, by rw [hq, List.length_drop], fun h0 => ?_, fun j hj => ?_⟩
  · simp at h0
    exact if_some (by omega) rfl
  · simp at hj
    have h1 := hr.cell (cells_key kv l (r + j) (by omega))
    have h2 := hr.cell (cells_val kv l (r + j) (by omega))
    rw [show r * 2 + j * 2 = (r + j) * 2 by omega]
    simp only [List.getElem_drop]
    exact ⟨h1, h2⟩

end
end Go.Proofs.Ytdfkokbpidkokaa
