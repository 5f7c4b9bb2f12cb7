/- Arguments that are slices of structs of one-cell fields, as the walks want them: helpers alone. -/
import Derived.Test.YtdfkokbpidkokaaRep
import Derived.Deep.Slices
import Derived.Deep.Fields
import Derived.ChangeSame
import Derived.SizedLaws
import Derived.WideShapes
namespace Go.Proofs.Ytdfkokbpidkokaa
open Go.RowKit Go.ChangeShapes Go.WideShapes Go.Deep

/-- a slice value of n elements of k cells each; where there is one, it lies in block b at o, and cell j of element i is C i j -/
def SeesR (w : World) (v : Value) (n k : Nat) (C : Nat → Nat → Value) : Prop :=
  ∃ sa c b o, v = .slice sa n c ∧ (0 < n → sa = some ⟨b, o, none⟩) ∧ ∀ i, i < n → ∀ j, j < k → w.cell? ⟨b, o + i * k + j, none⟩ = some (C i j)
theorem SeesR.chg {w w' : World} {v : Value} {n k : Nat} {C : Nat → Nat → Value} (h : SeesR w v n k C) {S : Nat → Prop} (hc : Chg S w w') (hS : ∀ g, g < w.heap.size → ¬ S g) : SeesR w' v n k C := by
  obtain ⟨sa, c, b, o, h1, h2, h3⟩ := h
  refine ⟨sa, c, b, o, h1, h2, fun i hi j hj => ?_⟩
  have hl := World.block_lt_of_cell? w _ (h3 i hi j hj)
  exact (World.cell?_of_block (hc.block b hl (hS b hl))).trans (h3 i hi j hj)

section
variable {H : Type} {enc : TypeId × Value → H} {P : Program} {w : World} {base : Nat} {held : Bool}
/-- a slice of structs that came in -/
theorem sees_of {t e : TypeId} {fs : Array Field} {sa : Option Addr} {n0 c0 : Nat} {d : DataW H} {p : List MemPlace} (ht : P.underlying t = some (.slice e)) (he : P.underlying e = some (.struct fs)) (hone : oneCellFields P fs = true) (hC : P.cellsOf e = fs.size) (hpos : 0 < fs.size)
    (h : DataW.Trod enc P w base (fun _ => true) held t (.slice sa n0 c0) d p) :
    ∃ (n : Nat) (C : Nat → Nat → Value), SeesR w (.slice sa n0 c0) n fs.size C ∧ (d = .nil ∧ n = 0 ∨ ∃ es sp, d = .slice es sp ∧ es.length = n) ∧
      ∀ i, i < n → ∀ j f, fs[j]? = some f → ∃ m y, DataW.trod enc P w base (fun _ => true) held m f.type [C i j] = some y := by
  obtain ⟨fuel, hf⟩ := h
  rcases open_slice ht hf with ⟨hcs, hx⟩ | ⟨a, len, cap, m, n, D, Pl, hcs, hb, hl, hm, hmm, hx, hi⟩
  · simp [Value.cells] at hcs
    obtain ⟨rfl, rfl, rfl⟩ := hcs
    exact ⟨0, fun _ _ => undef, ⟨none, 0, 0, 0, rfl, fun h => absurd h (by omega), fun i h => absurd h (by omega)⟩, .inl ⟨by have := congrArg Prod.fst hx; exact this, rfl⟩, fun i h => absurd h (by omega)⟩
  · have hmc : m = cap := by simpa using hmm
    simp [Value.cells] at hcs
    obtain ⟨rfl, rfl, rfl⟩ := hcs
    obtain ⟨b, o, sp⟩ := a
    have key0 : ∀ i, i < n0 → ∃ cs', cs'.length = fs.size ∧ (∀ j, j < fs.size → w.cell? (((⟨b, o, sp⟩ : Addr).add (i * fs.size)).add j) = cs'[j]?) ∧ ∃ m' y, DataW.trod enc P w base (fun _ => true) held m' e cs' = some y := by
      intro i hil
      obtain ⟨cs', h1, h2⟩ := hi i (by omega)
      rw [hC] at h1
      obtain ⟨_, h3, h4⟩ := World.cells?_some h1
      exact ⟨cs', h3, h4, n, _, h2⟩
    have hsp : 0 < n0 → sp = none := by
      intro h0
      obtain ⟨cs', h1, h2, _⟩ := key0 0 h0
      have h3 := h2 0 hpos
      rw [List.getElem?_eq_getElem (by omega)] at h3
      have := World.cell?_spot h3
      simpa [Addr.add] using this
    have key : ∀ i, i < n0 → ∃ cs', cs'.length = fs.size ∧ (∀ j, j < fs.size → w.cell? ⟨b, o + i * fs.size + j, none⟩ = cs'[j]?) ∧ ∃ m' y, DataW.trod enc P w base (fun _ => true) held m' e cs' = some y := by
      intro i hil
      obtain rfl := hsp (by omega)
      obtain ⟨cs', h1, h2, h3⟩ := key0 i hil
      refine ⟨cs', h1, fun j hj => ?_, h3⟩
      have h4 := h2 j hj
      rwa [Addr.add_lit, Addr.add_lit] at h4
    refine ⟨n0, fun i j => ((w.cell? ⟨b, o + i * fs.size + j, none⟩).getD undef), ⟨_, c0, b, o, rfl, fun h0 => by rw [hsp h0], fun i hil j hj => ?_⟩, .inr ⟨_, _, by have := congrArg Prod.fst hx; exact this, by simp⟩, fun i hil j f hj => ?_⟩
    · obtain ⟨cs', h1, h2, _⟩ := key i hil
      have h3 := h2 j hj
      rw [List.getElem?_eq_getElem (by omega)] at h3
      dsimp only
      rw [h3]
      rfl
    · obtain ⟨cs', h1, h2, m', y, h4⟩ := key i hil
      have hjl : j < fs.size := (Array.getElem?_eq_some_iff.1 hj).1
      have h3 := h2 j hjl
      rw [List.getElem?_eq_getElem (by omega)] at h3
      obtain ⟨ys, n', _, _, hlen, hyl, hfd⟩ := DataW.trod_struct he h4
      obtain ⟨ho, hk⟩ := hone_of hone j f hj
      have h5 := hfd j f hj
      rw [ho, hk] at h5
      have h6 : (cs'.drop j).take 1 = [cs'[j]'(by omega)] := by
        rw [List.drop_eq_getElem_cons (by omega)]
        rfl
      rw [h6] at h5
      refine ⟨n', ys[j]'(by omega), ?_⟩
      dsimp only
      rw [h3]
      simp only [Option.getD_some]
      rw [h5]
      exact List.getElem?_eq_getElem (by omega)
end
end Go.Proofs.Ytdfkokbpidkokaa
