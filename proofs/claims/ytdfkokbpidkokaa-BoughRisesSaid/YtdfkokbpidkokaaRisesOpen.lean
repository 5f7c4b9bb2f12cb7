/- rosterlaw12.BoughRises: its arguments opened, and the law's walk called. -/
import Derived.Test.YtdfkokbpidkokaaRisesLaw
import Derived.Test.YtdfkokbpidkokaaArg
import Derived.ProofKit
import Derived.OpenShut
namespace Go.Proofs.Ytdfkokbpidkokaa
open Go.RowKit

set_option maxRecDepth 100000 in
open Go.ChangeShapes Go.WideShapes Go.Deep in
theorem rises_walk {H : Type} {enc : TypeId × Value → H} {base : Nat} (o : Int) (_ : (Lit.int .i64 o).wf = true) (v : Value) (d : DataW H) (p : List MemPlace) {W : World} (hok : Value.okWide Try.prog W .any base 25 v) (hr : DataW.Trod enc Try.prog W 0 (fun _ => true) true 25 v d p)
    (hsz : ∀ es sp, d = .slice es sp → (es.length + sp.length) * Try.prog.bytesOf 3 ≤ reachBytes) (pr : Int) (_ : (Lit.int .i64 pr).wf = true) (W' : World) (hW : W = W') :
    Calls Try.prog 5 #[.int .i64 o, v, .int .i64 pr] W' fun e w' => e = .returned (.bool true) ∧ Below W'.heap.size W' w' := by
  subst hW
  obtain ⟨sa, n0, c0, rfl⟩ := okWide_slice Try.underlying25 hok
  have key : ∃ xs : List Int, SeesI W (.slice sa n0 c0) xs ∧ xs.length * 8 ≤ 140737488351232 := by
    obtain ⟨fuel, hf⟩ := hr
    rcases open_ints Try.underlying25 Try.underlying3 (by kernel_rfl) hf with ⟨hcs, _⟩ | ⟨a, l, c, zs, hcs, _, hl, hm, hz, hx, hcell, _⟩
    · simp [Value.cells] at hcs
      obtain ⟨rfl, rfl, rfl⟩ := hcs
      exact ⟨[], SeesI.empty W, by simp⟩
    · simp [Value.cells] at hcs
      obtain ⟨rfl, rfl, rfl⟩ := hcs
      have hzl : zs.length = c0 := by simpa using hz
      have htl : (zs.take n0).length = n0 := by simp; omega
      refine ⟨zs.take n0, ?_, ?_⟩
      · obtain ⟨b, o, s⟩ := a
        refine ⟨_, c0, b, o, by rw [htl], fun h0 => ?_, fun j hj => ?_⟩
        · have := World.cell?_spot (hcell 0 (by omega))
          simp [Addr.add] at this
          rw [this]
        · have hs := World.cell?_spot (hcell 0 (by omega))
          simp [Addr.add] at hs
          subst hs
          have h1 := hcell j (by omega)
          rw [Addr.add_lit] at h1
          rw [h1]
          congr 2
          rw [List.getElem_take]
          simp [List.getD, List.getElem?_eq_getElem (show j < zs.length by omega)]
      · have h1 := hsz _ _ (congrArg Prod.fst hx)
        rw [show Try.prog.bytesOf 3 = 8 by kernel_rfl] at h1
        have h2 : reachBytes = 140737488351232 := by kernel_rfl
        rw [h2] at h1
        simp [lits] at h1
        rw [htl]
        omega
  obtain ⟨xs, hs, hb⟩ := key
  refine (rises_law o pr hs hb).mono ?_
  rintro e w' ⟨rfl, hc⟩
  exact ⟨rfl, hc.below (Nat.le_refl _) (fun _ _ h => h)⟩
end Go.Proofs.Ytdfkokbpidkokaa
