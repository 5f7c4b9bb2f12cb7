/- rosterlaw12.BoughTexts: its argument opened, and the law's walk called. -/
import Derived.Test.YtdfkokbpidkokaaTextsLaw
import Derived.ProofKit
import Derived.OpenShut
namespace Go.Proofs.Ytdfkokbpidkokaa
open Go.RowKit

set_option maxRecDepth 100000 in
open Go.ChangeShapes Go.WideShapes Go.Deep in
theorem texts_walk {H : Type} {enc : TypeId × Value → H} {base : Nat} (v : Value) (d : DataW H) (p : List MemPlace) {W : World} (hok : Value.okWide Try.prog W .any base 22 v) (hr : DataW.Trod enc Try.prog W 0 (fun _ => true) true 22 v d p)
    (hsz : ∀ es sp, d = .slice es sp → (es.length + sp.length) * Try.prog.bytesOf 32 ≤ reachBytes) (W' : World) (hW : W = W') :
    Calls Try.prog 3 #[v] W' fun e w' => e = .returned (.bool true) ∧ Below W'.heap.size W' w' := by
  subst hW
  obtain ⟨sa, n0, c0, rfl⟩ := okWide_slice Try.underlying22 hok
  obtain ⟨n, C, hs, hd, hf⟩ := sees_of Try.underlying22 Try.underlying32 (by kernel_rfl) (by kernel_rfl) (by decide) hr
  have hb : n * 48 ≤ 140737488351232 := by
    rcases hd with ⟨_, rfl⟩ | ⟨es, sp, rfl, rfl⟩
    · omega
    · have h1 := hsz es sp rfl
      rw [show Try.prog.bytesOf 32 = 48 by kernel_rfl] at h1
      have h2 : reachBytes = 140737488351232 := by kernel_rfl
      rw [h2] at h1
      have : es.length * 48 ≤ (es.length + sp.length) * 48 := Nat.mul_le_mul_right _ (by omega)
      omega
  have h0 : ∀ i, i < n → ∃ x : Int, C i 0 = .int .i64 x := fun i hi => by
    obtain ⟨m, y, h⟩ := hf i hi 0 _ rfl
    obtain ⟨x, hx, _⟩ := DataW.trod_int Try.underlying3 h
    exact ⟨x, by simpa using hx⟩
  have h1 : ∀ i, i < n → ∃ x : ByteArray, C i 1 = .string x := fun i hi => by
    obtain ⟨m, y, h⟩ := hf i hi 1 _ rfl
    obtain ⟨x, hx, _⟩ := DataW.trod_string Try.underlying9 h
    exact ⟨x, by simpa using hx⟩
  have h2 : ∀ i, i < n → ∃ (a : Option Addr) (k c : Nat), C i 2 = .slice a k c ∧ (0 < k → ∃ b o, a = some ⟨b, o, none⟩) := fun i hi => by
    obtain ⟨m, y, h⟩ := hf i hi 2 _ rfl
    rcases open_ints Try.underlying25 Try.underlying3 (by kernel_rfl) h with ⟨hcs, _⟩ | ⟨a, l, c, zs, hcs, _, hl, hm, hz, _, hcell, _⟩
    · simp at hcs
      exact ⟨_, _, _, hcs, fun h => absurd h (by omega)⟩
    · simp at hcs
      refine ⟨_, _, _, hcs, fun hk => ?_⟩
      have := World.cell?_spot (hcell 0 (by simp at hz; omega))
      obtain ⟨b, o, s⟩ := a
      simp [Addr.add] at this
      subst this
      exact ⟨b, o, rfl⟩
  refine (texts_law (w := W) (n := n) (D := fun i => match C i 0 with | .int _ x => x | _ => 0) (K := fun i => match C i 1 with | .string x => x | _ => ByteArray.empty)
    (va := fun i => match C i 2 with | .slice a _ _ => a | _ => none) (vn := fun i => match C i 2 with | .slice _ k _ => k | _ => 0) (vc := fun i => match C i 2 with | .slice _ _ c => c | _ => 0) ⟨?_, ?_⟩ hb).mono ?_
  · obtain ⟨sa', c, b, o, e1, e2, e3⟩ := hs
    refine ⟨sa', c, b, o, e1, e2, fun i hi j hj => (e3 i hi j hj).trans ?_⟩
    match j, hj with
    | 0, _ => obtain ⟨x, hx⟩ := h0 i hi; simp only [hx]
    | 1, _ => obtain ⟨x, hx⟩ := h1 i hi; simp only [hx]
    | 2, _ => obtain ⟨a, k, c, hx, _⟩ := h2 i hi; simp only [hx]
    | j + 3, hj => exact absurd hj (by simp)
  · intro i hi hk
    obtain ⟨a, k, c, hx, ha⟩ := h2 i hi
    simp only [hx] at hk ⊢
    exact ha hk
  · rintro e w' ⟨rfl, hc⟩
    exact ⟨rfl, hc.below (Nat.le_refl _) (fun _ _ h => h)⟩
end Go.Proofs.Ytdfkokbpidkokaa
