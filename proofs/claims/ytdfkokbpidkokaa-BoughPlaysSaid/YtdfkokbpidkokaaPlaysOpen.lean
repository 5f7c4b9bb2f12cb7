/- rosterlaw12.BoughPlays: its arguments opened, and the law's walk called. -/
import Derived.Test.YtdfkokbpidkokaaPlaysLaw
import Derived.ProofKit
import Derived.OpenShut
namespace Go.Proofs.Ytdfkokbpidkokaa
open Go.RowKit

set_option maxRecDepth 100000 in
open Go.ChangeShapes Go.WideShapes Go.Deep in
theorem steps_of {H : Type} {enc : TypeId × Value → H} {base : Nat} {v : Value} {d : DataW H} {p : List MemPlace} {W : World} (hok : Value.okWide Try.prog W .any base 43 v) (hr : DataW.Trod enc Try.prog W 0 (fun _ => true) true 43 v d p)
    (hsz : ∀ es sp, d = .slice es sp → (es.length + sp.length) * Try.prog.bytesOf 59 ≤ reachBytes) :
    ∃ n D K V N, Steps W v n D K V N ∧ n * 40 ≤ 140737488351232 := by
  obtain ⟨sa, n0, c0, rfl⟩ := okWide_slice Try.underlying43 hok
  obtain ⟨n, C, hs, hd, hf⟩ := sees_of Try.underlying43 Try.underlying59 (by kernel_rfl) (by kernel_rfl) (by decide) hr
  have hb : n * 40 ≤ 140737488351232 := by
    rcases hd with ⟨_, rfl⟩ | ⟨es, sp, rfl, rfl⟩
    · omega
    · have h1 := hsz es sp rfl
      rw [show Try.prog.bytesOf 59 = 40 by kernel_rfl] at h1
      have h2 : reachBytes = 140737488351232 := by kernel_rfl
      rw [h2] at h1
      have : es.length * 40 ≤ (es.length + sp.length) * 40 := Nat.mul_le_mul_right _ (by omega)
      omega
  have hint : ∀ j f, (#[(⟨"Do", 3, 0, false, "", "", 0⟩ : Field), ⟨"K", 3, 1, false, "", "", 8⟩, ⟨"V", 9, 2, false, "", "", 16⟩, ⟨"N", 3, 3, false, "", "", 32⟩])[j]? = some f → f.type = 3 → ∀ i, i < n → ∃ x : Int, C i j = .int .i64 x := fun j f hj ht i hi => by
    obtain ⟨m, y, h⟩ := hf i hi j f hj
    rw [ht] at h
    obtain ⟨x, hx, _⟩ := DataW.trod_int Try.underlying3 h
    exact ⟨x, by simpa using hx⟩
  have h0 := hint 0 _ rfl rfl
  have h1 := hint 1 _ rfl rfl
  have h3 := hint 3 _ rfl rfl
  have h2 : ∀ i, i < n → ∃ x : ByteArray, C i 2 = .string x := fun i hi => by
    obtain ⟨m, y, h⟩ := hf i hi 2 _ rfl
    obtain ⟨x, hx, _⟩ := DataW.trod_string Try.underlying9 h
    exact ⟨x, by simpa using hx⟩
  refine ⟨n, fun i => match C i 0 with | .int _ x => x | _ => 0, fun i => match C i 1 with | .int _ x => x | _ => 0, fun i => match C i 2 with | .string x => x | _ => ByteArray.empty, fun i => match C i 3 with | .int _ x => x | _ => 0, ?_, hb⟩
  obtain ⟨sa', c, b, o, e1, e2, e3⟩ := hs
  refine ⟨sa', c, b, o, e1, e2, fun i hi j hj => (e3 i hi j hj).trans ?_⟩
  match j, hj with
  | 0, _ => obtain ⟨x, hx⟩ := h0 i hi; simp only [hx]
  | 1, _ => obtain ⟨x, hx⟩ := h1 i hi; simp only [hx]
  | 2, _ => obtain ⟨x, hx⟩ := h2 i hi; simp only [hx]
  | 3, _ => obtain ⟨x, hx⟩ := h3 i hi; simp only [hx]
  | j + 4, hj => exact absurd hj (by simp)

set_option maxRecDepth 100000 in
open Go.ChangeShapes Go.WideShapes Go.Deep in
theorem plays_walk {H : Type} {enc : TypeId × Value → H} {base : Nat} (o1 : Int) (_ : (Lit.int .i64 o1).wf = true) (o2 : Int) (_ : (Lit.int .i64 o2).wf = true) (v : Value) (d : DataW H) (p : List MemPlace) {W : World} (hok : Value.okWide Try.prog W .any base 43 v) (hr : DataW.Trod enc Try.prog W 0 (fun _ => true) true 43 v d p)
    (hsz : ∀ es sp, d = .slice es sp → (es.length + sp.length) * Try.prog.bytesOf 59 ≤ reachBytes) (v' : Value) (d' : DataW H) (p' : List MemPlace) (hok' : Value.okWide Try.prog W .any base 43 v') (hr' : DataW.Trod enc Try.prog W 0 (fun _ => true) true 43 v' d' p')
    (hsz' : ∀ es sp, d' = .slice es sp → (es.length + sp.length) * Try.prog.bytesOf 59 ≤ reachBytes) (W' : World) (hW : W = W') :
    Calls Try.prog 4 #[.int .i64 o1, .int .i64 o2, v, v'] W' fun e w' => e = .returned (.bool true) ∧ Below W'.heap.size W' w' := by
  subst hW
  obtain ⟨n1, D1, K1, V1, N1, s1, b1⟩ := steps_of hok hr hsz
  obtain ⟨n2, D2, K2, V2, N2, s2, b2⟩ := steps_of hok' hr' hsz'
  refine (plays_law o1 o2 s1 s2 b1 b2).mono ?_
  rintro e w' ⟨rfl, hc⟩
  exact ⟨rfl, hc.below (Nat.le_refl _) (fun _ _ h => h)⟩
end Go.Proofs.Ytdfkokbpidkokaa
