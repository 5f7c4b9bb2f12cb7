/- Part 44 of the walks and plain laws, joined: OpenLwA. -/
import Derived.Test.YtlmfbjhokkpjhaaGreatDoorML00
import Derived.Test.YtlmfbjhokkpjhaaGreatDoorML08
import Derived.Test.YtlmfbjhokkpjhaaGreatDoorML26
import Derived.Test.YtlmfbjhokkpjhaaGreatDoorML43
set_option linter.unusedVariables false
set_option linter.unusedSimpArgs false
namespace Go.Proofs.YtlmfbjhokkpjhaaGreatDoor
open Go Go.RowKit Go.ChangeShapes Go.WideShapes Go.Deep
theorem bulk2 {H : Type} {a b : DataW H} (h : Rows.uptoSmall H [a, b] = true) : bulk a ≤ 1048576 := by
 have h2 : Rows.uptoBulkAll [a, b] ≤ 1048576 := of_decide_eq_true h
 simp only [Rows.uptoBulkAll] at h2
 show Rows.uptoBulk a ≤ 1048576; omega
set_option maxRecDepth 100000 in
theorem walk_mlaws {H : Type} {enc : TypeId × Value → H} {b0 : Nat} {W : World} (v0 : Value) (d0 : DataW H) (p0 : List MemPlace) (ok0 : Value.okWide Tryz.prog W .any b0 25 v0) (h0 : DataW.Trod enc Tryz.prog W 0 (fun _ => true) true 25 v0 d0 p0)
  (v1 : Value) (d1 : DataW H) (p1 : List MemPlace) (ok1 : Value.okWide Tryz.prog W .any b0 28 v1) (h1 : DataW.Trod enc Tryz.prog W 0 (fun _ => true) true 28 v1 d1 p1)
  (W' : World) (hW : W = W') (hE : EnvWS W') (hk : Rows.uptoSmall H [d0, d1] = true) :
  Calls Tryz.prog 3 #[v0, v1] W' fun e w' => e = .returned (.bool true) ∧ Below W'.heap.size W' w' := by
 subst hW
 obtain ⟨S, a, n, c, a2, n2, c2, rfl, hT, hC, _⟩ := open_schema ok0 h0 (N := 1048576) (bulk2 hk) (by decide)
 obtain ⟨a1, t1, s1, u1, rfl, _, wa1, _, _, _⟩ := open_ask ok1 h1
 exact law_mlaws S a n c a2 n2 c2 a1 t1 s1 u1 W hE.w hE.v hT hC (i8_range wa1)
end Go.Proofs.YtlmfbjhokkpjhaaGreatDoor
