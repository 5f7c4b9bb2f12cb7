/- Part 13 of the walks and plain laws, joined: RegionC. -/
import Derived.Test.YtlmfbjhokkpjhaaGreatDoorNM00
import Derived.OrdersHeld
import Derived.Deep.RegionHeld
import Derived.Deep.Quiet
set_option linter.unusedVariables false
set_option linter.unusedSimpArgs false
namespace Go.Proofs.YtlmfbjhokkpjhaaGreatDoor
open Go
section
variable {P : Program} {ops : Array Oper} {Q : Exit → Act → World → Prop} {md : Region.Mode} {C : World → Prop} {s0 : Nat}
def wpC (P : Program) (md : Region.Mode) (ops : Array Oper) (Q : Exit → Act → World → Prop) (C : World → Prop) (s0 : Nat) : Nat → Array Bool → Act → World → Prop
 | 0, listed, a, w => Region.ready md ops listed = [] ∧ Q .normal a w
 | fuel + 1, listed, a, w => (Region.ready md ops listed = [] → Q .normal a w) ∧
  ∀ i ∈ Region.ready md ops listed, wpOp P ops Q i (fun a' w' => ((listed.setIfInBounds i true).getD s0 true = false → C w') ∧ wpC P md ops Q C s0 fuel (listed.setIfInBounds i true) a' w') a w
theorem wpAny_of_wpC : ∀ (fuel : Nat) (listed : Array Bool) (a : Act) (w : World), wpC P md ops Q C s0 fuel listed a w → wpAny P md ops Q fuel listed a w
 | 0, _, _, _, h => h
 | fuel + 1, _, _, _, h => ⟨h.1, fun i hi => wpOp_mono (fun a' w' h' => wpAny_of_wpC fuel _ a' w' h'.2) (h.2 i hi)⟩
theorem wp_region_C {id : Nat} {a : Act} {w : World} (hm : P.follows .mixedOrders = true) (hC : C w.drew)
  (h : C w.drew → wpC P .any ops Q C s0 ops.size (Array.replicate ops.size false) a w.drew) : (Code.region id ops true).wp P Q a w :=
 wp_region_any hm (wpAny_of_wpC _ _ _ _ (h hC))
theorem wpC_first {Y : World → Prop} {i : Nat} {oi : Oper} {v : Value} (hi : ops[i]? = some oi) (hsel : ∀ (j : Nat) (o : Oper) cs b, ops[j]? = some o → o.op ≠ .select cs b)
  (hQ : ∀ c a w, Q (.panic c) (a.put oi.dst v) w → Q (.panic c) a w) (his : i ≠ s0)
  (hY : (∀ w, Y w) ∨ ((∀ w, C w → Y w) ∧ ∃ os, ops[s0]? = some os ∧ ∃ e ∈ os.after, Region.binds md e = true ∧ e.on = i)) :
  ∀ (fuel : Nat) (listed : Array Bool) (a : Act) (w : World),
   (∀ j oj, ops[j]? = some oj → j ≠ i → listed.getD j true = false → (∀ e ∈ oj.after, Region.binds md e = true → e.on ≠ i) → oi.apart ops oj = true) →
   i ∈ Region.ready md ops listed → YieldsIf P ops Y oi v a → Y w → (listed.getD s0 true = false → C w) → ((∀ w, Y w) ∨ listed.getD s0 true = false) →
   wpC P md ops Q C s0 fuel (listed.setIfInBounds i true) (a.put oi.dst v) w → wpC P md ops Q C s0 (fuel + 1) listed a w := by
 intro fuel
 have same : ∀ listed : Array Bool, (listed.setIfInBounds i true).getD s0 true = listed.getD s0 true := fun l => getD_set_ne true his
 induction fuel with
 | zero =>
  intro listed a w _ hr hy hyw hC _ H
  refine ⟨fun h => (by rw [h] at hr; cases hr), fun j hj => ?_⟩
  by_cases e : j = i
  ·subst e; exact hy.wpOp hi hyw ⟨fun h => hC (by rw [same] at h; exact h), H⟩
  ·have := ready_mono hj e
   rw [H.1] at this; cases this
 | succ fuel ih =>
  intro listed a w hfree hr hy hyw hC hlate H
  refine ⟨fun h => (by rw [h] at hr; cases hr), fun j hj => ?_⟩
  by_cases e : j = i
  ·subst e; exact hy.wpOp hi hyw ⟨fun h => hC (by rw [same] at h; exact h), H⟩
  ·have h1 := H.2 j (ready_mono hj e)
   obtain ⟨hjun, oj, hoj, hall⟩ := mem_ready.1 hj
   have hiun := (mem_ready.1 hr).1
   have waits : ∀ e ∈ oj.after, Region.binds md e = true → e.on ≠ i := fun e he hb heq => by
    have h2 := hall e he hb
    rw [heq] at h2
    rcases Nat.lt_or_ge i listed.size with h' | h'
    ·simp [h'] at hiun h2; rw [hiun] at h2; cases h2
    ·simp [Array.getElem?_eq_none h'] at h2
   have hjs : (∀ w, Y w) ∨ j ≠ s0 := by
    rcases hY with h | ⟨_, os, hos, e', he', hb', hon⟩
    ·exact .inl h
    ·refine .inr fun e2 => ?_
     subst e2
     rw [hos] at hoj; cases hoj
     exact waits e' he' hb' hon
   have h2 := wpOp_putIf hoj (hfree j oj hoj e hjun waits) (fun cs b => hsel i oi cs b hi) (fun cs b => hsel j oj cs b hoj) hQ hy h1
   have hfree' : ∀ k ok, ops[k]? = some ok → k ≠ i → (listed.setIfInBounds j true).getD k true = false → (∀ e ∈ ok.after, Region.binds md e = true → e.on ≠ i) → oi.apart ops ok = true := fun k ok hk hki hun hno => by
    refine hfree k ok hk hki ?_ hno
    by_cases hjk : j = k
    ·subst hjk; exact hjun
    ·rw [getD_set_ne true hjk] at hun; exact hun
   refine wpOp_mono (fun a' w' h3 => ?_) h2
   obtain ⟨hy', hC', hW'⟩ := h3
   have sw : ((listed.setIfInBounds i true).setIfInBounds j true).getD s0 true = (listed.setIfInBounds j true).getD s0 true := by
    rw [Array.setIfInBounds_comm _ _ (Ne.symm e), same]
   have hCj : (listed.setIfInBounds j true).getD s0 true = false → C w' := fun h => hC' (by rw [sw]; exact h)
   have hlate' : (∀ w, Y w) ∨ (listed.setIfInBounds j true).getD s0 true = false := by
    rcases hjs with h | h
    ·exact .inl h
    ·rcases hlate with h0 | h0
     ·exact .inl h0
     ·exact .inr (by rw [getD_set_ne true h]; exact h0)
   have hyw' : Y w' := by
    rcases hlate' with h | h
    ·exact h _
    ·rcases hY with h0 | ⟨h0, _⟩
     ·exact h0 _
     ·exact h0 _ (hCj h)
   refine ⟨hCj, ih (listed.setIfInBounds j true) a' w' hfree' (ready_mono hr (Ne.symm e)) hy' hyw' hCj hlate' ?_⟩
   rw [Array.setIfInBounds_comm _ _ e]
   exact hW'
theorem wpC_pure {i : Nat} {oi : Oper} {v : Value} {fuel : Nat} {listed : Array Bool} {a : Act} {w : World} (hi : ops[i]? = some oi) (his : i ≠ s0)
  (hs : Region.noSelect ops = true) (hf : Region.free md ops listed i = true) (hr : (Region.ready md ops listed).contains i = true)
  (hQ : ∀ c a w, Q (.panic c) (a.put oi.dst v) w → Q (.panic c) a w) (hy : YieldsIf P ops (fun _ => True) oi v a) (hC : listed.getD s0 true = false → C w)
  (h : wpC P md ops Q C s0 fuel (listed.setIfInBounds i true) (a.put oi.dst v) w) : wpC P md ops Q C s0 (fuel + 1) listed a w :=
 wpC_first hi (Region.noSelect_spec hs) hQ his (.inl fun _ => trivial) fuel listed a w (Region.free_spec hi hf) (by simpa using hr) hy trivial hC (.inl fun _ => trivial) h
theorem wpC_load {i : Nat} {oi os : Oper} {v : Value} {fuel : Nat} {listed : Array Bool} {a : Act} {w : World} (hi : ops[i]? = some oi) (his : i ≠ s0) (hos : ops[s0]? = some os) (hwait : (os.after.any fun e => Region.binds md e && e.on == i) = true)
  (hs : Region.noSelect ops = true) (hf : Region.free md ops listed i = true) (hr : (Region.ready md ops listed).contains i = true) (hl : listed.getD s0 true = false)
  (hQ : ∀ c a w, Q (.panic c) (a.put oi.dst v) w → Q (.panic c) a w) (hy : YieldsIf P ops C oi v a) (hC : C w)
  (h : wpC P md ops Q C s0 fuel (listed.setIfInBounds i true) (a.put oi.dst v) w) : wpC P md ops Q C s0 (fuel + 1) listed a w := by
 rw [Array.any_eq_true] at hwait
 obtain ⟨k, hk, he⟩ := hwait
 simp only [Bool.and_eq_true, beq_iff_eq] at he
 exact wpC_first hi (Region.noSelect_spec hs) hQ his (.inr ⟨fun _ h => h, os, hos, os.after[k], Array.getElem_mem hk, he.1, he.2⟩) fuel listed a w (Region.free_spec hi hf) (by simpa using hr) hy hC (fun _ => hC) (.inr hl) h
theorem wpC_step {i : Nat} {o : Oper} {fuel : Nat} {listed : Array Bool} {a : Act} {w : World} (hr : Region.ready md ops listed = [i]) (ho : ops[i]? = some o)
    (h : ∀ K' : Act → World → Prop, Shut (∀ a w, ((listed.setIfInBounds i true).getD s0 true = false → C w) → wpC P md ops Q C s0 fuel (listed.setIfInBounds i true) a w → K' a w) → if Region.wanted o (yielded ops a.tmps) = true then Oper.wp P o a w K' Q else K' (a.put o.dst undef) w) :
    wpC P md ops Q C s0 (fuel + 1) listed a w :=
  ⟨(fun h0 => by rw [hr] at h0; cases h0), fun j hj => by
    rw [hr] at hj
    obtain rfl := List.mem_singleton.1 hj
    exact wpOp_step ho fun K' hK => h K' fun a w h1 h2 => hK a w ⟨h1, h2⟩⟩
theorem Zu {i : Nat} {oi : Oper} {v : Value} {fuel : Nat} {listed : Array Bool} {a : Act} {w : World} (hi : ops[i]? = some oi) (hC : listed.getD s0 true = false → C w)
  (h : wpC P md ops Q C s0 fuel (listed.setIfInBounds i true) (a.put oi.dst v) w) (his : i ≠ s0 := by decide) (hs : Region.noSelect ops = true := by kernel_rfl) (hf : Region.free md ops listed i = true := by kernel_rfl) (hr : (Region.ready md ops listed).contains i = true := by kernel_rfl)
  (hQ : ∀ c a w, Q (.panic c) (a.put oi.dst v) w → Q (.panic c) a w := by exact fun _ _ _ h => h) (hy : YieldsIf P ops (fun _ => True) oi v a := by exact Or.inl ⟨by rfl, by (intro w _; go_simp; (first | done | with_reducible rfl))⟩) : wpC P md ops Q C s0 (fuel + 1) listed a w := wpC_pure hi his hs hf hr hQ hy hC h
theorem Zv {i : Nat} {oi os : Oper} {v : Value} {fuel : Nat} {listed : Array Bool} {a : Act} {w : World} (hi : ops[i]? = some oi) (hos : ops[s0]? = some os) (hC : C w)
  (h : wpC P md ops Q C s0 fuel (listed.setIfInBounds i true) (a.put oi.dst v) w) (his : i ≠ s0 := by decide) (hwait : (os.after.any fun e => Region.binds md e && e.on == i) = true := by kernel_rfl) (hs : Region.noSelect ops = true := by kernel_rfl) (hf : Region.free md ops listed i = true := by kernel_rfl) (hr : (Region.ready md ops listed).contains i = true := by kernel_rfl) (hl : listed.getD s0 true = false := by kernel_rfl)
  (hQ : ∀ c a w, Q (.panic c) (a.put oi.dst v) w → Q (.panic c) a w := by exact fun _ _ _ h => h) (hy : YieldsIf P ops C oi v a := by exact Or.inl ⟨by rfl, by (intro w hSw; (try dsimp only at hSw); go_simp; (first | done | with_reducible rfl))⟩) : wpC P md ops Q C s0 (fuel + 1) listed a w := wpC_load hi his hos hwait hs hf hr hl hQ hy hC h
theorem wpC_done {listed : Array Bool} {a : Act} {w : World} (hr : Region.ready md ops listed = []) (h : Q .normal a w) : ∀ fuel, wpC P md ops Q C s0 fuel listed a w
 | 0 => ⟨hr, h⟩
 | _ + 1 => ⟨fun _ => h, by rw [hr]; simp⟩
end
end Go.Proofs.YtlmfbjhokkpjhaaGreatDoor
