/- rosterlaw03.PrepAgain: true. -/
import Derived.Test.YtpnnbffhdhbonaaDoorAgainV
import Derived.Test.YtpnnbffhdhbonaaDoorAwake
namespace Go.Proofs.YtpnnbffhdhbonaaDoor
open Go Go.RowKit

theorem again_any (w : World) : Calls Tryd.prog 7 #[] w fun e w' => ∃ g, e = .returned (.slice (some ⟨g, 0, none⟩) 7 7) ∧ Below w.heap.size w w' ∧ g < w'.heap.size ∧
    ∀ i < 7, ∃ f : Int, (f = 0 ∨ f = 1 ∨ f = 2 ∨ f = 3 ∨ f = 5 ∨ f = 7 ∨ f = 8) ∧ w'.cell? ⟨g, i, none⟩ = some (.int .i8 f) := by
  have hb : ∀ o, Below w.heap.size w (w.alloc o) := fun o => (Below.refl _ w).alloc (Nat.le_refl _) o
  have HB := Lib.hid hb; clear hb
  go_enter Tryd.func7, Tryd.ntmps7
  go_wp2_with fail
  go_ret
  refine ⟨w.heap.size, rfl, HB.out _, by simp, fun i hi => ?_⟩
  rw [World.cell?_alloc_new]
  match i, hi with
  | 0, _ => exact ⟨0, by decide, rfl⟩
  | 1, _ => exact ⟨1, by decide, rfl⟩
  | 2, _ => exact ⟨2, by decide, rfl⟩
  | 3, _ => exact ⟨3, by decide, rfl⟩
  | 4, _ => exact ⟨5, by decide, rfl⟩
  | 5, _ => exact ⟨7, by decide, rfl⟩
  | 6, _ => exact ⟨8, by decide, rfl⟩

set_option maxRecDepth 20000 in
theorem law_again (v : ByteArray) (hv : v.size ≤ maxLen) (w : World) (hE : Env w) :
    Calls Tryd.prog 3 #[.string v] w fun e w' => e = .returned (.bool true) ∧ Below w.heap.size w w' := by
  unfold maxLen at hv
  have HL := Lib.hid (Lib.size_eq v)
  have HK := Lib.hid (fun f s w hE => key_any f s w hE); have HA := Lib.hid (fun w hE => alive_any w hE); have HG := Lib.hid (fun w => again_any w)
  have HE := Lib.hid hE; clear hE
  go_enter Tryd.func3, Tryd.ntmps3
  go_wp2_with (first
    | (go_at_call 7; with_reducible refine (HG.out _).mono ?_; rintro e w1 ⟨g, rfl, hb1, hg, hc⟩; have HB1 := Lib.hid hb1; have HC := Lib.hid hc; have HGS := Lib.hid hg; clear hb1 hc hg)
    | fail)
  go_loopw [4] (fun iv wr => ∃ i : Nat, iv = .int .i64 i ∧ i ≤ 7 ∧ Below w1.heap.size w1 wr) (fun iv _ => 7 - (intOf iv).toNat)
  case atStart => exact ⟨0, rfl, by omega, Below.refl _ _⟩
  case round =>
    obtain ⟨i, rfl, hi, hbr⟩ := hrel
    have HB := Lib.hid (bnext HB1.out (hbr.mono (Nat.le_refl _))); have HR := Lib.hid hbr; clear hbr
    by_cases hlt : i < 7
    · obtain ⟨f, hf, hc⟩ := HC.out i hlt
      have hcell : wr.cell? ⟨g, i, none⟩ = some (.int .i8 f) := (HR.out.cell HGS.out).trans hc
      clear hc
      have i1 : (i : Int) < 7 := by omega
      obtain ⟨⟨k, ok⟩, hk⟩ : ∃ r, r = keyL f v.data.toList := ⟨_, rfl⟩
      have k1 := fun w hE => HK.out f v w hE
      rw [← hk] at k1
      cases ok with
      | true =>
        have ha := key_again f hf hk.symm
        have k2 := fun w hE => HK.out f ⟨k.toArray⟩ w hE
        rw [show keyL f (ByteArray.mk k.toArray).data.toList = (k, true) from ha.1] at k2
        have hle : ¬ (v.size : Int) < k.length := by have := ha.2; rw [← HL.out] at this; omega
        simp only [ret2] at k1 k2
        have K1 := Lib.hid k1; have K2 := Lib.hid k2; have HF := Lib.hid hf; clear k1 k2 ha hk hf
        go_wp2_with (first
          | (go_at_call 8; with_reducible refine (K1.out _ (HE.out.next HB.out)).mono ?_; rintro e w2 ⟨rfl, hb2⟩; have HB2 := Lib.hid (bnext HB.out hb2); have HR2 := Lib.hid (bnext HR.out hb2); have hcell2 := ((HR2.out.cell HGS.out).trans (HR.out.cell HGS.out).symm).trans hcell; clear hb2)
          | (go_at_call 8; with_reducible refine (K2.out _ (HE.out.next HB2.out)).mono ?_; rintro e w3 ⟨rfl, hb3⟩; have HR3 := Lib.hid (bnext HR2.out hb3); clear hb3)
          | fail)
        exact ⟨⟨i + 1, rfl, by omega, HR3.out⟩, by simp [intOf]; omega⟩
      | false =>
        obtain rfl := key_none_nil hk.symm
        obtain ⟨⟨j, yes⟩, hj⟩ : ∃ r, r = keyL f [] := ⟨_, rfl⟩
        have k2 := fun w hE => HK.out f ⟨#[]⟩ w hE
        rw [show keyL f (ByteArray.mk #[]).data.toList = (j, yes) from hj.symm] at k2
        simp only [ret2] at k1 k2
        have K1 := Lib.hid k1; have K2 := Lib.hid k2; have HF := Lib.hid hf; clear k1 k2 hk hj hf
        cases yes <;> (
          go_wp2_with (first
            | (go_at_call 8; with_reducible refine (K1.out _ (HE.out.next HB.out)).mono ?_; rintro e w2 ⟨rfl, hb2⟩; have HB2 := Lib.hid (bnext HB.out hb2); have HR2 := Lib.hid (bnext HR.out hb2); have hcell2 := ((HR2.out.cell HGS.out).trans (HR.out.cell HGS.out).symm).trans hcell; clear hb2)
            | (go_at_call 8; with_reducible refine (K2.out _ (HE.out.next HB2.out)).mono ?_; rintro e w3 ⟨rfl, hb3⟩; have HR3 := Lib.hid (bnext HR2.out hb3); clear hb3)
            | fail)
          exact ⟨⟨i + 1, rfl, by omega, HR3.out⟩, by simp [intOf]; omega⟩)
    · have i1 : ¬ (i : Int) < 7 := by omega
      go_wp2_with (first
        | (go_at_call 9; with_reducible refine (HA.out _ (HE.out.next HB.out)).mono ?_; rintro e w6 ⟨rfl, hb6⟩)
        | fail)
      go_ret
      exact ⟨rfl, bnext HB.out hb6⟩
end Go.Proofs.YtpnnbffhdhbonaaDoor
