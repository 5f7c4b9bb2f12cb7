/- prep.squeeze: one blank for each run. -/
import Derived.Test.YtpnnbffhdhbonaaGreatDoorBuf
namespace Go.Proofs.YtpnnbffhdhbonaaGreatDoor
open Go Go.RowKit

theorem sqz_cons (p : Bool) (b : UInt8) (l : List UInt8) : sqz p (b :: l) = if b = 32 ∧ p = true then sqz true l else b :: sqz (b == 32) l := rfl

set_option maxRecDepth 20000 in
theorem squeeze_any (s : ByteArray) (w : World) (hs : s.size ≤ 140737488355327) :
    Calls Tryz.prog 34 #[.string s] w fun e w' => e = .returned (.string ⟨(sqz false s.data.toList).toArray⟩) ∧ Below w.heap.size w w' := by
  obtain ⟨w1, hr, hB⟩ := make0 w s.size (by omega)
  go_enter Tryz.func34, Tryz.ntmps34
  have HB1 := Lib.hid hB; clear hB
  go_wp2_with fail
  clear hr
  go_loopw [3, 10] (fun sl iv wr => ∃ (i cap g : Nat) (p : Bool) (out : List UInt8), iv = .int .i64 i ∧ sl = .slice (some ⟨g, 0, none⟩) out.length cap ∧ i ≤ s.size ∧ out.length ≤ i ∧ Buf w wr (some g) cap out ∧
      sqz false s.data.toList = out ++ sqz p (s.data.toList.drop i) ∧ ((p = false ∧ (0 < out.length → out[out.length - 1]? ≠ some 32)) ∨ (p = true ∧ 0 < out.length ∧ out[out.length - 1]? = some 32))) (fun _ iv _ => s.size - (intOf iv).toNat)
  case atStart => exact ⟨0, s.size, w.heap.size, false, [], rfl, rfl, Nat.zero_le _, Nat.zero_le _, HB1.out, rfl, .inl ⟨rfl, by simp⟩⟩
  case round =>
    obtain ⟨i, cap, g, p, out, rfl, rfl, hi, hle, hB, hsq, hp⟩ := hrel
    have HB := Lib.hid hB; clear hB
    have HP := Lib.hid hp; clear hp
    by_cases hlt : i < s.size
    · rw [drop_at s hlt, sqz_cons] at hsq
      have HQ := Lib.hid hsq; clear hsq
      generalize hb : s[i] = b at HQ
      have hne : ∀ c : UInt8, c ≠ 32 → ¬ (c.toNat : Int) = 32 := fun c h e => h (UInt8.toNat_inj.1 (by show c.toNat = 32; omega))
      have fin : ∀ (o : List UInt8) (c : UInt8), (o ++ [c])[(o ++ [c]).length - 1]? = some c := fun o c => by simp
      have HF := Lib.hid (And.intro hne fin); clear hne fin
      by_cases h32 : b = 32
      · subst h32
        by_cases h0 : 0 < out.length
        · have hc := List.getElem?_eq_getElem (show out.length - 1 < out.length by omega)
          have hcell := HB.out.cell hc
          rcases HP.out with ⟨rfl, hp⟩ | ⟨rfl, _, hp⟩
          · -- the first blank of a run
            have hn := HF.out.1 out[out.length - 1] (fun e => hp h0 (by rw [hc, e]))
            generalize out[out.length - 1] = c at hcell hn
            clear hc hp
            go_wp2_with (at_builtin; refine HB.out.push rfl (.tmp 31) (.tmp 35) rfl rfl 32 rfl rfl (by omega) ?_; intro g' cap' w' hB')
            have HB' := Lib.hid hB'; clear hB'
            go_wp2_with fail
            refine ⟨⟨i + 1, cap', g', true, out ++ [32], by simp, by simp, by omega, by simp; omega, HB'.out, ?_, .inr ⟨rfl, by simp, HF.out.2 _ _⟩⟩, by simp [intOf]; omega⟩
            rw [HQ.out]; simp
          · -- a blank behind a blank
            rw [hc] at hp
            injection hp with hp
            rw [hp] at hcell
            clear hc hp
            go_wp2_with fail
            refine ⟨⟨i + 1, cap, g, true, out, by simp, rfl, by omega, by omega, HB.out, ?_, HP.out⟩, by simp [intOf]; omega⟩
            rw [HQ.out]; simp
        · have hpf : p = false := by rcases HP.out with ⟨rfl, _⟩ | ⟨_, h, _⟩; · rfl
                                     · omega
          subst hpf
          go_wp2_with (at_builtin; refine HB.out.push rfl (.tmp 31) (.tmp 35) rfl rfl 32 rfl rfl (by omega) ?_; intro g' cap' w' hB')
          have HB' := Lib.hid hB'; clear hB'
          go_wp2_with fail
          refine ⟨⟨i + 1, cap', g', true, out ++ [32], by simp, by simp, by omega, by simp; omega, HB'.out, ?_, .inr ⟨rfl, by simp, HF.out.2 _ _⟩⟩, by simp [intOf]; omega⟩
          rw [HQ.out]; simp
      · have hn := HF.out.1 _ h32
        have HN := Lib.hid h32; clear h32
        go_wp2_with (at_builtin; refine HB.out.push rfl (.tmp 31) (.tmp 35) rfl rfl b rfl rfl (by omega) ?_; intro g' cap' w' hB')
        have HB' := Lib.hid hB'; clear hB'
        go_wp2_with fail
        refine ⟨⟨i + 1, cap', g', false, out ++ [b], by simp, by simp, by omega, by simp; omega, HB'.out, ?_, .inl ⟨rfl, fun _ => by rw [HF.out.2]; intro e; injection e with e; exact HN.out e⟩⟩, by simp [intOf]; omega⟩
        rw [HQ.out]; simp [HN.out, show (b == 32) = false from by simpa using HN.out]
    · rw [drop_end s hlt] at hsq
      have hbk := HB.out.back rfl cap
      go_wp2_with fail
      go_ret
      exact ⟨by rw [hsq]; simp [sqz], HB.out.below⟩
end Go.Proofs.YtpnnbffhdhbonaaGreatDoor
