/- octet.Valid: whether all of a text are characters. -/
import Derived.Test.YtpnnbffhdhbonaaGreatDoorUtf
namespace Go.Proofs.YtpnnbffhdhbonaaGreatDoor
open Go Go.RowKit

theorem kind_alone (l : List UInt8) (hne : l ≠ []) : kindI l (Lib.decodeL l).1 = 0 ↔ ((Lib.decodeL l).1 = 65533 ∧ (Lib.decodeL l).2 = 1) := by
  constructor
  · intro h
    have h1 : ((Lib.decodeL l).1 : Int) = 65533 ∧ Lib.hasPrefix l [239, 191, 189] = false := by
      unfold kindI at h
      split at h
      · assumption
      · split at h <;> cases h
    by_cases hv : (Lib.decodeL l).1 = 65533 ∧ (Lib.decodeL l).2 = 1
    · exact hv
    · exfalso
      have he := Lib.encode_decode l hne hv
      rw [h1.1] at he
      have h2 : l = [239, 191, 189] ++ l.drop (Lib.decodeL l).2 := by
        rw [show ([239, 191, 189] : List UInt8) = Lib.encodeRune 65533 by decide, he, List.take_append_drop]
      have h3 : Lib.hasPrefix l [239, 191, 189] = true := by rw [h2]; rfl
      rw [h3] at h1; cases h1.2
  · rintro ⟨h1, h2⟩
    unfold kindI
    rw [if_pos]
    refine ⟨by rw [h1]; rfl, ?_⟩
    cases hp : Lib.hasPrefix l [239, 191, 189] with
    | false => rfl
    | true =>
      exfalso
      obtain ⟨t, rfl⟩ : ∃ t, l = 239 :: 191 :: 189 :: t := by
        unfold Lib.hasPrefix at hp
        rw [List.isPrefixOf_iff_prefix] at hp
        obtain ⟨t, ht⟩ := hp
        exact ⟨t, ht.symm⟩
      rw [show Lib.decodeL (239 :: 191 :: 189 :: t) = (65533, 3) by rw [Lib.decodeL_N]; simp [Lib.decodeN]] at h2
      cases h2

theorem validGoD_step (n : Nat) (l : List UInt8) (hne : l ≠ []) (hv : ¬ ((Lib.decodeL l).1 = 65533 ∧ (Lib.decodeL l).2 = 1)) : Lib.validGoD (n + 1) l = Lib.validGoD n (l.drop (Lib.decodeL l).2) := by
  rw [Lib.validGoD, if_neg hne, if_neg hv]
theorem validGoD_bad (n : Nat) (l : List UInt8) (hne : l ≠ []) (hv : (Lib.decodeL l).1 = 65533 ∧ (Lib.decodeL l).2 = 1) : Lib.validGoD (n + 1) l = false := by
  rw [Lib.validGoD, if_neg hne, if_pos hv]
theorem validGoD_nil (n : Nat) : Lib.validGoD n [] = true := by cases n <;> simp [Lib.validGoD]

theorem valid_any (s : ByteArray) (w : World) (hs : s.size ≤ 140737488355328) :
    Calls Tryz.prog 32 #[.string s] w fun e w' => e = .returned (.bool (Lib.validD s.data.toList)) ∧ Below w.heap.size w w' := by
  have hb0 : ∀ pos, Below w.heap.size w (w.iter s pos) := fun pos => (Below.refl _ w).alloc (Nat.le_refl _) _
  have HB := Lib.hid hb0; clear hb0
  go_enter Tryz.func32, Tryz.ntmps32
  go_wp2_with fail
  go_loopw [] (fun wr => ∃ pos b : Nat, wr = w.iter s pos ∧ Lib.validD s.data.toList = Lib.validGoD b (s.data.toList.drop pos) ∧ s.size ≤ pos + b) (fun w' => s.size - w'.iterPos w.heap.size)
  case atStart => exact ⟨0, s.size, rfl, by unfold Lib.validD; simp, by omega⟩
  case round =>
    obtain ⟨pos, b, rfl, hv, hb⟩ := hrel
    by_cases hp : pos < s.size
    · have hne : s.data.toList.drop pos ≠ [] := by rw [drop_at s hp]; simp
      have hnx : ∀ ty, (Instr.next (.pointer (some ⟨w.heap.size, 0, none⟩)) true ty).run Tryz.prog (w.iter s pos) = _ := fun ty => run_next_any w s pos ty hp
      have ha := kind_alone _ hne
      have hst := validGoD_step (b - 1) _ hne
      have hbd := validGoD_bad (b - 1) _ hne
      have hwd := Lib.decodeL_width (s.data.toList.drop pos)
      rw [show b - 1 + 1 = b by omega] at hst hbd
      rw [Lib.decodeL_drop] at ha hst hbd hwd
      have HA := Lib.hid ha; clear ha
      have HS := Lib.hid hst; clear hst
      have HD := Lib.hid hbd; clear hbd
      have HV := Lib.hid hv; clear hv
      generalize hdc : Utf8.decode s pos = d at hnx HA HS HD hwd
      clear hdc hne
      go_wp2_with (first | (go_at_call 78; refine (kind_any s pos _ _ (by omega) hs).mono ?_; rintro e w' ⟨rfl, rfl⟩) | fail)
      · rename_i h1
        have h2 := HA.out.1 (by simpa using h1)
        go_ret
        refine ⟨?_, HB.out _⟩
        rw [HV.out, HD.out h2]; rfl
      · rename_i h1
        have h2 : ¬ (d.1 = 65533 ∧ d.2 = 1) := fun h => by have := HA.out.2 h; rw [this] at h1; cases h1
        refine ⟨⟨pos + d.2, b - 1, rfl, ?_, by omega⟩, ?_⟩
        · rw [HV.out, HS.out h2, List.drop_drop]
        · simp only [World.iterPos_iter]; omega
    · have hnx : ∀ ty, (Instr.next (.pointer (some ⟨w.heap.size, 0, none⟩)) true ty).run Tryz.prog (w.iter s pos) = _ := fun ty => run_next_end w s pos ty hp
      go_wp2_with fail
      go_ret
      refine ⟨?_, HB.out pos⟩
      rw [hv, drop_end s hp, validGoD_nil]; rfl
end Go.Proofs.YtpnnbffhdhbonaaGreatDoor
