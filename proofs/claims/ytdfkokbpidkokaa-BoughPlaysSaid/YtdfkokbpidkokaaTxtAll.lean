/- rosterref12.Texts: Put and Del, whatever the key. -/
import Derived.Test.YtdfkokbpidkokaaTxtPut1
import Derived.Test.YtdfkokbpidkokaaTxtDel1
namespace Go.Proofs.Ytdfkokbpidkokaa
open Go.RowKit

section
variable {w : World} {t : Nat} {l : List (ByteArray × Int)} {kg cg : Option Nat} {kc cc : Nat}

theorem TPost.same (T : TRep w t l kg kc cg cc) : TPost w t kg cg l w := ⟨kg, kc, cg, cc, T, Chg.refl _ _, fun _ h => .inl h, fun _ h => .inl h⟩

theorem put_txt (T : TRep w t l kg kc cg cc) (k : ByteArray) (i : Int) (hl : (l.length + 1) * 16 ≤ 140737488355328) :
    Calls Try.prog 11 #[.pointer (some ⟨t, 0, none⟩), .string k, .int .i64 i] w fun e w' => e = .returned (.bool (!hasL txc l k)) ∧ TPost w t kg cg (putL txc l k i) w' := by
  cases hh : hasL txc l k
  · have HR := Lib.hid (rank_txt T k (by omega))
    have hp : putL txc l k i = l.take (rk txc l k) ++ (k, i) :: l.drop (rk txc l k) := by unfold putL; rw [if_neg (by rw [hh]; simp)]
    rw [hp]
    have hrl := rk_le txc l k
    by_cases h0 : l = []
    · have hr : rk txc l k = 0 := by subst h0; rfl
      exact put_txt_nil T k i hl h0 _ hr HR
    · have hpos : 0 < l.length := List.length_pos_iff.2 h0
      obtain ⟨g, rfl⟩ := T.ksome hpos
      obtain ⟨g2, rfl⟩ := T.csome hpos
      by_cases hlt : rk txc l k < l.length
      · exact put_txt_lt T k i hl hlt _ (T.kcell hlt) (by rw [← hasL_data hlt]; exact hh) HR
      · exact put_txt_eq T k i hl (by omega) HR
  · exact put_txt0 T k i (by omega) hh

set_option maxRecDepth 20000 in
set_option maxHeartbeats 1000000 in
theorem del_txt0 (T : TRep w t l kg kc cg cc) (k : ByteArray) (hl : l.length ≤ 4611686018427387903) (hh : hasL txc l k = false) :
    Calls Try.prog 13 #[.pointer (some ⟨t, 0, none⟩), .string k] w fun e w' => e = .returned (.bool false) ∧ w = w' := by
  have hc0 := T.c0
  simp only [sv] at hc0
  have hrl := rk_le txc l k
  have HR := Lib.hid (rank_txt T k hl)
  by_cases hlt : rk txc l k < l.length
  · have hb := hasL_data hlt
    rw [hh] at hb
    have hb2 := hb.symm
    obtain ⟨g, rfl⟩ := T.ksome (by omega)
    simp only [Option.map_some] at hc0
    have hk := T.kcell hlt
    clear T hb hh
    have b0 : (0 : Int) ≤ rk txc l k := by omega
    have b1 : ((rk txc l k : Nat) : Int) < l.length := by omega
    have b2 : (((rk txc l k : Nat) : Int) == l.length) = false := by simp; omega
    generalize l[rk txc l k] = z at *
    generalize rk txc l k = r at *
    go_enter Try.func13, Try.ntmps13
    go_wp2_with fail
    refine HR.out.mono ?_
    rintro e w1 ⟨rfl, rfl⟩
    go_wp2
    go_ret
    exact ⟨rfl, rfl⟩
  · have b2 : (((rk txc l k : Nat) : Int) == l.length) = true := by simp; omega
    clear T hh
    generalize rk txc l k = r at *
    go_enter Try.func13, Try.ntmps13
    go_wp2_with fail
    refine HR.out.mono ?_
    rintro e w1 ⟨rfl, rfl⟩
    go_wp2
    go_ret
    exact ⟨rfl, rfl⟩

theorem del_txt (T : TRep w t l kg kc cg cc) (k : ByteArray) (hl : (l.length + 1) * 16 ≤ 140737488355328) :
    Calls Try.prog 13 #[.pointer (some ⟨t, 0, none⟩), .string k] w fun e w' => e = .returned (.bool (hasL txc l k)) ∧ TPost w t kg cg (delL txc l k) w' := by
  cases hh : hasL txc l k
  · refine (del_txt0 T k (by omega) hh).mono ?_
    rintro e w' ⟨rfl, rfl⟩
    refine ⟨rfl, ?_⟩
    have : delL txc l k = l := by unfold delL; rw [if_neg (by rw [hh]; simp)]
    rw [this]
    exact TPost.same T
  · have HR := Lib.hid (rank_txt T k (by omega))
    have hlt := hasL_lt txc hh
    have hp : delL txc l k = l.take (rk txc l k) ++ l.drop (rk txc l k + 1) := by unfold delL; rw [if_pos hh]
    rw [hp]
    obtain ⟨g, rfl⟩ := T.ksome (by omega)
    obtain ⟨g2, rfl⟩ := T.csome (by omega)
    have hb : ((l[rk txc l k]).1.toList == k.toList) = true := by rw [← hasL_data hlt]; exact hh
    by_cases h1 : rk txc l k + 1 < l.length
    · exact del_txt_lt T k hl h1 _ (T.kcell hlt) hb HR
    · exact del_txt_eq T k hl (by omega) _ (T.kcell hlt) hb HR
end
end Go.Proofs.Ytdfkokbpidkokaa
