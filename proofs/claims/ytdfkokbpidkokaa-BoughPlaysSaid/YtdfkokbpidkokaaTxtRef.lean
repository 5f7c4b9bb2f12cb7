/- rosterref12.Texts, the document's answer for texts: its methods Rank (18), Get (15), Put (11), Del (13). -/
import Derived.Test.YtdfkokbpidkokaaInts
import Derived.Test.YtdfkokbpidkokaaUp0
namespace Go.Proofs.Ytdfkokbpidkokaa
open Go.RowKit

def ky (l : List (ByteArray × Int)) : List Value := l.map fun p => .string p.1
def cl (l : List (ByteArray × Int)) : List Value := l.map fun p => .int .i64 p.2
@[simp] theorem ky_length (l : List (ByteArray × Int)) : (ky l).length = l.length := by simp [ky]
@[simp] theorem cl_length (l : List (ByteArray × Int)) : (cl l).length = l.length := by simp [cl]
theorem ky_one (l : List (ByteArray × Int)) : ∀ u ∈ ky l, u.oneCell' = true := by intro u hu; obtain ⟨x, _, rfl⟩ := List.mem_map.1 hu; rfl
theorem cl_one (l : List (ByteArray × Int)) : ∀ u ∈ cl l, u.oneCell' = true := by intro u hu; obtain ⟨x, _, rfl⟩ := List.mem_map.1 hu; rfl

/-- at t lie the texts and their calls -/
structure TRep (w : World) (t : Nat) (l : List (ByteArray × Int)) (kg : Option Nat) (kc : Nat) (cg : Option Nat) (cc : Nat) : Prop where
  hd : w.heap[t]? = some (.cells #[sv kg l.length kc, sv cg l.length cc] 30 (0, 0))
  k : Own w 9 1 kg l.length kc (ky l)
  c : Own w 3 1 cg l.length cc (cl l)
  tk : ∀ g, kg = some g → g ≠ t
  tc : ∀ g, cg = some g → g ≠ t
  kc' : ∀ g, kg = some g → cg ≠ some g

section
variable {w : World} {t : Nat} {l : List (ByteArray × Int)} {kg cg : Option Nat} {kc cc : Nat}
theorem TRep.lt (T : TRep w t l kg kc cg cc) : t < w.heap.size := (Array.getElem?_eq_some_iff.1 T.hd).1
theorem TRep.klt (T : TRep w t l kg kc cg cc) : ∀ g, kg = some g → g < w.heap.size := fun g h => by have := T.k; rw [h] at this; exact this.row.lt
theorem TRep.clt (T : TRep w t l kg kc cg cc) : ∀ g, cg = some g → g < w.heap.size := fun g h => by have := T.c; rw [h] at this; exact this.row.lt
theorem TRep.keep {w' : World} (T : TRep w t l kg kc cg cc) (h0 : w'.heap[t]? = w.heap[t]?) (h1 : ∀ g, kg = some g → w'.heap[g]? = w.heap[g]?) (h2 : ∀ g, cg = some g → w'.heap[g]? = w.heap[g]?) : TRep w' t l kg kc cg cc where
  hd := h0.trans T.hd
  k := T.k.keep h1
  c := T.c.keep h2
  tk := T.tk
  tc := T.tc
  kc' := T.kc'
theorem TRep.chg {S : Nat → Prop} {w' : World} (T : TRep w t l kg kc cg cc) (hc : Chg S w w') (h0 : ¬ S t) (h1 : ∀ g, kg = some g → ¬ S g) (h2 : ∀ g, cg = some g → ¬ S g) : TRep w' t l kg kc cg cc :=
  T.keep (hc.block t T.lt h0) (fun g hg => hc.block g (T.klt g hg) (h1 g hg)) (fun g hg => hc.block g (T.clt g hg) (h2 g hg))
theorem TRep.c0 (T : TRep w t l kg kc cg cc) : w.cell? ⟨t, 0, none⟩ = some (sv kg l.length kc) := by rw [cell_of_row _ _ 0 _ _ (0, 0) T.hd]; rfl
theorem TRep.c1 (T : TRep w t l kg kc cg cc) : w.cell? ⟨t, 1, none⟩ = some (sv cg l.length cc) := by rw [cell_of_row _ _ 1 _ _ (0, 0) T.hd]; rfl
theorem TRep.fr (T : TRep w t l kg kc cg cc) (o : Nat) : w.frozen? ⟨t, o, none⟩ = false := frozen_of_row _ _ _ _ _ T.hd
theorem TRep.kcell {g : Nat} (T : TRep w t l (some g) kc cg cc) {i : Nat} (hi : i < l.length) : w.cell? ⟨g, i, none⟩ = some (.string (l[i]).1) := T.k.row.cell (by simp [ky, hi])
theorem TRep.ccell {g : Nat} (T : TRep w t l kg kc (some g) cc) {i : Nat} (hi : i < l.length) : w.cell? ⟨g, i, none⟩ = some (.int .i64 (l[i]).2) := T.c.row.cell (by simp [cl, hi])
theorem TRep.ksome (T : TRep w t l kg kc cg cc) (h : 0 < l.length) : ∃ g, kg = some g := by
  cases kg with
  | none => have := T.k.2.1; omega
  | some g => exact ⟨g, rfl⟩
theorem TRep.csome (T : TRep w t l kg kc cg cc) (h : 0 < l.length) : ∃ g, cg = some g := by
  cases cg with
  | none => have := T.c.2.1; omega
  | some g => exact ⟨g, rfl⟩

set_option maxRecDepth 20000 in
set_option maxHeartbeats 1000000 in
theorem rank_txt (T : TRep w t l kg kc cg cc) (k : ByteArray) (hl : l.length ≤ 4611686018427387903) :
    Calls Try.prog 18 #[.pointer (some ⟨t, 0, none⟩), .string k] w fun e w' => e = .returned (.int .i64 (rk txc l k)) ∧ w = w' := by
  have hc0 := T.c0
  simp only [sv] at hc0
  have HT := Lib.hid T; clear T
  have hrl := rk_le txc l k
  go_enter Try.func18, Try.ntmps18
  go_wp2
  go_loop [5] (fun iv' => ∃ i : Nat, iv' = .int .i64 i ∧ i ≤ rk txc l k) (fun iv' => (rk txc l k - intOf iv').toNat)
  case atStart => exact ⟨0, rfl, Nat.zero_le _⟩
  case round =>
    obtain ⟨i, rfl, hi⟩ := hrel
    by_cases hlt : i < l.length
    · obtain ⟨g, rfl⟩ := HT.out.ksome (by omega)
      simp only [Option.map_some] at hc0
      have hc1 := HT.out.kcell hlt
      have b1 : ((i : Int) < l.length) := by omega
      have b0 : (0 : Int) ≤ i := by omega
      by_cases hr : i < rk txc l k
      · have h1 := rk_lt txc hr (List.getElem?_eq_getElem hlt)
        rw [txc_lt] at h1
        go_wp2
        go_round
        case rel => exact ⟨i + 1, by go_num, hr⟩
        case measure => simp [intOf]; omega
      · obtain rfl : i = rk txc l k := by omega
        have h1 := rk_ge_first (c := txc) (List.getElem?_eq_getElem hlt)
        rw [txc_lt, Bool.not_eq_true] at h1
        generalize hz : l[rk txc l k] = z at *
        have HZ := Lib.hid hz; clear hz
        generalize hrr : rk txc l k = r at *
        have HR := Lib.hid hrr; clear hrr
        go_wp2
        go_ret
        exact ⟨by rw [HR.out]; rfl, rfl⟩
    · obtain rfl : i = rk txc l k := by omega
      have hd : decide (((rk txc l k : Nat) : Int) < l.length) = false := by simp; omega
      generalize hrr : rk txc l k = r at *
      have HR := Lib.hid hrr; clear hrr
      go_wp2
      go_ret
      exact ⟨by rw [HR.out]; rfl, rfl⟩

/-- what a key's place says of the key there -/
theorem hasL_data {l : List (ByteArray × Int)} {k : ByteArray} (h : rk txc l k < l.length) : hasL txc l k = ((l[rk txc l k]).1.toList == k.toList) := by
  rw [hasL_at txc l k _ (List.getElem?_eq_getElem h)]
  rw [Bool.eq_iff_iff]
  simp only [beq_iff_eq]
  exact txc_eq _ _

set_option maxRecDepth 20000 in
set_option maxHeartbeats 1000000 in
theorem get_txt (T : TRep w t l kg kc cg cc) (k : ByteArray) (hl : l.length ≤ 4611686018427387903) :
    Calls Try.prog 15 #[.pointer (some ⟨t, 0, none⟩), .string k] w fun e w' => e = .returned (.int .i64 ((getL txc l k).getD (-1))) ∧ w = w' := by
  have hc0 := T.c0
  have hc1 := T.c1
  simp only [sv] at hc0 hc1
  have hrl := rk_le txc l k
  have HR := Lib.hid (rank_txt T k hl)
  by_cases hlt : rk txc l k < l.length
  · have hh := hasL_data hlt
    have hg : getL txc l k = if hasL txc l k then some (l[rk txc l k]).2 else none := by
      rw [hasL_at txc l k _ (List.getElem?_eq_getElem hlt)]
      unfold getL
      rw [List.getElem?_eq_getElem hlt]
    obtain ⟨g, rfl⟩ := T.ksome (by omega)
    obtain ⟨g2, rfl⟩ := T.csome (by omega)
    simp only [Option.map_some] at hc0 hc1
    have hk := T.kcell hlt
    have hv := T.ccell hlt
    clear T
    have b0 : (0 : Int) ≤ rk txc l k := by omega
    have b1 : ((rk txc l k : Nat) : Int) < l.length := by omega
    have b2 : (((rk txc l k : Nat) : Int) == l.length) = false := by simp; omega
    generalize l[rk txc l k] = z at *
    have HG := Lib.hid hg; clear hg
    generalize rk txc l k = r at *
    cases hb : (z.1.toList == k.toList)
    · rw [hb] at hh
      have HH := Lib.hid hh; clear hh
      go_enter Try.func15, Try.ntmps15
      go_wp2_with fail
      refine HR.out.mono ?_
      rintro e w1 ⟨rfl, rfl⟩
      go_wp2
      go_ret
      exact ⟨by rw [HG.out, HH.out]; rfl, rfl⟩
    · rw [hb] at hh
      have HH := Lib.hid hh; clear hh
      go_enter Try.func15, Try.ntmps15
      go_wp2_with fail
      refine HR.out.mono ?_
      rintro e w1 ⟨rfl, rfl⟩
      go_wp2
      go_ret
      exact ⟨by rw [HG.out, HH.out]; rfl, rfl⟩
  · have he : rk txc l k = l.length := by omega
    have hg : getL txc l k = none := by
      unfold getL
      rw [List.getElem?_eq_none (by omega)]
    have b2 : (((rk txc l k : Nat) : Int) == l.length) = true := by simp; omega
    clear T
    have HG := Lib.hid hg; clear hg he
    generalize rk txc l k = r at *
    go_enter Try.func15, Try.ntmps15
    go_wp2_with fail
    refine HR.out.mono ?_
    rintro e w1 ⟨rfl, rfl⟩
    go_wp2
    go_ret
    exact ⟨by rw [HG.out]; rfl, rfl⟩
end
end Go.Proofs.Ytdfkokbpidkokaa
