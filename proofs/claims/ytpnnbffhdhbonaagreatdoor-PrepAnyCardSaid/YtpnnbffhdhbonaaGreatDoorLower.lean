/- prep.lower: letters small. -/
import Derived.Test.YtpnnbffhdhbonaaGreatDoorTxt
import Derived.Test.YtpnnbffhdhbonaaGreatDoorShelf
import Derived.Lib.ConvBytes
import Derived.Laws.IdiomStrings
namespace Go.Proofs.YtpnnbffhdhbonaaGreatDoor
open Go Go.RowKit

/-- the cells of a block hold a text, and may be written -/
structure Bts (w : World) (g : Nat) (l : List UInt8) : Prop where
  cell : ∀ j b, l[j]? = some b → w.cell? ⟨g, j, none⟩ = some (.int .u8 (b.toNat : Int))
  fr : ∀ j, j < l.length → w.frozen? ⟨g, j, none⟩ = false
  lt : g < w.heap.size

theorem Bts.set {w : World} {g : Nat} {l : List UInt8} (h : Bts w g l) {i : Nat} (hi : i < l.length) (b : UInt8) : Bts (w.setCell ⟨g, i, none⟩ (.int .u8 (b.toNat : Int))) g (l.set i b) where
  cell := fun j c hj => by
    by_cases e : j = i
    · subst e
      rw [World.cell?_setCell_same _ _ _ (h.cell j _ (List.getElem?_eq_getElem hi))]
      rw [List.getElem?_set_self hi] at hj
      cases hj; rfl
    · rw [World.cell?_setCell_other _ _ _ _ (by intro e2; apply e; injection e2 with _ h2 _; exact h2.symm)]
      rw [List.getElem?_set_ne (Ne.symm e)] at hj
      exact h.cell j c hj
  fr := fun j hj => by rw [World.frozen?_setCell]; exact h.fr j (by simpa using hj)
  lt := by have := h.lt; simpa [World.setCell] using this

theorem Bts.conv (w : World) (s : ByteArray) : Bts (Lib.bytesWorld w 5 s) w.heap.size s.data.toList where
  cell := fun j b hj => by
    have hlt : j < s.size := by simpa using (List.getElem?_eq_some_iff.1 hj).1
    rw [Lib.bytesWorld_cell w _ s j hlt]
    simp [List.getD, hj]
  fr := fun j hj => by
    have hj' : j < s.size := by simpa using hj
    simp [World.frozen?, Lib.bytesWorld_at_new, Lib.bytesCells]
    omega
  lt := by rw [Lib.bytesWorld_size]; omega

theorem below_bytes (w : World) (e : TypeId) (s : ByteArray) : Below w.heap.size w (Lib.bytesWorld w e s) where
  os := by unfold Lib.bytesWorld World.freeze; split <;> rfl
  tape := by unfold Lib.bytesWorld World.freeze; split <;> rfl
  output := by unfold Lib.bytesWorld World.freeze; split <;> rfl
  size := by rw [Lib.bytesWorld_size]; omega
  block := fun k hk => Lib.bytesWorld_at_old w e s k hk

theorem Bts.alloc {w : World} {g : Nat} {l : List UInt8} (h : Bts w g l) (o : Obj) : Bts (w.alloc o) g l where
  cell := fun j b hj => by rw [World.cell?_alloc_lt _ _ _ h.lt]; exact h.cell j b hj
  fr := fun j hj => by rw [World.frozen?_of_block (w := w) (Below.heap_alloc w o g h.lt)]; exact h.fr j hj
  lt := by have := h.lt; simp; omega

/-- 'string(b)' of a block's text -/
theorem Bts.back {P : Program} {w : World} {g : Nat} {l : List UInt8} (h : Bts w g l) {src dst e : TypeId} {n : Nat} (hn : n = l.length) (cap : Nat) (hs : P.underlying src = some (.slice e)) (he : P.underlying e = some (.int .u8)) (hd : P.underlying dst = some .string) :
    (convert src dst (.slice (some ⟨g, 0, none⟩) n cap)).run P w = .ok (.string ⟨l.toArray⟩) w := by
  subst hn
  exact run_convert_bytes_back w src dst e ⟨g, 0, none⟩ cap l hs he hd fun j hj => by
    have := h.cell j _ (List.getElem?_eq_getElem hj)
    rw [← this]; congr 1; simp [Addr.add]; intro h0; rw [h0]

theorem low_step (l : List UInt8) {i : Nat} (h : i < l.length) : ((low (l.take i)) ++ l.drop i).set i (lowB l[i]) = low (l.take (i + 1)) ++ l.drop (i + 1) := by
  have h1 : (low (l.take i)).length = i := by simp [low]; omega
  rw [List.set_append_right _ _ (by omega), h1, Nat.sub_self, List.drop_eq_getElem_cons h, List.set_cons_zero]
  rw [List.take_succ_eq_append_getElem h]
  simp only [low, List.map_append, List.map_cons, List.map_nil, List.append_assoc, List.cons_append, List.nil_append]

theorem lowB_same {b : UInt8} (h : ¬ (65 ≤ b.toNat ∧ b.toNat ≤ 90)) : lowB b = b := if_neg h
theorem lowB_nat {b : UInt8} (h : 65 ≤ b.toNat ∧ b.toNat ≤ 90) : (lowB b).toNat = b.toNat + 32 := by
  unfold lowB; rw [if_pos h, UInt8.toNat_add]; simp; omega

theorem low_keep (l : List UInt8) {i : Nat} (h : i < l.length) (hn : lowB l[i] = l[i]) : low (l.take (i + 1)) ++ l.drop (i + 1) = low (l.take i) ++ l.drop i := by
  rw [List.take_succ_eq_append_getElem h, List.drop_eq_getElem_cons h]
  simp only [low, List.map_append, List.map_cons, List.map_nil, List.append_assoc, List.cons_append, List.nil_append, hn]

theorem lower_any (s : ByteArray) (w : World) (hs : s.size ≤ 140737488355328) :
    Calls Tryz.prog 33 #[.string s] w fun e w' => e = .returned (.string ⟨(low s.data.toList).toArray⟩) ∧ Below w.heap.size w w' := by
  go_enter Tryz.func33, Tryz.ntmps33
  have hc := Lib.run_convert_string_bytes (P := Tryz.prog) w 9 58 5 s Tryz.underlying9 Tryz.underlying58 Tryz.underlying5
  have B0 := below_bytes w 5 s
  have T0 := Bts.conv w s
  generalize Lib.bytesWorld w 5 s = w1 at hc B0 T0
  generalize grownCap w s.size 0 5 = cap at hc
  go_wp2_with fail
  clear hc
  have HB0 := Lib.hid B0; clear B0
  have HT0 := Lib.hid T0; clear T0
  go_loopw [10] (fun iv wr => ∃ i : Nat, iv = .int .i64 i ∧ i ≤ s.size ∧ Below w.heap.size w wr ∧ Bts wr w.heap.size (low (s.data.toList.take i) ++ s.data.toList.drop i)) (fun iv _ => s.size - (intOf iv).toNat)
  case atStart => exact ⟨0, rfl, Nat.zero_le _, HB0.out, by simpa [low] using HT0.out⟩
  case round =>
    clear HB0 HT0
    obtain ⟨i, rfl, hi, hb, ht⟩ := hrel
    have HB := Lib.hid hb; clear hb
    have HT := Lib.hid ht; clear ht
    have hl0 : s.data.toList.length = s.size := by simp
    have hlen : (low (s.data.toList.take i) ++ s.data.toList.drop i).length = s.size := by simp [low]; omega
    by_cases hlt : i < s.size
    · have hget : (low (s.data.toList.take i) ++ s.data.toList.drop i)[i]? = some s[i] := by
        rw [List.getElem?_append_right (by rw [low, List.length_map, List.length_take]; omega), show i - (low (s.data.toList.take i)).length = 0 by rw [low, List.length_map, List.length_take]; omega, drop_at s hlt]; rfl
      have hcell := HT.out.cell i _ hget
      have hfr := HT.out.fr i (by omega)
      have hst := low_step s.data.toList (by omega : i < s.data.toList.length)
      have hsi : s.data.toList[i]'(by omega) = s[i] := rfl
      rw [hsi] at hst
      have HS := Lib.hid hst; clear hst
      have HN := Lib.hid (low_keep s.data.toList (by omega : i < s.data.toList.length))
      rw [hsi] at HN
      have hset := HT.out.set (i := i) (by omega) (lowB s[i])
      rw [HS.out] at hset
      have HQ := Lib.hid hset; clear hset HS
      clear hget hsi hlen
      generalize s[i] = b at *
      go_wp2_with fail
      · have e1 := lowB_nat (b := b) (by omega)
        have hq := HQ.out
        rw [show ((lowB b).toNat : Int) = (b.toNat : Int) + 32 by omega] at hq
        exact ⟨⟨i + 1, by simp, by omega, HB.out.setCell (Nat.le_refl _) _, hq⟩, by simp [intOf]; omega⟩
      all_goals exact ⟨⟨i + 1, by simp, by omega, HB.out, by rw [HN.out (lowB_same (by omega))]; exact HT.out⟩, by simp [intOf]; omega⟩
    · have hie : i = s.size := by omega
      subst hie
      have hfin := HT.out
      rw [List.take_of_length_le (by omega), List.drop_eq_nil_of_le (by omega), List.append_nil] at hfin
      have hbk := hfin.back (P := Tryz.prog) (src := 58) (dst := 9) (e := 5) (n := s.size) (by simp [low]) cap Tryz.underlying58 Tryz.underlying5 Tryz.underlying9
      clear hfin hlen
      go_wp2_with fail
      go_ret
      exact ⟨rfl, HB.out⟩
end Go.Proofs.YtpnnbffhdhbonaaGreatDoor
