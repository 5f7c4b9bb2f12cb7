/- A []byte of one's own: what make, append, stores and string(b) do with it. -/
import Derived.Test.YtpnnbffhdhbonaaGreatDoorTxt
import Derived.Test.YtpnnbffhdhbonaaGreatDoorProg
import Derived.Laws.IdiomStrings
import Derived.Laws.MakeOwn
import Derived.Laws.OwnMore
namespace Go.Proofs.YtpnnbffhdhbonaaGreatDoor
open Go Go.RowKit

/-- bytes as cells -/
def bv (l : List UInt8) : List Value := l.map fun b => .int .u8 (b.toNat : Int)
@[simp] theorem bv_length (l : List UInt8) : (bv l).length = l.length := by simp [bv]
theorem bv_one (l : List UInt8) : ∀ u ∈ bv l, u.oneCell' = true := by
  intro u hu; obtain ⟨x, _, rfl⟩ := List.mem_map.1 hu; rfl
theorem bv_get {l : List UInt8} {j : Nat} {b : UInt8} (h : l[j]? = some b) : (bv l)[j]? = some (.int .u8 (b.toNat : Int)) := by simp [bv, h]
theorem bv_append (l m : List UInt8) : bv (l ++ m) = bv l ++ bv m := by simp [bv]
theorem bv_set (l : List UInt8) (i : Nat) (b : UInt8) : (bv l).set i (.int .u8 (b.toNat : Int)) = bv (l.set i b) := by simp [bv, List.map_set]

/-- since w0: a slice of bytes in a block of its own (or nil), that holds l; nothing that was there has turned -/
structure Buf (w0 w : World) (go : Option Nat) (cap : Nat) (l : List UInt8) : Prop where
  own : Own w 5 1 go l.length cap (bv l)
  fresh : ∀ g, go = some g → w0.heap.size ≤ g
  below : Below w0.heap.size w0 w

section
variable {w0 w : World} {go : Option Nat} {cap g : Nat} {l : List UInt8}
theorem Buf.nil (w : World) : Buf w w none 0 [] := { own := Own.nil _ _ _, fresh := (fun _ h => by cases h), below := Below.refl _ _ }
theorem Buf.size (h : Buf w0 w go cap l) : w0.heap.size ≤ w.heap.size := h.below.size
theorem Buf.next {w' : World} (h : Buf w0 w go cap l) (k : Below w.heap.size w w') : Buf w0 w' go cap l :=
  ⟨h.own.keep fun g e => k.block g (by have := h.own; rw [e] at this; exact this.row.lt), h.fresh, bnext h.below k⟩
theorem Buf.alloc (h : Buf w0 w go cap l) (o : Obj) : Buf w0 (w.alloc o) go cap l := h.next ((Below.refl _ w).alloc (Nat.le_refl _) o)
theorem Buf.row (h : Buf w0 w (some g) cap l) : Row w g 5 1 cap (bv l) := h.own.row
theorem Buf.cell (h : Buf w0 w (some g) cap l) {j : Nat} {b : UInt8} (hj : l[j]? = some b) : w.cell? ⟨g, j, none⟩ = some (.int .u8 (b.toNat : Int)) := h.row.cell (bv_get hj)
theorem Buf.frozen (h : Buf w0 w (some g) cap l) (j : Nat) : w.frozen? ⟨g, j, none⟩ = false := h.row.frozen j
theorem Buf.le (h : Buf w0 w (some g) cap l) : l.length ≤ cap := h.own.le
theorem Buf.set (h : Buf w0 w (some g) cap l) {j : Nat} (hj : j < l.length) (b : UInt8) : Buf w0 (w.setCell ⟨g, j, none⟩ (.int .u8 (b.toNat : Int))) (some g) cap (l.set j b) where
  own := by
    have h1 := h.row.set (j := j) (by simpa using hj) (.int .u8 (b.toNat : Int))
    rw [bv_set] at h1
    exact Own.mk h1 (by simp) (by simpa using h.le)
  fresh := h.fresh
  below := h.below.setCell (h.fresh g rfl) _

/-- 'string(b)' -/
theorem Buf.back (h : Buf w0 w (some g) cap l) {n : Nat} (hn : n = l.length) (c : Nat) :
    (convert 58 9 (.slice (some ⟨g, 0, none⟩) n c)).run Tryz.prog w = .ok (.string ⟨l.toArray⟩) w := by
  subst hn
  exact run_convert_bytes_back w 58 9 5 ⟨g, 0, none⟩ c l Tryz.underlying58 Tryz.underlying5 Tryz.underlying9 fun j hj => by
    have := h.cell (List.getElem?_eq_getElem hj)
    rw [← this]; congr 1; simp [Addr.add]; intro h0; rw [h0]

theorem infoU8 : ∃ i, Tryz.prog.info? 5 = some i ∧ i.zero = some (.int .u8 0) ∧ i.size = 1 ∧ i.bytes = 1 := by
  have h : (Tryz.prog.info? 5).map (fun i => (i.zero, i.size, i.bytes)) = some (some (.int .u8 0), 1, 1) := by kernel_rfl
  cases hi : Tryz.prog.info? 5 with
  | none => rw [hi] at h; cases h
  | some i =>
    rw [hi] at h
    simp only [Option.map_some, Option.some.injEq, Prod.mk.injEq] at h
    exact ⟨i, rfl, h.1, h.2.1, h.2.2⟩

/-- 'append(b, x)' of one byte, behind the one-element list that the call makes -/
theorem Buf.push (hB : Buf w0 w go cap l) {ops : Array Oper} {rest : List Oper} {o : Oper} {a : Act} {Q : Exit → Act → World → Prop} (hgd : o.guard = none) (s x : Operand)
    (ho : o.op = .call { callee := .builtin .append, args := #[s, x], argTypes := #[58, 58] })
    (hs : a.eval s = sv go l.length cap) (b : UInt8) {v : Value} (hv : v = .int .u8 (b.toNat : Int)) (hx : a.eval x = .slice (some ⟨w.heap.size, 0, none⟩) 1 1) (hb : l.length + 1 ≤ 140737488355328)
    (h : ∀ g cap' w', Buf w0 w' (some g) cap' (l ++ [b]) → wpList Tryz.prog ops Q rest (a.put o.dst (.slice (some ⟨g, 0, none⟩) (l.length + 1) cap')) w') :
    wpList Tryz.prog ops Q (o :: rest) a (w.alloc (.cells #[v] 5)) := by
  subst hv
  obtain ⟨i, h1, h2, h3, h4⟩ := infoU8
  have hA := hB.alloc (.cells #[.int .u8 (b.toNat : Int)] 5)
  refine wpList_app hgd s x 58 ho 5 i (.int .u8 0) 1 1 Tryz.underlying58 h1 h2 h3 h4 rfl (by decide) (by decide) go l.length cap (bv l) hs hA.own
    (some ⟨w.heap.size, 0, none⟩) 1 1 [.int .u8 (b.toNat : Int)] hx (fun h => by cases h) rfl (news_new w [.int .u8 (b.toNat : Int)] #[.int .u8 (b.toNat : Int)] 5 rfl) (fun u hu => by simp at hu; subst hu; rfl) (by omega) (by omega) ?_
  intro g' cap' w' hO hG hat
  refine h g' cap' w' ⟨?_, ?_, ?_⟩
  · rw [bv_append]; simpa [bv] using hO
  · intro k hk; cases hk
    rcases hat with e | e
    · exact hB.fresh _ e
    · rw [e]; have := hA.size; simpa using this
  · refine hA.below.grown hG hA.size fun k hk => hB.fresh k hk

/-- 'make([]byte, 0, c)' -/
theorem make0 (w : World) (c : Nat) (hc : c ≤ 140737488355328) :
    ∃ w', (Instr.makeSlice 58 (.int .i64 0) (.int .i64 (c : Int))).run Tryz.prog w = .ok (.slice (some ⟨w.heap.size, 0, none⟩) 0 c) w' ∧ Buf w w' (some w.heap.size) c [] := by
  obtain ⟨i, h1, h2, h3, h4⟩ := infoU8
  obtain ⟨w', hr, ho, hg⟩ := run_make_own (P := Tryz.prog) w 0 58 5 i (.int .u8 0) 1 Tryz.underlying58 h1 h2 h3 .i64 .i64 c (by rw [h4]; omega) (by unfold maxLen; omega) (Nat.zero_le _)
  refine ⟨w', hr, ⟨Own.mk (Row.of_owns ho) rfl (Nat.zero_le _), fun g hg => by cases hg; exact Nat.le_refl _, (Below.refl _ w).grown hg (Nat.le_refl _) (fun _ h => by cases h)⟩⟩

theorem madeZ (n : Nat) : (madeCells (Value.int .u8 0).cells n).toList = bv (List.replicate n 0) := by
  apply List.ext_getElem (by rw [Array.length_toList, size_madeCells]; simp)
  intro j h1 h2
  simp [madeCells, bv, Value.cells, Nat.mod_one]
/-- 'make([]byte, n)' -/
theorem makeN (w : World) (n : Nat) (hc : n ≤ 140737488355328) :
    ∃ w', (Instr.makeSlice 58 (.int .i64 (n : Int)) (.int .i64 (n : Int))).run Tryz.prog w = .ok (.slice (some ⟨w.heap.size, 0, none⟩) n n) w' ∧ Buf w w' (some w.heap.size) n (List.replicate n 0) := by
  obtain ⟨i, h1, h2, h3, h4⟩ := infoU8
  obtain ⟨w', hr, ho, hg⟩ := run_make_full (P := Tryz.prog) w 0 58 5 i (.int .u8 0) 1 Tryz.underlying58 h1 h2 h3 .i64 .i64 n (by rw [h4]; omega) (by unfold maxLen; omega) (Nat.zero_le _)
  rw [Nat.mul_one, madeZ] at ho
  exact ⟨w', hr, ⟨Own.mk (Row.of_owns (by simpa using ho)) (by simp) (by simp), fun g hg => by cases hg; exact Nat.le_refl _, (Below.refl _ w).grown hg (Nat.le_refl _) (fun _ h => by cases h)⟩⟩
end
end Go.Proofs.YtpnnbffhdhbonaaGreatDoor
