/- What the library's functions read of the program's variables, and that it stays. -/
import Derived.Test.YtpnnbffhdhbonaaGreatDoorTxt
import Derived.Test.YtpnnbffhdhbonaaGreatDoorProg
import Derived.Lib.LaidTab
import Derived.Lib.ItoaMem
namespace Go.Proofs.YtpnnbffhdhbonaaGreatDoor
open Go Go.RowKit

/-- the search's bound is some number, the table of powers of ten is laid -/
structure Env (w : World) : Prop where
  max : ∃ m, w.cell? ⟨0, 0, none⟩ = some (.int .i64 m)
  pow : Lib.TabIs Tryz.prog w "internal/strconv.uint64pow10" .u64 Lib.pow10Tab

theorem var_below {P : Program} {w w' : World} {n : String} {cs : Array Value} (h : w.var? P n = some cs) (k : Below w.heap.size w w') : w'.var? P n = some cs := by
  unfold World.var? at h ⊢
  cases hg : P.globalNamed n with
  | none => simp [hg] at h
  | some g =>
    simp only [hg, Option.bind_some] at h ⊢
    have hlt : g < w.heap.size := by
      rcases Nat.lt_or_ge g w.heap.size with h' | h'
      · exact h'
      · simp [Array.getElem?_eq_none h'] at h
    rw [k.block g hlt]
    exact h

theorem Env.next {w w' : World} (h : Env w) (k : Below w.heap.size w w') : Env w' where
  max := by
    obtain ⟨m, hm⟩ := h.max
    exact ⟨m, by rw [k.cell (World.block_lt_of_cell? w _ hm)]; exact hm⟩
  pow := var_below h.pow k
end Go.Proofs.YtpnnbffhdhbonaaGreatDoor
