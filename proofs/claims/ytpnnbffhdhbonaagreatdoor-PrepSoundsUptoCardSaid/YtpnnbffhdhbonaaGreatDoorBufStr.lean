/- append(b, s...): a text's bytes behind a []byte of one's own. -/
import Derived.Test.YtpnnbffhdhbonaaGreatDoorBuf
import Derived.Lib.AppendStr
namespace Go.Proofs.YtpnnbffhdhbonaaGreatDoor
open Go Go.RowKit

theorem strCells_bv (s : ByteArray) : Lib.strCells s = bv s.data.toList := rfl

theorem run_app_str {P : Program} (w : World) (t u ty e : TypeId) (i : TypeInfo) (ht : P.underlying t = some (.slice e)) (hu : P.underlying u = some .string) (hi : P.info? e = some i) (hz : i.zero = some (.int .u8 0))
    (hsize : i.size = 1) (hby : i.bytes = 1) {go : Option Nat} {n cap : Nat} {xs : List Value} (hown : Own w e 1 go n cap xs) (s : ByteArray) (hs0 : 0 < s.size) (hbytes : n + s.size ≤ 140737488355328) :
    ∃ g cap' w', (Builtin.append_ #[t, u] ty #[sv go n cap, .string s]).run P w = .ok (.slice (some ⟨g, 0, none⟩) (n + s.size) cap') w' ∧ Own w' e 1 (some g) (n + s.size) cap' (xs ++ Lib.strCells s) ∧
      w.grownBy w' go ∧ (go = some g ∨ g = w.heap.size) := by
  have h63 : n + s.size ≤ maxLen := by simp only [maxLen]; omega
  have hxl : xs.length = n := by simpa using hown.1
  have hlen : (xs ++ Lib.strCells s).length = (n + s.size) * 1 := by rw [List.length_append, hxl, Lib.strCells_length, Nat.mul_one]
  have grown : ∀ (old : Nat) (row : Option Nat),
      Own (w.drew.alloc (.cells (xs.toArray ++ (Lib.strCells s).toArray ++ Builtin.zeroCells (Value.int .u8 0).cells (grownCap w (n + s.size) old e - (n + s.size))) e)) e 1 (some w.heap.size) (n + s.size) (grownCap w (n + s.size) old e) (xs ++ Lib.strCells s) ∧
      w.grownBy (w.drew.alloc (.cells (xs.toArray ++ (Lib.strCells s).toArray ++ Builtin.zeroCells (Value.int .u8 0).cells (grownCap w (n + s.size) old e - (n + s.size))) e)) row := by
    intro old row
    have hge := grownCap_ge w (n + s.size) old e
    have hcm : grownCap w (n + s.size) old e ≤ maxLen := grownCap_le_maxLen w (n + s.size) old e h63
    refine ⟨Own.mk ⟨(Builtin.zeroCells (Value.int .u8 0).cells (grownCap w (n + s.size) old e - (n + s.size))).toList, ?_, ?_, hcm⟩ hlen hge, ⟨rfl, rfl, rfl, by simp, fun k hk _ => Below.heap_alloc w.drew _ k hk⟩⟩
    · have := heap_alloc_new w.drew (.cells (xs.toArray ++ (Lib.strCells s).toArray ++ Builtin.zeroCells (Value.int .u8 0).cells (grownCap w (n + s.size) old e - (n + s.size))) e)
      refine this.trans ?_
      congr 2
      apply Array.ext'
      simp
    · rw [hlen]
      have hz1 : (Value.int IntKind.u8 0).cells.size = 1 := rfl
      simp only [Array.length_toList, size_zeroCells, hz1]
      omega
  cases go with
  | none =>
    obtain ⟨rfl, rfl⟩ := hown.2
    have hx : xs = [] := List.eq_nil_of_length_eq_zero hxl
    subst hx
    have hr := run_append_nil_string (P := P) w t u ty e i (.int .u8 0) ht hu hi hz s (by omega) (by omega) (by rw [hby]; omega)
    have hgr := grown 0 none
    simp only [Nat.zero_add, List.nil_append, Array.empty_append] at hgr ⊢
    have e1 : (s.data.map fun b => Value.int .u8 b.toNat) = (Lib.strCells s).toArray := by
      apply Array.ext'
      simp [Lib.strCells]
    rw [e1] at hr
    exact ⟨w.heap.size, _, _, hr, hgr.1, hgr.2, .inr rfl⟩
  | some g =>
    obtain ⟨sp, hh, hsl, hcm⟩ := hown.row
    by_cases hroom : n + s.size ≤ cap
    · have hr := Lib.run_append_room_string (P := P) w t u ty e i ht hu hi hsize g n cap (xs ++ sp).toArray hh s hroom (by simp; omega)
      refine ⟨g, cap, _, hr, Own.mk ⟨(xs ++ sp).drop (n + s.size), ?_, ?_, hcm⟩ hlen hroom, ⟨rfl, rfl, rfl, by simp [World.setRow], fun k _ hk => setRow_other w g k _ (fun e => hk (by simp [e]))⟩, .inl rfl⟩
      · rw [setRow_heap w g _ _ e _ hh]
        congr 2
        rw [← hxl]
        simp
      · rw [hlen, List.length_drop, List.length_append]; omega
    · have holds : ∀ j u, xs[j]? = some u → w.cell? ((⟨g, 0, none⟩ : Addr).add j) = some u := fun j u hu => by
        rw [Addr.add_lit, Nat.zero_add]; exact hown.row.cell hu
      have hr := Lib.run_append_grow_string (P := P) w t u ty e i (.int .u8 0) ht hu hi hz ⟨g, 0, none⟩ n cap xs (by rw [hsize]; simpa using hxl) holds s (by omega) (by omega) (by rw [hby]; exact growslice_fits (by omega) (by omega))
      have hgr := grown cap (some g)
      exact ⟨w.heap.size, _, _, hr, hgr.1, hgr.2, .inr rfl⟩

/-- 'append(b, s...)' of a text that is not empty -/
theorem Buf.pushS {w0 w : World} {go : Option Nat} {cap : Nat} {l : List UInt8} (hB : Buf w0 w go cap l) {ops : Array Oper} {rest : List Oper} {o : Oper} {a : Act} {Q : Exit → Act → World → Prop} (hgd : o.guard = none) (sl x : Operand)
    (ho : o.op = .call { callee := .builtin .append, args := #[sl, x], argTypes := #[58, 9] })
    (hs : a.eval sl = sv go l.length cap) (z : ByteArray) (hz : 0 < z.size) (hx : a.eval x = .string z) (hb : l.length + z.size ≤ 140737488355328)
    (h : ∀ g cap' w', Buf w0 w' (some g) cap' (l ++ z.data.toList) → wpList Tryz.prog ops Q rest (a.put o.dst (.slice (some ⟨g, 0, none⟩) (l.length + z.size) cap')) w') :
    wpList Tryz.prog ops Q (o :: rest) a w := by
  obtain ⟨i, h1, h2, h3, h4⟩ := infoU8
  refine wpList_plain hgd fun K hK => ?_
  obtain ⟨g, cap', w', hr, hO, hG, hat⟩ := run_app_str (P := Tryz.prog) w 58 9 o.type 5 i Tryz.underlying58 Tryz.underlying9 h1 h2 h3 h4 hB.own z hz hb
  unfold Oper.wp execOp
  simp only [ho, resolve, invoke, builtin, Sem.run_bind, Sem.run_pure, Result.andThen_ok, List.map_toArray, List.map_cons, List.map_nil, hs, hx, hr]
  refine hK _ _ (h g cap' w' ⟨?_, ?_, ?_⟩)
  · rw [bv_append, List.length_append, ← Lib.size_eq]; exact hO
  · intro k hk; cases hk
    rcases hat with e | e
    · exact hB.fresh _ e
    · rw [e]; exact hB.size
  · exact hB.below.grown hG hB.size fun k hk => hB.fresh k hk
end Go.Proofs.YtpnnbffhdhbonaaGreatDoor
