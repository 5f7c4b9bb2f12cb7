/- What prep.Time's walk leans on: what a moment is, plainly; blocks of three numbers; the code behind a place. -/
import Derived.Test.YtpnnbffhdhbonaaGreatDoorCal
import Derived.Test.YtpnnbffhdhbonaaGreatDoorPair
import Derived.Shelf.Strings.SlTrimAscii
import Derived.ChangeKeysEq
namespace Go.Proofs.YtpnnbffhdhbonaaGreatDoor
open Go Go.RowKit

/-- the two digits at a place -/
def two (v : List UInt8) (i : Nat) : Int := pairL ((v.drop i).take 2)

theorem fresh3 (w : World) (q : Nat) (t : TypeId) (a b c : Value) : ((w.drewN q).alloc (.cells #[a, b, c] t)).heap[w.heap.size]? = some (.cells #[a, b, c] t (0, 0)) := heap_alloc_new (w.drewN q) _
theorem fresh3c (w : World) (q : Nat) (t : TypeId) (a b c : Value) : ((w.drewN q).alloc (.cells #[a, b, c] t)).cell? ⟨w.heap.size, 0, none⟩ = some a ∧ ((w.drewN q).alloc (.cells #[a, b, c] t)).cell? ⟨w.heap.size, 1, none⟩ = some b ∧ ((w.drewN q).alloc (.cells #[a, b, c] t)).cell? ⟨w.heap.size, 2, none⟩ = some c :=
  ⟨cell_of_row _ _ 0 _ _ _ (fresh3 w q t a b c), cell_of_row _ _ 1 _ _ _ (fresh3 w q t a b c), cell_of_row _ _ 2 _ _ _ (fresh3 w q t a b c)⟩
theorem fresh3f (w : World) (q : Nat) (t : TypeId) (a b c : Value) (j : Nat) : ((w.drewN q).alloc (.cells #[a, b, c] t)).frozen? ⟨w.heap.size, j, none⟩ = false := frozen_of_row _ _ _ _ _ (fresh3 w q t a b c)

/-- since w0: block g, a new one, holds three numbers -/
structure Civ (w0 w : World) (g : Nat) (t : TypeId) (a b c : Int) : Prop where
  row : w.heap[g]? = some (.cells #[.int .i64 a, .int .i64 b, .int .i64 c] t (0, 0))
  ge : w0.heap.size ≤ g
  below : Below w0.heap.size w0 w
theorem Civ.set {w0 w : World} {g : Nat} {t : TypeId} {x y z : Value} (hh : w.heap[g]? = some (.cells #[x, y, z] t (0, 0))) (hg : w0.heap.size ≤ g) (hb : Below w0.heap.size w0 w) (a b c : Int) :
    Civ w0 (((w.setCell ⟨g, 0, none⟩ (.int .i64 a)).setCell ⟨g, 1, none⟩ (.int .i64 b)).setCell ⟨g, 2, none⟩ (.int .i64 c)) g t a b c where
  row := heap_setCell_same _ g 2 _ t _ (heap_setCell_same _ g 1 _ t _ (heap_setCell_same _ g 0 _ t _ hh))
  ge := hg
  below := ((hb.setCell hg _).setCell hg _).setCell hg _
theorem Civ.next {w0 w w' : World} {g : Nat} {t : TypeId} {a b c : Int} (h : Civ w0 w g t a b c) (k : Below w.heap.size w w') : Civ w0 w' g t a b c :=
  ⟨(k.block g (Array.getElem?_eq_some_iff.1 h.row).1).trans h.row, h.ge, bnext h.below k⟩
theorem Civ.cells {w0 w : World} {g : Nat} {t : TypeId} {a b c : Int} (h : Civ w0 w g t a b c) : w.cell? ⟨g, 0, none⟩ = some (.int .i64 a) ∧ w.cell? ⟨g, 1, none⟩ = some (.int .i64 b) ∧ w.cell? ⟨g, 2, none⟩ = some (.int .i64 c) :=
  ⟨cell_of_row _ _ 0 _ _ _ h.row, cell_of_row _ _ 1 _ _ _ h.row, cell_of_row _ _ 2 _ _ _ h.row⟩

theorem civ_a (w : World) (q : Nat) (t : TypeId) (x y z : Value) (a b c : Int) : Civ w (((((w.drewN q).alloc (.cells #[x, y, z] t)).setCell ⟨w.heap.size, 0, none⟩ (.int .i64 a)).setCell ⟨w.heap.size, 1, none⟩ (.int .i64 b)).setCell ⟨w.heap.size, 2, none⟩ (.int .i64 c)) w.heap.size t a b c :=
  Civ.set (fresh3 w q t x y z) (Nat.le_refl _) ((bdrewN (Below.refl _ w) q).alloc (Nat.le_refl _) _) a b c
theorem civ_b (w : World) (q r : Nat) (t : TypeId) (x y z : Value) (a b c : Int) : Civ w ((((((w.drewN q).alloc (.cells #[x, y, z] t)).drewN r).setCell ⟨w.heap.size, 0, none⟩ (.int .i64 a)).setCell ⟨w.heap.size, 1, none⟩ (.int .i64 b)).setCell ⟨w.heap.size, 2, none⟩ (.int .i64 c)) w.heap.size t a b c :=
  Civ.set (w := ((w.drewN q).alloc (.cells #[x, y, z] t)).drewN r) (fresh3 w q t x y z) (Nat.le_refl _) (bdrewN ((bdrewN (Below.refl _ w) q).alloc (Nat.le_refl _) _) r) a b c

/-- a piece of code that goes on in one frame: what is known of the world behind it -/
theorem wp_one {P : Program} {c : Code} {Q : Exit → Act → World → Prop} {a : Act} {w : World} (A : Act) (R : World → Prop) (hw : c.wp P (fun e a' w' => e = .normal ∧ a' = A ∧ R w') a w) (hi : ∀ w', R w' → Q .normal A w') : c.wp P Q a w :=
  Code.wp_mono (fun e a' w' ⟨h1, h2, h3⟩ => by subst h1; subst h2; exact hi w' h3) hw

theorem two_ok (v : ByteArray) (i : Nat) (h : i + 2 ≤ 14) (h15 : 14 ≤ v.size) (hd : ∀ b ∈ v.data.toList.take 14, dig b = true) :
    ∃ a b, v.extract i (i + 2) = ⟨#[a, b]⟩ ∧ pairL [a, b] = two v.data.toList i ∧ 0 ≤ two v.data.toList i ∧ two v.data.toList i ≤ 99 := by
  have hl : v.data.toList.length = v.size := by simp
  have e : (v.data.toList.drop i).take 2 = [v.data.toList[i]'(by omega), v.data.toList[i + 1]'(by omega)] := by
    rw [List.drop_eq_getElem_cons (by omega), List.drop_eq_getElem_cons (i := i + 1) (by omega)]; rfl
  refine ⟨v.data.toList[i]'(by omega), v.data.toList[i + 1]'(by omega), ?_, ?_, ?_⟩
  · rw [Lib.extract_eq, show i + 2 - i = 2 by omega, e]
  · unfold two; rw [e]
  · have hm : ∀ j (hj : j < 14), dig (v.data.toList[j]'(by omega)) = true := fun j hj => hd _ (by
      rw [List.mem_take_iff_getElem]; exact ⟨j, by omega, rfl⟩)
    have h1 := hm i (by omega)
    have h2 := hm (i + 1) (by omega)
    unfold two
    rw [e, show pairL [v.data.toList[i]'(by omega), v.data.toList[i + 1]'(by omega)] = _ from if_pos ⟨h1, h2⟩]
    have a1 := (dig_iff _).1 h1
    have a2 := (dig_iff _).1 h2
    omega

def yearT (v : List UInt8) : Int := two v 0 * 100 + two v 2
/-- is the head of a text a day and a time of day? -/
def headT (v : List UInt8) : Bool := !(decide (two v 4 < 1) || decide (12 < two v 4) || decide (two v 6 < 1) || !(dateI (daysI (yearT v) (two v 4) (two v 6)) == (yearT v, two v 4, two v 6)) ||
  decide (23 < two v 8) || decide (59 < two v 10) || decide (59 < two v 12))
def digits10 : List UInt8 := [48, 49, 50, 51, 52, 53, 54, 55, 56, 57]
/-- the fraction and the zone's text behind the second -/
def fracT (t : List UInt8) : Option (List UInt8 × List UInt8) := match t with
  | [] => some ([], [])
  | c :: r => if c = 46 ∨ c = 44 then
      (if r.length - (Lib.trimLeftS r digits10).length < 1 ∨ 9 < r.length - (Lib.trimLeftS r digits10).length then none
       else some (Lib.trimRightB (r.take (r.length - (Lib.trimLeftS r digits10).length)) 48, Lib.trimLeftS r digits10))
      else some ([], c :: r)
def secT (v : List UInt8) (ahead : Int) : Int := daysI (yearT v) (two v 4) (two v 6) * 86400 + (two v 8 * 3600 + two v 10 * 60 + two v 12 - ahead * 60)
def timeL (v : List UInt8) : Int × List UInt8 × Bool :=
  if v.length < 15 ∨ 65536 < v.length ∨ (v.take 14).all dig = false ∨ headT v = false then (0, [], false)
  else match fracT (v.drop 14) with
    | none => (0, [], false)
    | some (rest, z) => if (zoneL z).2 = false ∨ secT v (zoneL z).1 < -62167219200 ∨ 253402300800 ≤ secT v (zoneL z).1 then (0, [], false)
      else (secT v (zoneL z).1, rest, true)
/-- a moment whose fraction is read: from the zone on -/
def timeZ (Y M D h m s : Int) (rest z : List UInt8) : Int × List UInt8 × Bool :=
  if (zoneL z).2 = false ∨ daysI Y M D * 86400 + (h * 3600 + m * 60 + s - (zoneL z).1 * 60) < -62167219200 ∨ 253402300800 ≤ daysI Y M D * 86400 + (h * 3600 + m * 60 + s - (zoneL z).1 * 60) then (0, [], false)
  else (daysI Y M D * 86400 + (h * 3600 + m * 60 + s - (zoneL z).1 * 60), rest, true)
/-- a moment whose day and time of day are read -/
def timeT (Y M D h m s : Int) (t : List UInt8) : Int × List UInt8 × Bool :=
  if M < 1 ∨ 12 < M ∨ D < 1 ∨ dateI (daysI Y M D) ≠ (Y, M, D) ∨ 23 < h ∨ 59 < m ∨ 59 < s then (0, [], false)
  else match fracT t with
    | none => (0, [], false)
    | some (rest, z) => timeZ Y M D h m s rest z
def ret3 (p : Int × List UInt8 × Bool) : Value := .tuple #[.int .i64 p.1, .string ⟨p.2.1.toArray⟩, .bool p.2.2]

theorem daysI_range {y m d : Int} (y0 : 0 ≤ y) (y1 : y ≤ 9999) (m0 : 1 ≤ m) (m1 : m ≤ 12) (d0 : 1 ≤ d) (d1 : d ≤ 99) : -719530 ≤ daysI y m d ∧ daysI y m d ≤ 4000000 := by
  unfold daysI
  by_cases h : m ≤ 2
  · simp only [if_pos h]; omega
  · simp only [if_neg h]; omega

theorem zoneL_range (z : List UInt8) : -1439 ≤ (zoneL z).1 ∧ (zoneL z).1 ≤ 1439 := by
  unfold zoneL
  split
  · decide
  · rename_i p a b c d
    have h1 := pairL_range a b
    have h2 := pairL_range c d
    split
    · split
      · decide
      · split <;> dsimp only <;> omega
    · decide
  · decide

/-- two days are the same or not -/
theorem eq3 (w : World) (a b c x y z : Int) : (Op.equalIn 10000 45 (.agg #[.int .i64 a, .int .i64 b, .int .i64 c]) (.agg #[.int .i64 x, .int .i64 y, .int .i64 z])).run Tryz.prog w = .ok (a == x && (b == y && c == z)) w := by
  have he : ∀ (p q : Int), (Op.equalIn 9999 3 (.int .i64 p) (.int .i64 q)).run Tryz.prog w = .ok (p == q) w := fun p q => run_equalIn_int w 9998 3 .i64 .i64 p q Tryz.underlying3
  obtain ⟨i, hi⟩ : ∃ i, Tryz.prog.info? 3 = some i := by
    cases h : Tryz.prog.info? 3 with
    | none => exact absurd h (by have h2 : (Tryz.prog.info? 3).isSome = true := by kernel_rfl
                                 rw [h] at h2; cases h2)
    | some i => exact ⟨i, rfl⟩
  have hc : Tryz.prog.cellsOf 3 = 1 := by kernel_rfl
  have hp : ∀ (p q r : Value), (part 3 #[p, q, r] 0).run Tryz.prog w = .ok p w ∧ (part 3 #[p, q, r] 1).run Tryz.prog w = .ok q w ∧ (part 3 #[p, q, r] 2).run Tryz.prog w = .ok r w := fun p q r => ⟨by kernel_rfl, by kernel_rfl, by kernel_rfl⟩
  rw [run_equalIn_array (P := Tryz.prog) w 9999 _ _ Tryz.underlying45 hi, hc, show List.range 3 = [0, 1, 2] from rfl]
  simp only [Op.eqItems, Sem.run_bind, Nat.mul_one, (hp _ _ _).1, Result.andThen_ok, he]
  cases h1 : (a == x) <;> cases h2 : (b == y) <;> cases h3 : (c == z) <;> simp [(hp _ _ _).2.1, (hp _ _ _).2.2, he, h2, h3, Result.andThen]

def isReg (n : Nat) : Code → Bool
  | .region k _ _ => k == n
  | .seq a _ => isReg n a
  | _ => false
/-- the code from a region on -/
def tailOf (n : Nat) : Code → Option Code
  | .seq a b => if isReg n a then some (.seq a b) else match tailOf n a with
    | some x => some x
    | none => tailOf n b
  | .block _ c => tailOf n c
  | _ => none
end Go.Proofs.YtpnnbffhdhbonaaGreatDoor
