/- Part 3 of the walks and plain laws, joined: TimeKit, Moment, MomentTail, TimeZone, TimeTail. -/
import Derived.Test.YtlmfbjhokkpjhaaGreatDoorNM00
import Derived.Test.YtlmfbjhokkpjhaaGreatDoorNM02
import Derived.Test.YtlmfbjhokkpjhaaGreatDoorNM01
import Derived.Shelf.Strings.SlTrimAscii
import Derived.ChangeKeysEq
import Derived.Deep.RegionHeld3
set_option linter.unusedVariables false
set_option linter.unusedSimpArgs false
namespace Go.Proofs.YtlmfbjhokkpjhaaGreatDoor
open Go Go.RowKit
def two (v : List UInt8) (i : Nat) : Int := pairL ((v.drop i).take 2)
theorem fresh3 (w : World) (q : Nat) (t : TypeId) (a b c : Value) : ((w.drewN q).alloc (.cells #[a, b, c] t)).heap[w.heap.size]? = some (.cells #[a, b, c] t (0, 0)) := heap_alloc_new (w.drewN q) _
theorem fresh3c (w : World) (q : Nat) (t : TypeId) (a b c : Value) : ((w.drewN q).alloc (.cells #[a, b, c] t)).cell? ⟨w.heap.size, 0, none⟩ = some a ∧ ((w.drewN q).alloc (.cells #[a, b, c] t)).cell? ⟨w.heap.size, 1, none⟩ = some b ∧ ((w.drewN q).alloc (.cells #[a, b, c] t)).cell? ⟨w.heap.size, 2, none⟩ = some c :=
 ⟨cell_of_row _ _ 0 _ _ _ (fresh3 w q t a b c), cell_of_row _ _ 1 _ _ _ (fresh3 w q t a b c), cell_of_row _ _ 2 _ _ _ (fresh3 w q t a b c)⟩
theorem fresh3f (w : World) (q : Nat) (t : TypeId) (a b c : Value) (j : Nat) : ((w.drewN q).alloc (.cells #[a, b, c] t)).frozen? ⟨w.heap.size, j, none⟩ = false := frozen_of_row _ _ _ _ _ (fresh3 w q t a b c)
structure Civ (w0 w : World) (g : Nat) (t : TypeId) (a b c : Int) : Prop where
 row : w.heap[g]? = some (.cells #[.int .i64 a, .int .i64 b, .int .i64 c] t (0, 0))
 ge : w0.heap.size ≤ g
 below : Below w0.heap.size w0 w
theorem Civ.set {w0 w : World} {g : Nat} {t : TypeId} {x y z : Value} (hh : w.heap[g]? = some (.cells #[x, y, z] t (0, 0))) (hg : w0.heap.size ≤ g) (hb : Below w0.heap.size w0 w) (a b c : Int) :
  Civ w0 (((w.setCell ⟨g, 0, none⟩ (.int .i64 a)).setCell ⟨g, 1, none⟩ (.int .i64 b)).setCell ⟨g, 2, none⟩ (.int .i64 c)) g t a b c where
 row := heap_setCell_same _ g 2 _ t _ (heap_setCell_same _ g 1 _ t _ (heap_setCell_same _ g 0 _ t _ hh))
 ge := hg
 below := ((hb.setCell hg _).setCell hg _).setCell hg _
theorem Civ.next {w0 w w' : World} {g : Nat} {t : TypeId} {a b c : Int} (h : Civ w0 w g t a b c) (k : Below w.heap.size w w') : Civ w0 w' g t a b c :=
 ⟨(k.block g (Array.getElem?_eq_some_iff.1 h.row).1).trans h.row, h.ge, bnext h.below k⟩
theorem Civ.cells {w0 w : World} {g : Nat} {t : TypeId} {a b c : Int} (h : Civ w0 w g t a b c) : w.cell? ⟨g, 0, none⟩ = some (.int .i64 a) ∧ w.cell? ⟨g, 1, none⟩ = some (.int .i64 b) ∧ w.cell? ⟨g, 2, none⟩ = some (.int .i64 c) :=
 ⟨cell_of_row _ _ 0 _ _ _ h.row, cell_of_row _ _ 1 _ _ _ h.row, cell_of_row _ _ 2 _ _ _ h.row⟩
theorem civ_a (w : World) (q : Nat) (t : TypeId) (x y z : Value) (a b c : Int) : Civ w (((((w.drewN q).alloc (.cells #[x, y, z] t)).setCell ⟨w.heap.size, 0, none⟩ (.int .i64 a)).setCell ⟨w.heap.size, 1, none⟩ (.int .i64 b)).setCell ⟨w.heap.size, 2, none⟩ (.int .i64 c)) w.heap.size t a b c :=
 Civ.set (fresh3 w q t x y z) (Zr _) ((bdrewN (Zl _ w) q).alloc (Zr _) _) a b c
theorem civ_b (w : World) (q r : Nat) (t : TypeId) (x y z : Value) (a b c : Int) : Civ w ((((((w.drewN q).alloc (.cells #[x, y, z] t)).drewN r).setCell ⟨w.heap.size, 0, none⟩ (.int .i64 a)).setCell ⟨w.heap.size, 1, none⟩ (.int .i64 b)).setCell ⟨w.heap.size, 2, none⟩ (.int .i64 c)) w.heap.size t a b c :=
 Civ.set (w := ((w.drewN q).alloc (.cells #[x, y, z] t)).drewN r) (fresh3 w q t x y z) (Zr _) (bdrewN ((bdrewN (Zl _ w) q).alloc (Zr _) _) r) a b c
theorem wp_one {P : Program} {c : Code} {Q : Exit → Act → World → Prop} {a : Act} {w : World} (A : Act) (R : World → Prop) (hw : c.wp P (fun e a' w' => e = .normal ∧ a' = A ∧ R w') a w) (hi : ∀ w', R w' → Q .normal A w') : c.wp P Q a w :=
 Code.wp_mono (fun e a' w' ⟨h1, h2, h3⟩ => by subst h1; subst h2; exact hi w' h3) hw
theorem two_ok (v : ByteArray) (i : Nat) (h : i + 2 ≤ 14) (h15 : 14 ≤ v.size) (hd : ∀ b ∈ v.data.toList.take 14, dig b = true) :
  ∃ a b, v.extract i (i + 2) = ⟨#[a, b]⟩ ∧ pairL [a, b] = two v.data.toList i ∧ 0 ≤ two v.data.toList i ∧ two v.data.toList i ≤ 99 := by
 have hl : v.data.toList.length = v.size := by simp
 have e : (v.data.toList.drop i).take 2 = [v.data.toList[i]'(by omega), v.data.toList[i + 1]'(by omega)] := by
  rw [List.drop_eq_getElem_cons (by omega), List.drop_eq_getElem_cons (i := i + 1) (by omega)]; rfl
 refine ⟨v.data.toList[i]'(by omega), v.data.toList[i + 1]'(by omega), ?_, ?_, ?_⟩
 ·rw [Lib.extract_eq, show i + 2 - i = 2 by omega, e]
 ·unfold two; rw [e]
 ·have hm : ∀ j (hj : j < 14), dig (v.data.toList[j]'(by omega)) = true := fun j hj => hd _ (by
   rw [List.mem_take_iff_getElem]; exact ⟨j, by omega, rfl⟩)
  have h1 := hm i (by omega)
  have h2 := hm (i + 1) (by omega)
  unfold two
  rw [e, show pairL [v.data.toList[i]'(by omega), v.data.toList[i + 1]'(by omega)] = _ from if_pos ⟨h1, h2⟩]
  have a1 := (dig_iff _).1 h1
  have a2 := (dig_iff _).1 h2
  omega
def yearT (v : List UInt8) : Int := two v 0 * 100 + two v 2
def headT (v : List UInt8) : Bool := !(decide (two v 4 < 1) || decide (12 < two v 4) || decide (two v 6 < 1) || !(dateI (daysI (yearT v) (two v 4) (two v 6)) == (yearT v, two v 4, two v 6)) ||
 decide (23 < two v 8) || decide (59 < two v 10) || decide (59 < two v 12))
def digits10 : List UInt8 := [48, 49, 50, 51, 52, 53, 54, 55, 56, 57]
def fracT (t : List UInt8) : Option (List UInt8 × List UInt8) := match t with
  | [] => some ([], [])
  | c :: r => if c = 46 ∨ c = 44 then
      (if r.length - (Lib.trimLeftS r digits10).length < 1 ∨ 9 < r.length - (Lib.trimLeftS r digits10).length then none
       else some (Lib.trimRightB (r.take (r.length - (Lib.trimLeftS r digits10).length)) 48, Lib.trimLeftS r digits10))
      else some ([], c :: r)
def secT (v : List UInt8) (ahead : Int) : Int := daysI (yearT v) (two v 4) (two v 6) * 86400 + (two v 8 * 3600 + two v 10 * 60 + two v 12 - ahead * 60)
def timeL (v : List UInt8) : Int × List UInt8 × Bool :=
 if v.length < 15 ∨ 65536 < v.length ∨ (v.take 14).all dig = false ∨ headT v = false then (0, [], false)
 else match fracT (v.drop 14) with
  | none => (0, [], false)
  | some (rest, z) => if (zoneL z).2 = false ∨ secT v (zoneL z).1 < -62167219200 ∨ 253402300800 ≤ secT v (zoneL z).1 then (0, [], false)
   else (secT v (zoneL z).1, rest, true)
def timeZ (Y M D h m s : Int) (rest z : List UInt8) : Int × List UInt8 × Bool :=
 if (zoneL z).2 = false ∨ daysI Y M D * 86400 + (h * 3600 + m * 60 + s - (zoneL z).1 * 60) < -62167219200 ∨ 253402300800 ≤ daysI Y M D * 86400 + (h * 3600 + m * 60 + s - (zoneL z).1 * 60) then (0, [], false)
 else (daysI Y M D * 86400 + (h * 3600 + m * 60 + s - (zoneL z).1 * 60), rest, true)
def timeT (Y M D h m s : Int) (t : List UInt8) : Int × List UInt8 × Bool :=
 if M < 1 ∨ 12 < M ∨ D < 1 ∨ dateI (daysI Y M D) ≠ (Y, M, D) ∨ 23 < h ∨ 59 < m ∨ 59 < s then (0, [], false)
 else match fracT t with
  | none => (0, [], false)
  | some (rest, z) => timeZ Y M D h m s rest z
def ret3 (p : Int × List UInt8 × Bool) : Value := .tuple #[.int .i64 p.1, .string ⟨p.2.1.toArray⟩, .bool p.2.2]
theorem daysI_range {y m d : Int} (y0 : 0 ≤ y) (y1 : y ≤ 9999) (m0 : 1 ≤ m) (m1 : m ≤ 12) (d0 : 1 ≤ d) (d1 : d ≤ 99) : -719530 ≤ daysI y m d ∧ daysI y m d ≤ 4000000 := by
 unfold daysI
 by_cases h : m ≤ 2
 ·simp only [if_pos h]; omega
 ·simp only [if_neg h]; omega
theorem zoneL_range (z : List UInt8) : -1439 ≤ (zoneL z).1 ∧ (zoneL z).1 ≤ 1439 := by
 unfold zoneL
 split
 ·decide
 ·rename_i p a b c d
  have h1 := pairL_range a b
  have h2 := pairL_range c d
  split
  ·split
   ·decide
   ·split <;> dsimp only <;> omega
  ·decide
 ·decide
theorem eq3 (w : World) (a b c x y z : Int) : (Op.equalIn 10000 239 (.agg #[.int .i64 a, .int .i64 b, .int .i64 c]) (.agg #[.int .i64 x, .int .i64 y, .int .i64 z])).run Tryz.prog w = .ok (a == x && (b == y && c == z)) w := by
  have he : ∀ (p q : Int), (Op.equalIn 9999 3 (.int .i64 p) (.int .i64 q)).run Tryz.prog w = .ok (p == q) w := fun p q => run_equalIn_int w 9998 3 .i64 .i64 p q Tryz.underlying3
  obtain ⟨i, hi⟩ : ∃ i, Tryz.prog.info? 3 = some i := by
    cases h : Tryz.prog.info? 3 with
    | none => exact absurd h (by have h2 : (Tryz.prog.info? 3).isSome = true := by kernel_rfl
                                 rw [h] at h2; cases h2)
    | some i => exact ⟨i, rfl⟩
  have hc : Tryz.prog.cellsOf 3 = 1 := by kernel_rfl
  have hp : ∀ (p q r : Value), (part 3 #[p, q, r] 0).run Tryz.prog w = .ok p w ∧ (part 3 #[p, q, r] 1).run Tryz.prog w = .ok q w ∧ (part 3 #[p, q, r] 2).run Tryz.prog w = .ok r w := fun p q r => ⟨by kernel_rfl, by kernel_rfl, by kernel_rfl⟩
  rw [run_equalIn_array (P := Tryz.prog) w 9999 _ _ Tryz.underlying239 hi, hc, show List.range 3 = [0, 1, 2] from rfl]
  simp only [Op.eqItems, Sem.run_bind, Nat.mul_one, (hp _ _ _).1, Result.andThen_ok, he]
  cases h1 : (a == x) <;> cases h2 : (b == y) <;> cases h3 : (c == z) <;> simp [(hp _ _ _).2.1, (hp _ _ _).2.2, he, h2, h3, Result.andThen]
def isReg (n : Nat) : Code → Bool
 | .region k _ _ => k == n
 | .seq a _ => isReg n a
 | _ => false
def tailOf (n : Nat) : Code → Option Code
 | .seq a b => if isReg n a then some (.seq a b) else match tailOf n a with
  | some x => some x
  | none => tailOf n b
 | .block _ c => tailOf n c
 | _ => none
def momentL (n : Int) (rest : List UInt8) : List UInt8 :=
 wideL (dateI (n / 86400)).1.toNat 4 ++ (wideL (dateI (n / 86400)).2.1.toNat 2 ++ (wideL (dateI (n / 86400)).2.2.toNat 2 ++
  (wideL (n % 86400 / 3600).toNat 2 ++ (wideL (n % 86400 / 60 % 60).toNat 2 ++ (wideL (n % 86400 % 60).toNat 2 ++ rest)))))
def timeFormL (v : List UInt8) : List UInt8 × Bool := if (timeL v).2.2 = true then (momentL (timeL v).1 (timeL v).2.1, true) else ([], false)
theorem dateI_range (n : Int) (h0 : -719528 ≤ n) (h1 : n ≤ 2932896) : (0 ≤ (dateI n).1 ∧ (dateI n).1 ≤ 9999) ∧ (1 ≤ (dateI n).2.1 ∧ (dateI n).2.1 ≤ 12) ∧ (1 ≤ (dateI n).2.2 ∧ (dateI n).2.2 ≤ 31) := by
 obtain ⟨N, hN⟩ : ∃ N, n + 719468 = N := ⟨_, rfl⟩
 obtain ⟨E, hE⟩ : ∃ E, N / 146097 = E := ⟨_, rfl⟩
 obtain ⟨I, hI⟩ : ∃ I, N - E * 146097 = I := ⟨_, rfl⟩
 obtain ⟨Y, O, M, hY, y0, y1, hO, o0, o1, hM, m0, m1⟩ := date_facts I (by omega) (by omega)
 have hD : dateI n = (if 12 < M + 3 then Y + E * 400 + 1 else Y + E * 400, if 12 < M + 3 then M + 3 - 12 else M + 3, O - (153 * M + 2) / 5 + 1) := by
  unfold dateI; simp only [hN, hE, hI, hY, hO, hM]
 rw [hD]
 have a1 : E = -1 → Y = 399 ∧ 12 < M + 3 := by
  intro e
  have hI2 : 146037 ≤ I := by omega
  have q1 : I / 1460 = 100 := by omega
  have q2 : I / 36524 = 3 ∨ I / 36524 = 4 := by omega
  have q3 : I / 146096 = 0 ∨ I / 146096 = 1 := by omega
  have q4 : Y = 399 := by omega
  refine ⟨q4, ?_⟩
  subst q4
  omega
 have a2 : E = 24 → Y = 399 → ¬ 12 < M + 3 := by
  intro e hy
  have hI2 : I ≤ 146036 := by omega
  subst hy
  omega
 have e1 : E ≤ 24 := by omega
 have e2 : -1 ≤ E := by omega
 clear hY hE hI hN hD
 by_cases h : 12 < M + 3
 ·simp only [if_pos h]; omega
 ·simp only [if_neg h]; omega
theorem timeL_range (v : List UInt8) (h : (timeL v).2.2 = true) : -62167219200 ≤ (timeL v).1 ∧ (timeL v).1 < 253402300800 := by
 unfold timeL at h ⊢
 split at h
 ·cases h
 ·rename_i h1
  rw [if_neg h1] at ⊢
  split at h
  ·cases h
  ·split at h
   ·cases h
   ·rename_i h2
    split
    ·rename_i e; simp_all
    ·rename_i e1 e2
     simp_all
theorem wide_small' (n : Int) (k : Nat) (w : World) (hk : k ≤ 4) (h0 : 0 ≤ n) (h1 : n < 100) :
  Calls Tryz.prog 197 #[.int .i64 n, .int .i64 k] w fun e w' => e = .returned (.string ⟨(wideL n.toNat k).toArray⟩) ∧ w' = w := by
 have := wide_small n.toNat k w hk (by omega)
 rw [Int.toNat_of_nonneg h0] at this
 exact this
theorem wide_any' (n : Int) (k : Nat) (w : World) (hk : k ≤ 4) (h0 : 0 ≤ n) (h1 : n < 10000) (hE : Env w) :
  Calls Tryz.prog 197 #[.int .i64 n, .int .i64 k] w fun e w' => e = .returned (.string ⟨(wideL n.toNat k).toArray⟩) ∧ Below w.heap.size w w' := by
 have := wide_any n.toNat k w hk (by omega) hE
 rw [Int.toNat_of_nonneg h0] at this
 exact this
theorem cat7 (a b c d e f : List UInt8) (r : ByteArray) : (⟨a.toArray⟩ : ByteArray) ++ ⟨b.toArray⟩ ++ ⟨c.toArray⟩ ++ ⟨d.toArray⟩ ++ ⟨e.toArray⟩ ++ ⟨f.toArray⟩ ++ r = ⟨(a ++ (b ++ (c ++ (d ++ (e ++ (f ++ r.data.toList)))))).toArray⟩ := by
 apply ByteArray.ext; apply Array.toList_inj.1; simp [ByteArray.data_append]
noncomputable def momTail : Code := (Tryz.f151.body.bind (tailOf 7)).getD .skip
theorem civ_new (w : World) (t : TypeId) (a b c : Int) : Civ w (w.alloc (.cells #[.int .i64 a, .int .i64 b, .int .i64 c] t)) w.heap.size t a b c :=
 ⟨heap_alloc_new _ _, Zr _, (Zl _ w).alloc (Zr _) _⟩
set_option maxRecDepth 1000000 in
set_option maxHeartbeats 40000000 in
theorem mom_tail {w0 w : World} (d i : Int) (rest : ByteArray) (hr : rest.size ≤ 65536) (hB : Below w0.heap.size w0 w) (hE : Env w) (hd : -719528 ≤ d ∧ d ≤ 2932896) (hi : 0 ≤ i ∧ i < 86400)
  (u0 u1 u2 u3 u6 u8 u11 u12 u13 u14 u15 u16 u17 u18 u19 u20 u21 u22 u23 u24 u25 u26 u27 u28 u29 u30 u31 u32 u33 u34 u35 u36 u37 u38 u39 u40 u41 u42 u43 u44 u45 u46 u47 u48 u49 u50 u51 u52 u53 u54 u55 u56 u57 u58 u59 : Value) :
  Code.wp Tryz.prog momTail (bodyPost Tryz.prog Tryz.f151 fun e w' => e = .returned (.tuple #[.string ⟨(wideL (dateI d).1.toNat 4 ++ (wideL (dateI d).2.1.toNat 2 ++ (wideL (dateI d).2.2.toNat 2 ++
  (wideL (i / 3600).toNat 2 ++ (wideL (i / 60 % 60).toNat 2 ++ (wideL (i % 60).toNat 2 ++ rest.data.toList)))))).toArray⟩, .bool true]) ∧ Below w0.heap.size w0 w') { tmps := #[u0, u1, u2, u3, .string ⟨#[]⟩, .bool false, u6, .string rest, u8, .int .i64 d, .int .i64 i, u11, u12, u13, u14, u15, u16, u17, u18, u19, u20, u21, u22, u23, u24, u25, u26, u27, u28, u29, u30, u31, u32, u33, u34, u35, u36, u37, u38, u39, u40, u41, u42, u43, u44, u45, u46, u47, u48, u49, u50, u51, u52, u53, u54, u55, u56, u57, u58, u59], defers := [] } w := by
 conv => arg 2; whnf
 have HB := Zh (Zi hB hE); clear hB hE
 obtain ⟨⟨y0, y1⟩, ⟨m0, m1⟩, ⟨c0, c1⟩⟩ := dateI_range d hd.1 hd.2
 have HD := Zh (fun w => date_any d w (by omega))
 obtain ⟨i0, i1⟩ := hi
 generalize (dateI d).1 = Y at *
 generalize (dateI d).2.1 = M at *
 generalize (dateI d).2.2 = D at *
 clear hd
 have q1 : IntKind.i64.wrap (i.tdiv 3600) = i / 3600 := by rw [Int.tdiv_eq_ediv_of_nonneg i0]; exact IntWalk.i64_in _ (by omega)
 have q2 : IntKind.i64.wrap (i.tdiv 60) = i / 60 := by rw [Int.tdiv_eq_ediv_of_nonneg i0]; exact IntWalk.i64_in _ (by omega)
 have q3 : (i / 60).tmod 60 = i / 60 % 60 := Int.tmod_eq_emod_of_nonneg (by omega)
 have q4 : i.tmod 60 = i % 60 := Int.tmod_eq_emod_of_nonneg i0
 have b1 : 0 ≤ i / 3600 ∧ i / 3600 < 100 := by omega
 have b2 : 0 ≤ i / 60 % 60 ∧ i / 60 % 60 < 100 := by omega
 have b3 : 0 ≤ i % 60 ∧ i % 60 < 100 := by omega
 have b4 : 0 ≤ i / 60 ∧ i / 60 < 10000 := by omega
 have q5 : i.tdiv 3600 = i / 3600 := Int.tdiv_eq_ediv_of_nonneg i0
 have q6 : i.tdiv 60 = i / 60 := Int.tdiv_eq_ediv_of_nonneg i0
 generalize i / 3600 = hh at *
 generalize i / 60 % 60 = mm at *
 generalize i / 60 = m6 at *
 generalize i % 60 = ss at *
 have sh : ∀ (x : Int) (l : List UInt8) (w : World), 0 ≤ x → x < 100 → wideL x.toNat 2 = l → Calls Tryz.prog 197 #[.int .i64 x, .int .i64 2] w fun e w' => e = .returned (.string ⟨l.toArray⟩) ∧ w' = w := fun x l w h0 h1 h2 => h2 ▸ wide_small' x 2 w (by omega) h0 h1
 have wl : ∀ (n k : Nat), n < 10000 → k ≤ 4 → (wideL n k).length ≤ 30 := by
  intro n k h1 h2
  have h3 := Lib.nDigits_le20 n (by omega)
  unfold wideL; rw [List.length_append, List.length_replicate, Lib.decDigits_length]; omega
 have nY := wl Y.toNat 4 (by omega) (by omega)
 have nM := wl M.toNat 2 (by omega) (by omega)
 have nD := wl D.toNat 2 (by omega) (by omega)
 have nh := wl hh.toNat 2 (by omega) (by omega)
 have nm := wl mm.toNat 2 (by omega) (by omega)
 have ns := wl ss.toNat 2 (by omega) (by omega)
 clear wl
 have HY0 : ∀ w, Env w → Calls Tryz.prog 197 #[.int .i64 Y, .int .i64 4] w fun e w' => e = .returned (.string ⟨(wideL Y.toNat 4).toArray⟩) ∧ Below w.heap.size w w' := fun w hE => wide_any' Y 4 w (by omega) y0 (by omega) hE
 have HM0 := fun w => sh M _ w (by omega) (by omega) rfl
 have HDD0 := fun w => sh D _ w (by omega) (by omega) rfl
 have Hh0 := fun w => sh hh _ w b1.1 b1.2 rfl
 have Hm0 := fun w => sh mm _ w b2.1 b2.2 rfl
 have Hs0 := fun w => sh ss _ w b3.1 b3.2 rfl
 generalize wideL Y.toNat 4 = lY at *
 generalize wideL M.toNat 2 = lM at *
 generalize wideL D.toNat 2 = lD at *
 generalize wideL hh.toNat 2 = lh at *
 generalize wideL mm.toNat 2 = lm at *
 generalize wideL ss.toNat 2 = ls at *
 have HY := Zh HY0; have HM := Zh HM0; have HDD := Zh HDD0; have Hh := Zh Hh0; have Hm := Zh Hm0; have Hs := Zh Hs0
 clear HY0 HM0 HDD0 Hh0 Hm0 Hs0 sh y0 y1 m0 m1 c0 c1 b1 b2 b3 q5 q6
 obtain ⟨m60, m61⟩ := b4
 have f2 : ¬ 9223372036854775807 < lY.length + lM.length := by omega
 have f3 : ¬ 9223372036854775807 < lY.length + lM.length + lD.length := by omega
 have f4 : ¬ 9223372036854775807 < lY.length + lM.length + lD.length + lh.length := by omega
 have f5 : ¬ 9223372036854775807 < lY.length + lM.length + lD.length + lh.length + lm.length := by omega
 have f6 : ¬ 9223372036854775807 < lY.length + lM.length + lD.length + lh.length + lm.length + ls.length := by omega
 have f7 : ¬ 9223372036854775807 < lY.length + lM.length + lD.length + lh.length + lm.length + ls.length + rest.size := by omega
 go_upto_region 9 with (first
  | (go_at_call 196; refine (HD.out _).mono ?_; rintro e w1 ⟨rfl, hb1⟩)
  | fail)
 have HB1 := Zh (Zi (bnext HB.out.1 hb1) (HB.out.2.next hb1)); clear HB hb1
 have hC := civ_new w1 239 Y M D
 generalize hgg : w1.heap.size = gd at hC
 generalize w1.alloc (.cells #[.int .i64 Y, .int .i64 M, .int .i64 D] 239) = w2 at hC ⊢
 have HB2 := Zh (Zi (bnext HB1.out.1 hC.below) (HB1.out.2.next hC.below)); clear HB1
 obtain ⟨e0, e1, e2⟩ := hC.cells
 have HC := Zh hC; clear hC hgg
 apply wp_one (R := fun w' => Below w0.heap.size w0 w')
 case hw =>
  go_region_held3 (fun w' => w'.cell? ⟨gd, 0, none⟩ = some (.int .i64 Y) ∧ w'.cell? ⟨gd, 1, none⟩ = some (.int .i64 M) ∧ w'.cell? ⟨gd, 2, none⟩ = some (.int .i64 D))
   (first | exact ⟨e0, e1, e2⟩ | exact ⟨i0, i1, i2⟩)
   (first
    | (go_at_call 197; with_reducible refine (HY.out _ (HB2.out.2.next ((Zl _ w2).drew))).mono ?_; rintro e w5 ⟨rfl, hb5⟩; have hb5 := bnext ((Zl _ w2).drew) hb5; have H5 := Zh (bnext HB2.out.1 hb5); obtain ⟨i0, i1, i2⟩ := (HC.out.next (w' := w5) hb5).cells; clear hb5)
    | (go_at_call 197; with_reducible refine (HM.out _).mono ?_; rintro e w6 ⟨rfl, rfl⟩)
    | (go_at_call 197; with_reducible refine (HDD.out _).mono ?_; rintro e w6 ⟨rfl, rfl⟩)
    | (go_at_call 197; with_reducible refine (Hh.out _).mono ?_; rintro e w6 ⟨rfl, rfl⟩)
    | (go_at_call 197; with_reducible refine (Hm.out _).mono ?_; rintro e w6 ⟨rfl, rfl⟩)
    | (go_at_call 197; with_reducible refine (Hs.out _).mono ?_; rintro e w6 ⟨rfl, rfl⟩)
    | fail)
  all_goals first | exact ⟨rfl, rfl, H5.out⟩ | exact ⟨rfl, rfl, bdrewN H5.out _⟩
 case hi =>
  intro w9 hb9
  have H9 := Zh hb9; clear hb9
  go_wp2_with fail
  go_ret2
  refine ⟨?_, H9.out⟩
  show Ending.returned (.tuple #[.string _, .bool true]) = _
  rw [cat7]
noncomputable def timeZone : Code := (Tryz.f195.body.bind (tailOf 14)).getD .skip
set_option maxRecDepth 1000000 in
set_option maxHeartbeats 40000000 in
theorem time_zone {w0 w : World} {gd gt : Nat} {Y M D h m s : Int} {rest z : List UInt8} (hd : Civ w0 w gd 239 Y M D) (ht : Civ w0 w gt 238 h m s)
  (hY : 0 ≤ Y ∧ Y ≤ 9999) (hM : 1 ≤ M ∧ M ≤ 12) (hD : 1 ≤ D ∧ D ≤ 99) (hh : 0 ≤ h ∧ h ≤ 23) (hm : 0 ≤ m ∧ m ≤ 59) (hs : 0 ≤ s ∧ s ≤ 59) (hz : z.length ≤ 65536)
  (u0 u1 u8 u9 u10 u11 u12 u13 u14 u15 u16 u17 u18 u19 u20 u21 u22 u23 u24 u25 u26 u27 u28 u29 u30 u31 u32 u33 u34 u35 u36 u37 u38 u39 u40 u41 u42 u43 u44 u45 u46 u47 u48 u49 u50 u51 u52 u53 u54 u55 u56 u57 u58 u59 u60 u61 u62 u63 u64 u65 u66 u67 u68 u69 u70 u71 u72 u73 u74 u75 u76 u77 u78 u79 u80 u81 u82 u83 u84 u85 u86 u87 u88 u89 u90 u91 u92 u93 u94 u95 u96 u97 u98 u99 u100 u101 u102 u103 u104 u105 u106 u107 u108 u109 u110 u111 u112 u113 u114 u115 u116 u117 u118 u119 u120 u121 u122 u123 u124 u125 u126 u127 u128 u129 u130 u131 u132 u133 u134 u135 u136 u137 u138 u139 u140 u141 u142 u143 u144 u145 u146 u147 : Value) :
  Code.wp Tryz.prog timeZone (bodyPost Tryz.prog Tryz.f195 fun e w' => e = .returned (ret3 (timeZ Y M D h m s rest z)) ∧ Below w0.heap.size w0 w') { tmps := #[u0, u1, .int .i64 0, .string ⟨rest.toArray⟩, .bool false, .pointer (some ⟨gd, 0, none⟩), .pointer (some ⟨gt, 0, none⟩), .string ⟨z.toArray⟩, u8, u9, u10, u11, u12, u13, u14, u15, u16, u17, u18, u19, u20, u21, u22, u23, u24, u25, u26, u27, u28, u29, u30, u31, u32, u33, u34, u35, u36, u37, u38, u39, u40, u41, u42, u43, u44, u45, u46, u47, u48, u49, u50, u51, u52, u53, u54, u55, u56, u57, u58, u59, u60, u61, u62, u63, u64, u65, u66, u67, u68, u69, u70, u71, u72, u73, u74, u75, u76, u77, u78, u79, u80, u81, u82, u83, u84, u85, u86, u87, u88, u89, u90, u91, u92, u93, u94, u95, u96, u97, u98, u99, u100, u101, u102, u103, u104, u105, u106, u107, u108, u109, u110, u111, u112, u113, u114, u115, u116, u117, u118, u119, u120, u121, u122, u123, u124, u125, u126, u127, u128, u129, u130, u131, u132, u133, u134, u135, u136, u137, u138, u139, u140, u141, u142, u143, u144, u145, u146, u147], defers := [] } w := by
 conv => arg 2; whnf
 have HCd := Zh hd; have HCt := Zh ht; clear hd ht
 obtain ⟨y0, y1⟩ := hY; obtain ⟨m0, m1⟩ := hM; obtain ⟨d0, d1⟩ := hD; obtain ⟨h0, h1⟩ := hh; obtain ⟨n0, n1⟩ := hm; obtain ⟨s0, s1⟩ := hs
 have hzr := zoneL_range z
 have hN := daysI_range y0 y1 m0 m1 d0 d1
 have hT : timeZ Y M D h m s rest z = if (zoneL z).2 = false ∨ daysI Y M D * 86400 + (h * 3600 + m * 60 + s - (zoneL z).1 * 60) < -62167219200 ∨ 253402300800 ≤ daysI Y M D * 86400 + (h * 3600 + m * 60 + s - (zoneL z).1 * 60) then (0, [], false)
  else (daysI Y M D * 86400 + (h * 3600 + m * 60 + s - (zoneL z).1 * 60), rest, true) := rfl
 have HZ : ∀ w, Calls Tryz.prog 238 #[.string ⟨z.toArray⟩] w fun e w' => e = .returned (.tuple #[.int .i64 (zoneL z).1, .bool (zoneL z).2]) ∧ ∃ q, w' = w.drewN q := fun w => zone_any ⟨z.toArray⟩ w (by show z.length ≤ _; omega)
 generalize (zoneL z).1 = A at hzr hT HZ
 generalize (zoneL z).2 = right at hT HZ
 obtain ⟨a0, a1⟩ := hzr
 have HND := Zh (fun w => days_any Y M D w ⟨y0, by omega⟩ ⟨m0, m1⟩ ⟨by omega, d1⟩)
 generalize daysI Y M D = N at hN hT HND
 obtain ⟨k0, k1⟩ := hN
 have HZ := Zh HZ
 cases right with
 | false =>
  have HT := Zh (hT.trans (if_pos (.inl rfl))); clear hT
  go_wp2_with (first
   | (go_at_call 238; refine (HZ.out w).mono ?_; rintro e w1 ⟨rfl, q, rfl⟩)
   | fail)
  go_ret3
  exact ⟨by rw [HT.out]; rfl, bdrewN HCd.out.below q⟩
 | true =>
  have hT2 : timeZ Y M D h m s rest z = if N * 86400 + (h * 3600 + m * 60 + s - A * 60) < -62167219200 ∨ 253402300800 ≤ N * 86400 + (h * 3600 + m * 60 + s - A * 60) then (0, [], false)
   else (N * 86400 + (h * 3600 + m * 60 + s - A * 60), rest, true) := by rw [hT]; simp
  clear hT
  have HTb := Zh (fun hb => hT2.trans (if_pos hb)); have HTg := Zh (fun hb => hT2.trans (if_neg hb)); clear hT2
  go_wp2_with (first
   | (go_at_call 238; refine (HZ.out w).mono ?_; rintro e w1 ⟨rfl, q, rfl⟩)
   | fail)
  have CD := HCd.out.next (bdrewN (Zl _ w) q)
  have CT := HCt.out.next (bdrewN (Zl _ w) q)
  generalize w.drewN q = w1 at CD CT ⊢
  obtain ⟨e0, e1, e2⟩ := CD.cells
  obtain ⟨f0, f1, f2⟩ := CT.cells
  have hrow := CD.row
  have HD1 := Zh CD; have HT1 := Zh CT; clear CD CT HCd HCt HZ
  have v1 : IntKind.i64.wrap (N * 86400) = N * 86400 := IntWalk.i64_in _ (by omega)
  have v2 : IntKind.i64.wrap (h * 3600) = h * 3600 := IntWalk.i64_in _ (by omega)
  have v3 : IntKind.i64.wrap (m * 60) = m * 60 := IntWalk.i64_in _ (by omega)
  have v4 : IntKind.i64.wrap (h * 3600 + m * 60) = h * 3600 + m * 60 := IntWalk.i64_in _ (by omega)
  have v5 : IntKind.i64.wrap (h * 3600 + m * 60 + s) = h * 3600 + m * 60 + s := IntWalk.i64_in _ (by omega)
  have v6 : IntKind.i64.wrap (A * 60) = A * 60 := IntWalk.i64_in _ (by omega)
  have v7 : IntKind.i64.wrap (h * 3600 + m * 60 + s - A * 60) = h * 3600 + m * 60 + s - A * 60 := IntWalk.i64_in _ (by omega)
  have v8 : IntKind.i64.wrap (N * 86400 + (h * 3600 + m * 60 + s - A * 60)) = N * 86400 + (h * 3600 + m * 60 + s - A * 60) := IntWalk.i64_in _ (by omega)
  go_region_held3 (fun w' => w'.cell? ⟨gd, 0, none⟩ = some (.int .i64 Y) ∧ w'.cell? ⟨gd, 1, none⟩ = some (.int .i64 M) ∧ w'.cell? ⟨gd, 2, none⟩ = some (.int .i64 D) ∧ w'.cell? ⟨gt, 0, none⟩ = some (.int .i64 h) ∧ w'.cell? ⟨gt, 1, none⟩ = some (.int .i64 m) ∧ w'.cell? ⟨gt, 2, none⟩ = some (.int .i64 s))
   (first | exact ⟨e0, e1, e2, f0, f1, f2⟩ | exact ⟨i0, i1, i2, j0, j1, j2⟩)
   (first
    | (go_at_call 235; refine (HND.out _).mono ?_; rintro e w5 ⟨rfl, hb5⟩; have hb5 := bnext ((Zl _ w1).drew) hb5; have CT5 := HT1.out.next (w' := w5) hb5; obtain ⟨j0, j1, j2⟩ := CT5.cells; obtain ⟨i0, i1, i2⟩ := (HD1.out.next (w' := w5) hb5).cells; have HB5 := Zh CT5.below; clear CT5 hb5)
    | fail)
  go_wp2_with fail
  all_goals first
   | (go_ret3; exact ⟨by rw [HTb.out (by omega)]; rfl, HB5.out⟩)
   | (go_ret3; exact ⟨by rw [HTg.out (by omega)]; rfl, HB5.out⟩)
   | fail
end Go.Proofs.YtlmfbjhokkpjhaaGreatDoor
namespace Go.Proofs.YtlmfbjhokkpjhaaGreatDoor
open Go Go.RowKit Go.Shelf
noncomputable def timeTail : Code := (Tryz.f195.body.bind (tailOf 8)).getD .skip
def tailT (Y M D h m s : Int) (t : List UInt8) : Int × List UInt8 × Bool := match fracT t with
 | none => (0, [], false)
 | some (rest, z) => timeZ Y M D h m s rest z
theorem trimL_split (r : List UInt8) : Lib.trimLeftS r digits10 = r.drop (r.length - (Lib.trimLeftS r digits10).length) ∧ (Lib.trimLeftS r digits10).length ≤ r.length := by
 have h := (List.dropWhile_suffix (l := r) (digits10.contains ·))
 obtain ⟨p, hp⟩ := h
 have hl : r.length = p.length + (Lib.trimLeftS r digits10).length := by
  conv => lhs; rw [← hp, List.length_append]
  rfl
 refine ⟨?_, by omega⟩
 rw [show r.length - (Lib.trimLeftS r digits10).length = p.length by omega]
 conv => rhs; arg 2; rw [← hp]
 rw [List.drop_left]; rfl
set_option maxRecDepth 1000000 in
set_option maxHeartbeats 40000000 in
theorem time_tail {w0 w : World} {gd gt : Nat} {Y M D h m s : Int} {v t : ByteArray} {c : UInt8} {r : List UInt8} (hd : Civ w0 w gd 239 Y M D) (ht : Civ w0 w gt 238 h m s)
    (hY : 0 ≤ Y ∧ Y ≤ 9999) (hM : 1 ≤ M ∧ M ≤ 12) (hD : 1 ≤ D ∧ D ≤ 99) (hh : 0 ≤ h ∧ h ≤ 23) (hm : 0 ≤ m ∧ m ≤ 59) (hs : 0 ≤ s ∧ s ≤ 59)
    (htt : t = ⟨(c :: r).toArray⟩) (hv2 : r.length ≤ 65535)
    (u1 u8 u9 u10 u11 u12 u13 u14 u15 u16 u17 u18 u19 u20 u21 u22 u23 u24 u25 u26 u27 u28 u29 u30 u31 u32 u33 u34 u35 u36 u37 u38 u39 u40 u41 u42 u43 u44 u45 u46 u47 u48 u49 u50 u51 u52 u53 u54 u55 u56 u57 u58 u59 u60 u61 u62 u63 u64 u65 u66 u67 u68 u69 u70 u71 u72 u73 u74 u75 u76 u77 u78 u79 u80 u81 u82 u83 u84 u85 u86 u87 u88 u89 u90 u91 u92 u93 u94 u95 u96 u97 u98 u99 u100 u101 u102 u103 u104 u105 u106 u107 u108 u109 u110 u111 u112 u113 u114 u115 u116 u117 u118 u119 u120 u121 u122 u123 u124 u125 u126 u127 u128 u129 u130 u131 u132 u133 u134 u135 u136 u137 u138 u139 u140 u141 u142 u143 u144 u145 u146 u147 : Value) :
    Code.wp Tryz.prog timeTail (bodyPost Tryz.prog Tryz.f195 fun e w' => e = .returned (ret3 (tailT Y M D h m s (c :: r))) ∧ Below w0.heap.size w0 w') { tmps := #[.string v, u1, .int .i64 0, .string ⟨#[]⟩, .bool false, .pointer (some ⟨gd, 0, none⟩), .pointer (some ⟨gt, 0, none⟩), .string t, u8, u9, u10, u11, u12, u13, u14, u15, u16, u17, u18, u19, u20, u21, u22, u23, u24, u25, u26, u27, u28, u29, u30, u31, u32, u33, u34, u35, u36, u37, u38, u39, u40, u41, u42, u43, u44, u45, u46, u47, u48, u49, u50, u51, u52, u53, u54, u55, u56, u57, u58, u59, u60, u61, u62, u63, u64, u65, u66, u67, u68, u69, u70, u71, u72, u73, u74, u75, u76, u77, u78, u79, u80, u81, u82, u83, u84, u85, u86, u87, u88, u89, u90, u91, u92, u93, u94, u95, u96, u97, u98, u99, u100, u101, u102, u103, u104, u105, u106, u107, u108, u109, u110, u111, u112, u113, u114, u115, u116, u117, u118, u119, u120, u121, u122, u123, u124, u125, u126, u127, u128, u129, u130, u131, u132, u133, u134, u135, u136, u137, u138, u139, u140, u141, u142, u143, u144, u145, u146, u147], defers := [] } w := by
  conv => arg 2; whnf
  refine wp_seq_k fun K hK => ?_
  have HK := Zh hK; clear hK
  have HCd := Zh hd; have HCt := Zh ht; clear hd ht
  have HB := Zh (Zi hY (Zi hM (Zi hD (Zi hh (Zi hm hs))))); clear hY hM hD hh hm hs
  have b0 : ∀ h, t[0]'h = c := fun _ => by subst htt; rfl
  have tsz : t.size = r.length + 1 := by rw [htt]; rfl
  have TSZ := Zh tsz
  have ts0 : 0 < t.size := by omega
  have ti0 : (0 : Int) < t.size := by omega
  have ts1 : 1 ≤ t.size := by omega
  have ti1 : (1 : Int) ≤ t.size := by omega
  have tx : t.extract 1 t.size = ⟨r.toArray⟩ := by
    rw [Lib.extract_eq, htt]
    show (⟨((r.take (r.length + 1 - 1)).toArray)⟩ : ByteArray) = _
    rw [Nat.add_sub_cancel, List.take_length]
  have hn := trimL_split r
  have TTT := Zh htt
  have hfr : fracT (c :: r) = if c = 46 ∨ c = 44 then
      (if r.length - (Lib.trimLeftS r digits10).length < 1 ∨ 9 < r.length - (Lib.trimLeftS r digits10).length then none
       else some (Lib.trimRightB (r.take (r.length - (Lib.trimLeftS r digits10).length)) 48, Lib.trimLeftS r digits10))
      else some ([], c :: r) := rfl
  have hT : tailT Y M D h m s (c :: r) = match fracT (c :: r) with
    | none => (0, [], false)
    | some (rest, z) => timeZ Y M D h m s rest z := rfl
  by_cases hc : c = 46 ∨ c = 44
  · rw [if_pos hc] at hfr
    have hsz : ((t.size : Nat) : Int) = (r.length : Int) + 1 := by omega
    have HTL : ∀ w, Calls Tryz.prog 236 #[.string ⟨r.toArray⟩, .string ⟨#[48, 49, 50, 51, 52, 53, 54, 55, 56, 57]⟩] w fun e w' => e = .returned (.string ⟨(Lib.trimLeftS r digits10).toArray⟩) ∧ Below w.heap.size w w' :=
      fun w => Any.strings_TrimLeft_laid Tryz.lays161 (by kernel_rfl) ⟨r.toArray⟩ ⟨#[48, 49, 50, 51, 52, 53, 54, 55, 56, 57]⟩ w (by decide) (ascii_of_all (by decide))
    generalize hzz : Lib.trimLeftS r digits10 = zz at hn hfr HTL
    obtain ⟨hn1, hn2⟩ := hn
    have HZZ := Zh hn1; clear hn1 hzz
    obtain ⟨k, hk⟩ : ∃ k, k = r.length - zz.length := ⟨_, rfl⟩
    rw [← hk] at hfr
    have v1 : IntKind.i64.wrap ((t.size : Int) - 1) = (r.length : Int) := by rw [IntWalk.i64_in _ (by omega)]; omega
    have v2 : IntKind.i64.wrap ((r.length : Int) - (zz.length : Int)) = (k : Int) := by rw [IntWalk.i64_in _ (by omega)]; omega
    have v3 : IntKind.i64.wrap ((k : Int) + 1) = ((k + 1 : Nat) : Int) := by rw [IntWalk.i64_in _ (by omega)]; rfl
    have HX := Zh HTL; clear HTL
    have zsz : ((⟨zz.toArray⟩ : ByteArray).size : Int) = (zz.length : Int) := rfl
    have hk8 : zz.length + k = r.length := by omega
    clear tsz hk htt hn2
    have HK8 := Zh hk8
    by_cases hk1 : k < 1 ∨ 9 < k
    · rw [if_pos hk1] at hfr; rw [hfr] at hT
      have HT := Zh hT; clear hT hfr
      have HK := Zh hk1; clear hk1
      have q1 : (k : Int) < 1 ∨ ¬ (k : Int) < 1 ∧ 9 < (k : Int) := by have := HK.out; omega
      rcases hc with hc | hc <;> subst hc <;> rcases q1 with q1 | ⟨q1, q2⟩ <;> (
        go_wp2_with (first
          | (go_at_call 236; refine (HX.out w).mono ?_; rintro e w1 ⟨rfl, hb1⟩)
          | fail)
        go_ret3
        exact ⟨by rw [HT.out]; rfl, bnext HCd.out.below hb1⟩)
    · rw [if_neg hk1] at hfr; rw [hfr] at hT
      have HT := Zh hT; clear hT hfr
      have q1 : ¬ (k : Int) < 1 := by omega
      have q2 : ¬ 9 < (k : Int) := by omega
      have tx2 : t.extract 1 (k + 1) = ⟨(r.take k).toArray⟩ := by
        rw [Lib.extract_eq, TTT.out]
        show (⟨((r.take (k + 1 - 1)).toArray)⟩ : ByteArray) = _
        rw [Nat.add_sub_cancel]
      have l1 : k + 1 ≤ t.size := by omega
      have l2 : ((k + 1 : Nat) : Int) ≤ t.size := by omega
      have l3 : (1 : Int) ≤ ((k + 1 : Nat) : Int) := by omega
      have l4 : 1 ≤ k + 1 := by omega
      generalize k + 1 = k1 at tx2 l1 l2 l3 l4 v3
      rcases hc with hc | hc <;> subst hc <;> (
        go_wp2_with (first
          | (go_at_call 236; refine (HX.out w).mono ?_; rintro e w1 ⟨rfl, hb1⟩)
          | (go_at_call 237; refine (Tryz.strings_TrimRight_one _ 48 (by decide) _ (by show (r.take k).length ≤ _; rw [List.length_take]; omega)).mono ?_; rintro e w2 ⟨rfl, rfl⟩)
          | fail)
        refine HK.out _ _ ?_
        obtain ⟨g1, g2, g3, g4, g5, g6⟩ := HB.out
        rw [HT.out]
        have := time_zone (z := zz) (rest := Lib.trimRightB (r.take k) 48) (HCd.out.next hb1) (HCt.out.next hb1) g1 g2 g3 g4 g5 g6 (by omega)
        apply this)
  · have hc1 : ¬ c = 46 := fun e => hc (.inl e)
    have hc2 : ¬ c = 44 := fun e => hc (.inr e)
    rw [if_neg hc] at hfr; rw [hfr] at hT
    have HT := Zh hT; clear hT hfr
    clear htt tsz
    have c1 : ¬ (c.toNat : Int) = 46 := fun e => hc1 (UInt8.toNat_inj.1 (by show c.toNat = 46; omega))
    have c2 : ¬ (c.toNat : Int) = 44 := fun e => hc2 (UInt8.toNat_inj.1 (by show c.toNat = 44; omega))
    have c1 : ((c.toNat : Int) == 46) = false := beq_eq_false_iff_ne.2 c1
    have c2 : ((c.toNat : Int) == 44) = false := beq_eq_false_iff_ne.2 c2
    clear hc hc1 hc2
    go_wp2_with fail
    refine HK.out _ _ ?_
    obtain ⟨g1, g2, g3, g4, g5, g6⟩ := HB.out
    rw [HT.out]
    have e := TTT.out; subst e
    have := time_zone (rest := []) (z := c :: r) HCd.out HCt.out g1 g2 g3 g4 g5 g6 (by rw [List.length_cons]; omega)
    apply this
end Go.Proofs.YtlmfbjhokkpjhaaGreatDoor
