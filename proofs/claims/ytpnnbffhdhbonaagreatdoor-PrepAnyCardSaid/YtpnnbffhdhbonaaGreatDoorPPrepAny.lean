/-
  PrepAny: the given statement, out of the law's walk: for every input the Go function returns true and leaves its arguments as they were.
  Conditions: none but those of the given statement.
-/
import Derived.Test.YtpnnbffhdhbonaaGreatDoorRows
import Derived.Test.YtpnnbffhdhbonaaGreatDoorEnv
import Derived.Test.YtpnnbffhdhbonaaGreatDoorShelf
import Derived.Lib.LaidTab
import Derived.LaidSub
import Derived.Deep.DeepHandedRow
import Derived.Test.YtpnnbffhdhbonaaGreatDoorRefK
import Derived.Test.YtpnnbffhdhbonaaGreatDoorAwake
import Derived.Test.YtpnnbffhdhbonaaGreatDoorCards
import Derived.Test.YtpnnbffhdhbonaaGreatDoorTie
import Derived.WalkKit
import Derived.ProofKit
import Derived.OpenShut
import Derived.ShutString
import Derived.ChangeOld
import Derived.Below
import Derived.SizedLaws
import Derived.JoinedCond
namespace Go.Proofs.YtpnnbffhdhbonaaGreatDoor
open Go Go.RowKit

/-- the cells of a listed table -/
def litV : DataW Unit → List Value
  | .lit (.int k n) => [.int k n]
  | _ => []
def litW : DataW Unit → List Value
  | .lit (.int k n) => [.int k n]
  | .agg l => l.flatMap litV
  | _ => []
def cellsD : DataW Unit → Array Value
  | .agg l => (l.flatMap litW).toArray
  | _ => #[]
def setD (h : Array Obj) (g : Nat) (d : DataW Unit) : Array Obj := h.modify g fun
  | .cells _ t fz => .cells (cellsD d) t fz
  | o => o

noncomputable def laidHeap (h : Array Obj) : Array Obj :=
  setD (setD (setD (setD (setD h 1 Rows.laid_unicode_utf8_first) 2 Rows.laid_unicode_utf8_acceptRanges)
    3 Rows.laid_internal_strconv_uint64pow10) 4 Rows.laid_math_bits_deBruijn32tab) 5 Rows.laid_math_bits_deBruijn64tab
noncomputable def laidWorld (os : Os) : World :=
  { World.holding Tryz.prog os ⟨#[], #[], []⟩ with heap := laidHeap (World.holding Tryz.prog os ⟨#[], #[], []⟩).heap }

def laidAll : List (String × DataW Unit) := [("math/bits.deBruijn32tab", Rows.laid_math_bits_deBruijn32tab), ("math/bits.deBruijn64tab", Rows.laid_math_bits_deBruijn64tab), ("internal/strconv.uint64pow10", Rows.laid_internal_strconv_uint64pow10), ("unicode/utf8.acceptRanges", Rows.laid_unicode_utf8_acceptRanges), ("unicode/utf8.first", Rows.laid_unicode_utf8_first)]

theorem gPow : Tryz.prog.globalNamed "internal/strconv.uint64pow10" = some 3 := by kernel_rfl
theorem gPowType : (Tryz.prog.globals[3]?).map (·.type) = some 122 := by kernel_rfl
theorem cellsPow : Tryz.prog.cellsOf 122 = 20 := by kernel_rfl
theorem cellsU64 : Tryz.prog.cellsOf 116 = 1 := by kernel_rfl

theorem env_of {W : World} (hL : laidMetH Tryz.prog laidAll W) (hsh : W.ShapedOpen Tryz.prog) : Env W where
  max := Tryz.laysM143.s1_3 W hsh
  pow := by
    have h := hL.filter fun x => x.1 == "internal/strconv.uint64pow10"
    rw [show laidAll.filter (fun x => x.1 == "internal/strconv.uint64pow10") = [("internal/strconv.uint64pow10", Lib.tabData .u64 Lib.pow10Tab)] by kernel_rfl] at h
    exact Lib.tabIs_of_head gPow gPowType Tryz.underlying122 Tryz.underlying116 cellsU64 cellsPow h
end Go.Proofs.YtpnnbffhdhbonaaGreatDoor

namespace Go.Proofs.YtpnnbffhdhbonaaGreatDoor
open Go Go.RowKit

theorem keyL_nil {f : Int} {v k : List UInt8} (h : keyL f v = (k, false)) : k = [] := by
  unfold keyL at h
  split at h
  · injection h with h _; exact h.symm
  · split at h
    · injection h with _ h; cases h
    · injection h with h _; exact h.symm
theorem pieceL_nil {f wh : Int} {v k : List UInt8} (h : pieceL f wh v = (k, false)) : k = [] := by
  unfold pieceL at h
  repeat' split at h
  all_goals first
    | (injection h with h _; exact h.symm)
    | (injection h with _ h; cases h)

set_option maxRecDepth 20000 in
set_option maxHeartbeats 1000000 in
theorem law_any (f : Int) (hf : (Lit.int .i8 f).wf = true) (wh : Int) (hwh : (Lit.int .i8 wh).wf = true) (v : ByteArray) (hv : v.size ≤ maxLen) (w : World) (hE : Env w) :
    Calls Tryz.prog 8 #[.int .i8 f, .int .i8 wh, .string v] w fun e w' => e = .returned (.bool true) ∧ Below w.heap.size w w' := by
  unfold maxLen at hv
  clear hf hwh
  have h1 := fun w hE => key_any f v w hE
  have h2 := fun w => rkey_any f v w
  have h3 := fun w hE => piece_any f wh v w hE hv
  have h4 := fun w => rpiece_any f wh v w
  have n1 : ∀ k, keyL f v.data.toList = (k, false) → k = [] := fun k h => keyL_nil h
  have n2 : ∀ k, pieceL f wh v.data.toList = (k, false) → k = [] := fun k h => pieceL_nil h
  generalize keyL f v.data.toList = r at h1 h2 n1
  generalize pieceL f wh v.data.toList = q at h3 h4 n2
  obtain ⟨l, ok⟩ := r
  obtain ⟨m, oq⟩ := q
  simp only [ret2] at h1 h2 h3 h4
  have hl : ok = false → l = [] := fun e => n1 l (by rw [e])
  have hm : oq = false → m = [] := fun e => n2 m (by rw [e])
  clear n1 n2
  have HE := Lib.hid hE; have HA := Lib.hid (fun w hE => alive_any w hE); clear hE
  have HL := Lib.hid hl; have HM := Lib.hid hm; clear hl hm
  cases ok <;> cases oq <;> (
    first
      | (have e := HL.out rfl; subst e)
      | skip
    first
      | (have e := HM.out rfl; subst e)
      | skip
    clear HL HM
    have H1 := Lib.hid h1; have H2 := Lib.hid h2; have H3 := Lib.hid h3; have H4 := Lib.hid h4; clear h1 h2 h3 h4
    go_enter Tryz.func8, Tryz.ntmps8
    go_wp2_with (first
      | (go_at_call 10; with_reducible refine (H1.out _ HE.out).mono ?_; rintro e w1 ⟨rfl, hb1⟩; have HB := Lib.hid hb1; clear hb1)
      | (go_at_call 11; with_reducible refine (H2.out _).mono ?_; rintro e w2 ⟨rfl, hb2⟩; have HB := Lib.hid (bnext HB.out hb2); clear hb2)
      | (go_at_call 13; with_reducible refine (H3.out _ (HE.out.next HB.out)).mono ?_; rintro e w3 ⟨rfl, hb3⟩; have HB := Lib.hid (bnext HB.out hb3); clear hb3)
      | (go_at_call 14; with_reducible refine (H4.out _).mono ?_; rintro e w4 ⟨rfl, hb4⟩; have HB := Lib.hid (bnext HB.out hb4); clear hb4)
      | (go_at_call 12; with_reducible refine (HA.out _ (HE.out.next HB.out)).mono ?_; rintro e w5 ⟨rfl, hb5⟩; have HB := Lib.hid (bnext HB.out hb5); clear hb5)
      | fail)
    go_ret
    exact ⟨rfl, HB.out⟩)
end Go.Proofs.YtpnnbffhdhbonaaGreatDoor

namespace Go.Proofs.YtpnnbffhdhbonaaGreatDoor.prepAny
open Go.ChangeShapes Go.WideShapes Go.ChangeAt Go.RowKit
open Go.ChangeMaps (open_string shut_string)
set_option linter.unusedVariables false

theorem own : ownKnob Tryz.prog.godebug = none := by kernel_rfl
theorem laidOut : laidOutB Tryz.prog = true := by kernel_rfl
theorem laid_met (os : Os) : laidMet Tryz.prog Rows.prepAnyRow.laid ((laidWorld os).forCall (fun _ _ => 0) ⟨#[], #[.int .i8 0, .int .i8 0, .string ByteArray.empty], []⟩).memory :=
  laidMet_of_run' 64 (by kernel_rfl) (by kernel_rfl)
theorem reads (os : Os) {H : Type} (enc : TypeId × Value → H) : ∃ places, DataW.whole enc Tryz.prog ((laidWorld os).forCall (fun _ _ => 0) ⟨#[], #[.int .i8 0, .int .i8 0, .string ByteArray.empty], []⟩).memory Tryz.f8.params.toList Rows.prepAnySpec.vars false #[Value.int .i8 0, Value.int .i8 0, Value.string ByteArray.empty].toList 8 = some ([.lit (.int .i8 0), .lit (.int .i8 0), .lit (.string [])], [], places) :=
  ⟨[], by kernel_rfl⟩

set_option maxRecDepth 100000 in
theorem lifted (os : Os) (started : os.Started) (H : Type) (enc : TypeId × Value → H) (F : Stop.Interp) :
    ReturnsInHanded {} Tryz.checked os 8 .any ((OpenSpec.ofChange Rows.prepAnySpec).preRow enc Tryz.prog Tryz.f8 Rows.prepAnyRow.domain false Rows.prepAnyRow.laid) (((OpenSpec.ofChange Rows.prepAnySpec).at F).post enc Tryz.prog Tryz.f8 false true false false) := by
  obtain ⟨places, hx⟩ := reads os enc
  refine returnsInHanded_of_row (C := Tryz.checked) (s := (OpenSpec.ofChange Rows.prepAnySpec)) own started (by kernel_rfl) Tryz.func8
    (witness_row_at (enc := enc) (C := Tryz.checked) false (laidWorld os) #[.int .i8 0, .int .i8 0, .string ByteArray.empty] rfl (by kernel_rfl) (by kernel_rfl) (by kernel_rfl)
      (OpenSpec.preRow_of_cond 8 hx (by kernel_rfl) (fun k hk => by cases hk) (by kernel_rfl) (laid_met os))) ?_
  intro W base args ds gs before hval0 hW hcnd hk hsz hL hsh _
  have hE : Env W := env_of hL hsh
  have hval : ∀ (j : Nat) t v, Tryz.f8.params[j]? = some t → args[j]? = some v → Value.okWide Tryz.prog W .any base t v := hval0
  have hW' := hW
  obtain ⟨p, q, hA0, hV, rfl, hfz, hnd⟩ := hW
  have hA : DataW.TrodAll enc Tryz.prog W 0 (fun _ => true) true Tryz.f8.params.toList args.toList ds p := hA0
  rw [Tryz.params8] at hA hval
  obtain ⟨v0, vs0, d0, ds0, p0, q0, hargs, rfl, rfl, h0, r0⟩ := trodAll_cons hA
  obtain ⟨v1, vs1, d1, ds1, p1, q1, rfl, rfl, rfl, h1, r1⟩ := trodAll_cons r0
  obtain ⟨v2, vs2, d2, ds2, p2, q2, rfl, rfl, rfl, h2, r2⟩ := trodAll_cons r1
  obtain ⟨rfl, rfl, rfl⟩ := trodAll_nil r2
  obtain rfl : args = #[v0, v1, v2] := by cases args; simp_all
  obtain ⟨rfl, rfl⟩ := trodVars_none hV
  have k0 := h0
  have lt0 : ∀ x ∈ p0, x.block < W.heap.size := by obtain ⟨m, hm⟩ := k0; exact DataW.trod_lt m _ _ _ hm
  obtain ⟨a0, rfl, rfl, rfl, w0⟩ := open_int Tryz.underlying22 (hval 0 22 v0 rfl rfl) h0
  have k1 := h1
  have lt1 : ∀ x ∈ p1, x.block < W.heap.size := by obtain ⟨m, hm⟩ := k1; exact DataW.trod_lt m _ _ _ hm
  obtain ⟨a1, rfl, rfl, rfl, w1⟩ := open_int Tryz.underlying22 (hval 1 22 v1 rfl rfl) h1
  have k2 := h2
  have lt2 : ∀ x ∈ p2, x.block < W.heap.size := by obtain ⟨m, hm⟩ := k2; exact DataW.trod_lt m _ _ _ hm
  obtain ⟨a2, rfl, rfl, rfl, w2⟩ := open_string Tryz.underlying9 (hval 2 9 v2 rfl rfl) h2
  clear hA0 hval0
  refine (law_any a0 w0 a1 w1 a2 w2 W hE).mono fun e W' ⟨he, bel⟩ => ?_
  subst he
  exact ⟨_, rfl, _, _, _, [], _, [], hW', trodAll_mk1 (shut_bool Tryz.underlying4 _), (trodAll_cons_mk (Below.trod laidOut (by kernel_rfl) (of_decide_eq_true (by kernel_rfl)) k0 bel lt0) (trodAll_cons_mk (Below.trod laidOut (by kernel_rfl) (of_decide_eq_true (by kernel_rfl)) k1 bel lt1) (trodAll_cons_mk (Below.trod laidOut (by kernel_rfl) (of_decide_eq_true (by kernel_rfl)) k2 bel lt2) trodAll_mk0))), rfl, bel.frame _, fun h => by cases h⟩

theorem said : Rows.PrepAnySaid :=
  OpenClaim.holds_of_cond 8 Tryz.f8 rfl rfl rfl rfl rfl rfl rfl ⟨rfl, rfl, rfl, rfl, rfl⟩ rfl rfl rfl rfl rfl (by kernel_rfl) Tryz.func8 (by kernel_rfl)
    (of_decide_eq_true (by kernel_rfl)) (by unfold Func.isWrapper; first | (rw [if_pos (by decide +kernel)]; kernel_rfl) | (rw [if_neg (by decide +kernel)]; exact ⟨rfl, rfl⟩))
    (fun os started H enc _ F => by rw [OpenClaim.pre_eq_preRow]; exact lifted os started H enc F)

theorem plain (f : FuncId) (fn : Func) (hf : Tryz.pinned.checked.prog.funcNamed "roster/rosterlaw03.PrepAny" = some f) (hfn : Tryz.pinned.checked.prog.funcs[f]? = some fn) :
    false = Tryz.pinned.checked.prog.looks [] ∧ ∀ (j : Nat) t, fn.params[j]? = some t → Tryz.pinned.checked.prog.wantsStandIn t = false := by
  obtain rfl : f = 8 := Option.some.inj ((show Tryz.prog.funcNamed "roster/rosterlaw03.PrepAny" = some 8 by kernel_rfl).symm.trans hf) |>.symm
  obtain rfl : fn = Tryz.f8 := (Option.some.inj (Tryz.func8.symm.trans hfn)).symm
  refine ⟨by kernel_rfl, fun j t ht => ?_⟩
  rw [Tryz.params8] at ht
  have hm := Array.mem_of_getElem? ht
  have hm2 : t = 22 ∨ t = 9 := by simpa using hm
  rcases hm2 with rfl | rfl
  · exact (show Tryz.prog.wantsStandIn 22 = false by kernel_rfl)
  · exact (show Tryz.prog.wantsStandIn 9 = false by kernel_rfl)

theorem proved : Rows.PrepAnyCardSaid :=
  Claim7.holds_tied_plain_at .later [] _ _ _ _ said (fun _ h => by cases h) (by kernel_rfl) (fun _ h => by cases h) prepAny_row_tie rfl ⟨rfl, rfl⟩ (by kernel_rfl) rfl plain (by kernel_rfl)
#print axioms proved
end Go.Proofs.YtpnnbffhdhbonaaGreatDoor.prepAny
