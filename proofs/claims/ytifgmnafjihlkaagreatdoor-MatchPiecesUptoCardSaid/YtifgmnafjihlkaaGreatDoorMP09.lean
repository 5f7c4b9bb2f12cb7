/- Part 9 of the walks and plain laws, joined: MatOf, SchMk, SchP2, Ups, Chain, Clones. -/
import Derived.Test.YtifgmnafjihlkaaGreatDoorMP07
import Derived.Test.YtifgmnafjihlkaaGreatDoorMP08
import Derived.Test.YtifgmnafjihlkaaGreatDoorShelf
import Derived.Deep.QuietTactic
import Derived.BigQuiet
import Derived.Deep.Cut
import Derived.Outline
import Derived.Deep.RegionHeld3
import Derived.IntWalk
import Derived.Shelf.SlLaysE0
import Derived.Shelf.SlicesE.Clone
/- match.test.of, its closures; Equal, From, UpTo. -/
namespace Go.Proofs.YtifgmnafjihlkaaGreatDoor
open Go Go.RowKit

/-- what Key answers at a schema and rule, in this world and all later ones -/
def KeyAt (w : World) (p : Option Addr) (r : Int) (K : Str → Str × Bool) : Prop :=
  ∀ (w' : World) (v : ByteArray), Below w.heap.size w w' → Calls Tryz.prog 15 #[.pointer p, .int .i8 r, .string v] w' fun e w'' => e = .returned (ret2 (K (toL v))) ∧ Below w'.heap.size w' w''
theorem KeyAt.next {w w' : World} {p : Option Addr} {r : Int} {K : Str → Str × Bool} (h : KeyAt w p r K) (k : Below w.heap.size w w') : KeyAt w' p r K := fun w2 v hb => h w2 v (bnext k hb)
theorem keyAt_nil (w : World) (r : Int) : KeyAt w none r (fun _ => ([], false)) := fun w' v _ => (mkey_nil r v w').mono fun _ _ ⟨h1, h2⟩ => ⟨h1, h2 ▸ Below.refl _ _⟩
theorem keyAt_form (p : Addr) (r : Int) (w : World) (hE : Env w) (hES : EnvS w) (hEM : EnvM w) (hr : -128 ≤ r ∧ r ≤ 127) (h19 : r ≠ 19) (h20 : r ≠ 20) : KeyAt w (some p) r (keyM r) :=
  fun w' v hb => mkey_form p r v w' (hE.next hb) (hES.next hb) (hEM.next hb) hr h19 h20

theorem of1_any (v : ByteArray) (w : World) : Calls Tryz.prog 115 #[.string v] w fun e w' => e = .returned (.int .i8 2) ∧ w = w' := by
  go_enter Tryz.func115, Tryz.ntmps115
  go_wp2_with fail
  go_ret
  exact ⟨rfl, rfl⟩

/-- what the closure of 'of' has captured -/
structure OfAt (w : World) (c1 c2 c3 c4 : Nat) (p : Option Addr) (r sort : Int) (f : FuncId) (key : Str) : Prop where
  s : w.cell? ⟨c1, 0, none⟩ = some (.pointer p)
  r : w.cell? ⟨c2, 0, none⟩ = some (.int .i8 r)
  sort : w.cell? ⟨c3, 0, none⟩ = some (.int .i8 sort)
  says : w.cell? ⟨c3, 1, none⟩ = some (.func (.func f) #[] #[])
  key : w.cell? ⟨c4, 0, none⟩ = some (.string ⟨key.toArray⟩)
theorem OfAt.keep {w w' : World} {c1 c2 c3 c4 : Nat} {p : Option Addr} {r sort : Int} {f : FuncId} {key : Str} (h : OfAt w c1 c2 c3 c4 p r sort f key) (k : Below w.heap.size w w') : OfAt w' c1 c2 c3 c4 p r sort f key :=
  ⟨by rw [k.cell (World.block_lt_of_cell? w _ h.s)]; exact h.s, by rw [k.cell (World.block_lt_of_cell? w _ h.r)]; exact h.r, by rw [k.cell (World.block_lt_of_cell? w _ h.sort)]; exact h.sort,
    by rw [k.cell (World.block_lt_of_cell? w _ h.says)]; exact h.says, by rw [k.cell (World.block_lt_of_cell? w _ h.key)]; exact h.key⟩

/-- what 'of' makes: a closure that answers unknown, or one that asks the key -/
def OfPost (p : Option Addr) (r sort : Int) (f : FuncId) (k : Str × Bool) (w : World) (e : Ending) (w' : World) : Prop :=
  Below w.heap.size w w' ∧ ((k.2 = false ∨ sortV r ≠ sort) ∧ e = .returned (.func (.func 115) #[] #[]) ∨
    (k.2 = true ∧ sortV r = sort) ∧ ∃ c1 c2 c3 c4, e = .returned (.func (.func 116) #[] #[.pointer (some ⟨c1, 0, none⟩), .pointer (some ⟨c2, 0, none⟩), .pointer (some ⟨c3, 0, none⟩), .pointer (some ⟨c4, 0, none⟩)]) ∧ OfAt w' c1 c2 c3 c4 p r sort f k.1)

def saysE (a b : Str) : Bool := a == b
def saysF (a b : Str) : Bool := !Op.bytesLess a b
def saysU (a b : Str) : Bool := Op.bytesLess a b || a == b
theorem saysE_any (a b : ByteArray) (w : World) : Calls Tryz.prog 65 #[.string a, .string b] w fun e w' => e = .returned (.bool (saysE (toL a) (toL b))) ∧ w = w' := by
  go_enter Tryz.func65, Tryz.ntmps65
  go_wp2_with fail
  go_ret
  refine ⟨?_, rfl⟩
  simp [saysE, toL, Lib.toList_data]
theorem saysF_any (a b : ByteArray) (w : World) : Calls Tryz.prog 67 #[.string a, .string b] w fun e w' => e = .returned (.bool (saysF (toL a) (toL b))) ∧ w = w' := by
  go_enter Tryz.func67, Tryz.ntmps67
  go_wp2_with fail
  go_ret
  refine ⟨?_, rfl⟩
  simp [saysF, toL, Lib.toList_data]
theorem saysU_any (a b : ByteArray) (w : World) : Calls Tryz.prog 68 #[.string a, .string b] w fun e w' => e = .returned (.bool (saysU (toL a) (toL b))) ∧ w = w' := by
  go_enter Tryz.func68, Tryz.ntmps68
  go_wp2_with fail
  go_ret
  refine ⟨?_, rfl⟩
  simp [saysU, toL, Lib.toList_data]

set_option maxRecDepth 20000 in
set_option maxHeartbeats 1000000 in
theorem tof_any (p : Option Addr) (r sort : Int) (f : FuncId) (K : Str → Str × Bool) (asked : ByteArray) (w : World) (hEM : EnvM w) (hr : -128 ≤ r ∧ r ≤ 127) (hK : KeyAt w p r K) :
    Calls Tryz.prog 66 #[.agg #[.int .i8 sort, .func (.func f) #[] #[]], .pointer p, .int .i8 r, .string asked] w (OfPost p r sort f (K (toL asked)) w) := by
  have hk := fun w' (hb : Below w.heap.size w w') => hK w' asked hb
  have hso := fun w' (hb : Below w.heap.size w w') => (sortOf_any r w' (hEM.next hb) hr).mono fun e w2 ⟨h1, h2⟩ => (⟨h1, h2.symm⟩ : e = Ending.returned (.int .i8 (sortV r)) ∧ w2 = w')
  generalize K (toL asked) = k at hk ⊢
  obtain ⟨kl, kb⟩ := k
  unfold ret2 at hk
  obtain ⟨so, hs⟩ : ∃ so, sortV r = so := ⟨_, rfl⟩
  rw [hs] at hso
  have HS := Lib.hid hs
  have HK := Lib.hid hk; have HSO := Lib.hid hso; clear hk hso hK hEM hs hr
  have hb0 : Below w.heap.size w (((w.alloc (.cells #[.int .i8 sort, .func (.func f) #[] #[]] 117)).alloc (.cells #[.pointer p] 39)).alloc (.cells #[.int .i8 r] 22)) := (((Below.refl _ w).alloc (Nat.le_refl _) _).alloc (by simp) _).alloc (by simp; omega) _
  have hz : (((w.alloc (.cells #[.int .i8 sort, .func (.func f) #[] #[]] 117)).alloc (.cells #[.pointer p] 39)).alloc (.cells #[.int .i8 r] 22)).heap.size = w.heap.size + 3 := by simp
  have hc : (((w.alloc (.cells #[.int .i8 sort, .func (.func f) #[] #[]] 117)).alloc (.cells #[.pointer p] 39)).alloc (.cells #[.int .i8 r] 22)).cell? ⟨w.heap.size + 1, 0, none⟩ = some (.pointer p) ∧ (((w.alloc (.cells #[.int .i8 sort, .func (.func f) #[] #[]] 117)).alloc (.cells #[.pointer p] 39)).alloc (.cells #[.int .i8 r] 22)).cell? ⟨w.heap.size + 1 + 1, 0, none⟩ = some (.int .i8 r) ∧ (((w.alloc (.cells #[.int .i8 sort, .func (.func f) #[] #[]] 117)).alloc (.cells #[.pointer p] 39)).alloc (.cells #[.int .i8 r] 22)).cell? ⟨w.heap.size, 0, none⟩ = some (.int .i8 sort) ∧ (((w.alloc (.cells #[.int .i8 sort, .func (.func f) #[] #[]] 117)).alloc (.cells #[.pointer p] 39)).alloc (.cells #[.int .i8 r] 22)).cell? ⟨w.heap.size, 1, none⟩ = some (.func (.func f) #[] #[]) := by
    have h1 := World.cell?_alloc_new (w.alloc (.cells #[.int .i8 sort, .func (.func f) #[] #[]] 117)) #[.pointer p] 39 0
    have h2 := World.cell?_alloc_new ((w.alloc (.cells #[.int .i8 sort, .func (.func f) #[] #[]] 117)).alloc (.cells #[.pointer p] 39)) #[.int .i8 r] 22 0
    rw [show (w.alloc (.cells #[.int .i8 sort, .func (.func f) #[] #[]] 117)).heap.size = w.heap.size + 1 by simp] at h1
    rw [show ((w.alloc (.cells #[.int .i8 sort, .func (.func f) #[] #[]] 117)).alloc (.cells #[.pointer p] 39)).heap.size = w.heap.size + 1 + 1 by simp] at h2
    refine ⟨?_, h2, ?_, ?_⟩
    · rw [World.cell?_alloc_lt _ _ _ (by simp)]; exact h1
    · rw [World.cell?_alloc_lt _ _ _ (by simp; omega), World.cell?_alloc_lt _ _ _ (by simp), World.cell?_alloc_new]; rfl
    · rw [World.cell?_alloc_lt _ _ _ (by simp; omega), World.cell?_alloc_lt _ _ _ (by simp), World.cell?_alloc_new]; rfl
  have H0 := Lib.hid (And.intro hb0 (And.intro hc hz)); clear hb0 hc hz
  go_enter Tryz.func66, Tryz.ntmps66
  go_upto_region 2 with (first | (go_at_call 15; refine (HK.out _ H0.out.1).mono ?_; rintro e w1 ⟨rfl, hb1⟩; have H1 := Lib.hid (bnext H0.out.1 hb1); have hcc := H0.out.2.1; have k2 := (hb1.cell (World.block_lt_of_cell? _ _ hcc.2.1)).trans hcc.2.1; have k3 := (hb1.cell (World.block_lt_of_cell? _ _ hcc.2.2.1)).trans hcc.2.2.1; have HO := Lib.hid (And.intro ((hb1.cell (World.block_lt_of_cell? _ _ hcc.1)).trans hcc.1) (And.intro k2 (And.intro k3 ((hb1.cell (World.block_lt_of_cell? _ _ hcc.2.2.2)).trans hcc.2.2.2)))); clear hb1 hcc) | fail)
  have hoa : OfAt (w1.alloc (.cells #[.string ⟨kl.toArray⟩] 9)) (w.heap.size + 1) (w.heap.size + 1 + 1) w.heap.size w1.heap.size p r sort f kl := by
    have hk := (Below.refl w1.heap.size w1).alloc (Nat.le_refl _) (.cells #[.string ⟨kl.toArray⟩] 9)
    exact ⟨(hk.cell (World.block_lt_of_cell? _ _ HO.out.1)).trans HO.out.1, (hk.cell (World.block_lt_of_cell? _ _ HO.out.2.1)).trans HO.out.2.1, (hk.cell (World.block_lt_of_cell? _ _ HO.out.2.2.1)).trans HO.out.2.2.1, (hk.cell (World.block_lt_of_cell? _ _ HO.out.2.2.2)).trans HO.out.2.2.2, by rw [World.cell?_alloc_new]; rfl⟩
  have hb2 : Below w.heap.size w (w1.alloc (.cells #[.string ⟨kl.toArray⟩] 9)) := H1.out.alloc H1.out.size _
  clear k2 k3
  generalize w1.alloc (.cells #[.string ⟨kl.toArray⟩] 9) = w2 at hoa hb2 ⊢
  have k2 := hoa.r
  have k3 := hoa.sort
  have H2 := Lib.hid (And.intro hoa hb2); clear hoa hb2
  cases kb with
  | false =>
    go_quiet (fail)
    go_wp2_with fail
    go_ret
    exact ⟨bdrewN H2.out.2 _, .inl ⟨.inl rfl, rfl⟩⟩
  | true =>
    by_cases hso : so = sort
    · subst hso
      go_quiet ((go_at_call 59; exact Calls.quiet_of_same (HSO.out _ (bdrewN H2.out.2 _))))
      go_wp2_with fail
      go_ret
      exact ⟨bdrewN H2.out.2 _, .inr ⟨⟨rfl, HS.out⟩, _, _, _, _, rfl, H2.out.1.keep (bdrewN (Below.refl _ _) _)⟩⟩
    · have hbs : (so != sort) = true := by simpa using hso
      have HNE := Lib.hid hso; clear hso
      go_quiet ((go_at_call 59; exact Calls.quiet_of_same (HSO.out _ (bdrewN H2.out.2 _))))
      go_wp2_with fail
      go_ret
      exact ⟨bdrewN H2.out.2 _, .inl ⟨.inr (by rw [HS.out]; exact HNE.out), rfl⟩⟩

set_option maxRecDepth 20000 in
set_option maxHeartbeats 1000000 in
theorem of2_anyE (c1 c2 c3 c4 : Nat) (p : Option Addr) (r sort : Int) (K : Str → Str × Bool) (key : Str) (v : ByteArray) (w : World) (h : OfAt w c1 c2 c3 c4 p r sort 65 key) (hK : KeyAt w p r K) :
    Calls Tryz.prog 116 #[.string v, .pointer (some ⟨c1, 0, none⟩), .pointer (some ⟨c2, 0, none⟩), .pointer (some ⟨c3, 0, none⟩), .pointer (some ⟨c4, 0, none⟩)] w
      fun e w' => e = .returned (.int .i8 (truthV ((K (toL v)).2 && saysE (K (toL v)).1 key))) ∧ Below w.heap.size w w' := by
  have e1 := h.s
  have e2 := h.r
  have hk := fun w' (hb : Below w.heap.size w w') => hK w' v hb
  generalize K (toL v) = k at hk ⊢
  obtain ⟨kl, kb⟩ := k
  unfold ret2 at hk
  have hsy := fun w' => saysE_any ⟨kl.toArray⟩ ⟨key.toArray⟩ w'
  change ∀ w', Calls Tryz.prog 65 #[.string ⟨kl.toArray⟩, .string ⟨key.toArray⟩] w' fun e w'' => e = .returned (.bool (saysE kl key)) ∧ w' = w'' at hsy
  have HK := Lib.hid hk; have HS := Lib.hid hsy; have H := Lib.hid h; clear hk hsy hK h
  cases kb with
  | false =>
    go_enter Tryz.func116, Tryz.ntmps116
    go_wp2_with (first
      | (go_at_call 15; with_reducible refine (HK.out _ (Below.refl _ _)).mono ?_; rintro e w1 ⟨rfl, hb1⟩; have HB1 := Lib.hid hb1; clear hb1)
      | (go_at_call 75; with_reducible refine (truth_any _ _).mono ?_; rintro e w2 ⟨rfl, rfl⟩)
      | fail)
    go_ret
    exact ⟨rfl, HB1.out⟩
  | true =>
    generalize hsv : saysE kl key = sb at HS
    go_enter Tryz.func116, Tryz.ntmps116
    go_wp2_with (first
      | (go_at_call 15; with_reducible refine (HK.out _ (Below.refl _ _)).mono ?_; rintro e w1 ⟨rfl, hb1⟩; have HB1 := Lib.hid hb1; have e3 := (H.out.keep hb1).says; have e4 := (H.out.keep hb1).key; clear hb1)
      | (go_at_call 75; with_reducible refine (truth_any _ _).mono ?_; rintro e w2 ⟨rfl, rfl⟩)
      | (go_at_call 65; with_reducible refine (HS.out _).mono ?_; rintro e w3 ⟨rfl, rfl⟩)
      | fail)
    go_ret
    exact ⟨by rw [← hsv]; rfl, HB1.out⟩


set_option maxRecDepth 20000 in
set_option maxHeartbeats 1000000 in
theorem ask_anyE (p : Option Addr) (r : Int) (K : Str → Str × Bool) (value asked : ByteArray) (w : World) (hEM : EnvM w) (hr : -128 ≤ r ∧ r ≤ 127) (hK : KeyAt w p r K) :
    Calls Tryz.prog 18 #[.pointer p, .int .i8 r, .string value, .string asked] w fun e w' => e = .returned (.int .i8 (askV 1 saysE K r (toL value) (toL asked))) ∧ Below w.heap.size w w' := by
  have hof := tof_any p r 1 65 K asked w hEM hr hK
  have HOF := Lib.hid hof; have HK := Lib.hid hK; clear hof hK hEM hr
  go_enter Tryz.func18, Tryz.ntmps18
  go_wp2_with fail
  refine (HOF.out).mono ?_
  rintro e w1 ⟨hb1, (⟨hc, rfl⟩ | ⟨hc, c1, c2, c3, c4, rfl, ho⟩)⟩
  · have hv : askV 1 saysE K r (toL value) (toL asked) = 2 := if_pos hc
    have HV := Lib.hid hv; have HB1 := Lib.hid hb1; clear hv hb1 hc
    go_wp2_with (first | (go_at_call 115; with_reducible refine (of1_any _ _).mono ?_; rintro e w2 ⟨rfl, rfl⟩) | fail)
    go_ret
    exact ⟨by rw [HV.out]; rfl, HB1.out⟩
  · have hv : askV 1 saysE K r (toL value) (toL asked) = truthV ((K (toL value)).2 && saysE (K (toL value)).1 (K (toL asked)).1) := if_neg (by rintro (h | h); rw [hc.1] at h; cases h; exact h hc.2)
    have h2 := of2_anyE c1 c2 c3 c4 p r 1 K (K (toL asked)).1 value w1 ho (HK.out.next hb1)
    rw [← hv] at h2
    generalize hav : askV 1 saysE K r (toL value) (toL asked) = av at h2
    have HAV := Lib.hid hav; clear hav
    have H2 := Lib.hid h2; have HB1 := Lib.hid hb1; clear hv hb1 hc h2 ho
    go_wp2_with (first | (go_at_call 116; with_reducible refine (H2.out).mono ?_; rintro e w2 ⟨rfl, hb2⟩; have HB2 := Lib.hid (bnext HB1.out hb2); clear hb2) | fail)
    go_ret
    exact ⟨by rw [HAV.out]; rfl, HB2.out⟩
set_option maxRecDepth 20000 in
set_option maxHeartbeats 1000000 in
theorem of2_anyF (c1 c2 c3 c4 : Nat) (p : Option Addr) (r sort : Int) (K : Str → Str × Bool) (key : Str) (v : ByteArray) (w : World) (h : OfAt w c1 c2 c3 c4 p r sort 67 key) (hK : KeyAt w p r K) :
    Calls Tryz.prog 116 #[.string v, .pointer (some ⟨c1, 0, none⟩), .pointer (some ⟨c2, 0, none⟩), .pointer (some ⟨c3, 0, none⟩), .pointer (some ⟨c4, 0, none⟩)] w
      fun e w' => e = .returned (.int .i8 (truthV ((K (toL v)).2 && saysF (K (toL v)).1 key))) ∧ Below w.heap.size w w' := by
  have e1 := h.s
  have e2 := h.r
  have hk := fun w' (hb : Below w.heap.size w w') => hK w' v hb
  generalize K (toL v) = k at hk ⊢
  obtain ⟨kl, kb⟩ := k
  unfold ret2 at hk
  have hsy := fun w' => saysF_any ⟨kl.toArray⟩ ⟨key.toArray⟩ w'
  change ∀ w', Calls Tryz.prog 67 #[.string ⟨kl.toArray⟩, .string ⟨key.toArray⟩] w' fun e w'' => e = .returned (.bool (saysF kl key)) ∧ w' = w'' at hsy
  have HK := Lib.hid hk; have HS := Lib.hid hsy; have H := Lib.hid h; clear hk hsy hK h
  cases kb with
  | false =>
    go_enter Tryz.func116, Tryz.ntmps116
    go_wp2_with (first
      | (go_at_call 15; with_reducible refine (HK.out _ (Below.refl _ _)).mono ?_; rintro e w1 ⟨rfl, hb1⟩; have HB1 := Lib.hid hb1; clear hb1)
      | (go_at_call 75; with_reducible refine (truth_any _ _).mono ?_; rintro e w2 ⟨rfl, rfl⟩)
      | fail)
    go_ret
    exact ⟨rfl, HB1.out⟩
  | true =>
    generalize hsv : saysF kl key = sb at HS
    go_enter Tryz.func116, Tryz.ntmps116
    go_wp2_with (first
      | (go_at_call 15; with_reducible refine (HK.out _ (Below.refl _ _)).mono ?_; rintro e w1 ⟨rfl, hb1⟩; have HB1 := Lib.hid hb1; have e3 := (H.out.keep hb1).says; have e4 := (H.out.keep hb1).key; clear hb1)
      | (go_at_call 75; with_reducible refine (truth_any _ _).mono ?_; rintro e w2 ⟨rfl, rfl⟩)
      | (go_at_call 67; with_reducible refine (HS.out _).mono ?_; rintro e w3 ⟨rfl, rfl⟩)
      | fail)
    go_ret
    exact ⟨by rw [← hsv]; rfl, HB1.out⟩


set_option maxRecDepth 20000 in
set_option maxHeartbeats 1000000 in
theorem ask_anyF (p : Option Addr) (r : Int) (K : Str → Str × Bool) (value asked : ByteArray) (w : World) (hEM : EnvM w) (hr : -128 ≤ r ∧ r ≤ 127) (hK : KeyAt w p r K) :
    Calls Tryz.prog 19 #[.pointer p, .int .i8 r, .string value, .string asked] w fun e w' => e = .returned (.int .i8 (askV 2 saysF K r (toL value) (toL asked))) ∧ Below w.heap.size w w' := by
  have hof := tof_any p r 2 67 K asked w hEM hr hK
  have HOF := Lib.hid hof; have HK := Lib.hid hK; clear hof hK hEM hr
  go_enter Tryz.func19, Tryz.ntmps19
  go_wp2_with fail
  refine (HOF.out).mono ?_
  rintro e w1 ⟨hb1, (⟨hc, rfl⟩ | ⟨hc, c1, c2, c3, c4, rfl, ho⟩)⟩
  · have hv : askV 2 saysF K r (toL value) (toL asked) = 2 := if_pos hc
    have HV := Lib.hid hv; have HB1 := Lib.hid hb1; clear hv hb1 hc
    go_wp2_with (first | (go_at_call 115; with_reducible refine (of1_any _ _).mono ?_; rintro e w2 ⟨rfl, rfl⟩) | fail)
    go_ret
    exact ⟨by rw [HV.out]; rfl, HB1.out⟩
  · have hv : askV 2 saysF K r (toL value) (toL asked) = truthV ((K (toL value)).2 && saysF (K (toL value)).1 (K (toL asked)).1) := if_neg (by rintro (h | h); rw [hc.1] at h; cases h; exact h hc.2)
    have h2 := of2_anyF c1 c2 c3 c4 p r 2 K (K (toL asked)).1 value w1 ho (HK.out.next hb1)
    rw [← hv] at h2
    generalize hav : askV 2 saysF K r (toL value) (toL asked) = av at h2
    have HAV := Lib.hid hav; clear hav
    have H2 := Lib.hid h2; have HB1 := Lib.hid hb1; clear hv hb1 hc h2 ho
    go_wp2_with (first | (go_at_call 116; with_reducible refine (H2.out).mono ?_; rintro e w2 ⟨rfl, hb2⟩; have HB2 := Lib.hid (bnext HB1.out hb2); clear hb2) | fail)
    go_ret
    exact ⟨by rw [HAV.out]; rfl, HB2.out⟩
set_option maxRecDepth 20000 in
set_option maxHeartbeats 1000000 in
theorem of2_anyU (c1 c2 c3 c4 : Nat) (p : Option Addr) (r sort : Int) (K : Str → Str × Bool) (key : Str) (v : ByteArray) (w : World) (h : OfAt w c1 c2 c3 c4 p r sort 68 key) (hK : KeyAt w p r K) :
    Calls Tryz.prog 116 #[.string v, .pointer (some ⟨c1, 0, none⟩), .pointer (some ⟨c2, 0, none⟩), .pointer (some ⟨c3, 0, none⟩), .pointer (some ⟨c4, 0, none⟩)] w
      fun e w' => e = .returned (.int .i8 (truthV ((K (toL v)).2 && saysU (K (toL v)).1 key))) ∧ Below w.heap.size w w' := by
  have e1 := h.s
  have e2 := h.r
  have hk := fun w' (hb : Below w.heap.size w w') => hK w' v hb
  generalize K (toL v) = k at hk ⊢
  obtain ⟨kl, kb⟩ := k
  unfold ret2 at hk
  have hsy := fun w' => saysU_any ⟨kl.toArray⟩ ⟨key.toArray⟩ w'
  change ∀ w', Calls Tryz.prog 68 #[.string ⟨kl.toArray⟩, .string ⟨key.toArray⟩] w' fun e w'' => e = .returned (.bool (saysU kl key)) ∧ w' = w'' at hsy
  have HK := Lib.hid hk; have HS := Lib.hid hsy; have H := Lib.hid h; clear hk hsy hK h
  cases kb with
  | false =>
    go_enter Tryz.func116, Tryz.ntmps116
    go_wp2_with (first
      | (go_at_call 15; with_reducible refine (HK.out _ (Below.refl _ _)).mono ?_; rintro e w1 ⟨rfl, hb1⟩; have HB1 := Lib.hid hb1; clear hb1)
      | (go_at_call 75; with_reducible refine (truth_any _ _).mono ?_; rintro e w2 ⟨rfl, rfl⟩)
      | fail)
    go_ret
    exact ⟨rfl, HB1.out⟩
  | true =>
    generalize hsv : saysU kl key = sb at HS
    go_enter Tryz.func116, Tryz.ntmps116
    go_wp2_with (first
      | (go_at_call 15; with_reducible refine (HK.out _ (Below.refl _ _)).mono ?_; rintro e w1 ⟨rfl, hb1⟩; have HB1 := Lib.hid hb1; have e3 := (H.out.keep hb1).says; have e4 := (H.out.keep hb1).key; clear hb1)
      | (go_at_call 75; with_reducible refine (truth_any _ _).mono ?_; rintro e w2 ⟨rfl, rfl⟩)
      | (go_at_call 68; with_reducible refine (HS.out _).mono ?_; rintro e w3 ⟨rfl, rfl⟩)
      | fail)
    go_ret
    exact ⟨by rw [← hsv]; rfl, HB1.out⟩


set_option maxRecDepth 20000 in
set_option maxHeartbeats 1000000 in
theorem ask_anyU (p : Option Addr) (r : Int) (K : Str → Str × Bool) (value asked : ByteArray) (w : World) (hEM : EnvM w) (hr : -128 ≤ r ∧ r ≤ 127) (hK : KeyAt w p r K) :
    Calls Tryz.prog 20 #[.pointer p, .int .i8 r, .string value, .string asked] w fun e w' => e = .returned (.int .i8 (askV 2 saysU K r (toL value) (toL asked))) ∧ Below w.heap.size w w' := by
  have hof := tof_any p r 2 68 K asked w hEM hr hK
  have HOF := Lib.hid hof; have HK := Lib.hid hK; clear hof hK hEM hr
  go_enter Tryz.func20, Tryz.ntmps20
  go_wp2_with fail
  refine (HOF.out).mono ?_
  rintro e w1 ⟨hb1, (⟨hc, rfl⟩ | ⟨hc, c1, c2, c3, c4, rfl, ho⟩)⟩
  · have hv : askV 2 saysU K r (toL value) (toL asked) = 2 := if_pos hc
    have HV := Lib.hid hv; have HB1 := Lib.hid hb1; clear hv hb1 hc
    go_wp2_with (first | (go_at_call 115; with_reducible refine (of1_any _ _).mono ?_; rintro e w2 ⟨rfl, rfl⟩) | fail)
    go_ret
    exact ⟨by rw [HV.out]; rfl, HB1.out⟩
  · have hv : askV 2 saysU K r (toL value) (toL asked) = truthV ((K (toL value)).2 && saysU (K (toL value)).1 (K (toL asked)).1) := if_neg (by rintro (h | h); rw [hc.1] at h; cases h; exact h hc.2)
    have h2 := of2_anyU c1 c2 c3 c4 p r 2 K (K (toL asked)).1 value w1 ho (HK.out.next hb1)
    rw [← hv] at h2
    generalize hav : askV 2 saysU K r (toL value) (toL asked) = av at h2
    have HAV := Lib.hid hav; clear hav
    have H2 := Lib.hid h2; have HB1 := Lib.hid hb1; clear hv hb1 hc h2 ho
    go_wp2_with (first | (go_at_call 116; with_reducible refine (H2.out).mono ?_; rintro e w2 ⟨rfl, hb2⟩; have HB2 := Lib.hid (bnext HB1.out hb2); clear hb2) | fail)
    go_ret
    exact ⟨by rw [HAV.out]; rfl, HB2.out⟩
end Go.Proofs.YtifgmnafjihlkaaGreatDoor
/- The schema under way: the cells that the maker's functions read. -/
namespace Go.Proofs.YtifgmnafjihlkaaGreatDoor
open Go Go.RowKit Go.Maps

def intV (n : Nat) : Value := .int .i64 (n : Int)
theorem intV_one (l : List Nat) : ∀ u ∈ l.map intV, u.oneCell' = true := fun u hu => by
  obtain ⟨s, _, rfl⟩ := List.mem_map.1 hu; rfl
theorem intV_get {l : List Nat} {i : Nat} (h : i < l.length) : (l.map intV)[i]? = some (.int .i64 (l[i] : Int)) := by simp [h, intV]
theorem eiInt : EI Tryz.prog 134 3 (.int .i64 0) 1 8 := EI.of Tryz.underlying134 (by kernel_rfl) rfl (by decide) (by decide)

/-- block g holds plain, types, classes ahead of the rest; what they lead to lies below it -/
structure Mk (w : World) (g : Nat) (S : PSchema) : Prop where
  lt : g < w.heap.size
  types : ∃ a n c, w.cell? ⟨g, 0, none⟩ = some (.slice a n c) ∧ Types g w a n c S.types
  classes : ∃ a n c, w.cell? ⟨g, 1, none⟩ = some (.slice a n c) ∧ Classes g w a n c S.classes
  tm : ∃ m N, w.cell? ⟨g, 2, none⟩ = some (.map (some m)) ∧ m < g ∧ MapIs w m N (placeOf (tK S))
  cm : ∃ m N, w.cell? ⟨g, 3, none⟩ = some (.map (some m)) ∧ m < g ∧ MapIs w m N (placeOf (cK S))
/-- what stays while cells behind the first four, and blocks behind g, turn -/
theorem Mk.keep4 {w w' : World} {g : Nat} {S : PSchema} (h : Mk w g S) (k : Below g w w') (hs : w.heap.size ≤ w'.heap.size) (hc : ∀ j, j < 4 → w'.cell? ⟨g, j, none⟩ = w.cell? ⟨g, j, none⟩) : Mk w' g S where
  lt := Nat.lt_of_lt_of_le h.lt hs
  types := by obtain ⟨a, n, c, h1, h2⟩ := h.types; exact ⟨a, n, c, by rw [hc 0 (by omega)]; exact h1, h2.keep k (Nat.le_refl _)⟩
  classes := by obtain ⟨a, n, c, h1, h2⟩ := h.classes; exact ⟨a, n, c, by rw [hc 1 (by omega)]; exact h1, h2.keep k (Nat.le_refl _)⟩
  tm := by obtain ⟨m, N, h1, h2, h3⟩ := h.tm; exact ⟨m, N, by rw [hc 2 (by omega)]; exact h1, h2, h3.keep k h2⟩
  cm := by obtain ⟨m, N, h1, h2, h3⟩ := h.cm; exact ⟨m, N, by rw [hc 3 (by omega)]; exact h1, h2, h3.keep k h2⟩
theorem Mk.keep {w w' : World} {g : Nat} {S : PSchema} (h : Mk w g S) (k : Below w.heap.size w w') : Mk w' g S :=
  h.keep4 (k.mono (Nat.le_of_lt h.lt)) k.size fun j _ => k.cell (by exact h.lt)

theorem contains_vec {w0 wr : World} {go : Option Nat} {n cap : Nat} {acc : List Nat} (h : Vec 3 1 w0 wr go n cap (acc.map intV)) (hn : n = acc.length) (hb : n ≤ 1000000) (t : Nat) :
    Calls Tryz.prog 137 #[sv go n cap, .int .i64 (t : Int)] wr fun e w' => e = .returned (.bool (acc.contains t)) ∧ wr = w' := by
  subst hn
  cases go with
  | none =>
    have := h.own.2.1
    have : acc = [] := List.eq_nil_of_length_eq_zero this
    subst this
    exact (Tryz.slices_Contains_int_empty none cap (t : Int) wr).mono fun e w' ⟨he, hw⟩ => ⟨he, hw.symm⟩
  | some g =>
    refine (Tryz.slices_Contains_int g 0 acc.length cap (acc.map (Int.ofNat)) (t : Int) wr (by simp) (by omega) (fun j hj => ?_)).mono fun e w' ⟨he, hw⟩ => ⟨?_, hw.symm⟩
    · have hj' : j < acc.length := by simpa using hj
      rw [Nat.zero_add, h.cell (intV_get hj')]
      simp [List.getD, hj']
    · rw [he, List.take_of_length_le (by simp)]
      congr 2
      rw [Bool.eq_iff_iff]
      simp only [List.contains_iff_mem, List.mem_map]
      exact ⟨fun ⟨a, ha, e⟩ => (Int.ofNat.inj e) ▸ ha, fun h => ⟨t, h, rfl⟩⟩
end Go.Proofs.YtifgmnafjihlkaaGreatDoor
/- Plain facts on what lies above a class: the fuel does not matter. No program. -/
namespace Go.Proofs.YtifgmnafjihlkaaGreatDoor
open Go

theorem supsOf_lt {S : PSchema} {c p : Nat} (h : some p ∈ supsOf S c) : p < S.classes.length := by
  unfold supsOf at h
  obtain ⟨n, _, hn⟩ := List.mem_map.1 h
  have := placeOf_lt hn
  simpa [cK] using this

/-- one step of dfs's fold -/
def dstep (S : PSchema) (f : Nat) (s : List Bool) (p : Option Nat) : List Bool := match p with
  | none => s
  | some p => if s.getD p false then s else dfs S f (s.set p true) p
theorem dfs_eq (S : PSchema) (f : Nat) (s : List Bool) (c : Nat) : dfs S (f + 1) s c = (supsOf S c).foldl (dstep S f) s := rfl
theorem dstep_more (S : PSchema) (f : Nat) (s : List Bool) (p : Option Nat) : OnMore s (dstep S f s p) := by
  cases p with
  | none => exact OnMore.refl s
  | some p =>
    unfold dstep
    dsimp only
    split
    · exact OnMore.refl s
    · exact (OnMore.set s p).trans (dfs_more S f _ p)
theorem dfs_fuel (S : PSchema) : ∀ (f1 f2 : Nat) (s : List Bool) (c : Nat), s.length = S.classes.length → offs s < f1 → offs s < f2 → dfs S f1 s c = dfs S f2 s c
  | 0, _, _, _, _, h, _ => by omega
  | f1 + 1, 0, _, _, _, _, h => by omega
  | f1 + 1, f2 + 1, s, c, hl, h1, h2 => by
    rw [dfs_eq, dfs_eq]
    have hlt : ∀ p, some p ∈ supsOf S c → p < S.classes.length := fun p hp => supsOf_lt hp
    revert hlt
    generalize supsOf S c = l
    intro hlt
    have key : ∀ (l : List (Option Nat)) (s' : List Bool), (∀ p, some p ∈ l → p < S.classes.length) → s'.length = S.classes.length → offs s' ≤ offs s → l.foldl (dstep S f1) s' = l.foldl (dstep S f2) s' := by
      intro l
      induction l with
      | nil => intro s' _ _ _; rfl
      | cons p l ih =>
        intro s' hlt hl' ho
        rw [List.foldl_cons, List.foldl_cons]
        have e : dstep S f1 s' p = dstep S f2 s' p := by
          cases p with
          | none => rfl
          | some p =>
            unfold dstep
            dsimp only
            by_cases hq : s'.getD p false = true
            · rw [if_pos hq, if_pos hq]
            · rw [if_neg hq, if_neg hq]
              have hp := hlt p (List.mem_cons_self ..)
              have hs := offs_set (s := s') (p := p) (by omega) (by simpa using hq)
              exact dfs_fuel S f1 f2 _ p (by simpa using hl') (by omega) (by omega)
        rw [e]
        have hm := dstep_more S f2 s' p
        exact ih _ (fun p hp => hlt p (List.mem_cons_of_mem _ hp)) (hm.1.trans hl') (Nat.le_trans hm.offs ho)
    exact key l s hlt hl (Nat.le_refl _)
/-- what is reached from c on, whatever was reached before -/
def dfsT (S : PSchema) (s : List Bool) (c : Nat) : List Bool := dfs S (offs s + 1) s c
theorem dfsT_of (S : PSchema) {f : Nat} {s : List Bool} {c : Nat} (hl : s.length = S.classes.length) (h : offs s < f) : dfs S f s c = dfsT S s c := dfs_fuel S f _ s c hl h (Nat.lt_succ_self _)
/-- one step, with all the fuel that it wants -/
def tstep (S : PSchema) (s : List Bool) (p : Option Nat) : List Bool := match p with
  | none => s
  | some p => if s.getD p false then s else dfsT S (s.set p true) p
theorem tstep_more (S : PSchema) (s : List Bool) (p : Option Nat) : OnMore s (tstep S s p) := by
  cases p with
  | none => exact OnMore.refl s
  | some p =>
    unfold tstep
    dsimp only
    split
    · exact OnMore.refl s
    · exact (OnMore.set s p).trans (dfs_more S _ _ p)
theorem foldT_more (S : PSchema) (l : List (Option Nat)) (s : List Bool) : OnMore s (l.foldl (tstep S) s) := by
  induction l generalizing s with
  | nil => exact OnMore.refl s
  | cons p l ih => rw [List.foldl_cons]; exact (tstep_more S s p).trans (ih _)
theorem dfsT_eq (S : PSchema) {s : List Bool} (c : Nat) (hl : s.length = S.classes.length) : dfsT S s c = (supsOf S c).foldl (tstep S) s := by
  unfold dfsT
  rw [dfs_eq]
  have hlt : ∀ p, some p ∈ supsOf S c → p < S.classes.length := fun p hp => supsOf_lt hp
  revert hlt
  generalize supsOf S c = l
  intro hlt
  have key : ∀ (l : List (Option Nat)) (s' : List Bool), (∀ p, some p ∈ l → p < S.classes.length) → s'.length = S.classes.length → offs s' ≤ offs s → l.foldl (dstep S (offs s)) s' = l.foldl (tstep S) s' := by
    intro l
    induction l with
    | nil => intro s' _ _ _; rfl
    | cons p l ih =>
      intro s' hlt hl' ho
      rw [List.foldl_cons, List.foldl_cons]
      have e : dstep S (offs s) s' p = tstep S s' p := by
        cases p with
        | none => rfl
        | some p =>
          unfold dstep tstep
          dsimp only
          by_cases hq : s'.getD p false = true
          · rw [if_pos hq, if_pos hq]
          · rw [if_neg hq, if_neg hq]
            have hp := hlt p (List.mem_cons_self ..)
            have hs := offs_set (s := s') (p := p) (by omega) (by simpa using hq)
            exact dfsT_of S (by simpa using hl') (by omega)
      rw [e]
      have hm := tstep_more S s' p
      exact ih _ (fun p hp => hlt p (List.mem_cons_of_mem _ hp)) (hm.1.trans hl') (Nat.le_trans hm.offs ho)
  exact key l s hlt hl (Nat.le_refl _)
theorem riseOf_eq (S : PSchema) (c : Nat) : riseOf S c = dfsT S (List.replicate S.classes.length false) c := by
  unfold riseOf
  exact dfsT_of S (by simp) (by unfold offs; simp)
end Go.Proofs.YtifgmnafjihlkaaGreatDoor
/- The list of the classes' marks: what lies at the schema's (g, 6). No walk. -/
namespace Go.Proofs.YtifgmnafjihlkaaGreatDoor
open Go Go.RowKit Go.Maps

def boolV (b : Bool) : Value := .bool b
/-- the list at (g, 6): the first j classes' marks; its blocks lie behind lo, ahead of hi -/
structure Ups (w : World) (g lo hi : Nat) (S : PSchema) (j : Nat) (go : Option Nat) (cap : Nat) (vs : List Value) : Prop where
  g6 : w.cell? ⟨g, 6, none⟩ = some (sv go j cap)
  own : Own w 197 1 go j cap vs
  lie : ∀ b, go = some b → lo < b ∧ b < hi
  rows : ∀ i, i < j → ∃ sb, vs[i]? = some (.slice (some ⟨sb, 0, none⟩) S.classes.length S.classes.length) ∧ Row w sb 4 1 S.classes.length ((riseOf S i).map boolV) ∧ lo < sb ∧ sb < hi ∧ go ≠ some sb
section
variable {w w' : World} {g lo hi : Nat} {S : PSchema} {j : Nat} {go : Option Nat} {cap : Nat} {vs : List Value}
theorem Ups.keepAt (h : Ups w g lo hi S j go cap vs) (hb : ∀ b, lo < b → b < hi → w'.heap[b]? = w.heap[b]?) (h6 : w'.cell? ⟨g, 6, none⟩ = w.cell? ⟨g, 6, none⟩) : Ups w' g lo hi S j go cap vs where
  g6 := by rw [h6]; exact h.g6
  own := h.own.keep fun b e => hb b (h.lie b e).1 (h.lie b e).2
  lie := h.lie
  rows := fun i hi => by
    obtain ⟨sb, h1, h2, h3, h4, h5⟩ := h.rows i hi
    exact ⟨sb, h1, h2.keep (hb sb h3 h4), h3, h4, h5⟩
theorem Ups.keep (h : Ups w g lo hi S j go cap vs) (hh : hi ≤ w.heap.size) (k : Below w.heap.size w w') : Ups w' g lo hi S j go cap vs :=
  h.keepAt (fun b _ hb => k.block b (by omega)) (k.cell (World.block_lt_of_cell? w _ h.g6))
end
end Go.Proofs.YtifgmnafjihlkaaGreatDoor
/- (maker).chain. -/
namespace Go.Proofs.YtifgmnafjihlkaaGreatDoor
open Go Go.RowKit Go.Maps

def ChainPost (S : PSchema) (t : Nat) (w : World) (e : Ending) (w' : World) : Prop :=
  ∃ gl cap, e = .returned (.tuple #[.slice (some ⟨gl, 0, none⟩) (chainOf S t).1.length cap, .bool (chainOf S t).2]) ∧ Vec 3 1 w w' (some gl) (chainOf S t).1.length cap ((chainOf S t).1.map intV)

def lenOf : Value → Nat
  | .slice _ n _ => n
  | _ => 0
set_option maxRecDepth 20000 in
set_option maxHeartbeats 1000000 in
theorem chain_any (S : PSchema) (g t0 : Nat) (w : World) (h : Mk w g S) (ht : t0 < S.types.length) (hS : S.types.length ≤ 1024) :
    Calls Tryz.prog 81 #[.agg #[.pointer (some ⟨g, 0, none⟩)], .int .i64 (t0 : Int)] w (ChainPost S t0 w) := by
  have hbx : Below w.heap.size w (w.alloc (.cells #[.pointer (some ⟨g, 0, none⟩)] 131)) := (Below.refl _ w).alloc (Nat.le_refl _) _
  have hm := h.keep hbx
  have HM := Lib.hid hm; have HT := Lib.hid ht; have HS := Lib.hid hS; have HBX := Lib.hid hbx; clear hm hbx ht
  go_enter Tryz.func81, Tryz.ntmps81
  go_wp2_with fail
  have hmb : (w.alloc (.cells #[.pointer (some ⟨g, 0, none⟩)] 131)).cell? ⟨w.heap.size, 0, none⟩ = some (.pointer (some ⟨g, 0, none⟩)) := by rw [World.cell?_alloc_new]; rfl
  have hml : w.heap.size < (w.alloc (.cells #[.pointer (some ⟨g, 0, none⟩)] 131)).heap.size := by simp
  generalize hw1 : w.alloc (.cells #[.pointer (some ⟨g, 0, none⟩)] 131) = w1 at HBX HM hmb hml ⊢
  have HMB := Lib.hid (And.intro hmb hml); clear hmb hml hw1
  generalize hMb : w.heap.size = M at HMB ⊢
  have HMS := Lib.hid hMb; clear hMb
  go_loopw [1, 6] (fun tv lv wr => ∃ (t : Nat) (acc : List Nat) (go : Option Nat) (n cap : Nat), tv = .int .i64 (t : Int) ∧ lv = sv go n cap ∧ n = acc.length ∧ OnChain S t0 acc t ∧ Vec 3 1 w1 wr go n cap (acc.map intV)) (fun _ lv _ => S.types.length + 1 - lenOf lv)
  case atStart => exact ⟨t0, [], none, 0, 0, rfl, rfl, rfl, OnChain.start HT.out, Vec.nil _ _ _ (Below.refl _ _)⟩
  case round =>
    obtain ⟨t, acc, go, n, cap, rfl, rfl, hn, hch, hv⟩ := hrel
    have hnl := hch.len
    have hns : n ≤ 1024 := by have := HS.out; omega
    have hcon := contains_vec hv hn (by omega) t
    have HN := Lib.hid hn; have HC := Lib.hid hch; have HV := Lib.hid hv
    clear hn hch hv hnl
    cases hq : acc.contains t with
    | true =>
      rw [hq] at hcon
      have HCN := Lib.hid hcon; have HQ := Lib.hid hq; clear hcon hq
      cases go with
      | none => 
        have := HV.out.own.2.1
        have : acc = [] := List.eq_nil_of_length_eq_zero (by have := HN.out; omega)
        subst this
        have := HQ.out; cases this
      | some gl =>
        go_wp2_with (first | (go_at_call 137; refine (HCN.out).mono ?_; rintro e w2 ⟨rfl, rfl⟩) | fail)
        go_ret2
        have hf := HC.out.twice HQ.out
        have hv := HV.out.from HBX.out
        rw [HN.out] at hv
        refine ⟨gl, cap, ?_, ?_⟩
        · rw [hf, ← HN.out]; rfl
        · rw [hf]; exact hv
    | false =>
      rw [hq] at hcon
      have HCN := Lib.hid hcon; have HQ := Lib.hid hq; clear hcon hq
      have hv2 := fun ops rest o a Q => HV.out.push (P := Tryz.prog) eiInt (ops := ops) (rest := rest) (o := o) (a := a) (Q := Q)
      have HP := Lib.hid hv2; clear hv2
      go_wp2_with (first
        | (go_at_call 137; refine (HCN.out).mono ?_; rintro e w2 ⟨rfl, rfl⟩)
        | (at_builtin; refine HP.out _ _ _ _ _ rfl _ _ rfl rfl 1 [.int .i64 (t : Int)] #[.int .i64 (t : Int)] rfl rfl rfl (fun u hu => by simp at hu; subst hu; rfl) (by omega) (n + 1) rfl (by omega) ?_; intro gl cap2 w2 hv3 hg3)
        | fail)
      have hv4 : Vec 3 1 w1 w2 (some gl) (n + 1) cap2 ((acc ++ [t]).map intV) := by rw [List.map_append]; exact hv3
      have hm2 := HM.out.keep hv4.below
      have hmc : w2.cell? ⟨M, 0, none⟩ = some (.pointer (some ⟨g, 0, none⟩)) := by rw [hv4.below.cell (by exact HMB.out.2)]; exact HMB.out.1
      obtain ⟨a0, n0, c0, hc0, ht0⟩ := hm2.types
      obtain ⟨m, N, hc2, hmlt, hmap⟩ := hm2.tm
      have htl := HC.out.tlt
      obtain ⟨tb, tx, rfl, htb⟩ := ht0.lies.ptr (by have := ht0.len; omega)
      have hta := ht0.cell tb tx rfl t _ (List.getElem?_eq_getElem htl)
      have hok := ht0.ok _ (List.getElem_mem htl)
      have hsup : tyAt S t = S.types[t] := by unfold tyAt; simp [List.getD, htl]
      rw [← hsup] at hta hok
      have hq2 := hta.c2
      have hsz := hok.sup
      have htn : (t : Int) < (n0 : Int) := by have := ht0.len; omega
      generalize hsu : (tyAt S t).sup = su at hq2 hsz
      obtain ⟨pp, hpp⟩ : ∃ pp, placeOf (tK S) (low (toL su)) = pp := ⟨_, rfl⟩
      have hlk : ∀ w3, Below w2.heap.size w2 w3 → (Instr.lookup 125 (.map (some m)) (.string ⟨(low (toL su)).toArray⟩) true).run Tryz.prog w3 = .ok (.tuple #[.int .i64 (pp.getD 0 : Nat), .bool pp.isSome]) w3 := fun w3 hb => by
        rw [← hpp]; exact (hmap.keep hb hmap.lt).look_ok (s := ⟨(low (toL su)).toArray⟩) (by rw [low_size]; unfold maxLen; omega)
      have hcells : ∀ w3, Below w2.heap.size w2 w3 → w3.cell? ⟨M, 0, none⟩ = some (.pointer (some ⟨g, 0, none⟩)) ∧ w3.cell? ⟨g, 0, none⟩ = some (.slice (some ⟨tb, tx, none⟩) n0 c0) ∧ w3.cell? ⟨g, 2, none⟩ = some (.map (some m)) ∧ w3.cell? ⟨tb, tx + t * 9 + 2, none⟩ = some (.string su) := fun w3 hb =>
        ⟨by rw [hb.cell (World.block_lt_of_cell? w2 _ hmc)]; exact hmc, by rw [hb.cell (World.block_lt_of_cell? w2 _ hc0)]; exact hc0, by rw [hb.cell (World.block_lt_of_cell? w2 _ hc2)]; exact hc2, by rw [hb.cell (World.block_lt_of_cell? w2 _ hq2)]; exact hq2⟩
      obtain ⟨e0, e1, e2, e3⟩ := hcells w2 (Below.refl _ _)
      have HK := Lib.hid hlk; have HCL := Lib.hid hcells; have HV4 := Lib.hid hv4; have HSU := Lib.hid (And.intro hsu hpp)
      have hti : (0 : Int) ≤ (t : Int) := by omega
      have hsml := fun w3 => small_any su w3 (by omega)
      have HSM := Lib.hid hsml
      clear hlk hcells hmc hc0 hc2 hq2 hv4 hv3 hg3 hm2 ht0 hmap hta hok hsup hsu hpp htl hmlt htb hsml hsz HP
      go_region_held3 (fun w3 => w3.cell? ⟨M, 0, none⟩ = some (.pointer (some ⟨g, 0, none⟩)) ∧ w3.cell? ⟨g, 0, none⟩ = some (.slice (some ⟨tb, tx, none⟩) n0 c0) ∧ w3.cell? ⟨g, 2, none⟩ = some (.map (some m)) ∧ w3.cell? ⟨tb, tx + t * 9 + 2, none⟩ = some (.string su) )
        (first | exact ⟨e0, e1, e2, e3⟩ | exact ⟨i0, i1, i2, i3⟩)
        (first
          | (go_at_call 133; with_reducible refine (HSM.out _).mono ?_; rintro e w5 ⟨rfl, hb5⟩; have hb6 := bnext ((Below.refl _ w2).drew) hb5; obtain ⟨i0, i1, i2, i3⟩ := HCL.out w5 hb6; have ik := HK.out w5 hb6; have H5 := Lib.hid hb6; clear hb5 hb6))
      have fin : upT S t = none → ∀ w5, Below w2.heap.size w2 w5 → ChainPost S t0 w (.returned (.tuple #[.slice (some ⟨gl, 0, none⟩) (n + 1) cap2, .bool true])) w5 := fun hu w5 h5 => by
        have hf := HC.out.last HQ.out hu
        have hv := (HV4.out.next h5).from HBX.out
        have h1 : (chainOf S t0).1 = acc ++ [t] := by rw [hf]
        have h2 : (chainOf S t0).2 = true := by rw [hf]
        have h3 : (chainOf S t0).1.length = n + 1 := by rw [h1]; simp [HN.out]
        refine ⟨gl, cap2, ?_, ?_⟩
        · rw [h2, h3]
        · rw [h3, h1]; exact hv
      have HF := Lib.hid fin; clear fin
      cases pp with
      | none =>
        have hu : upT S t = none := by unfold upT typeAt; rw [HSU.out.1, HSU.out.2]; simp
        have HU := Lib.hid hu; clear hu
        go_wp2_with fail
        go_ret2
        exact HF.out HU.out _ H5.out
      | some u =>
        by_cases hsu : toL su = []
        · have hu : upT S t = none := by unfold upT typeAt; rw [HSU.out.1, if_pos hsu]
          have HU := Lib.hid hu; clear hu
          obtain rfl := empty_of su hsu
          clear hsu
          go_wp2_with fail
          go_ret2
          exact HF.out HU.out _ H5.out
        · have hu : upT S t = some u := by unfold upT typeAt; rw [HSU.out.1, if_neg hsu, HSU.out.2]
          obtain ⟨z1, z2, z3⟩ := nonempty_of su hsu
          have HU := Lib.hid hu; clear hu hsu
          go_wp2_with fail
          refine ⟨⟨u, acc ++ [t], some gl, n + 1, cap2, rfl, rfl, by simp [HN.out], HC.out.next HQ.out HU.out, HV4.out.next H5.out⟩, ?_⟩
          have := HS.out
          have := HC.out.len
          have := HN.out
          have e : ∀ a c : Nat, ∀ go, lenOf (sv go a c) = a := fun _ _ _ => rfl
          simp [lenOf, sv]; omega
end Go.Proofs.YtifgmnafjihlkaaGreatDoor
/- slices.Clone at types and classes. -/
namespace Go.Proofs.YtifgmnafjihlkaaGreatDoor
open Go Go.RowKit Go.Maps

def layT_ren : Go.Shelf.Ren := ⟨fun | 41 => 131 | n => n, fun | 22 => 35 | 23 => 48 | 4 => 4 | n => n, fun | n => n⟩
theorem layT : Go.Proofs.SlLaysE0.n41 Tryz.prog layT_ren := {
  mixed := by kernel_rfl
  f41 := ⟨Tryz.f131.name, by decide, Tryz.func131.trans (congrArg some (by kernel_rfl))⟩
  t4 := Tryz.underlying4
  a4 := Tryz.isAgg4
  z4 := Tryz.sizeOf4
  v4 := Tryz.zeroValue4
  t22 := Tryz.underlying35
  a22 := Tryz.isAgg35
  z22 := Tryz.sizeOf35
  v22 := Tryz.zeroValue35 }
def layC_ren : Go.Shelf.Ren := ⟨fun | 41 => 132 | n => n, fun | 22 => 36 | 23 => 108 | 4 => 4 | n => n, fun | n => n⟩
theorem layC : Go.Proofs.SlLaysE0.n41 Tryz.prog layC_ren := {
  mixed := by kernel_rfl
  f41 := ⟨Tryz.f132.name, by decide, Tryz.func132.trans (congrArg some (by kernel_rfl))⟩
  t4 := Tryz.underlying4
  a4 := Tryz.isAgg4
  z4 := Tryz.sizeOf4
  v4 := Tryz.zeroValue4
  t22 := Tryz.underlying36
  a22 := Tryz.isAgg36
  z22 := Tryz.sizeOf36
  v22 := Tryz.zeroValue36 }
end Go.Proofs.YtifgmnafjihlkaaGreatDoor
