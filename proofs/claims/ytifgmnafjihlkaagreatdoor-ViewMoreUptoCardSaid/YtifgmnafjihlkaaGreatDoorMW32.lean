/- Part 32 of the walks and plain laws, joined: LawVm, OpenVm. -/
import Derived.Test.YtifgmnafjihlkaaGreatDoorMW10
import Derived.Test.YtifgmnafjihlkaaGreatDoorMW31
import Derived.Test.YtifgmnafjihlkaaGreatDoorMW08
import Derived.Test.YtifgmnafjihlkaaGreatDoorMW09
import Derived.Deep.DeepCutAuto
/- rosterlaw23.ViewMore: true, where the arguments' bulk is bounded. -/
namespace Go.Proofs.YtifgmnafjihlkaaGreatDoor
open Go Go.RowKit Go.Maps

theorem SomeB.get {e : Ending} (h : SomeB e) : ∃ b, e = .returned (.bool b) := h
set_option maxRecDepth 20000 in
set_option maxHeartbeats 16000000 in
theorem law_vmore (S : PSchema) (ta : Option Addr) (tn tc : Nat) (ca : Option Addr) (cn cc : Nat) (id : Int) (a : Option Addr) (n c : Nat) (nm : PName) (aa : Option Addr) (an ac : Nat) (al : List PAttr) (va : Option Addr) (vn vc : Nat) (vl : List ByteArray) (ma : Option Addr) (mn mc : Nat) (ml : List ByteArray) (w : World) (hE : EnvV w)
    (hT : Types w.heap.size w ta tn tc S.types) (hC : Classes w.heap.size w ca cn cc S.classes) (hn : tn ≤ 4294967280 ∧ cn ≤ 4294967280) (hR : Rdns w.heap.size w a n c nm) (hA : AttrsM w.heap.size w aa an ac al) (hW : Texts w.heap.size w va vn vc vl) (hM : Texts w.heap.size w ma mn mc ml) (hvn : vn ≤ 1048576) (hmn : mn ≤ 1048576) :
    Calls Tryz.prog 10 #[.agg #[.slice ta tn tc, .slice ca cn cc], .agg #[.int .u64 id, .slice a n c, .slice aa an ac], .slice va vn vc, .slice ma mn mc] w fun e w' => e = .returned (.bool true) ∧ Below w.heap.size w w' := by
  have hb1 : Below w.heap.size w ((w.alloc (.cells #[.slice ta tn tc, .slice ca cn cc] 38)).alloc (.cells #[.int .u64 id, .slice a n c, .slice aa an ac] 62)) := ((Below.refl _ _).alloc (Nat.le_refl _) _).alloc (by simp) _
  have q1 : ((w.alloc (.cells #[.slice ta tn tc, .slice ca cn cc] 38)).alloc (.cells #[.int .u64 id, .slice a n c, .slice aa an ac] 62)).cell? ⟨w.heap.size + 1, 0, none⟩ = some (.int .u64 id) := cell2 _ _ _ _ 0
  have q2 : ((w.alloc (.cells #[.slice ta tn tc, .slice ca cn cc] 38)).alloc (.cells #[.int .u64 id, .slice a n c, .slice aa an ac] 62)).cell? ⟨w.heap.size + 1, 1, none⟩ = some (.slice a n c) := cell2 _ _ _ _ 1
  have q3 : ((w.alloc (.cells #[.slice ta tn tc, .slice ca cn cc] 38)).alloc (.cells #[.int .u64 id, .slice a n c, .slice aa an ac] 62)).cell? ⟨w.heap.size + 1, 2, none⟩ = some (.slice aa an ac) := cell2 _ _ _ _ 2
  have q4 : ((w.alloc (.cells #[.slice ta tn tc, .slice ca cn cc] 38)).alloc (.cells #[.int .u64 id, .slice a n c, .slice aa an ac] 62)).cell? ⟨w.heap.size, 0, none⟩ = some (.slice ta tn tc) := cellA (cellA_new w #[.slice ta tn tc, .slice ca cn cc] 38 0) _
  have q5 : ((w.alloc (.cells #[.slice ta tn tc, .slice ca cn cc] 38)).alloc (.cells #[.int .u64 id, .slice a n c, .slice aa an ac] 62)).cell? ⟨w.heap.size, 1, none⟩ = some (.slice ca cn cc) := cellA (cellA_new w #[.slice ta tn tc, .slice ca cn cc] 38 1) _
  have HE := Lib.hid (hE.next hb1)
  have H1 := Lib.hid (And.intro (hT.keep hb1 hb1.size) (And.intro (hC.keep hb1 hb1.size) (And.intro (hA.keep hb1 hb1.size) (And.intro (hR.keep hb1 hb1.size) (And.intro (hW.keep hb1 hb1.size) (And.intro (hM.keep hb1 hb1.size) hb1))))))
  clear hE hT hC hA hR hW hM hb1
  go_enter Tryz.func10, Tryz.ntmps10
  go_upto_region 1 with fail
  generalize (w.alloc (.cells #[.slice ta tn tc, .slice ca cn cc] 38)).alloc (.cells #[.int .u64 id, .slice a n c, .slice aa an ac] 62) = w1 at H1 HE q1 q2 q3 q4 q5 ⊢
  obtain ⟨sb, hsb⟩ : ∃ sb, sb = w.heap.size := ⟨_, rfl⟩
  obtain ⟨rb, hrb⟩ : ∃ rb, rb = w.heap.size + 1 := ⟨_, rfl⟩
  rw [← hrb] at q1 q2 q3 ⊢
  rw [← hsb] at q4 q5 ⊢
  clear hsb hrb
  have hbey : ∀ (xa : Option Addr) (xn xc : Nat) (xl : List ByteArray), Texts w1.heap.size w1 xa xn xc xl → ∀ wq, Below w1.heap.size w1 wq → Calls Tryz.prog 36 #[.agg #[.slice ta tn tc, .slice ca cn cc], .agg #[.int .u64 id, .slice a n c, .slice aa an ac], .slice xa xn xc] wq fun e w' => SomeB e ∧ Below w1.heap.size w1 w' := fun xa xn xc xl hx wq hb =>
    (beyond_some S wq.heap.size ta tn tc ca cn cc id a n c nm aa an ac al xa xn xc xl wq (H1.out.1.keep hb hb.size) (H1.out.2.1.keep hb hb.size) (Nat.le_refl _) hn (H1.out.2.2.2.1.keep hb hb.size) (H1.out.2.2.1.keep hb hb.size) (hx.keep hb hb.size)).mono fun e w' ⟨h1, h2⟩ => ⟨h1, hb.trans (h2.mono hb.size)⟩
  have hby1 := hbey va vn vc vl H1.out.2.2.2.2.1
  have hby2 := hbey ma mn mc ml H1.out.2.2.2.2.2.1
  have hcc : ∀ wr, Below w1.heap.size w1 wr → wr.cell? ⟨rb, 0, none⟩ = some (.int .u64 id) ∧ wr.cell? ⟨rb, 1, none⟩ = some (.slice a n c) ∧ wr.cell? ⟨rb, 2, none⟩ = some (.slice aa an ac) ∧ wr.cell? ⟨sb, 0, none⟩ = some (.slice ta tn tc) ∧ wr.cell? ⟨sb, 1, none⟩ = some (.slice ca cn cc) := fun wr hb =>
    ⟨(hb.cell (World.block_lt_of_cell? _ _ q1)).trans q1, (hb.cell (World.block_lt_of_cell? _ _ q2)).trans q2, (hb.cell (World.block_lt_of_cell? _ _ q3)).trans q3, (hb.cell (World.block_lt_of_cell? _ _ q4)).trans q4, (hb.cell (World.block_lt_of_cell? _ _ q5)).trans q5⟩
  have HBY1 := Lib.hid hby1; have HBY2 := Lib.hid hby2; have HCC := Lib.hid hcc
  clear hby1 hby2 hcc hbey
  have hwk : ∀ wq, Below w1.heap.size w1 wq → Calls Tryz.prog 33 #[] wq fun e w' => e = .returned (.bool true) ∧ Below w1.heap.size w1 w' := fun wq hb =>
    (works_any23 wq (HE.out.next hb)).mono fun e w' ⟨h1, h2⟩ => ⟨h1, hb.trans (h2.mono hb.size)⟩
  have HWK := Lib.hid hwk
  clear hwk
  go_cut [42] (fun s42 wx => ∃ b, s42 = .bool b ∧ Below w1.heap.size w1 wx)
  case first =>
    go_wp2_with (first
      | (go_at_call 36; with_reducible refine (HBY1.out w1 (Below.refl _ _)).mono ?_; rintro e w2 ⟨hsb, hb2⟩; obtain ⟨b1, rfl⟩ := hsb.get; clear hsb; obtain ⟨k1, k2, k3, k4, k5⟩ := HCC.out _ hb2; have HB2 := Lib.hid hb2; clear hb2)
      | (go_at_call 36; with_reducible refine (HBY2.out w2 HB2.out).mono ?_; rintro e w3 ⟨hsb, hb3⟩; obtain ⟨b2, rfl⟩ := hsb.get; clear hsb; have HB3 := Lib.hid hb3; clear hb3)
      | (go_at_call 33; with_reducible refine (HWK.out _ HB3.out).mono ?_; rintro e w4 ⟨rfl, hb4⟩; have HB4 := Lib.hid hb4; clear hb4)
      | fail)
    all_goals go_meet
    all_goals (first | exact ⟨_, rfl, HB4.out⟩ | exact ⟨_, rfl, HB3.out⟩ | exact ⟨_, rfl, HB2.out⟩)
  case rest =>
    obtain ⟨b, rfl, hb⟩ := hcut
    obtain ⟨k1, k2, k3, k4, k5⟩ := HCC.out _ hb
    clear q1 q2 q3 q4 q5
    have HB := Lib.hid hb
    cases b
    · obtain ⟨wy, rfl⟩ : ∃ wy, wy = wc := ⟨_, rfl⟩
      refine (‹∀ (a : Act) (w : World), Code.wp _ _ _ a w → _› _ _ ?_)
      go_cut [] (fun wx => wy = wx)
      case first =>
        go_wp2_with fail
        go_meet
        rfl
      case rest =>
        subst hcut
        refine (‹∀ (a : Act) (w : World), Code.wp _ _ _ a w → _› _ _ (vm_mid S ta tn tc ca cn cc id a n c nm aa an ac al va vn vc vl ma mn mc ml rfl (HE.out.next hb) (H1.out.1.keep hb hb.size) (H1.out.2.1.keep hb hb.size) (H1.out.2.2.2.1.keep hb hb.size) (H1.out.2.2.1.keep hb hb.size) (H1.out.2.2.2.2.1.keep hb hb.size) (H1.out.2.2.2.2.2.1.keep hb hb.size) hvn hmn (H1.out.2.2.2.2.2.2.trans (hb.mono H1.out.2.2.2.2.2.2.size)) k1 k2 k3 k4 k5 rfl rfl rfl rfl rfl rfl))
    · go_wp2_with (first
        | (go_at_call 33; with_reducible refine (HWK.out _ HB.out).mono ?_; rintro e w4 ⟨rfl, hb4⟩; have HB4 := Lib.hid hb4; clear hb4)
        | fail)
      go_ret
      exact ⟨rfl, H1.out.2.2.2.2.2.2.trans (HB4.out.mono H1.out.2.2.2.2.2.2.size)⟩
end Go.Proofs.YtifgmnafjihlkaaGreatDoor
/- rosterlaw23.ViewMore: its arguments opened, and the law's walk called. -/
namespace Go.Proofs.YtifgmnafjihlkaaGreatDoor
open Go Go.RowKit Go.ChangeShapes Go.WideShapes Go.Deep

theorem bulk_ofm {H : Type} {ds : List (DataW H)} (h : Rows.uptoSmall H ds = true) : Rows.uptoBulkAll ds ≤ 1048576 := of_decide_eq_true h
theorem bulk4 {H : Type} {N : Nat} {a b c d : DataW H} (h : Rows.uptoBulkAll [a, b, c, d] ≤ N) : bulk a ≤ N ∧ bulk b ≤ N ∧ bulk c ≤ N ∧ bulk d ≤ N := by
  simp only [Rows.uptoBulkAll] at h
  exact ⟨by show Rows.uptoBulk a ≤ N; omega, by show Rows.uptoBulk b ≤ N; omega, by show Rows.uptoBulk c ≤ N; omega, by show Rows.uptoBulk d ≤ N; omega⟩
set_option maxRecDepth 100000 in
theorem open_words {H : Type} {enc : TypeId × Value → H} {w : World} {base N : Nat} {held : Bool} {r : Reach} {b0 : Nat} {v : Value} {d : DataW H} {ps : List MemPlace} (hval : Value.okWide Tryz.prog w r b0 46 v) (hd : DataW.Trod enc Tryz.prog w base (fun _ => true) held 46 v d ps) (hb : bulk d ≤ N) (hN : N ≤ 4294967280) :
    ∃ a n c l, v = .slice a n c ∧ Texts w.heap.size w a n c l ∧ n ≤ N := by
  obtain ⟨a0, n0, c0, rfl⟩ := okWide_slice Tryz.underlying46 hval
  obtain ⟨fuel, hf⟩ := hd
  obtain ⟨a, n, c, l, e, ht, hn, _⟩ := open_texts Tryz.underlying46 Tryz.underlying9 (by kernel_rfl) hf hb hN
  exact ⟨a, n, c, l, e, ht, hn⟩

set_option maxRecDepth 100000 in
theorem walk_vmore {H : Type} {enc : TypeId × Value → H} {b0 : Nat} {W : World} (v0 : Value) (d0 : DataW H) (p0 : List MemPlace) (ok0 : Value.okWide Tryz.prog W .any b0 38 v0) (h0 : DataW.Trod enc Tryz.prog W 0 (fun _ => true) true 38 v0 d0 p0)
    (v1 : Value) (d1 : DataW H) (p1 : List MemPlace) (ok1 : Value.okWide Tryz.prog W .any b0 62 v1) (h1 : DataW.Trod enc Tryz.prog W 0 (fun _ => true) true 62 v1 d1 p1)
    (v2 : Value) (d2 : DataW H) (p2 : List MemPlace) (ok2 : Value.okWide Tryz.prog W .any b0 46 v2) (h2 : DataW.Trod enc Tryz.prog W 0 (fun _ => true) true 46 v2 d2 p2)
    (v3 : Value) (d3 : DataW H) (p3 : List MemPlace) (ok3 : Value.okWide Tryz.prog W .any b0 46 v3) (h3 : DataW.Trod enc Tryz.prog W 0 (fun _ => true) true 46 v3 d3 p3)
    (W' : World) (hW : W = W') (hE : EnvV W') (hk : Rows.uptoSmall H [d0, d1, d2, d3] = true) :
    Calls Tryz.prog 10 #[v0, v1, v2, v3] W' fun e w' => e = .returned (.bool true) ∧ Below W'.heap.size W' w' := by
  subst hW
  obtain ⟨hb0, hb1, hb2, hb3⟩ := bulk4 (bulk_ofm hk)
  obtain ⟨S, ta, tn, tc, ca, cn, cc, rfl, hT, hC, hS⟩ := open_schema ok0 h0 (N := 1048576) hb0 (by decide)
  obtain ⟨id, a, n, c, aa, an, ac, nm, al, rfl, hR, hA⟩ := open_record ok1 h1 (N := 1048576) hb1 (by decide)
  obtain ⟨xa, xn, xc, xl, rfl, hX, hxn⟩ := open_words ok2 h2 (N := 1048576) hb2 (by decide)
  obtain ⟨ma, mn, mc, ml, rfl, hM, hmn⟩ := open_words ok3 h3 (N := 1048576) hb3 (by decide)
  have h1 := hS.types.1
  have h2 := hS.classes.1
  have h3 := hT.len
  have h4 := hC.len
  exact law_vmore S ta tn tc ca cn cc id a n c nm aa an ac al xa xn xc xl ma mn mc ml W hE hT hC ⟨by omega, by omega⟩ hR hA hX hM hxn hmn
end Go.Proofs.YtifgmnafjihlkaaGreatDoor
