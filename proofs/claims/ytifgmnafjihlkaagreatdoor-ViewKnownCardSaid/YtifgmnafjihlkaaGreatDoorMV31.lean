/- Part 31 of the walks and plain laws, joined: LawVk. -/
import Derived.Test.YtifgmnafjihlkaaGreatDoorMV30
/- rosterlaw23.ViewKnown: true. Printed by gen_vknown.py. -/
namespace Go.Proofs.YtifgmnafjihlkaaGreatDoor
open Go Go.RowKit Go.Maps

/-- what the closure of ViewKnown has caught, and what it stands on -/
structure Kn (w : World) (g xb rb : Nat) (ra aa : Option Addr) : Prop where
  sch : Sch w g viewS
  env : EnvV w
  x : w.cell? ⟨xb, 0, none⟩ = some (.pointer (some ⟨g, 0, none⟩))
  r0 : w.cell? ⟨rb, 0, none⟩ = some (.int .u64 1)
  r1 : w.cell? ⟨rb, 1, none⟩ = some (.slice ra 1 1)
  r2 : w.cell? ⟨rb, 2, none⟩ = some (.slice aa 3 3)
  rd : Rdns w.heap.size w ra 1 1 viewN
  at' : AttrsM w.heap.size w aa 3 3 viewA
theorem Kn.keep {w w' : World} {g xb rb : Nat} {ra aa : Option Addr} (h : Kn w g xb rb ra aa) (k : Below w.heap.size w w') : Kn w' g xb rb ra aa :=
  ⟨h.sch.keep k, h.env.next k, (k.cell (World.block_lt_of_cell? _ _ h.x)).trans h.x, (k.cell (World.block_lt_of_cell? _ _ h.r0)).trans h.r0, (k.cell (World.block_lt_of_cell? _ _ h.r1)).trans h.r1, (k.cell (World.block_lt_of_cell? _ _ h.r2)).trans h.r2, h.rd.keep k k.size, h.at'.keep k k.size⟩
theorem Kn.alloc {w : World} {g xb rb : Nat} {ra aa : Option Addr} (h : Kn w g xb rb ra aa) (o : Obj) : Kn (w.alloc o) g xb rb ra aa := h.keep ((Below.refl _ _).alloc (Nat.le_refl _) _)
theorem view_pv : (printV viewN).2 = 0 := by decide +kernel
set_option maxRecDepth 20000 in
set_option maxHeartbeats 2000000 in
theorem count_any (w : World) (g xb rb : Nat) (ra aa : Option Addr) (only : Bool) (wa : Option Addr) (wn wc : Nat) (wl : List ByteArray) (h : Kn w g xb rb ra aa) (ht : Texts w.heap.size w wa wn wc wl) (k : Nat) (hk : (foundV viewS (wl.map toL) only viewA).length = k) :
    Calls Tryz.prog 35 #[.bool only, .slice wa wn wc, .pointer (some ⟨xb, 0, none⟩), .pointer (some ⟨rb, 0, none⟩)] w fun e w' => e = .returned (.int .i64 (k : Nat)) ∧ Below w.heap.size w w' := by
  have hsh := vshow_any viewS g w.heap.size 1 ra 1 1 viewN aa 3 3 viewA wa wn wc wl only w h.sch h.env.s h.env.e h.rd h.at' ht (Nat.le_refl _)
  have hr : showR viewS viewN viewA (wl.map toL) only = ((printV viewN).1, foundV viewS (wl.map toL) only viewA, 0) := if_pos view_pv
  have hsh2 : Calls Tryz.prog 31 #[.pointer (some ⟨g, 0, none⟩), recV 1 ra 1 1 aa 3 3, .slice wa wn wc, .bool only] w fun e w' => ∃ s fa fc, e = .returned (.tuple #[.agg #[.string s, .slice fa k fc], .int .i64 0]) ∧ Below w.heap.size w w' := hsh.mono fun e w' ⟨fa, fn, fc, h1, h2, h3⟩ => by
    rw [hr] at h1 h2
    have := h2.len
    simp only at this
    rw [hk] at this
    subst this
    exact ⟨_, fa, fc, h1, h3⟩
  unfold recV at hsh2
  have c0 := h.x
  have c1 := h.r0
  have c2 := h.r1
  have c3 := h.r2
  have HSH := Lib.hid hsh2
  clear hsh hsh2 hr hk ht h
  go_enter Tryz.func35, Tryz.ntmps35
  go_wp2_with (first
    | (go_at_call 31; with_reducible refine HSH.out.mono ?_; rintro e w1 ⟨s, fa, fc, rfl, hb1⟩; have HB1 := Lib.hid hb1; clear hb1)
    | fail)
  go_ret
  exact ⟨rfl, HB1.out.alloc HB1.out.size _⟩
theorem words1 (w : World) (s : ByteArray) (hs : s.size ≤ 4294967280) : Texts (w.alloc (.cells #[.string s] 9)).heap.size (w.alloc (.cells #[.string s] 9)) (some ⟨w.heap.size, 0, none⟩) 1 1 [s] := text1 (cellA_new w #[.string s] 9 0) hs
theorem words2 (w : World) (s t : ByteArray) (hs : s.size ≤ 4294967280) (ht : t.size ≤ 4294967280) : Texts (w.alloc (.cells #[.string s, .string t] 9)).heap.size (w.alloc (.cells #[.string s, .string t] 9)) (some ⟨w.heap.size, 0, none⟩) 2 2 [s, t] := two_texts (cellA_new w #[.string s, .string t] 9 0) (cellA_new w #[.string s, .string t] 9 1) hs ht
theorem bad_rd (w : World) : Rdns (w.alloc (.cells #[.slice none 0 0] 74)).heap.size (w.alloc (.cells #[.slice none 0 0] 74)) (some ⟨w.heap.size, 0, none⟩) 1 1 [[]] :=
  ⟨rfl, ⟨Nat.le_refl _, by unfold maxLen; omega, (fun h => by cases h), (fun ad h _ => by cases h; simp), (fun ad h _ => by cases h; rfl)⟩, by omega, fun b o h i r hr => by
    cases h
    match i, hr with
    | 0, hr =>
      cases hr
      exact ⟨none, 0, 0, by rw [World.cell?_alloc_new]; rfl, Avas.nil _ _⟩
    | n + 1, hr => simp at hr⟩
theorem bad_pv : printV [[]] = ([], 60) := by decide +kernel
theorem bad_show (w : World) (g xb rb : Nat) (ra aa : Option Addr) (h : Kn w g xb rb ra aa) :
    Calls Tryz.prog 31 #[.pointer (some ⟨g, 0, none⟩), .agg #[.int .u64 0, .slice (some ⟨w.heap.size, 0, none⟩) 1 1, .slice none 0 0], .slice none 0 0, .bool false] (w.alloc (.cells #[.slice none 0 0] 74)) fun e w' => ∃ s fa fn fc, e = .returned (.tuple #[.agg #[.string s, .slice fa fn fc], .int .i64 60]) ∧ Below (w.alloc (.cells #[.slice none 0 0] 74)).heap.size (w.alloc (.cells #[.slice none 0 0] 74)) w' := by
  have hk := h.alloc (.cells #[.slice none 0 0] 74)
  have hsh := vshow_any viewS g _ 0 (some ⟨w.heap.size, 0, none⟩) 1 1 [[]] none 0 0 [] none 0 0 [] false (w.alloc (.cells #[.slice none 0 0] 74)) hk.sch hk.env.s hk.env.e (bad_rd w) (AttrsM.nil _ _) (Texts.nil0 _ _) (Nat.le_refl _)
  refine hsh.mono fun e w' ⟨fa, fn, fc, h1, h2, h3⟩ => ?_
  have hr : showR viewS [[]] [] ([].map toL) false = ([], [], 60) := by unfold showR; rw [bad_pv]; rfl
  rw [hr] at h1
  exact ⟨_, fa, fn, fc, h1, h3⟩
theorem kc0 : (foundV viewS (List.map toL []) false viewA).length = 3 := by decide +kernel
theorem kc1 : (foundV viewS (List.map toL [(⟨#[42]⟩ : ByteArray)]) false viewA).length = 3 := by decide +kernel
theorem kc2 : (foundV viewS (List.map toL [(⟨#[49, 46, 49]⟩ : ByteArray), (⟨#[42]⟩ : ByteArray)]) false viewA).length = 3 := by decide +kernel
theorem kc3 : (foundV viewS (List.map toL [(⟨#[49, 46, 49]⟩ : ByteArray)]) false viewA).length = 0 := by decide +kernel
theorem kc4 : (foundV viewS (List.map toL [(⟨#[99, 110]⟩ : ByteArray)]) false viewA).length = 2 := by decide +kernel
theorem kc5 : (foundV viewS (List.map toL [(⟨#[99, 111, 109, 109, 111, 110, 78, 97, 109, 101]⟩ : ByteArray), (⟨#[99, 110]⟩ : ByteArray)]) true viewA).length = 2 := by decide +kernel
theorem kc6 : (foundV viewS (List.map toL [(⟨#[99, 110, 59, 88]⟩ : ByteArray)]) false viewA).length = 1 := by decide +kernel
theorem kc7 : (foundV viewS (List.map toL [(⟨#[110, 97, 109, 101]⟩ : ByteArray)]) false viewA).length = 3 := by decide +kernel
theorem kc8 : (foundV viewS (List.map toL [(⟨#[115, 110]⟩ : ByteArray), (⟨#[]⟩ : ByteArray)]) false viewA).length = 0 := by decide +kernel
set_option maxRecDepth 20000 in
set_option maxHeartbeats 8000000 in
theorem law_vknown (w : World) (hE : EnvV w) : Calls Tryz.prog 9 #[] w fun e w' => e = .returned (.bool true) ∧ Below w.heap.size w w' := by
  have hsm := small_any23 w
  have HSM := Lib.hid hsm; have HE := Lib.hid hE; clear hsm hE
  go_enter Tryz.func9, Tryz.ntmps9
  go_upto_region 2 with (go_at_call 34; refine (HSM.out).mono ?_; rintro e w1 ⟨ta, ra, aa, rfl, ht1, hr1, ha1, hb1⟩; have H1 := Lib.hid (And.intro ht1 (And.intro hr1 (And.intro ha1 hb1))); clear ht1 hr1 ha1 hb1)
  have c0 := cell2 w1 (.cells #[.slice ta 3 3, .slice none 0 0] 38) #[.int .u64 1, .slice ra 1 1, .slice aa 3 3] 62 0
  have c1 := cell2 w1 (.cells #[.slice ta 3 3, .slice none 0 0] 38) #[.int .u64 1, .slice ra 1 1, .slice aa 3 3] 62 1
  have c2 := cell2 w1 (.cells #[.slice ta 3 3, .slice none 0 0] 38) #[.int .u64 1, .slice ra 1 1, .slice aa 3 3] 62 2
  have d0 := cellA (cellA_new w1 #[.slice ta 3 3, .slice none 0 0] 38 0) (.cells #[.int .u64 1, .slice ra 1 1, .slice aa 3 3] 62)
  have d1 := cellA (cellA_new w1 #[.slice ta 3 3, .slice none 0 0] 38 1) (.cells #[.int .u64 1, .slice ra 1 1, .slice aa 3 3] 62)
  have hk : Below w1.heap.size w1 ((w1.alloc (.cells #[.slice ta 3 3, .slice none 0 0] 38)).alloc (.cells #[.int .u64 1, .slice ra 1 1, .slice aa 3 3] 62)) := ((Below.refl _ _).alloc (Nat.le_refl _) _).alloc (by simp) _
  generalize (w1.alloc (.cells #[.slice ta 3 3, .slice none 0 0] 38)).alloc (.cells #[.int .u64 1, .slice ra 1 1, .slice aa 3 3] 62) = w2 at c0 c1 c2 d0 d1 hk ⊢
  have q0 : w2.cell? ⟨w1.heap.size + 1, 0, none⟩ = some (.int .u64 1) := c0
  have q1 : w2.cell? ⟨w1.heap.size + 1, 1, none⟩ = some (.slice ra 1 1) := c1
  have q2 : w2.cell? ⟨w1.heap.size + 1, 2, none⟩ = some (.slice aa 3 3) := c2
  have q3 : w2.cell? ⟨w1.heap.size, 0, none⟩ = some (.slice ta 3 3) := d0
  have q4 : w2.cell? ⟨w1.heap.size, 1, none⟩ = some (.slice none 0 0) := d1
  clear c0 c1 c2 d0 d1
  have hb2 := H1.out.2.2.2.trans (hk.mono H1.out.2.2.2.size)
  have hnw := new_view w2 (HE.out.next hb2).s ta (H1.out.1.keep hk hk.size)
  have HNW := Lib.hid hnw
  have H2 := Lib.hid (And.intro (H1.out.2.1.keep hk hk.size) (And.intro (H1.out.2.2.1.keep hk hk.size) (And.intro hb2 (And.intro q0 (And.intro q1 q2)))))
  clear hk hb2 hnw
  go_upto_region 3 with (go_at_call 24; with_reducible refine HNW.out.mono ?_; rintro e w3 ⟨g, rfl, hs3, hb3⟩; have H3 := Lib.hid (And.intro hs3 hb3); clear hs3 hb3)
  clear q0 q1 q2 q3 q4
  have hkn : Kn (w3.alloc (.cells #[.pointer (some ⟨g, 0, none⟩)] 39)) g w3.heap.size (w1.heap.size + 1) ra aa := by
    have hb4 : Below w3.heap.size w3 (w3.alloc (.cells #[.pointer (some ⟨g, 0, none⟩)] 39)) := (Below.refl _ _).alloc (Nat.le_refl _) _
    have hb24 := H3.out.2.trans (hb4.mono H3.out.2.size)
    exact ⟨H3.out.1.keep hb4, (HE.out.next H2.out.2.2.1).next hb24, by rw [cellA_new]; rfl, (hb24.cell (World.block_lt_of_cell? _ _ H2.out.2.2.2.1)).trans H2.out.2.2.2.1, (hb24.cell (World.block_lt_of_cell? _ _ H2.out.2.2.2.2.1)).trans H2.out.2.2.2.2.1, (hb24.cell (World.block_lt_of_cell? _ _ H2.out.2.2.2.2.2)).trans H2.out.2.2.2.2.2, H2.out.1.keep hb24 hb24.size, H2.out.2.1.keep hb24 hb24.size⟩
  have hbw : Below w.heap.size w (w3.alloc (.cells #[.pointer (some ⟨g, 0, none⟩)] 39)) := (H2.out.2.2.1.trans (H3.out.2.mono H2.out.2.2.1.size)).alloc (H2.out.2.2.1.trans (H3.out.2.mono H2.out.2.2.1.size)).size _
  generalize w3.alloc (.cells #[.pointer (some ⟨g, 0, none⟩)] 39) = w4 at hkn hbw ⊢
  have kx := hkn.x
  have HK4 := Lib.hid (And.intro hkn hbw); clear hkn hbw
  go_wp2_with (first
    | (go_at_call 31; with_reducible refine (bad_show w4 g _ _ ra aa HK4.out.1).mono ?_; rintro e w5 ⟨s5, fa, fn, fc, rfl, hb5⟩; have hkn := (HK4.out.1.alloc (.cells #[.slice none 0 0] 74)).keep hb5; have hb4 := HK4.out.2.alloc HK4.out.2.size (.cells #[.slice none 0 0] 74); have hbw := hb4.trans (hb5.mono hb4.size); have kx5 := cellA hkn.x (.cells #[.string s5, .slice fa fn fc] 64); have K0 := Lib.hid (And.intro (hkn.alloc (.cells #[.string s5, .slice fa fn fc] 64)) (hbw.alloc hbw.size (.cells #[.string s5, .slice fa fn fc] 64))); clear hb5 hkn hb4 hbw)
    | (go_at_call 35; with_reducible refine (count_any (w5.alloc (.cells #[.string s5, .slice fa fn fc] 64)) g _ _ ra aa false none 0 0 [] K0.out.1 (Texts.nil0 _ _) 3 kc0).mono ?_; rintro e x0 ⟨rfl, hb⟩; have hkn := K0.out.1.keep hb; have hbw := K0.out.2.trans (hb.mono K0.out.2.size); have K1 := Lib.hid (And.intro (hkn.alloc (.cells #[.string ⟨#[42]⟩] 9)) (hbw.alloc hbw.size (.cells #[.string ⟨#[42]⟩] 9))); clear hb hkn hbw)
    | (go_at_call 35; with_reducible refine (count_any (x0.alloc (.cells #[.string ⟨#[42]⟩] 9)) g _ _ ra aa false (some ⟨x0.heap.size, 0, none⟩) 1 1 [⟨#[42]⟩] K1.out.1 (words1 x0 ⟨#[42]⟩ (by decide)) 3 kc1).mono ?_; rintro e x1 ⟨rfl, hb⟩; have hkn := K1.out.1.keep hb; have hbw := K1.out.2.trans (hb.mono K1.out.2.size); have K2 := Lib.hid (And.intro (hkn.alloc (.cells #[.string ⟨#[49, 46, 49]⟩, .string ⟨#[42]⟩] 9)) (hbw.alloc hbw.size (.cells #[.string ⟨#[49, 46, 49]⟩, .string ⟨#[42]⟩] 9))); clear hb hkn hbw)
    | (go_at_call 35; with_reducible refine (count_any (x1.alloc (.cells #[.string ⟨#[49, 46, 49]⟩, .string ⟨#[42]⟩] 9)) g _ _ ra aa false (some ⟨x1.heap.size, 0, none⟩) 2 2 [⟨#[49, 46, 49]⟩, ⟨#[42]⟩] K2.out.1 (words2 x1 ⟨#[49, 46, 49]⟩ ⟨#[42]⟩ (by decide) (by decide)) 3 kc2).mono ?_; rintro e x2 ⟨rfl, hb⟩; have hkn := K2.out.1.keep hb; have hbw := K2.out.2.trans (hb.mono K2.out.2.size); have K3 := Lib.hid (And.intro (hkn.alloc (.cells #[.string ⟨#[49, 46, 49]⟩] 9)) (hbw.alloc hbw.size (.cells #[.string ⟨#[49, 46, 49]⟩] 9))); clear hb hkn hbw)
    | (go_at_call 35; with_reducible refine (count_any (x2.alloc (.cells #[.string ⟨#[49, 46, 49]⟩] 9)) g _ _ ra aa false (some ⟨x2.heap.size, 0, none⟩) 1 1 [⟨#[49, 46, 49]⟩] K3.out.1 (words1 x2 ⟨#[49, 46, 49]⟩ (by decide)) 0 kc3).mono ?_; rintro e x3 ⟨rfl, hb⟩; have hkn := K3.out.1.keep hb; have hbw := K3.out.2.trans (hb.mono K3.out.2.size); have K4 := Lib.hid (And.intro (hkn.alloc (.cells #[.string ⟨#[99, 110]⟩] 9)) (hbw.alloc hbw.size (.cells #[.string ⟨#[99, 110]⟩] 9))); clear hb hkn hbw)
    | (go_at_call 35; with_reducible refine (count_any (x3.alloc (.cells #[.string ⟨#[99, 110]⟩] 9)) g _ _ ra aa false (some ⟨x3.heap.size, 0, none⟩) 1 1 [⟨#[99, 110]⟩] K4.out.1 (words1 x3 ⟨#[99, 110]⟩ (by decide)) 2 kc4).mono ?_; rintro e x4 ⟨rfl, hb⟩; have hkn := K4.out.1.keep hb; have hbw := K4.out.2.trans (hb.mono K4.out.2.size); have K5 := Lib.hid (And.intro (hkn.alloc (.cells #[.string ⟨#[99, 111, 109, 109, 111, 110, 78, 97, 109, 101]⟩, .string ⟨#[99, 110]⟩] 9)) (hbw.alloc hbw.size (.cells #[.string ⟨#[99, 111, 109, 109, 111, 110, 78, 97, 109, 101]⟩, .string ⟨#[99, 110]⟩] 9))); clear hb hkn hbw)
    | (go_at_call 35; with_reducible refine (count_any (x4.alloc (.cells #[.string ⟨#[99, 111, 109, 109, 111, 110, 78, 97, 109, 101]⟩, .string ⟨#[99, 110]⟩] 9)) g _ _ ra aa true (some ⟨x4.heap.size, 0, none⟩) 2 2 [⟨#[99, 111, 109, 109, 111, 110, 78, 97, 109, 101]⟩, ⟨#[99, 110]⟩] K5.out.1 (words2 x4 ⟨#[99, 111, 109, 109, 111, 110, 78, 97, 109, 101]⟩ ⟨#[99, 110]⟩ (by decide) (by decide)) 2 kc5).mono ?_; rintro e x5 ⟨rfl, hb⟩; have hkn := K5.out.1.keep hb; have hbw := K5.out.2.trans (hb.mono K5.out.2.size); have K6 := Lib.hid (And.intro (hkn.alloc (.cells #[.string ⟨#[99, 110, 59, 88]⟩] 9)) (hbw.alloc hbw.size (.cells #[.string ⟨#[99, 110, 59, 88]⟩] 9))); clear hb hkn hbw)
    | (go_at_call 35; with_reducible refine (count_any (x5.alloc (.cells #[.string ⟨#[99, 110, 59, 88]⟩] 9)) g _ _ ra aa false (some ⟨x5.heap.size, 0, none⟩) 1 1 [⟨#[99, 110, 59, 88]⟩] K6.out.1 (words1 x5 ⟨#[99, 110, 59, 88]⟩ (by decide)) 1 kc6).mono ?_; rintro e x6 ⟨rfl, hb⟩; have hkn := K6.out.1.keep hb; have hbw := K6.out.2.trans (hb.mono K6.out.2.size); have K7 := Lib.hid (And.intro (hkn.alloc (.cells #[.string ⟨#[110, 97, 109, 101]⟩] 9)) (hbw.alloc hbw.size (.cells #[.string ⟨#[110, 97, 109, 101]⟩] 9))); clear hb hkn hbw)
    | (go_at_call 35; with_reducible refine (count_any (x6.alloc (.cells #[.string ⟨#[110, 97, 109, 101]⟩] 9)) g _ _ ra aa false (some ⟨x6.heap.size, 0, none⟩) 1 1 [⟨#[110, 97, 109, 101]⟩] K7.out.1 (words1 x6 ⟨#[110, 97, 109, 101]⟩ (by decide)) 3 kc7).mono ?_; rintro e x7 ⟨rfl, hb⟩; have hkn := K7.out.1.keep hb; have hbw := K7.out.2.trans (hb.mono K7.out.2.size); have K8 := Lib.hid (And.intro (hkn.alloc (.cells #[.string ⟨#[115, 110]⟩, .string ⟨#[]⟩] 9)) (hbw.alloc hbw.size (.cells #[.string ⟨#[115, 110]⟩, .string ⟨#[]⟩] 9))); clear hb hkn hbw)
    | (go_at_call 35; with_reducible refine (count_any (x7.alloc (.cells #[.string ⟨#[115, 110]⟩, .string ⟨#[]⟩] 9)) g _ _ ra aa false (some ⟨x7.heap.size, 0, none⟩) 2 2 [⟨#[115, 110]⟩, ⟨#[]⟩] K8.out.1 (words2 x7 ⟨#[115, 110]⟩ ⟨#[]⟩ (by decide) (by decide)) 0 kc8).mono ?_; rintro e x8 ⟨rfl, hb⟩; have hkn := K8.out.1.keep hb; have hbw := K8.out.2.trans (hb.mono K8.out.2.size); have K9 := Lib.hid (And.intro hkn hbw); clear hb hkn hbw)
    | (go_at_call 33; with_reducible refine (works_any23 x8 K9.out.1.env).mono ?_; rintro e y ⟨rfl, hb⟩; have KF := Lib.hid (K9.out.2.trans (hb.mono K9.out.2.size)); clear hb)
    | fail)
  go_ret
  exact ⟨rfl, KF.out⟩
end Go.Proofs.YtifgmnafjihlkaaGreatDoor
