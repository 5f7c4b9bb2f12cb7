/- Part 27 of the walks and plain laws, joined: LawPc, OpenPc. -/
import Derived.Test.YtifgmnafjihlkaaGreatDoorMP24
import Derived.Test.YtifgmnafjihlkaaGreatDoorMP26
import Derived.Test.YtifgmnafjihlkaaGreatDoorMP25
/- rosterlaw07.MatchPieces: true. -/
namespace Go.Proofs.YtifgmnafjihlkaaGreatDoor
open Go Go.RowKit Go.Maps

/-- three structs that came in, each boxed -/
structure Box3 (w0 w : World) (A B C : Array Value) : Prop where
  below : Below w0.heap.size w0 w
  a : ∀ j v, A[j]? = some v → w.cell? ⟨w0.heap.size, j, none⟩ = some v
  b : ∀ j v, B[j]? = some v → w.cell? ⟨w0.heap.size + 1, j, none⟩ = some v
  c : ∀ j v, C[j]? = some v → w.cell? ⟨w0.heap.size + 1 + 1, j, none⟩ = some v
  sz : w0.heap.size + 3 ≤ w.heap.size
theorem Box3.keep {w0 w w' : World} {A B C : Array Value} (h : Box3 w0 w A B C) (k : Below w.heap.size w w') : Box3 w0 w' A B C where
  below := bnext h.below k
  a := fun j v hv => by rw [k.cell (p := ⟨w0.heap.size, j, none⟩) (show w0.heap.size < _ by have := h.sz; omega)]; exact h.a j v hv
  b := fun j v hv => by rw [k.cell (p := ⟨w0.heap.size + 1, j, none⟩) (show w0.heap.size + 1 < _ by have := h.sz; omega)]; exact h.b j v hv
  c := fun j v hv => by rw [k.cell (p := ⟨w0.heap.size + 1 + 1, j, none⟩) (show w0.heap.size + 1 + 1 < _ by have := h.sz; omega)]; exact h.c j v hv
  sz := Nat.le_trans h.sz k.size
theorem Box3.made (w : World) (A B C : Array Value) (t u v : TypeId) : Box3 w (((w.alloc (.cells A t)).alloc (.cells B u)).alloc (.cells C v)) A B C where
  below := (((Below.refl _ w).alloc (Nat.le_refl _) _).alloc (by simp) _).alloc (by simp; omega) _
  a := fun j x hx => by rw [World.cell?_alloc_lt _ _ _ (by simp; omega), World.cell?_alloc_lt _ _ _ (by simp), World.cell?_alloc_new]; exact hx
  b := fun j x hx => by
    have := World.cell?_alloc_new (w.alloc (.cells A t)) B u j
    rw [World.cell?_alloc_lt _ _ _ (by simp)]
    simp only [World.size_alloc] at this
    rw [this]; exact hx
  c := fun j x hx => by
    have := World.cell?_alloc_new ((w.alloc (.cells A t)).alloc (.cells B u)) C v j
    simp only [World.size_alloc] at this
    rw [this]; exact hx
  sz := by simp

theorem sort3 : ∀ n : Fin 21, (sortV (n.val : Int) = 3 ↔ n.val = 3 ∨ n.val = 6 ∨ n.val = 9 ∨ n.val = 11) := by decide
theorem sort3_iff (r : Int) : sortV r = 3 ↔ r = 3 ∨ r = 6 ∨ r = 9 ∨ r = 11 := by
  by_cases h : 0 ≤ r ∧ r < 21
  · obtain ⟨n, rfl⟩ : ∃ n : Nat, r = (n : Int) := ⟨r.toNat, by omega⟩
    have := sort3 ⟨n, by omega⟩
    simp only at this
    rw [this]; omega
  · unfold sortV
    rw [if_neg h]
    constructor
    · intro e; cases e
    · intro e; omega
theorem pieces_any (r : Int) (w : World) : Calls Tryz.prog 27 #[.int .i8 r] w fun e w' => e = .returned (.bool (decide (sortV r = 3))) ∧ w = w' := by
  by_cases h : r = 3 ∨ r = 6 ∨ r = 9 ∨ r = 11
  · rw [decide_eq_true ((sort3_iff r).2 h)]
    rcases h with rfl | rfl | rfl | rfl <;> (
      go_enter Tryz.func27, Tryz.ntmps27
      go_wp2_with fail
      go_ret
      exact ⟨rfl, rfl⟩)
  · rw [decide_eq_false (fun e => h ((sort3_iff r).1 e))]
    have h1 : (r == 3) = false := beq_eq_false_iff_ne.2 fun e => h (.inl e)
    have h2 : (r == 6) = false := beq_eq_false_iff_ne.2 fun e => h (.inr (.inl e))
    have h3 : (r == 9) = false := beq_eq_false_iff_ne.2 fun e => h (.inr (.inr (.inl e)))
    have h4 : (r == 11) = false := beq_eq_false_iff_ne.2 fun e => h (.inr (.inr (.inr e)))
    clear h
    go_enter Tryz.func27, Tryz.ntmps27
    go_wp2_with fail
    go_ret
    exact ⟨rfl, rfl⟩
theorem truth7_any (b : Bool) (w : World) : Calls Tryz.prog 28 #[.bool b] w fun e w' => e = .returned (.int .i8 (truthV b)) ∧ w = w' := by
  cases b <;> (
    go_enter Tryz.func28, Tryz.ntmps28
    go_wp2_with fail
    go_ret
    exact ⟨rfl, rfl⟩)

def SomeBool (e : Ending) : Prop := ∃ b, e = .returned (.bool b)
set_option maxRecDepth 20000 in
set_option maxHeartbeats 1000000 in
theorem beyond_any (s e : ByteArray) (B : Nat) (pa : Option Addr) (pn pc : Nat) (ms : List ByteArray) (w : World) (hM : Texts B w pa pn pc ms) (hB : B ≤ w.heap.size) (hn : pn ≤ 1048576) (hms : ∀ m ∈ ms, m.size ≤ 1048576) :
    Calls Tryz.prog 30 #[.agg #[.string s, .slice pa pn pc, .string e]] w fun e w' => SomeBool e ∧ Below w.heap.size w w' := by
  have hlen := hM.len
  have HX := Lib.hid (And.intro hM (And.intro hB (And.intro hms hlen))); clear hM hB hms hlen
  go_enter Tryz.func30, Tryz.ntmps30
  go_upto_region 2 with fail
  have hb1 : Below w.heap.size w (w.alloc (.cells #[.string s, .slice pa pn pc, .string e] 51)) := (Below.refl _ w).alloc (Nat.le_refl _) _
  have hc1 : (w.alloc (.cells #[.string s, .slice pa pn pc, .string e] 51)).cell? ⟨w.heap.size, 1, none⟩ = some (.slice pa pn pc) := World.cell?_alloc_new w #[.string s, .slice pa pn pc, .string e] 51 1
  have hgl : w.heap.size < (w.alloc (.cells #[.string s, .slice pa pn pc, .string e] 51)).heap.size := by simp
  generalize w.alloc (.cells #[.string s, .slice pa pn pc, .string e] 51) = w1 at hb1 hc1 hgl ⊢
  generalize hg : w.heap.size = g at hc1 hgl
  have H1 := Lib.hid (And.intro hb1 (And.intro hgl hg)); clear hb1 hgl hg
  go_wp2_with fail
  go_loopw [3, 4] (fun nv iv wr => ∃ (m i : Nat), nv = .int .i64 m ∧ iv = .int .i64 i ∧ i ≤ pn ∧ m ≤ 16777216 ∧ wr = w1) (fun _ iv _ => pn - (intOf iv).toNat)
  case atStart => exact ⟨0, 0, rfl, rfl, Nat.zero_le _, Nat.zero_le _, rfl⟩
  case round =>
    obtain ⟨m, i, rfl, rfl, hi, hm, rfl⟩ := hrel
    by_cases hlt : i < pn
    · have hli : i < ms.length := by have := HX.out.2.2.2; omega
      obtain ⟨tb, tx, rfl, htb⟩ := HX.out.1.lies.ptr (by omega)
      have hc := (HX.out.1.keep (H1.out.1.mono HX.out.2.1) (Nat.le_refl _)).cell tb tx rfl i _ (List.getElem?_eq_getElem hli)
      have hsz := HX.out.2.2.1 _ (List.getElem_mem hli)
      generalize ms[i] = x at hc hsz
      by_cases hbig : 16777216 < m + 1 + x.size
      · have hb2 : (16777216 : Int) < (m : Int) + 1 + (x.size : Int) := by omega
        clear hbig
        go_wp2_with fail
        go_ret
        exact ⟨by first | trivial | exact ⟨_, rfl⟩, H1.out.1⟩
      · have hb2 : ¬ (16777216 : Int) < (m : Int) + 1 + (x.size : Int) := by omega
        go_wp2_with fail
        exact ⟨⟨m + 1 + x.size, i + 1, by simp, by simp, by omega, by omega, by first | trivial | rfl⟩, by simp [intOf]; omega⟩
    · go_wp2_with fail
      go_ret
      exact ⟨by first | trivial | exact ⟨_, rfl⟩, H1.out.1⟩

theorem Texts.sub {B : Nat} {w : World} {b o n c i : Nat} {l : List ByteArray} (h : Texts B w (some ⟨b, o, none⟩) n c l) (hi : i < l.length) : Texts B w (some ⟨b, o + i, none⟩) 1 (c - i) [l[i]] where
  len := rfl
  lies := ⟨by have := h.len; have := h.lies.le; omega, by have := h.lies.cap; omega, (fun e => by cases e), (fun ad e _ => by cases e; exact h.lies.lt ⟨b, o, none⟩ rfl (by have := h.len; omega)), (fun ad e _ => by cases e; rfl)⟩
  small := by omega
  cell := fun b2 o2 e j s hs => by
    cases e
    cases j with
    | zero => simp at hs; subst hs; exact h.cell b o rfl i _ (List.getElem?_eq_getElem hi)
    | succ j => simp at hs
  size := fun s hs => by simp at hs; subst hs; exact h.size _ (List.getElem_mem hi)

/-- what the law asks of the pieces' answers -/
structure PcOk (r : Int) (va s e : Str) (ms : List Str) (all : Int) (kl : Str) (kb : Bool) : Prop where
  key : keyM r va = (kl, kb)
  ok : all = 1 → kb = true
  st : all = 1 → partV r (keyM r) va s [] [] = 1
  en : all = 1 → partV r (keyM r) va [] e [] = 1
  mi : all = 1 → partV r (keyM r) va [] [] ms = 1
  one : all = 1 → ∀ m ∈ ms, partV r (keyM r) va [] [] [m] = 1
  none : partV r (keyM r) va [] [] [] = truthV kb
  self : r = 6 → kb = true → kl ≠ [32] → partV r (keyM r) va kl [] [] = 1
  len : kl.length ≤ 65536
theorem pcOk {r : Int} (h3 : sortV r = 3) (va s e : Str) (ms : List Str) : ∃ kl kb, PcOk r va s e ms (partV r (keyM r) va s e ms) kl kb := by
  obtain ⟨⟨kl, kb⟩, hk⟩ : ∃ k, keyM r va = k := ⟨_, rfl⟩
  refine ⟨kl, kb, hk, fun h => by have := pvA h3 h; rw [hk] at this; exact this, fun h => pvB h3 h, fun h => pvC h3 h, fun h => pvD h3 h, fun h m hm => pvE h3 h hm, by rw [pvF h3, hk], fun h6 h1 h2 => ?_, ?_⟩
  · subst h6
    have h4 := @pvG va (by rw [hk]; exact h1) (by rw [hk]; exact h2)
    rw [hk] at h4; exact h4
  · have hf : (lineOf r).form = 0 ∨ (lineOf r).form = 1 ∨ (lineOf r).form = 2 ∨ (lineOf r).form = 3 := by
      rcases (sort3_iff r).1 h3 with rfl | rfl | rfl | rfl
      · exact .inl (by decide +kernel)
      · exact .inr (.inl (by decide +kernel))
      · exact .inr (.inr (.inl (by decide +kernel)))
      · exact .inr (.inr (.inr (by decide +kernel)))
    have hk2 : keyL (lineOf r).form va = (kl, kb) := by unfold keyM at hk; rw [if_neg (by rw [h3]; decide)] at hk; exact hk
    cases kb with
    | true => exact key_len hk2 hf
    | false => rw [key_none_nil hk2]; exact Nat.zero_le _

set_option maxRecDepth 20000 in
set_option maxHeartbeats 8000000 in
theorem law_pieces (S : PSchema) (a : Option Addr) (n c : Nat) (a2 : Option Addr) (n2 c2 : Nat) (rule t : Int) (va vb s e : ByteArray) (pa : Option Addr) (pn pc : Nat) (ms : List ByteArray) (w : World) (hE : EnvW w) (hT : Types w.heap.size w a n c S.types) (hC : Classes w.heap.size w a2 n2 c2 S.classes)
    (hr : -128 ≤ rule ∧ rule ≤ 127) (hM : Texts w.heap.size w pa pn pc ms) (hpn : pn ≤ 1048576) (hms : ∀ m ∈ ms, m.size ≤ 1048576) (hs : s.size ≤ 1048576) (he : e.size ≤ 1048576) :
    Calls Tryz.prog 7 #[.agg #[.slice a n c, .slice a2 n2 c2], .agg #[.int .i8 rule, .int .i64 t, .string va, .string vb], .agg #[.string s, .slice pa pn pc, .string e]] w fun en w' => en = .returned (.bool true) ∧ Below w.heap.size w w' := by
  have hnl := hM.len
  have HM := Lib.hid (And.intro hM (And.intro hms hnl)); have HE := Lib.hid hE; have HTC := Lib.hid (And.intro hT hC); have HSZ := Lib.hid (And.intro hs he); clear hM hms hE hT hC hs he hnl
  go_enter Tryz.func7, Tryz.ntmps7
  go_upto_region 1 with fail
  have hbx := Box3.made w #[.slice a n c, .slice a2 n2 c2] #[.int .i8 rule, .int .i64 t, .string va, .string vb] #[.string s, .slice pa pn pc, .string e] 38 24 51
  generalize ((w.alloc (.cells #[.slice a n c, .slice a2 n2 c2] 38)).alloc (.cells #[.int .i8 rule, .int .i64 t, .string va, .string vb] 24)).alloc (.cells #[.string s, .slice pa pn pc, .string e] 51) = w3 at hbx ⊢
  have a0 := hbx.a 0 _ rfl; have a1 := hbx.a 1 _ rfl; have b0 := hbx.b 0 _ rfl; have b2 := hbx.b 2 _ rfl
  have HBX := Lib.hid hbx
  have hnw : ∀ wq, Below w3.heap.size w3 wq → Calls Tryz.prog 24 #[.agg #[.slice a n c, .slice a2 n2 c2]] wq (NewPost S wq) := fun wq hb =>
    have hb2 := bnext HBX.out.below hb
    new_any S w.heap.size a a2 n c n2 c2 wq (HE.out.s.next hb2) (HTC.out.1.keep hb2 (Nat.le_refl _)) (HTC.out.2.keep hb2 (Nat.le_refl _)) hb2.size
  have hby : ∀ wq, Below w3.heap.size w3 wq → Calls Tryz.prog 30 #[.agg #[.string s, .slice pa pn pc, .string e]] wq fun e w' => SomeBool e ∧ Below wq.heap.size wq w' := fun wq hb =>
    have hb2 := bnext HBX.out.below hb
    beyond_any s e w.heap.size pa pn pc ms wq (HM.out.1.keep hb2 (Nat.le_refl _)) hb2.size hpn HM.out.2.1
  have hwk : ∀ wq, Below w3.heap.size w3 wq → Calls Tryz.prog 23 #[] wq fun e w' => e = .returned (.bool true) ∧ Below wq.heap.size wq w' := fun wq hb => wakes_any wq (HE.out.next (bnext HBX.out.below hb))
  have HNW := Lib.hid hnw; have HBY := Lib.hid hby; have HWK := Lib.hid hwk; clear hnw hby hwk hbx
  have hcc : ∀ wq, Below w3.heap.size w3 wq → wq.cell? ⟨w.heap.size + 1 + 1, 0, none⟩ = some (.string s) ∧ wq.cell? ⟨w.heap.size + 1 + 1, 1, none⟩ = some (.slice pa pn pc) ∧ wq.cell? ⟨w.heap.size + 1 + 1, 2, none⟩ = some (.string e) := fun wq hb => by
    have h := HBX.out.keep hb
    exact ⟨h.c 0 _ rfl, h.c 1 _ rfl, h.c 2 _ rfl⟩
  have HCC := Lib.hid hcc; clear hcc
  change w3.cell? _ = some (.slice a n c) at a0
  change w3.cell? _ = some (.slice a2 n2 c2) at a1
  change w3.cell? _ = some (.int .i8 rule) at b0
  change w3.cell? _ = some (.string va) at b2
  go_upto_region 4 with (first
    | (go_at_call 24; (with_reducible refine (HNW.out _ (Below.refl _ _)).mono ?_); rintro en w4 ⟨hb4, hpost⟩; obtain ⟨k0, k1, k2⟩ := HCC.out _ hb4; have HB4 := Lib.hid hb4; clear hb4; rcases hpost with ⟨_, g, rfl, hsch⟩ | ⟨hne, rfl⟩)
    | fail)
  all_goals clear a0 a1 b0 b2
  · have HSC := Lib.hid hsch; clear hsch
    go_upto_region 5 with (first
      | (go_at_call 30; (with_reducible refine (HBY.out _ HB4.out).mono ?_); rintro en w5 ⟨⟨bb, rfl⟩, hb5⟩; obtain ⟨d0, d1, d2⟩ := HCC.out _ (bnext HB4.out hb5); have HB5 := Lib.hid (bnext HB4.out hb5); have HSC5 := Lib.hid (HSC.out.keep hb5); clear hb5 k0 k1 k2 HSC; cases bb)
      | fail)
    case true =>
      go_wp2_with fail
      go_ret
      exact ⟨rfl, bnext HBX.out.below HB5.out⟩
    clear HNW HBY HTC w4 HB4
    have hpi := fun wq => pieces_any rule wq
    by_cases h3 : sortV rule = 3
    · rw [decide_eq_true h3] at hpi
      have h19 : rule ≠ 19 := by rintro rfl; exact absurd h3 (by decide)
      have h20 : rule ≠ 20 := by rintro rfl; exact absurd h3 (by decide)
      obtain ⟨kl, kb, hpc⟩ := pcOk h3 (toL va) (toL s) (toL e) (ms.map toL)
      obtain ⟨all, hall⟩ : ∃ all, partV rule (keyM rule) (toL va) (toL s) (toL e) (ms.map toL) = all := ⟨_, rfl⟩
      rw [hall] at hpc
      have henv : ∀ wq, Below w5.heap.size w5 wq → EnvW wq := fun wq hb => HE.out.next (bnext HBX.out.below (bnext HB5.out hb))
      have hkey : ∀ wq, Below w5.heap.size w5 wq → Calls Tryz.prog 15 #[.pointer (some ⟨g, 0, none⟩), .int .i8 rule, .string va] wq fun e w' => e = .returned (.tuple #[.string ⟨kl.toArray⟩, .bool kb]) ∧ Below wq.heap.size wq w' := fun wq hb => by
        have h := keyAt_form ⟨g, 0, none⟩ rule wq (henv wq hb).e (henv wq hb).s (henv wq hb).m hr h19 h20 wq va (Below.refl _ _)
        rw [hpc.key] at h; exact h
      have hpart : ∀ wq (sa : ByteArray) (ax : Option Addr) (nx cx : Nat) (mx : List ByteArray) (ea : ByteArray) (v : Int), Below w5.heap.size w5 wq → Texts wq.heap.size wq ax nx cx mx → sa.size ≤ 1048576 → ea.size ≤ 1048576 → partV rule (keyM rule) (toL va) (toL sa) (toL ea) (mx.map toL) = v →
          Calls Tryz.prog 21 #[.pointer (some ⟨g, 0, none⟩), .int .i8 rule, .string va, .string sa, .slice ax nx cx, .string ea] wq fun e w' => e = .returned (.int .i8 v) ∧ Below wq.heap.size wq w' := fun wq sa ax nx cx mx ea v hb ht h1 h2 hv => by
        have h := mpart_any ⟨g, 0, none⟩ rule (keyM rule) va sa ea wq.heap.size ax nx cx mx wq (henv wq hb).e (henv wq hb).s (henv wq hb).m hr h3 ht (Nat.le_refl _) (keyAt_form ⟨g, 0, none⟩ rule wq (henv wq hb).e (henv wq hb).s (henv wq hb).m hr h19 h20) (by omega) (by omega) (by rw [hpc.key]; show kl.length < 4294967281; have := hpc.len; omega)
        rw [hv] at h; exact h
      have hmt : ∀ wq, Below w5.heap.size w5 wq → Texts wq.heap.size wq pa pn pc ms := fun wq hb =>
        have hb2 := bnext HBX.out.below (bnext HB5.out hb)
        HM.out.1.keep hb2 hb2.size
      have hp0 : ∀ wq, Below w5.heap.size w5 wq → Calls Tryz.prog 21 #[.pointer (some ⟨g, 0, none⟩), .int .i8 rule, .string va, .string s, .slice pa pn pc, .string e] wq fun e w' => e = .returned (.int .i8 all) ∧ Below wq.heap.size wq w' := fun wq hb =>
        hpart wq s pa pn pc ms e all hb (hmt wq hb) HSZ.out.1 HSZ.out.2 hall
      have hp4 : ∀ wq, Below w5.heap.size w5 wq → Calls Tryz.prog 21 #[.pointer (some ⟨g, 0, none⟩), .int .i8 rule, .string va, .string ⟨#[]⟩, .slice none 0 0, .string ⟨#[]⟩] wq fun e w' => e = .returned (.int .i8 (truthV kb)) ∧ Below wq.heap.size wq w' := fun wq hb =>
        hpart wq ⟨#[]⟩ none 0 0 [] ⟨#[]⟩ (truthV kb) hb (Texts.nil _ _) (by decide) (by decide) hpc.none
      have hkz : (ByteArray.mk kl.toArray).size ≤ 1048576 := by show kl.length ≤ _; have := hpc.len; omega
      have hp5 : rule = 6 → kb = true → kl ≠ [32] → ∀ wq, Below w5.heap.size w5 wq → Calls Tryz.prog 21 #[.pointer (some ⟨g, 0, none⟩), .int .i8 rule, .string va, .string ⟨kl.toArray⟩, .slice none 0 0, .string ⟨#[]⟩] wq fun e w' => e = .returned (.int .i8 1) ∧ Below wq.heap.size wq w' := fun h1 h2 h4 wq hb =>
        hpart wq ⟨kl.toArray⟩ none 0 0 [] ⟨#[]⟩ 1 hb (Texts.nil _ _) hkz (by decide) (hpc.self h1 h2 h4)
      have htr := fun wq => truth7_any kb wq
      have hdd : ∀ wq, Below w5.heap.size w5 wq → wq.cell? ⟨w.heap.size + 1 + 1, 0, none⟩ = some (.string s) ∧ wq.cell? ⟨w.heap.size + 1 + 1, 1, none⟩ = some (.slice pa pn pc) ∧ wq.cell? ⟨w.heap.size + 1 + 1, 2, none⟩ = some (.string e) := fun wq hb => HCC.out _ (bnext HB5.out hb)
      have HPI := Lib.hid hpi; have HKEY := Lib.hid hkey; have HP0 := Lib.hid hp0; have HP4 := Lib.hid hp4; have HP5 := Lib.hid hp5; have HTR := Lib.hid htr; have HPART := Lib.hid hpart; have HPC := Lib.hid hpc; have HDD := Lib.hid hdd; have HMT := Lib.hid hmt
      clear hpi hkey hp0 hp4 hp5 htr hpart hpc hdd hmt henv hall hr h3 h19 h20 hkz
      go_upto_region 12 with (first
        | (go_at_call 27; (with_reducible refine (HPI.out _).mono ?_); rintro en w6 ⟨rfl, rfl⟩)
        | (go_at_call 15; (with_reducible refine (HKEY.out _ (Below.refl _ _)).mono ?_); rintro en w7 ⟨rfl, hb7⟩; obtain ⟨e0, e1, e2⟩ := HDD.out _ hb7; have HB7 := Lib.hid hb7; clear hb7 d0 d1 d2)
        | (go_at_call 21; (with_reducible refine (HP0.out _ HB7.out).mono ?_); rintro en w8 ⟨rfl, hb8⟩; obtain ⟨f0, f1, f2⟩ := HDD.out _ (bnext HB7.out hb8); have HB8 := Lib.hid (bnext HB7.out hb8); clear hb8 e0 e1 e2)
        | fail)
      by_cases h1 : all = 1
      · subst h1
        obtain rfl : kb = true := HPC.out.ok rfl
        have hp1 : ∀ wq, Below w5.heap.size w5 wq → Calls Tryz.prog 21 #[.pointer (some ⟨g, 0, none⟩), .int .i8 rule, .string va, .string s, .slice none 0 0, .string ⟨#[]⟩] wq fun e w' => e = .returned (.int .i8 1) ∧ Below wq.heap.size wq w' := fun wq hb =>
          HPART.out wq s none 0 0 [] ⟨#[]⟩ 1 hb (Texts.nil _ _) HSZ.out.1 (by decide) (HPC.out.st rfl)
        have hp2 : ∀ wq, Below w5.heap.size w5 wq → Calls Tryz.prog 21 #[.pointer (some ⟨g, 0, none⟩), .int .i8 rule, .string va, .string ⟨#[]⟩, .slice none 0 0, .string e] wq fun e w' => e = .returned (.int .i8 1) ∧ Below wq.heap.size wq w' := fun wq hb =>
          HPART.out wq ⟨#[]⟩ none 0 0 [] e 1 hb (Texts.nil _ _) (by decide) HSZ.out.2 (HPC.out.en rfl)
        have hp3 : ∀ wq, Below w5.heap.size w5 wq → Calls Tryz.prog 21 #[.pointer (some ⟨g, 0, none⟩), .int .i8 rule, .string va, .string ⟨#[]⟩, .slice pa pn pc, .string ⟨#[]⟩] wq fun e w' => e = .returned (.int .i8 1) ∧ Below wq.heap.size wq w' := fun wq hb =>
          HPART.out wq ⟨#[]⟩ pa pn pc ms ⟨#[]⟩ 1 hb (HMT.out wq hb) (by decide) (by decide) (HPC.out.mi rfl)
        have hp4 := HP4.out
        change ∀ wq, Below w5.heap.size w5 wq → Calls Tryz.prog 21 #[.pointer (some ⟨g, 0, none⟩), .int .i8 rule, .string va, .string ⟨#[]⟩, .slice none 0 0, .string ⟨#[]⟩] wq fun e w' => e = .returned (.int .i8 1) ∧ Below wq.heap.size wq w' at hp4
        have htr := HTR.out
        change ∀ wq, Calls Tryz.prog 28 #[.bool true] wq fun e w' => e = .returned (.int .i8 1) ∧ wq = w' at htr
        clear HP4 HTR
        have HP1 := Lib.hid hp1; have HP2 := Lib.hid hp2; have HP3 := Lib.hid hp3; have HP4 := Lib.hid hp4; have HTR := Lib.hid htr
        clear hp1 hp2 hp3 hp4 htr HP0 HPI HKEY
        go_wp2_with (first
          | (go_at_call 21; (with_reducible refine (HP1.out _ HB8.out).mono ?_); rintro en w9 ⟨rfl, hb9⟩; obtain ⟨g0, g1, g2⟩ := HDD.out _ (bnext HB8.out hb9); have HB9 := Lib.hid (bnext HB8.out hb9); clear hb9 f0 f1 f2)
          | (go_at_call 21; (with_reducible refine (HP2.out _ HB9.out).mono ?_); rintro en w10 ⟨rfl, hb10⟩; obtain ⟨h0, h1, h2⟩ := HDD.out _ (bnext HB9.out hb10); have HB10 := Lib.hid (bnext HB9.out hb10); clear hb10 g0 g1 g2)
          | (go_at_call 21; (with_reducible refine (HP3.out _ HB10.out).mono ?_); rintro en w11 ⟨rfl, hb11⟩; have HB11 := Lib.hid (bnext HB10.out hb11); clear hb11 h0 h1 h2)
          | fail)
        go_loopw [15] (fun iv wr => ∃ i : Nat, iv = .int .i64 i ∧ i ≤ pn ∧ Below w5.heap.size w5 wr) (fun iv _ => pn - (intOf iv).toNat)
        case atStart => exact ⟨0, rfl, Nat.zero_le _, HB11.out⟩
        case round =>
          obtain ⟨i, rfl, hi, hbl⟩ := hrel
          obtain ⟨l0, l1, l2⟩ := HDD.out _ hbl
          have HBL := Lib.hid hbl; clear hbl
          by_cases hlt : i < pn
          · by_cases h100 : i < 100
            · have i1 : (i : Int) < pn := by omega
              have i2 : (i : Int) < 100 := by omega
              have hli : i < ms.length := by have := HM.out.2.2; omega
              have hmt := HMT.out _ HBL.out
              obtain ⟨tb, tx, rfl, htb⟩ := hmt.lies.ptr (by omega)
              have hcc := hmt.lies.le
              have i3 : (i : Int) + 1 ≤ pc := by omega
              have i4 : i + 1 ≤ pc := by omega
              have hsub := hmt.sub hli
              have hv := HPC.out.one rfl (toL ms[i]) (List.mem_map.2 ⟨ms[i], List.getElem_mem hli, rfl⟩)
              have hpi : Calls Tryz.prog 21 #[.pointer (some ⟨g, 0, none⟩), .int .i8 rule, .string va, .string ⟨#[]⟩, .slice (some ⟨tb, tx + i, none⟩) 1 (pc - i), .string ⟨#[]⟩] wr fun e w' => e = .returned (.int .i8 1) ∧ Below wr.heap.size wr w' :=
                HPART.out wr ⟨#[]⟩ _ _ _ _ ⟨#[]⟩ 1 HBL.out hsub (by decide) (by decide) hv
              have HPI2 := Lib.hid hpi; clear hpi hsub hv hmt hli htb hcc
              go_wp2_with (first
                | (go_at_call 21; refine (HPI2.out).mono ?_; rintro en w12 ⟨rfl, hb12⟩; have HB12 := Lib.hid (bnext HBL.out hb12); clear hb12)
                | fail)
              exact ⟨⟨i + 1, by simp, by omega, HB12.out⟩, by simp [intOf]; omega⟩
            · have i1 : (i : Int) < pn := by omega
              have i2 : ¬ (i : Int) < 100 := by omega
              clear hlt h100 hi
              by_cases h6 : rule = 6
              · by_cases h32 : kl = [32]
                · subst h32
                  subst h6
                  go_wp2_with (first
                    | (go_at_call 21; (with_reducible refine (HP4.out _ HBL.out).mono ?_); rintro en w13 ⟨rfl, hb13⟩; have HB13 := Lib.hid (bnext HBL.out hb13); clear hb13)
                    | (go_at_call 28; (with_reducible refine (HTR.out _).mono ?_); rintro en w14 ⟨rfl, rfl⟩)
                    | (go_at_call 23; (with_reducible refine (HWK.out _ (bnext HB5.out HB13.out)).mono ?_); rintro en w16 ⟨rfl, hb16⟩; have HB16 := Lib.hid (bnext HB13.out hb16); clear hb16)
                    | fail)
                  go_ret
                  exact ⟨rfl, bnext HBX.out.below (bnext HB5.out HB16.out)⟩
                · have k32 : (kl == [32]) = false := beq_eq_false_iff_ne.2 h32
                  have hp5 := HP5.out h6 (by first | trivial | rfl) h32
                  have HP5' := Lib.hid hp5
                  subst h6
                  clear hp5 h32
                  go_wp2_with (first
                    | (go_at_call 21; (with_reducible refine (HP4.out _ HBL.out).mono ?_); rintro en w13 ⟨rfl, hb13⟩; have HB13 := Lib.hid (bnext HBL.out hb13); clear hb13)
                    | (go_at_call 28; (with_reducible refine (HTR.out _).mono ?_); rintro en w14 ⟨rfl, rfl⟩)
                    | (go_at_call 21; (with_reducible refine (HP5'.out _ HB13.out).mono ?_); rintro en w15 ⟨rfl, hb15⟩; have HB15 := Lib.hid (bnext HB13.out hb15); clear hb15)
                    | (go_at_call 23; (with_reducible refine (HWK.out _ (bnext HB5.out HB15.out)).mono ?_); rintro en w16 ⟨rfl, hb16⟩; have HB16 := Lib.hid (bnext HB15.out hb16); clear hb16)
                    | fail)
                  go_ret
                  exact ⟨rfl, bnext HBX.out.below (bnext HB5.out HB16.out)⟩
              · have hr6 : (rule != 6) = true := by simpa using h6
                clear h6
                go_wp2_with (first
                  | (go_at_call 21; (with_reducible refine (HP4.out _ HBL.out).mono ?_); rintro en w13 ⟨rfl, hb13⟩; have HB13 := Lib.hid (bnext HBL.out hb13); clear hb13)
                  | (go_at_call 28; (with_reducible refine (HTR.out _).mono ?_); rintro en w14 ⟨rfl, rfl⟩)
                  | (go_at_call 23; (with_reducible refine (HWK.out _ (bnext HB5.out HB13.out)).mono ?_); rintro en w16 ⟨rfl, hb16⟩; have HB16 := Lib.hid (bnext HB13.out hb16); clear hb16)
                  | fail)
                go_ret
                exact ⟨rfl, bnext HBX.out.below (bnext HB5.out HB16.out)⟩
          · have i1 : ¬ (i : Int) < pn := by omega
            clear hlt hi
            by_cases h6 : rule = 6
            · by_cases h32 : kl = [32]
              · subst h32
                subst h6
                go_wp2_with (first
                  | (go_at_call 21; (with_reducible refine (HP4.out _ HBL.out).mono ?_); rintro en w13 ⟨rfl, hb13⟩; have HB13 := Lib.hid (bnext HBL.out hb13); clear hb13)
                  | (go_at_call 28; (with_reducible refine (HTR.out _).mono ?_); rintro en w14 ⟨rfl, rfl⟩)
                  | (go_at_call 23; (with_reducible refine (HWK.out _ (bnext HB5.out HB13.out)).mono ?_); rintro en w16 ⟨rfl, hb16⟩; have HB16 := Lib.hid (bnext HB13.out hb16); clear hb16)
                  | fail)
                go_ret
                exact ⟨rfl, bnext HBX.out.below (bnext HB5.out HB16.out)⟩
              · have k32 : (kl == [32]) = false := beq_eq_false_iff_ne.2 h32
                have hp5 := HP5.out h6 (by first | trivial | rfl) h32
                have HP5' := Lib.hid hp5
                subst h6
                clear hp5 h32
                go_wp2_with (first
                  | (go_at_call 21; (with_reducible refine (HP4.out _ HBL.out).mono ?_); rintro en w13 ⟨rfl, hb13⟩; have HB13 := Lib.hid (bnext HBL.out hb13); clear hb13)
                  | (go_at_call 28; (with_reducible refine (HTR.out _).mono ?_); rintro en w14 ⟨rfl, rfl⟩)
                  | (go_at_call 21; (with_reducible refine (HP5'.out _ HB13.out).mono ?_); rintro en w15 ⟨rfl, hb15⟩; have HB15 := Lib.hid (bnext HB13.out hb15); clear hb15)
                  | (go_at_call 23; (with_reducible refine (HWK.out _ (bnext HB5.out HB15.out)).mono ?_); rintro en w16 ⟨rfl, hb16⟩; have HB16 := Lib.hid (bnext HB15.out hb16); clear hb16)
                  | fail)
                go_ret
                exact ⟨rfl, bnext HBX.out.below (bnext HB5.out HB16.out)⟩
            · have hr6 : (rule != 6) = true := by simpa using h6
              clear h6
              go_wp2_with (first
                | (go_at_call 21; (with_reducible refine (HP4.out _ HBL.out).mono ?_); rintro en w13 ⟨rfl, hb13⟩; have HB13 := Lib.hid (bnext HBL.out hb13); clear hb13)
                | (go_at_call 28; (with_reducible refine (HTR.out _).mono ?_); rintro en w14 ⟨rfl, rfl⟩)
                | (go_at_call 23; (with_reducible refine (HWK.out _ (bnext HB5.out HB13.out)).mono ?_); rintro en w16 ⟨rfl, hb16⟩; have HB16 := Lib.hid (bnext HB13.out hb16); clear hb16)
                | fail)
              go_ret
              exact ⟨rfl, bnext HBX.out.below (bnext HB5.out HB16.out)⟩
      · have ha1 : (all == 1) = false := beq_eq_false_iff_ne.2 h1
        have hp4 := HP4.out
        have htr := HTR.out
        generalize truthV kb = tk at hp4 htr
        have htk : (tk != tk) = false := by simp
        clear HP4 HTR
        have HP4 := Lib.hid hp4; have HTR := Lib.hid htr
        clear hp4 htr HP0 HPI HKEY h1
        clear f0 f1 f2
        go_wp2_with fail
        go_loopw [15] (fun iv wr => ∃ i : Nat, iv = .int .i64 i ∧ i ≤ pn ∧ Below w5.heap.size w5 wr) (fun iv _ => pn - (intOf iv).toNat)
        case atStart => exact ⟨0, rfl, Nat.zero_le _, HB8.out⟩
        case round =>
          obtain ⟨i, rfl, hi, hbl⟩ := hrel
          obtain ⟨l0, l1, l2⟩ := HDD.out _ hbl
          have HBL := Lib.hid hbl; clear hbl
          by_cases hlt : i < pn
          · by_cases h100 : i < 100
            · have i1 : (i : Int) < pn := by omega
              have i2 : (i : Int) < 100 := by omega
              go_wp2_with fail
              exact ⟨⟨i + 1, by simp, by omega, HBL.out⟩, by simp [intOf]; omega⟩
            · have i1 : (i : Int) < pn := by omega
              have i2 : ¬ (i : Int) < 100 := by omega
              clear hlt h100 hi
              cases kb with
              | false =>
                go_wp2_with (first
                  | (go_at_call 21; (with_reducible refine (HP4.out _ HBL.out).mono ?_); rintro en w13 ⟨rfl, hb13⟩; have HB13 := Lib.hid (bnext HBL.out hb13); clear hb13)
                  | (go_at_call 28; (with_reducible refine (HTR.out _).mono ?_); rintro en w14 ⟨rfl, rfl⟩)
                  | (go_at_call 23; (with_reducible refine (HWK.out _ (bnext HB5.out HB13.out)).mono ?_); rintro en w16 ⟨rfl, hb16⟩; have HB16 := Lib.hid (bnext HB13.out hb16); clear hb16)
                  | fail)
                go_ret
                exact ⟨rfl, bnext HBX.out.below (bnext HB5.out HB16.out)⟩
              | true =>
                by_cases h6 : rule = 6
                · by_cases h32 : kl = [32]
                  · subst h32
                    subst h6
                    go_wp2_with (first
                      | (go_at_call 21; (with_reducible refine (HP4.out _ HBL.out).mono ?_); rintro en w13 ⟨rfl, hb13⟩; have HB13 := Lib.hid (bnext HBL.out hb13); clear hb13)
                      | (go_at_call 28; (with_reducible refine (HTR.out _).mono ?_); rintro en w14 ⟨rfl, rfl⟩)
                      | (go_at_call 23; (with_reducible refine (HWK.out _ (bnext HB5.out HB13.out)).mono ?_); rintro en w16 ⟨rfl, hb16⟩; have HB16 := Lib.hid (bnext HB13.out hb16); clear hb16)
                      | fail)
                    go_ret
                    exact ⟨rfl, bnext HBX.out.below (bnext HB5.out HB16.out)⟩
                  · have k32 : (kl == [32]) = false := beq_eq_false_iff_ne.2 h32
                    have hp5 := HP5.out h6 (by first | trivial | rfl) h32
                    have HP5' := Lib.hid hp5
                    subst h6
                    clear hp5 h32
                    go_wp2_with (first
                      | (go_at_call 21; (with_reducible refine (HP4.out _ HBL.out).mono ?_); rintro en w13 ⟨rfl, hb13⟩; have HB13 := Lib.hid (bnext HBL.out hb13); clear hb13)
                      | (go_at_call 28; (with_reducible refine (HTR.out _).mono ?_); rintro en w14 ⟨rfl, rfl⟩)
                      | (go_at_call 21; (with_reducible refine (HP5'.out _ HB13.out).mono ?_); rintro en w15 ⟨rfl, hb15⟩; have HB15 := Lib.hid (bnext HB13.out hb15); clear hb15)
                      | (go_at_call 23; (with_reducible refine (HWK.out _ (bnext HB5.out HB15.out)).mono ?_); rintro en w16 ⟨rfl, hb16⟩; have HB16 := Lib.hid (bnext HB15.out hb16); clear hb16)
                      | fail)
                    go_ret
                    exact ⟨rfl, bnext HBX.out.below (bnext HB5.out HB16.out)⟩
                · have hr6 : (rule != 6) = true := by simpa using h6
                  clear h6
                  go_wp2_with (first
                    | (go_at_call 21; (with_reducible refine (HP4.out _ HBL.out).mono ?_); rintro en w13 ⟨rfl, hb13⟩; have HB13 := Lib.hid (bnext HBL.out hb13); clear hb13)
                    | (go_at_call 28; (with_reducible refine (HTR.out _).mono ?_); rintro en w14 ⟨rfl, rfl⟩)
                    | (go_at_call 23; (with_reducible refine (HWK.out _ (bnext HB5.out HB13.out)).mono ?_); rintro en w16 ⟨rfl, hb16⟩; have HB16 := Lib.hid (bnext HB13.out hb16); clear hb16)
                    | fail)
                  go_ret
                  exact ⟨rfl, bnext HBX.out.below (bnext HB5.out HB16.out)⟩
          · have i1 : ¬ (i : Int) < pn := by omega
            clear hlt hi
            cases kb with
            | false =>
              go_wp2_with (first
                | (go_at_call 21; (with_reducible refine (HP4.out _ HBL.out).mono ?_); rintro en w13 ⟨rfl, hb13⟩; have HB13 := Lib.hid (bnext HBL.out hb13); clear hb13)
                | (go_at_call 28; (with_reducible refine (HTR.out _).mono ?_); rintro en w14 ⟨rfl, rfl⟩)
                | (go_at_call 23; (with_reducible refine (HWK.out _ (bnext HB5.out HB13.out)).mono ?_); rintro en w16 ⟨rfl, hb16⟩; have HB16 := Lib.hid (bnext HB13.out hb16); clear hb16)
                | fail)
              go_ret
              exact ⟨rfl, bnext HBX.out.below (bnext HB5.out HB16.out)⟩
            | true =>
              by_cases h6 : rule = 6
              · by_cases h32 : kl = [32]
                · subst h32
                  subst h6
                  go_wp2_with (first
                    | (go_at_call 21; (with_reducible refine (HP4.out _ HBL.out).mono ?_); rintro en w13 ⟨rfl, hb13⟩; have HB13 := Lib.hid (bnext HBL.out hb13); clear hb13)
                    | (go_at_call 28; (with_reducible refine (HTR.out _).mono ?_); rintro en w14 ⟨rfl, rfl⟩)
                    | (go_at_call 23; (with_reducible refine (HWK.out _ (bnext HB5.out HB13.out)).mono ?_); rintro en w16 ⟨rfl, hb16⟩; have HB16 := Lib.hid (bnext HB13.out hb16); clear hb16)
                    | fail)
                  go_ret
                  exact ⟨rfl, bnext HBX.out.below (bnext HB5.out HB16.out)⟩
                · have k32 : (kl == [32]) = false := beq_eq_false_iff_ne.2 h32
                  have hp5 := HP5.out h6 (by first | trivial | rfl) h32
                  have HP5' := Lib.hid hp5
                  subst h6
                  clear hp5 h32
                  go_wp2_with (first
                    | (go_at_call 21; (with_reducible refine (HP4.out _ HBL.out).mono ?_); rintro en w13 ⟨rfl, hb13⟩; have HB13 := Lib.hid (bnext HBL.out hb13); clear hb13)
                    | (go_at_call 28; (with_reducible refine (HTR.out _).mono ?_); rintro en w14 ⟨rfl, rfl⟩)
                    | (go_at_call 21; (with_reducible refine (HP5'.out _ HB13.out).mono ?_); rintro en w15 ⟨rfl, hb15⟩; have HB15 := Lib.hid (bnext HB13.out hb15); clear hb15)
                    | (go_at_call 23; (with_reducible refine (HWK.out _ (bnext HB5.out HB15.out)).mono ?_); rintro en w16 ⟨rfl, hb16⟩; have HB16 := Lib.hid (bnext HB15.out hb16); clear hb16)
                    | fail)
                  go_ret
                  exact ⟨rfl, bnext HBX.out.below (bnext HB5.out HB16.out)⟩
              · have hr6 : (rule != 6) = true := by simpa using h6
                clear h6
                go_wp2_with (first
                  | (go_at_call 21; (with_reducible refine (HP4.out _ HBL.out).mono ?_); rintro en w13 ⟨rfl, hb13⟩; have HB13 := Lib.hid (bnext HBL.out hb13); clear hb13)
                  | (go_at_call 28; (with_reducible refine (HTR.out _).mono ?_); rintro en w14 ⟨rfl, rfl⟩)
                  | (go_at_call 23; (with_reducible refine (HWK.out _ (bnext HB5.out HB13.out)).mono ?_); rintro en w16 ⟨rfl, hb16⟩; have HB16 := Lib.hid (bnext HB13.out hb16); clear hb16)
                  | fail)
                go_ret
                exact ⟨rfl, bnext HBX.out.below (bnext HB5.out HB16.out)⟩
    · rw [decide_eq_false h3] at hpi
      have hpo : ∀ wq, Below w5.heap.size w5 wq → Calls Tryz.prog 21 #[.pointer (some ⟨g, 0, none⟩), .int .i8 rule, .string va, .string s, .slice pa pn pc, .string e] wq fun e w' => e = .returned (.int .i8 2) ∧ wq = w' := fun wq hb =>
        part_other ⟨g, 0, none⟩ rule va s e pa pn pc wq (HE.out.next (bnext HBX.out.below (bnext HB5.out hb))).m hr h3
      have HPI := Lib.hid hpi; have HPO := Lib.hid hpo; clear hpi hpo h3 hr
      go_wp2_with (first
        | (go_at_call 27; (with_reducible refine (HPI.out _).mono ?_); rintro en w6 ⟨rfl, rfl⟩)
        | (go_at_call 21; (with_reducible refine (HPO.out _ (Below.refl _ _)).mono ?_); rintro en w7 ⟨rfl, rfl⟩)
        | (go_at_call 23; (with_reducible refine (HWK.out _ HB5.out).mono ?_); rintro en w8 ⟨rfl, hb8⟩; have HB8 := Lib.hid (bnext HB5.out hb8); clear hb8)
        | fail)
      go_ret
      exact ⟨rfl, bnext HBX.out.below HB8.out⟩
  · have hne2 : ((newE S).1 != 0) = true := by simpa using hne
    generalize (newE S).1 = code at hne2 ⊢
    generalize (newE S).2 = place
    clear hne
    go_wp2_with (first
      | (go_at_call 30; (with_reducible refine (HBY.out _ HB4.out).mono ?_); rintro en w5 ⟨⟨bb, rfl⟩, hb5⟩; have HB5 := Lib.hid (bnext HB4.out hb5); clear hb5; cases bb)
      | (go_at_call 23; (with_reducible refine (HWK.out _ HB5.out).mono ?_); rintro en w6 ⟨rfl, hb6⟩; have HB6 := Lib.hid (bnext HB5.out hb6); clear hb6)
      | fail)
    all_goals go_ret
    · exact ⟨rfl, bnext HBX.out.below HB6.out⟩
    · exact ⟨rfl, bnext HBX.out.below HB5.out⟩
end Go.Proofs.YtifgmnafjihlkaaGreatDoor
/- rosterlaw07.MatchPieces: its arguments opened, and the law's walk called. -/
namespace Go.Proofs.YtifgmnafjihlkaaGreatDoor
open Go Go.RowKit Go.ChangeShapes Go.WideShapes Go.Deep

theorem bulk_of {H : Type} {ds : List (DataW H)} (h : Rows.uptoSmall H ds = true) : Rows.uptoBulkAll ds ≤ 1048576 := of_decide_eq_true h

theorem bulk3 {H : Type} {N : Nat} {a b c : DataW H} (h : Rows.uptoBulkAll [a, b, c] ≤ N) : bulk a ≤ N ∧ bulk c ≤ N := by
  simp only [Rows.uptoBulkAll] at h
  exact ⟨by show Rows.uptoBulk a ≤ N; omega, by show Rows.uptoBulk c ≤ N; omega⟩

set_option maxRecDepth 100000 in
theorem open_pieces {H : Type} {enc : TypeId × Value → H} {w : World} {r : Reach} {b0 base N : Nat} {held : Bool} {v : Value} {d : DataW H} {ps : List MemPlace} (hval : Value.okWide Tryz.prog w r b0 51 v) (hd : DataW.Trod enc Tryz.prog w base (fun _ => true) held 51 v d ps) (hb : bulk d ≤ N) (hN : N ≤ 4294967280) :
    ∃ (s e : ByteArray) (a : Option Addr) (n c : Nat) (ms : List ByteArray), v = .agg #[.string s, .slice a n c, .string e] ∧ Texts w.heap.size w a n c ms ∧ n ≤ N ∧ (∀ m ∈ ms, m.size ≤ N) ∧ s.size ≤ N ∧ e.size ≤ N := by
  obtain ⟨cs, rfl, _⟩ := okWide_struct Tryz.underlying51 hval
  obtain ⟨fuel, hf⟩ := hd
  obtain ⟨hl, hff⟩ := open_field Tryz.underlying51 (by kernel_rfl) (by kernel_rfl) hf
  obtain ⟨v0, k0, y0, e0, f0, c0⟩ := hff 0 _ rfl
  obtain ⟨v1, k1, y1, e1, f1, c1⟩ := hff 1 _ rfl
  obtain ⟨v2, k2, y2, e2, f2, c2⟩ := hff 2 _ rfl
  obtain ⟨s, rfl, hs⟩ := open_str Tryz.underlying9 f0
  obtain ⟨a, n, c, l, rfl, t1, m1, s1⟩ := open_texts Tryz.underlying46 Tryz.underlying9 (by kernel_rfl) f1 (Nat.le_trans c1 hb) hN
  obtain ⟨e, rfl, he⟩ := open_str Tryz.underlying9 f2
  have c0' : bulk y0.1 ≤ bulk d := c0
  have c2' : bulk y2.1 ≤ bulk d := c2
  refine ⟨s, e, a, n, c, l, ?_, t1, m1, s1, by omega, by omega⟩
  congr 1
  have hl2 : cs.size = 3 := by simpa [Value.cells] using hl
  have g0 : cs[0]? = some (.string s) := by simpa [Value.cells] using e0
  have g1 : cs[1]? = some (.slice a n c) := by simpa [Value.cells] using e1
  have g2 : cs[2]? = some (.string e) := by simpa [Value.cells] using e2
  apply Array.ext
  · rw [hl2]; rfl
  · intro i h1 h2
    rw [hl2] at h1
    match i, h1 with
    | 0, _ => have := (Array.getElem?_eq_some_iff.1 g0).2; simpa using this
    | 1, _ => have := (Array.getElem?_eq_some_iff.1 g1).2; simpa using this
    | 2, _ => have := (Array.getElem?_eq_some_iff.1 g2).2; simpa using this

set_option maxRecDepth 100000 in
theorem walk_pieces {H : Type} {enc : TypeId × Value → H} {b0 : Nat} {W : World} (v0 : Value) (d0 : DataW H) (p0 : List MemPlace) (ok0 : Value.okWide Tryz.prog W .any b0 38 v0) (h0 : DataW.Trod enc Tryz.prog W 0 (fun _ => true) true 38 v0 d0 p0)
    (v1 : Value) (d1 : DataW H) (p1 : List MemPlace) (ok1 : Value.okWide Tryz.prog W .any b0 24 v1) (h1 : DataW.Trod enc Tryz.prog W 0 (fun _ => true) true 24 v1 d1 p1)
    (v2 : Value) (d2 : DataW H) (p2 : List MemPlace) (ok2 : Value.okWide Tryz.prog W .any b0 51 v2) (h2 : DataW.Trod enc Tryz.prog W 0 (fun _ => true) true 51 v2 d2 p2)
    (W' : World) (hW : W = W') (hE : EnvW W') (hk : Rows.uptoSmall H [d0, d1, d2] = true) :
    Calls Tryz.prog 7 #[v0, v1, v2] W' fun e w' => e = .returned (.bool true) ∧ Below W'.heap.size W' w' := by
  subst hW
  obtain ⟨hb0, hb2⟩ := bulk3 (bulk_of hk)
  obtain ⟨S, a, n, c, a2, n2, c2, rfl, hT, hC, _⟩ := open_schema ok0 h0 (N := 1048576) hb0 (by decide)
  obtain ⟨a1, t1, s1, u1, rfl, _, wa1, _, _, _⟩ := open_ask ok1 h1
  obtain ⟨s, e, pa, pn, pc, ms, rfl, hM, hpn, hms, hs, he⟩ := open_pieces ok2 h2 (N := 1048576) hb2 (by decide)
  exact law_pieces S a n c a2 n2 c2 a1 t1 s1 u1 s e pa pn pc ms W hE hT hC (i8_range wa1) hM hpn hms hs he
end Go.Proofs.YtifgmnafjihlkaaGreatDoor
