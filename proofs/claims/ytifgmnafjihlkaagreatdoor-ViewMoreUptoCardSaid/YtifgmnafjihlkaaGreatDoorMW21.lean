/- Part 21 of the walks and plain laws, joined: ViewC. -/
import Derived.Test.YtifgmnafjihlkaaGreatDoorMW09
import Derived.Test.YtifgmnafjihlkaaGreatDoorMW15
import Derived.Test.YtifgmnafjihlkaaGreatDoorMW20
import Derived.Laws.ResultCell
/- view.Show. -/
namespace Go.Proofs.YtifgmnafjihlkaaGreatDoor
open Go Go.RowKit

def recV (id : Int) (a : Option Addr) (n c : Nat) (aa : Option Addr) (an ac : Nat) : Value := .agg #[.int .u64 id, .slice a n c, .slice aa an ac]
set_option maxRecDepth 20000 in
set_option maxHeartbeats 2000000 in
theorem vshow_nil (id : Int) (a : Option Addr) (n c : Nat) (aa : Option Addr) (an ac : Nat) (wa : Option Addr) (wn wc : Nat) (only : Bool) (w : World) :
    Calls Tryz.prog 31 #[.pointer none, recV id a n c aa an ac, .slice wa wn wc, .bool only] w fun e w' => e = .returned (.tuple #[.agg #[.string ⟨#[]⟩, .slice none 0 0], .int .i64 1]) ∧ Below w.heap.size w w' := by
  unfold recV
  go_enter Tryz.func31, Tryz.ntmps31
  go_wp2_with fail
  refine bodyPost_ret (v := .tuple #[.agg #[.string ⟨#[]⟩, .slice none 0 0], .int .i64 1]) ((results_cell_tmp rfl _ _ _).trans (by go_simp)) rfl ?_
  exact ⟨rfl, ((Below.refl _ w).alloc (Nat.le_refl _) _).alloc (by simp) _⟩
theorem eiAttr : EI Tryz.prog 58 80 (.agg #[.string ByteArray.empty, .slice none 0 0]) 2 40 := EI.of Tryz.underlying58 (by kernel_rfl) rfl (by decide) (by decide)
theorem makeStrN (n : Nat) (hn : n ≤ 4294967280) (w : World) : ∃ cs : Array Value, (Instr.makeSlice 46 (.int .i64 (n : Int)) (.int .i64 (n : Int))).run Tryz.prog w = .ok (.slice (some ⟨w.heap.size, 0, none⟩) n n) (w.alloc (.cells cs 9)) ∧ cs.size = n := by
  obtain ⟨i, h2, h3, h4, h5⟩ := eiStr.info
  have hr := run_make (P := Tryz.prog) w 46 9 i (.string ByteArray.empty) eiStr.und h2 h3 .i64 .i64 (n : Int) (n : Int) (by omega) (by omega) (by rw [h5]; omega) (by omega)
  simp only [Int.toNat_natCast, h4, Nat.mul_one] at hr
  refine ⟨_, hr, ?_⟩
  simp [size_madeCells]
theorem KeepS.setCell {w : World} {p : Addr} (v : Value) {cs0 : Array Value} {t : TypeId} {fz0 : Nat × Nat} (h : w.heap[p.block]? = some (.cells cs0 t fz0)) (ht : t ≠ 9) : KeepS w (w.setCell p v) := by
  refine ⟨by simp [World.setCell], fun k cs fz e => ?_⟩
  have hne : k ≠ p.block := fun e2 => by
    subst e2
    rw [h] at e
    cases e
    exact ht rfl
  rw [Below.heap_setCell _ _ _ _ (by first | exact hne | exact hne.symm)]
  exact e
theorem KeepS.grown {w w' : World} {row : Option Nat} (h : w.grownBy w' row) (hr : ∀ g, row = some g → ∃ cs t fz, w.heap[g]? = some (.cells cs t fz) ∧ t ≠ 9) : KeepS w w' := by
  refine ⟨h.size, fun k cs fz e => ?_⟩
  rw [h.block k (Array.getElem?_eq_some_iff.1 e).1 (fun e2 => by
    obtain ⟨c2, t2, f2, e3, h3⟩ := hr k e2.symm
    rw [e3] at e; cases e; exact h3 rfl)]
  exact e
theorem texts_src {B : Nat} {w : World} {a : Option Addr} {n c : Nat} {l : List ByteArray} (h : Texts B w a n c l) (hp : 0 < (l.map Value.string).length) : ∃ ad, a = some ad ∧ ∀ j v, (l.map Value.string)[j]? = some v → w.cell? (ad.add j) = some v := by
  obtain ⟨b, o, rfl, _⟩ := h.lies.ptr (by have := h.len; simp at hp; omega)
  refine ⟨_, rfl, fun j v hj => ?_⟩
  rw [List.getElem?_map] at hj
  obtain ⟨x, hx, rfl⟩ := Option.map_eq_some_iff.1 hj
  rw [show (⟨b, o, none⟩ : Addr).add j = ⟨b, o + j, none⟩ by simp [Addr.add]]
  exact h.cell b o rfl j x hx
theorem grown_cell {w w' : World} {row : Option Nat} {p : Addr} {v : Value} (hg : w.grownBy w' row) (h : w.cell? p = some v) (hp : some p.block ≠ row) : w'.cell? p = some v := by
  have hb := hg.block p.block (World.block_lt_of_cell? w p h) hp
  unfold World.cell? at h ⊢
  rw [hb]; exact h
theorem texts_made {w : World} {g n : Nat} {l : List ByteArray} {t : Nat × Nat} (h : w.heap[g]? = some (.cells (l.map Value.string).toArray 9 t)) (hn : n = l.length) (hs : n ≤ 4294967280) (hz : ∀ s ∈ l, s.size ≤ 4294967280) : TextsS w (some ⟨g, 0, none⟩) n n l := by
  refine ⟨⟨hn, ⟨Nat.le_refl _, by unfold maxLen; omega, (fun h => by cases h), fun ad e _ => by cases e; exact (Array.getElem?_eq_some_iff.1 h).1, fun ad e _ => by cases e; rfl⟩, hs, fun b o e i x hx => ?_, hz⟩, fun b o e _ => by cases e; exact ⟨_, _, h⟩⟩
  cases e
  rw [Nat.zero_add]
  unfold World.cell?
  simp only [h]
  simp [hx]
/-- the state of the loop -/
structure ShR (w1 wr : World) (fb : Nat) (text : ByteArray) (go : Option Nat) (m cap : Nat) (vs : List Value) (found : List PAttr) : Prop where
  vec : Vec 80 2 w1 wr go m cap vs
  heap : wr.heap[fb]? = some (.cells #[.string text, sv go m cap] 64 (0, 0))
  fc : FC wr vs found
  len : m = found.length
theorem Vec.kind {e sz : Nat} {w0 w : World} {go : Option Nat} {n cap : Nat} {vs : List Value} (h : Vec e sz w0 w go n cap vs) : ∀ g, go = some g → ∃ cs, w.heap[g]? = some (.cells cs e (0, 0)) := fun g e1 => by
  subst e1
  obtain ⟨sp, hh, _⟩ := h.own.row
  exact ⟨_, hh⟩
theorem ShR.ne {w1 wr : World} {fb : Nat} {text : ByteArray} {go : Option Nat} {m cap : Nat} {vs : List Value} {found : List PAttr} (h : ShR w1 wr fb text go m cap vs found) : ∀ g, go = some g → g ≠ fb := fun g e1 e2 => by
  obtain ⟨cs, hh⟩ := h.vec.kind g e1
  rw [e2, h.heap] at hh
  have : (64 : Nat) = 80 := by injection hh with hh; injection hh
  exact absurd this (by decide)
theorem ShR.keep {w1 wr w' : World} {fb : Nat} {text : ByteArray} {go : Option Nat} {m cap : Nat} {vs : List Value} {found : List PAttr} (h : ShR w1 wr fb text go m cap vs found) (k : Below wr.heap.size wr w') : ShR w1 w' fb text go m cap vs found :=
  ⟨h.vec.next k, (k.block _ (Array.getElem?_eq_some_iff.1 h.heap).1).trans h.heap, h.fc.move (KeepS.of k), h.len⟩
theorem ShR.put {w1 w4 w7 : World} {fb : Nat} {text : ByteArray} {go : Option Nat} {m cap : Nat} {vs : List Value} {found : List PAttr} (h : ShR w1 w4 fb text go m cap vs found) {o : Obj} {gl cap2 : Nat} {d : ByteArray} {va : Option Addr} {vn vc : Nat} {vals : List ByteArray}
    (hv7 : Vec 80 2 w1 w7 (some gl) (m + 1) cap2 (vs ++ [.string d, .slice va vn vc])) (hg : (w4.alloc o).grownBy w7 go) (ht : TextsS w4 va vn vc vals) (hfb : w1.heap.size ≤ fb) :
    w7.heap[fb]? = some (.cells #[.string text, sv go m cap] 64 (0, 0)) ∧ ShR w1 (w7.setCell ⟨fb, 1, none⟩ (.slice (some ⟨gl, 0, none⟩) (m + 1) cap2)) fb text (some gl) (m + 1) cap2 (vs ++ [.string d, .slice va vn vc]) (found ++ [(d, vals)]) := by
  have hA := h.keep ((Below.refl _ w4).alloc (Nat.le_refl _) o)
  have h7 : w7.heap[fb]? = some (.cells #[.string text, sv go m cap] 64 (0, 0)) := by
    rw [hg.block fb (Array.getElem?_eq_some_iff.1 hA.heap).1 (fun e => hA.ne fb e.symm rfl)]
    exact hA.heap
  have hkg : KeepS (w4.alloc o) w7 := KeepS.grown hg fun g e1 => by
    obtain ⟨cs, hh⟩ := hA.vec.kind g e1
    exact ⟨cs, _, _, hh, by decide⟩
  have hks : KeepS w7 (w7.setCell ⟨fb, 1, none⟩ (.slice (some ⟨gl, 0, none⟩) (m + 1) cap2)) := KeepS.setCell (p := ⟨fb, 1, none⟩) _ h7 (by decide)
  have hne : gl ≠ fb := fun e2 => by
    obtain ⟨cs, hh⟩ := hv7.kind gl rfl
    rw [e2, h7] at hh
    have : (64 : Nat) = 80 := by injection hh with hh; injection hh
    exact absurd this (by decide)
  refine ⟨h7, ?_, ?_, ?_, by simp [h.len]⟩
  · exact hv7.chg (S := (· = fb)) ((Chg.refl (· = fb) w7).setCell (p := ⟨fb, 1, none⟩) (fun _ => rfl) _) (fun g e => by cases e; exact hfb) (fun g e e2 => by cases e; exact hne e2)
  · rw [heap_setCell_same w7 fb 1 _ _ _ h7]; rfl
  · exact ((h.fc.move ((KeepS.of ((Below.refl _ w4).alloc (Nat.le_refl _) o)).trans hkg)).snoc (ht.move ((KeepS.of ((Below.refl _ w4).alloc (Nat.le_refl _) o)).trans hkg))).move hks
theorem ShR.fin {w w1 wr : World} {fb rb : Nat} {text t0 : ByteArray} {go : Option Nat} {m cap : Nat} {vs : List Value} {found : List PAttr} {v0 : Value} (h : ShR w1 wr fb text go m cap vs found) (hb : Below w.heap.size w w1) (hr : w.heap.size ≤ rb) (hr1 : rb < w1.heap.size) (hm : m ≤ 4294967280) (hz : ∀ x ∈ found, x.1.size ≤ 4294967280)
    (h0 : wr.heap[rb]? = some (.cells #[.string t0, v0] 64 (0, 0))) (x y : Value) : AttrsM ((wr.setCell ⟨rb, 0, none⟩ x).setCell ⟨rb, 1, none⟩ y).heap.size ((wr.setCell ⟨rb, 0, none⟩ x).setCell ⟨rb, 1, none⟩ y) (go.map fun g => ⟨g, 0, none⟩) m cap found ∧ Below w.heap.size w ((wr.setCell ⟨rb, 0, none⟩ x).setCell ⟨rb, 1, none⟩ y) := by
  have k1 : KeepS wr (wr.setCell ⟨rb, 0, none⟩ x) := KeepS.setCell (p := ⟨rb, 0, none⟩) _ h0 (by decide)
  have h1 : (wr.setCell ⟨rb, 0, none⟩ x).heap[rb]? = some (.cells #[x, v0] 64 (0, 0)) := by rw [heap_setCell_same wr rb 0 _ _ _ h0]; rfl
  have k2 : KeepS (wr.setCell ⟨rb, 0, none⟩ x) ((wr.setCell ⟨rb, 0, none⟩ x).setCell ⟨rb, 1, none⟩ y) := KeepS.setCell (p := ⟨rb, 1, none⟩) _ h1 (by decide)
  have hV := (h.vec.from hb).chg (S := (· = rb)) (((Chg.refl (· = rb) wr).setCell (p := ⟨rb, 0, none⟩) (fun _ => rfl) x).setCell (p := ⟨rb, 1, none⟩) (fun _ => rfl) y) (fun g e => by cases e; exact hr) (fun g e e2 => by
    have := h.vec.fresh g e
    have e2 : g = rb := e2
    omega)
  exact ⟨(h.fc.move (k1.trans k2)).attrs hV h.len hm hz, hV.below⟩
def ShowPost (S : PSchema) (nm : PName) (l : List PAttr) (wanted : List Str) (only : Bool) (w : World) (e : Ending) (w' : World) : Prop :=
  ∃ fa fn fc, e = .returned (.tuple #[.agg #[.string (baOf (showR S nm l wanted only).1), .slice fa fn fc], .int .i64 (showR S nm l wanted only).2.2]) ∧ AttrsM w'.heap.size w' fa fn fc (showR S nm l wanted only).2.1 ∧ Below w.heap.size w w'
theorem ShowPost.bad {S : PSchema} {nm : PName} {l : List PAttr} {wanted : List Str} {only : Bool} {w w' : World} {code : Int} (h : (printV nm).2 = code) (h0 : code ≠ 0) (hb : Below w.heap.size w w') : ShowPost S nm l wanted only w (.returned (.tuple #[.agg #[.string ⟨#[]⟩, .slice none 0 0], .int .i64 code])) w' := by
  have hr : showR S nm l wanted only = ([], [], code) := by unfold showR; rw [if_neg (by rw [h]; exact h0), h]
  unfold ShowPost
  rw [hr]
  exact ⟨none, 0, 0, rfl, AttrsM.nil _ _, hb⟩
set_option maxRecDepth 20000 in
set_option maxHeartbeats 8000000 in
theorem vshow_any (S : PSchema) (g : Nat) (B : Nat) (id : Int) (a : Option Addr) (n c : Nat) (nm : PName) (aa : Option Addr) (an ac : Nat) (l : List PAttr) (wa : Option Addr) (wn wc : Nat) (wl : List ByteArray) (only : Bool) (w : World)
    (h : Sch w g S) (hE : EnvS w) (hE1 : Env w) (hn : Rdns B w a n c nm) (hl : AttrsM B w aa an ac l) (hw : Texts B w wa wn wc wl) (hB : B ≤ w.heap.size) :
    Calls Tryz.prog 31 #[.pointer (some ⟨g, 0, none⟩), recV id a n c aa an ac, .slice wa wn wc, .bool only] w (ShowPost S nm l (wl.map toL) only w) := by
  unfold recV
  have hb1 : Below w.heap.size w ((w.alloc (.cells #[.int .u64 id, .slice a n c, .slice aa an ac] 62)).alloc (.cells #[.string ⟨#[]⟩, .slice none 0 0] 64)) := ((Below.refl _ w).alloc (Nat.le_refl _) _).alloc (by simp) _
  have hc0 : ((w.alloc (.cells #[.int .u64 id, .slice a n c, .slice aa an ac] 62)).alloc (.cells #[.string ⟨#[]⟩, .slice none 0 0] 64)).cell? ⟨w.heap.size, 2, none⟩ = some (.slice aa an ac) := cellA (by rw [World.cell?_alloc_new]; rfl) _
  have hh0 : ((w.alloc (.cells #[.int .u64 id, .slice a n c, .slice aa an ac] 62)).alloc (.cells #[.string ⟨#[]⟩, .slice none 0 0] 64)).heap[w.heap.size + 1]? = some (.cells #[.string ⟨#[]⟩, .slice none 0 0] 64 (0, 0)) := by
    have := heap_alloc_new (w.alloc (.cells #[.int .u64 id, .slice a n c, .slice aa an ac] 62)) (.cells #[.string ⟨#[]⟩, .slice none 0 0] 64)
    simpa using this
  have hpr := print_any B a n c nm _ (hn.keep (hb1.mono hB) (Nat.le_refl _)) (by simp; omega) (hE1.next hb1)
  have HP := Lib.hid hpr; have H0 := Lib.hid (And.intro h (And.intro hE (And.intro hl (And.intro hw (And.intro hb1 (And.intro hc0 hh0)))))); clear hpr h hE hE1 hn hl hw hb1 hc0 hh0
  go_enter Tryz.func31, Tryz.ntmps31
  go_wp2_with fail
  go_at_call 37
  with_reducible refine HP.out.mono ?_
  clear HP
  rintro e w1 ⟨rfl, hb2⟩
  obtain ⟨h, hE, hl, hw, hb1, hc0, hh0⟩ := H0.out
  clear H0
  generalize ((w.alloc (.cells #[.int .u64 id, .slice a n c, .slice aa an ac] 62)).alloc (.cells #[.string ⟨#[]⟩, .slice none 0 0] 64)) = w0 at hb1 hb2 hc0 hh0
  have hc1 := (hb2.cell (World.block_lt_of_cell? _ _ hc0)).trans hc0
  have hh1 := (hb2.block _ (Array.getElem?_eq_some_iff.1 hh0).1).trans hh0
  have hbx := hb1.trans (hb2.mono hb1.size)
  have H1 := Lib.hid (And.intro (h.keep hbx) (And.intro (hE.next hbx) (And.intro (hl.keep (hbx.mono hB) (Nat.le_refl _)) (And.intro (hw.keep (hbx.mono hB) (Nat.le_refl _)) hbx))))
  clear h hE hl hw hb1 hb2 hbx hc0 hh0
  have hrb : w.heap.size < w1.heap.size := World.block_lt_of_cell? _ _ hc1
  have hBw1 : B ≤ w1.heap.size := by omega
  have hrbw : w.heap.size ≤ w.heap.size + 1 := by omega
  have hrb1 : w.heap.size + 1 < w1.heap.size := (Array.getElem?_eq_some_iff.1 hh1).1
  generalize w.heap.size + 1 = rb at hh1 hrbw hrb1 ⊢
  have HRB := Lib.hid (And.intro hrbw hrb1); clear hrbw hrb1
  generalize hqb : w.heap.size = qb at hc1 hrb hB ⊢
  have HQ := Lib.hid hqb; clear hqb
  have HH1 := Lib.hid hh1; clear hh1
  generalize hpc : (printV nm).2 = code
  generalize hpt : (printV nm).1 = text
  have HPC := Lib.hid (And.intro hpc hpt); clear hpc hpt
  by_cases hcode : code = 0
  · subst hcode
    have hres : showR S nm l (wl.map toL) only = (text, foundV S (wl.map toL) only l, 0) := by
      unfold showR
      rw [if_pos HPC.out.1, HPC.out.2]
    have HRES := Lib.hid hres; clear hres
    have hf0 : (w1.alloc (.cells #[.string (baOf text), .slice none 0 0] 64)).heap[w1.heap.size]? = some (.cells #[.string (baOf text), .slice none 0 0] 64 (0, 0)) := heap_alloc_new w1 _
    have hcA := cellA hc1 (.cells #[.string (baOf text), .slice none 0 0] 64)
    have hbA : Below w1.heap.size w1 (w1.alloc (.cells #[.string (baOf text), .slice none 0 0] 64)) := (Below.refl _ _).alloc (Nat.le_refl _) _
    have HA := Lib.hid (And.intro hf0 hbA); clear hf0 hbA hc1
    go_wp2_with fail
    clear hcA
    go_loopw [35] (fun iv wr => ∃ (i m cap : Nat) (go : Option Nat) (vs : List Value), iv = .int .i64 (i : Nat) ∧ i ≤ an ∧ ShR w1 wr w1.heap.size (baOf text) go m cap vs (foundV S (wl.map toL) only (l.take i))) (fun iv _ => an - (intOf iv).toNat)
    case atStart => exact ⟨0, 0, 0, none, [], rfl, Nat.zero_le _, ⟨Vec.nil _ _ _ HA.out.2, HA.out.1, FC.nil _, rfl⟩⟩
    case round =>
      clear HA
      obtain ⟨i, m, cap, go, vs, rfl, hin, hsr⟩ := hrel
      have hv := hsr.vec
      have hfb := hsr.heap
      have hm := hsr.len
      have hbw := hv.below
      have hsz1 := hbw.size
      have hfc0 : wr.cell? ⟨w1.heap.size, 0, none⟩ = some (.string (baOf text)) := by rw [Lib.cell_of_heap hfb]; rfl
      have hfc1 : wr.cell? ⟨w1.heap.size, 1, none⟩ = some (sv go m cap) := by rw [Lib.cell_of_heap hfb]; rfl
      have HV := Lib.hid hsr
      have HB := Lib.hid hbw; clear hv hfb hsr hbw
      have hlen := H1.out.2.2.1.len
      have hans := H1.out.2.2.1.small
      have HLN := Lib.hid hlen; clear hlen
      have hml : m ≤ i := by
        have h1 := foundV_len S (wl.map toL) only (l.take i)
        simp only [List.length_take] at h1
        omega
      have HM := Lib.hid hm; clear hm
      by_cases hi : i < an
      · have i2 : (i : Int) < (an : Int) := by omega
        obtain ⟨b, o, rfl, hb⟩ := H1.out.2.2.1.lies.ptr (by omega)
        obtain ⟨x, hx⟩ : ∃ x, l[i]? = some x := ⟨_, List.getElem?_eq_getElem (by have := HLN.out; omega)⟩
        obtain ⟨hcd, va, vn, vc, hcv, htv⟩ := H1.out.2.2.1.cell b o rfl i x hx
        have hxs := H1.out.2.2.1.size x (List.mem_of_getElem? hx)
        have e0 := (HB.out.cell (World.block_lt_of_cell? _ _ hcd)).trans hcd
        have e1 := (HB.out.cell (World.block_lt_of_cell? _ _ hcv)).trans hcv
        have hvn := htv.len
        have hvs := htv.small
        have HX := Lib.hid (And.intro hx (And.intro htv (And.intro hxs hvn))); clear hcd hcv htv hx hvn hxs
        have hb2 : Below w1.heap.size w1 (wr.alloc (.cells #[.string x.1, .slice va vn vc] 80)) := HB.out.alloc HB.out.size _
        have hb2r : Below wr.heap.size wr (wr.alloc (.cells #[.string x.1, .slice va vn vc] 80)) := (Below.refl _ _).alloc (Nat.le_refl _) _
        have hwt := wants_any S g x.1 w1.heap.size wa wn wc wl (wr.alloc (.cells #[.string x.1, .slice va vn vc] 80)) (H1.out.1.keep hb2) (H1.out.2.1.next hb2) HX.out.2.2.1 (H1.out.2.2.2.1.keep (hb2.mono hBw1) (by omega)) (by have := hb2.size; omega)
        have hsn := foundV_snoc S (wl.map toL) only HX.out.1
        have hs0 := cellA_new wr #[.string x.1, .slice va vn vc] 80 0
        have hs1 := cellA_new wr #[.string x.1, .slice va vn vc] 80 1
        have HSB := Lib.hid (And.intro hs0 hs1); clear hs0 hs1
        have HB2 := Lib.hid (And.intro hb2 hb2r); clear hb2 hb2r
        cases hwb : wantsV S (wl.map toL) (toL x.1) with
        | false =>
          rw [hwb] at hwt hsn
          have HWT := Lib.hid hwt; have HSN := Lib.hid hsn; clear hwt hsn hwb
          go_wp2_with (go_at_call 32; with_reducible refine (HWT.out).mono ?_; rintro e w3 ⟨rfl, hb3⟩)
          have hk := HB2.out.2.trans (hb3.mono HB2.out.2.size)
          have e3 : foundV S (wl.map toL) only (l.take (i + 1)) = foundV S (wl.map toL) only (l.take i) := by rw [HSN.out]; simp
          refine ⟨⟨i + 1, m, cap, go, vs, by simp, by omega, e3 ▸ HV.out.keep hk⟩, ?_⟩
          simp [intOf]; omega
        | true =>
          rw [hwb] at hwt hsn
          have HWT := Lib.hid hwt; have HSN := Lib.hid hsn; clear hwt hsn hwb
          cases only with
          | true =>
            go_upto_region 15 with (go_at_call 32; with_reducible refine (HWT.out).mono ?_; rintro e w3 ⟨rfl, hb3⟩; have s0 := (hb3.cell (World.block_lt_of_cell? _ _ HSB.out.1)).trans HSB.out.1; have s1 := (hb3.cell (World.block_lt_of_cell? _ _ HSB.out.2)).trans HSB.out.2; have hk3 := HB2.out.2.trans (hb3.mono HB2.out.2.size); have f1 := (hk3.cell (World.block_lt_of_cell? _ _ hfc1)).trans hfc1; have hk3' := HB2.out.1.trans (hb3.mono HB2.out.1.size); have HK3 := Lib.hid (And.intro hk3 hk3'); clear hk3 hk3' hb3)
            have f1a := cellA f1 (.cells #[.string x.1, .slice none 0 0] 80)
            have q0 := cellA_new w3 #[.string x.1, .slice none 0 0] 80 0
            have q1 := cellA_new w3 #[.string x.1, .slice none 0 0] 80 1
            have hs4 := (HV.out.keep HK3.out.1).keep ((Below.refl _ w3).alloc (Nat.le_refl _) (.cells #[.string x.1, .slice none 0 0] 80))
            generalize w3.alloc (.cells #[.string x.1, .slice none 0 0] 80) = w4 at f1a q0 q1 hs4 ⊢
            have q0' : w4.cell? ⟨w3.heap.size, 0, none⟩ = some (.string x.1) := q0
            have q1' : w4.cell? ⟨w3.heap.size, 1, none⟩ = some (.slice none 0 0) := q1
            clear q0 q1 s0 s1 f1
            have HT4 := Lib.hid (TextsS.nil w4)
            have hpu := fun ops rest o a Q => hs4.vec.push (P := Tryz.prog) eiAttr (ops := ops) (rest := rest) (o := o) (a := a) (Q := Q)
            have HPU := Lib.hid hpu; have HS4 := Lib.hid hs4; clear hpu hs4
            go_wp2_with (at_builtin; refine HPU.out _ _ _ _ _ rfl _ _ rfl rfl 1 [.string x.1, .slice none 0 0] #[.string x.1, .slice none 0 0] rfl rfl rfl (fun u hu => by simp at hu; rcases hu with rfl | rfl <;> rfl) (by omega) (m + 1) rfl (by omega) ?_; intro gl cap2 w7 hv7 hg7; have hput := HS4.out.put hv7 hg7 HT4.out (Nat.le_refl _); have c7 : w7.cell? ⟨w1.heap.size, 1, none⟩ = some (sv go m cap) := (by rw [Lib.cell_of_heap hput.1]; rfl); have f7 := Lib.frozen_of_heap hput.1 1; have HPT := Lib.hid hput.2; clear hput hv7 hg7)
            have e3 : foundV S (wl.map toL) true (l.take (i + 1)) = foundV S (wl.map toL) true (l.take i) ++ [(x.1, [])] := by rw [HSN.out]; rfl
            refine ⟨⟨i + 1, m + 1, cap2, some gl, _, by simp, by omega, e3 ▸ HPT.out⟩, ?_⟩
            simp [intOf]; omega
          | false =>
            go_upto_region 13 with (go_at_call 32; with_reducible refine (HWT.out).mono ?_; rintro e w3 ⟨rfl, hb3⟩; have s0 := (hb3.cell (World.block_lt_of_cell? _ _ HSB.out.1)).trans HSB.out.1; have s1 := (hb3.cell (World.block_lt_of_cell? _ _ HSB.out.2)).trans HSB.out.2; have hk3 := HB2.out.2.trans (hb3.mono HB2.out.2.size); have f1 := (hk3.cell (World.block_lt_of_cell? _ _ hfc1)).trans hfc1; have hk3' := HB2.out.1.trans (hb3.mono HB2.out.1.size); have HK3 := Lib.hid (And.intro hk3 hk3'); clear hk3 hk3' hb3)
            have f1a := cellA f1 (.cells #[.string x.1, .slice none 0 0] 80)
            have s1a := cellA s1 (.cells #[.string x.1, .slice none 0 0] 80)
            have HF1 := Lib.hid f1; have HS1 := Lib.hid s1
            clear f1 s1 s0
            obtain ⟨cs, hr, hcs⟩ := makeStrN vn hvs (w3.alloc (.cells #[.string x.1, .slice none 0 0] 80))
            have HCS := Lib.hid hcs; clear hcs
            go_upto_region 14 with fail
            clear hr f1a s1a
            have f1b := cellA (cellA HF1.out (.cells #[.string x.1, .slice (some ⟨w3.heap.size + 1, 0, none⟩) vn vn] 80)) (.cells cs 9)
            have s1b := cellA (cellA HS1.out (.cells #[.string x.1, .slice (some ⟨w3.heap.size + 1, 0, none⟩) vn vn] 80)) (.cells cs 9)
            have q0 := cellA (cellA_new w3 #[.string x.1, .slice (some ⟨w3.heap.size + 1, 0, none⟩) vn vn] 80 0) (.cells cs 9)
            have q1 := cellA (cellA_new w3 #[.string x.1, .slice (some ⟨w3.heap.size + 1, 0, none⟩) vn vn] 80 1) (.cells cs 9)
            have hg5 : ((w3.alloc (.cells #[.string x.1, .slice (some ⟨w3.heap.size + 1, 0, none⟩) vn vn] 80)).alloc (.cells cs 9)).heap[w3.heap.size + 1]? = some (.cells cs.toList.toArray 9 (0, 0)) := by
              have := heap_alloc_new (w3.alloc (.cells #[.string x.1, .slice (some ⟨w3.heap.size + 1, 0, none⟩) vn vn] 80)) (.cells cs 9)
              simpa using this
            have hk5 := (HK3.out.1.alloc HK3.out.1.size (.cells #[.string x.1, .slice (some ⟨w3.heap.size + 1, 0, none⟩) vn vn] 80)).alloc (by have := HK3.out.1.size; simp; omega) (.cells cs 9)
            have hb5 := (HK3.out.2.alloc HK3.out.2.size (.cells #[.string x.1, .slice (some ⟨w3.heap.size + 1, 0, none⟩) vn vn] 80)).alloc (by have := HK3.out.2.size; simp; omega) (.cells cs 9)
            have hv3 : wr.heap.size < w3.heap.size := World.block_lt_of_cell? _ _ HS1.out
            generalize (w3.alloc (.cells #[.string x.1, .slice (some ⟨w3.heap.size + 1, 0, none⟩) vn vn] 80)).alloc (.cells cs 9) = w5 at f1b s1b q0 q1 hg5 hk5 hb5 ⊢
            have hf13 : w1.heap.size < w3.heap.size := World.block_lt_of_cell? _ _ HF1.out
            have q0' : w5.cell? ⟨w3.heap.size, 0, none⟩ = some (.string x.1) := q0
            have q1' : w5.cell? ⟨w3.heap.size, 1, none⟩ = some (.slice (some ⟨w3.heap.size + 1, 0, none⟩) vn vn) := q1
            obtain ⟨i0, h2, h3, h4, h5⟩ := eiStr.info
            have hlt5 : w3.heap.size < w5.heap.size := World.block_lt_of_cell? _ _ q0'
            have ht5 := HX.out.2.1.keep (hb5.mono hBw1) (Nat.le_refl _)
            have H5 := Lib.hid (And.intro hk5 (And.intro hg5 (And.intro ht5 (And.intro h2 (And.intro h4 (And.intro q0' (And.intro q1' f1b)))))))
            clear q0 q1 hg5 hk5 hb5 ht5 h2 h3 h4 h5
            obtain ⟨r6, w6, hr6, hw6, hgr⟩ := run_cpy (P := Tryz.prog) w5 46 46 3 9 i0 1 Tryz.underlying46 H5.out.2.2.2.1 H5.out.2.2.2.2.1 (w3.heap.size + 1) 0 vn vn (some ⟨w3.heap.size + 1, 0, none⟩) va vn vc cs.toList 9 (x.2.map .string) H5.out.2.1 (by rw [List.length_map, ← HX.out.2.2.2]; simp) (fun _ => rfl) (fun hpos => texts_src H5.out.2.2.1 hpos) (by rw [List.length_map, ← HX.out.2.2.2, Array.length_toList, HCS.out]; omega) (fun u hu => (by obtain ⟨s, _, rfl⟩ := List.mem_map.1 hu; rfl))
            have hk6 := H5.out.1.grown hgr (by omega) (fun k hk => by cases hk; omega)
            have g0 := (grown_cell hgr H5.out.2.2.2.2.2.1 (fun e => by have e := Option.some.inj e; dsimp only at e; omega))
            have g1 := (grown_cell hgr H5.out.2.2.2.2.2.2.1 (fun e => by have e := Option.some.inj e; dsimp only at e; omega))
            have gf := (grown_cell hgr H5.out.2.2.2.2.2.2.2 (fun e => by have e := Option.some.inj e; dsimp only at e; omega))
            have H6 := Lib.hid (And.intro hk6 hw6)
            clear hk6 hw6 hgr
            go_upto_region 15 with fail
            clear hr6 f1b s1b q0' q1'
            have hw6 := H6.out.2
            rw [show cs.toList.take 0 ++ x.2.map Value.string ++ cs.toList.drop (0 + (x.2.map Value.string).length) = x.2.map Value.string by rw [List.drop_of_length_le (by rw [List.length_map, ← HX.out.2.2.2, Array.length_toList, HCS.out]; omega)]; simp] at hw6
            have HT4 := Lib.hid (texts_made hw6 HX.out.2.2.2 HX.out.2.1.small HX.out.2.1.size)
            have hs4 := HV.out.keep H6.out.1
            clear hw6
            have hpu := fun ops rest o a Q => hs4.vec.push (P := Tryz.prog) eiAttr (ops := ops) (rest := rest) (o := o) (a := a) (Q := Q)
            have HPU := Lib.hid hpu; have HS4 := Lib.hid hs4; clear hpu hs4
            go_wp2_with (at_builtin; refine HPU.out _ _ _ _ _ rfl _ _ rfl rfl 1 [.string x.1, .slice (some ⟨w3.heap.size + 1, 0, none⟩) vn vn] #[.string x.1, .slice (some ⟨w3.heap.size + 1, 0, none⟩) vn vn] rfl rfl rfl (fun u hu => by simp at hu; rcases hu with rfl | rfl <;> rfl) (by omega) (m + 1) rfl (by omega) ?_; intro gl cap2 w7 hv7 hg7; have hput := HS4.out.put hv7 hg7 HT4.out (Nat.le_refl _); have c7 : w7.cell? ⟨w1.heap.size, 1, none⟩ = some (sv go m cap) := (by rw [Lib.cell_of_heap hput.1]; rfl); have f7 := Lib.frozen_of_heap hput.1 1; have HPT := Lib.hid hput.2; clear hput hv7 hg7)
            have e3 : foundV S (wl.map toL) false (l.take (i + 1)) = foundV S (wl.map toL) false (l.take i) ++ [(x.1, x.2)] := by rw [HSN.out]; rfl
            refine ⟨⟨i + 1, m + 1, cap2, some gl, _, by simp, by omega, e3 ▸ HPT.out⟩, ?_⟩
            simp [intOf]; omega
      · have i2 : ¬ (i : Int) < (an : Int) := by omega
        obtain rfl : an = i := by omega
        have hrc := (HB.out.block _ (Array.getElem?_eq_some_iff.1 HH1.out).1).trans HH1.out
        have hfin := HV.out.fin H1.out.2.2.2.2 HRB.out.1 HRB.out.2 (by omega) (fun y hy => by
          obtain ⟨z, hz, e⟩ := foundV_mem hy
          rw [e]; exact H1.out.2.2.1.size z (List.mem_of_mem_take hz)) hrc (.string (baOf text)) (sv go m cap)
        have hfc1' : wr.cell? ⟨w1.heap.size, 1, none⟩ = some (.slice (go.map fun g => (⟨g, 0, none⟩ : Addr)) m cap) := hfc1
        have hsv : sv go m cap = .slice (go.map fun g => (⟨g, 0, none⟩ : Addr)) m cap := rfl
        rw [hsv] at hfin
        clear hfc1 hsv
        generalize (go.map fun g => (⟨g, 0, none⟩ : Addr)) = ga at hfin hfc1'
        rw [List.take_of_length_le (by have := HLN.out; omega)] at hfin
        have HFIN := Lib.hid hfin; clear hfin
        have k0 : wr.cell? ⟨rb, 0, none⟩ = some (.string ⟨#[]⟩) := by rw [Lib.cell_of_heap hrc]; rfl
        have k1 : wr.cell? ⟨rb, 1, none⟩ = some (.slice none 0 0) := by rw [Lib.cell_of_heap hrc]; rfl
        have k2 := Lib.frozen_of_heap hrc 0
        have k3 := Lib.frozen_of_heap hrc 1
        have HK := Lib.hid (And.intro k0 k1)
        clear hrc
        go_wp2_with fail
        have r0 : ((wr.setCell ⟨rb, 0, none⟩ (.string (baOf text))).setCell ⟨rb, 1, none⟩ (.slice ga m cap)).cell? ⟨rb, 0, none⟩ = some (.string (baOf text)) := by
          rw [World.cell?_setCell_other _ _ _ _ (fun e => by cases e), World.cell?_setCell_same _ _ _ HK.out.1]
        have r1 : ((wr.setCell ⟨rb, 0, none⟩ (.string (baOf text))).setCell ⟨rb, 1, none⟩ (.slice ga m cap)).cell? ⟨rb, 1, none⟩ = some (.slice ga m cap) := by
          exact World.cell?_setCell_same _ _ _ (by rw [World.cell?_setCell_other _ _ _ _ (fun e => by cases e)]; exact HK.out.2)
        generalize (wr.setCell ⟨rb, 0, none⟩ (.string (baOf text))).setCell ⟨rb, 1, none⟩ (.slice ga m cap) = w9 at HFIN r0 r1 ⊢
        (try simp only [Exit.inBlock, Exit.then])
        refine bodyPost_ret (v := .tuple #[.agg #[.string (baOf text), Value.slice ga m cap], .int .i64 0]) ((results_cell_tmp rfl _ _ _).trans ?hres) rfl ?_
        case hres => go_simp
        unfold ShowPost
        rw [HRES.out]
        exact ⟨_, _, _, rfl, HFIN.out.1, HFIN.out.2⟩
  · have i1 : (code != 0) = true := by simpa using hcode
    have hrc := HH1.out
    have k0 : w1.cell? ⟨rb, 0, none⟩ = some (.string ⟨#[]⟩) := by rw [Lib.cell_of_heap hrc]; rfl
    have k1 : w1.cell? ⟨rb, 1, none⟩ = some (.slice none 0 0) := by rw [Lib.cell_of_heap hrc]; rfl
    have k2 := Lib.frozen_of_heap hrc 0
    have k3 := Lib.frozen_of_heap hrc 1
    have hbk : Below w.heap.size w ((w1.setCell ⟨rb, 0, none⟩ (.string ⟨#[]⟩)).setCell ⟨rb, 1, none⟩ (.slice none 0 0)) := (H1.out.2.2.2.2.setCell (p := ⟨rb, 0, none⟩) HRB.out.1 _).setCell (p := ⟨rb, 1, none⟩) HRB.out.1 _
    have HBK := Lib.hid hbk; have HK := Lib.hid (And.intro k0 k1)
    clear hrc hbk
    go_wp2_with fail
    have r0 : ((w1.setCell ⟨rb, 0, none⟩ (.string ⟨#[]⟩)).setCell ⟨rb, 1, none⟩ (.slice none 0 0)).cell? ⟨rb, 0, none⟩ = some (.string ⟨#[]⟩) := by
      rw [World.cell?_setCell_other _ _ _ _ (fun e => by cases e), World.cell?_setCell_same _ _ _ HK.out.1]
    have r1 : ((w1.setCell ⟨rb, 0, none⟩ (.string ⟨#[]⟩)).setCell ⟨rb, 1, none⟩ (.slice none 0 0)).cell? ⟨rb, 1, none⟩ = some (.slice none 0 0) := by
      exact World.cell?_setCell_same _ _ _ (by rw [World.cell?_setCell_other _ _ _ _ (fun e => by cases e)]; exact HK.out.2)
    clear k0 k1 k2 k3
    generalize (w1.setCell ⟨rb, 0, none⟩ (.string ⟨#[]⟩)).setCell ⟨rb, 1, none⟩ (.slice none 0 0) = w9 at HBK r0 r1 ⊢
    (try simp only [Exit.inBlock, Exit.then])
    refine bodyPost_ret (v := .tuple #[.agg #[.string ⟨#[]⟩, .slice none 0 0], .int .i64 code]) ((results_cell_tmp rfl _ _ _).trans ?hres) rfl ?_
    case hres => go_simp
    exact ShowPost.bad HPC.out.1 hcode HBK.out
end Go.Proofs.YtifgmnafjihlkaaGreatDoor
