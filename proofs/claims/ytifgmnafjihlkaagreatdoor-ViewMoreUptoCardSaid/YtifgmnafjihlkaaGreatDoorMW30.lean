/- Part 30 of the walks and plain laws, joined: Small23, Works23, LoopF, FrmVm, VmM. -/
import Derived.Test.YtifgmnafjihlkaaGreatDoorMW21
import Derived.Test.YtifgmnafjihlkaaGreatDoorMW29
import Derived.Test.YtifgmnafjihlkaaGreatDoorProg
import Derived.Test.YtifgmnafjihlkaaGreatDoorMW10
import Derived.Test.YtifgmnafjihlkaaGreatDoorMW12
import Derived.BigRegion
import Derived.WalkKit
/- rosterlaw23.small. Printed by gen_small.py. -/
namespace Go.Proofs.YtifgmnafjihlkaaGreatDoor
open Go Go.RowKit Go.Maps

theorem tower : ∀ (os : List Obj) (w : World), Below w.heap.size w (os.foldl World.alloc w) ∧ ∀ k o, os[k]? = some o → (os.foldl World.alloc w).heap[w.heap.size + k]? = some o
  | [], w => ⟨Below.refl _ _, fun k o h => by simp at h⟩
  | o :: os, w => by
    obtain ⟨h1, h2⟩ := tower os (w.alloc o)
    have hb : Below w.heap.size w (w.alloc o) := (Below.refl _ _).alloc (Nat.le_refl _) _
    refine ⟨hb.trans (h1.mono hb.size), fun k x hx => ?_⟩
    cases k with
    | zero =>
      simp at hx; subst hx
      show (os.foldl World.alloc (w.alloc o)).heap[w.heap.size]? = _
      rw [h1.block _ (by simp)]
      exact heap_alloc_new w o
    | succ k =>
      have := h2 k x (by simpa using hx)
      rw [World.size_alloc] at this
      rw [show w.heap.size + (k + 1) = w.heap.size + 1 + k by omega]
      exact this
section
variable {w : World} {n : Nat} {os : List Obj} (hh : ∀ k o, os[k]? = some o → w.heap[n + k]? = some o)
include hh
theorem cell_at (k j : Nat) {cs : Array Value} {t : TypeId} {v : Value} (h1 : os[k]? = some (.cells cs t)) (h2 : cs[j]? = some v) : w.cell? ⟨n + k, j, none⟩ = some v := by
  rw [Lib.cell_of_heap (hh k _ h1)]; exact h2
theorem texts_at (k m : Nat) (l : List ByteArray) {cs : Array Value} (h1 : os[k]? = some (.cells cs 9)) (h2 : cs = (l.map Value.string).toArray) (h3 : m = l.length ∧ m ≤ 4294967280) (hz : ∀ s ∈ l, s.size ≤ 4294967280) : Texts w.heap.size w (some ⟨n + k, 0, none⟩) m m l :=
  (texts_made (h2 ▸ hh k _ h1) h3.1 h3.2 hz).1
theorem lt_at (k : Nat) {o : Obj} (h1 : os[k]? = some o) : n + k < w.heap.size := (Array.getElem?_eq_some_iff.1 (hh k _ h1)).1
end
def viewT : List PType := [⟨(⟨#[50, 46, 53, 46, 52, 46, 48]⟩ : ByteArray), [(⟨#[111, 98, 106, 101, 99, 116, 67, 108, 97, 115, 115]⟩ : ByteArray)], (⟨#[]⟩ : ByteArray), 8, 20, 0, 0, false, 0⟩, ⟨(⟨#[50, 46, 53, 46, 52, 46, 52, 49]⟩ : ByteArray), [(⟨#[110, 97, 109, 101]⟩ : ByteArray)], (⟨#[]⟩ : ByteArray), 0, 1, 0, 0, false, 0⟩, ⟨(⟨#[50, 46, 53, 46, 52, 46, 51]⟩ : ByteArray), [(⟨#[99, 110]⟩ : ByteArray), (⟨#[99, 111, 109, 109, 111, 110, 78, 97, 109, 101]⟩ : ByteArray)], (⟨#[110, 97, 109, 101]⟩ : ByteArray), 0, 0, 0, 0, false, 0⟩]
def viewS : PSchema := ⟨viewT, []⟩
def viewN : PName := [[((⟨#[99, 110]⟩ : ByteArray), (⟨#[65, 110, 110]⟩ : ByteArray))]]
def viewA : List PAttr := [((⟨#[99, 110]⟩ : ByteArray), [(⟨#[65, 110, 110]⟩ : ByteArray)]), ((⟨#[99, 110, 59, 120]⟩ : ByteArray), [(⟨#[65, 110]⟩ : ByteArray)]), ((⟨#[110, 97, 109, 101]⟩ : ByteArray), [(⟨#[65]⟩ : ByteArray)])]
theorem view_new : newE viewS = (0, 0) := by decide +kernel
def Small23 (w : World) (e : Ending) (w' : World) : Prop :=
  ∃ ta ra aa, e = .returned (.tuple #[.agg #[.slice ta 3 3, .slice none 0 0], .agg #[.int .u64 1, .slice ra 1 1, .slice aa 3 3]]) ∧ Types w'.heap.size w' ta 3 3 viewS.types ∧ Rdns w'.heap.size w' ra 1 1 viewN ∧ AttrsM w'.heap.size w' aa 3 3 viewA ∧ Below w.heap.size w w'
def obs (w : World) : List Obj := [.cells #[.slice (some ⟨w.heap.size + 1 + 1 + 1 + 1 + 1, 0, none⟩) 3 3, .slice none 0 0] 38, .cells #[.int .u64 1, .slice (some ⟨w.heap.size + 1 + 1 + 1 + 1 + 1 + 1 + 1 + 1, 0, none⟩) 1 1, .slice (some ⟨w.heap.size + 1 + 1 + 1 + 1 + 1 + 1 + 1 + 1 + 1 + 1 + 1 + 1 + 1, 0, none⟩) 3 3] 62, .cells #[.string ⟨#[111, 98, 106, 101, 99, 116, 67, 108, 97, 115, 115]⟩] 9, .cells #[.string ⟨#[110, 97, 109, 101]⟩] 9, .cells #[.string ⟨#[99, 110]⟩, .string ⟨#[99, 111, 109, 109, 111, 110, 78, 97, 109, 101]⟩] 9, .cells #[.string ⟨#[50, 46, 53, 46, 52, 46, 48]⟩, .slice (some ⟨w.heap.size + 1 + 1, 0, none⟩) 1 1, .string ⟨#[]⟩, .int .i8 8, .int .i8 20, .int .i8 0, .int .i8 0, .bool false, .int .u8 0, .string ⟨#[50, 46, 53, 46, 52, 46, 52, 49]⟩, .slice (some ⟨w.heap.size + 1 + 1 + 1, 0, none⟩) 1 1, .string ⟨#[]⟩, .int .i8 0, .int .i8 1, .int .i8 0, .int .i8 0, .bool false, .int .u8 0, .string ⟨#[50, 46, 53, 46, 52, 46, 51]⟩, .slice (some ⟨w.heap.size + 1 + 1 + 1 + 1, 0, none⟩) 2 2, .string ⟨#[110, 97, 109, 101]⟩, .int .i8 0, .int .i8 0, .int .i8 0, .int .i8 0, .bool false, .int .u8 0] 48, .cells #[.slice (some ⟨w.heap.size + 1 + 1 + 1 + 1 + 1, 0, none⟩) 3 3, .slice none 0 0] 38, .cells #[.string ⟨#[99, 110]⟩, .string ⟨#[65, 110, 110]⟩] 96, .cells #[.slice (some ⟨w.heap.size + 1 + 1 + 1 + 1 + 1 + 1 + 1, 0, none⟩) 1 1] 74, .cells #[.int .u64 1, .slice (some ⟨w.heap.size + 1 + 1 + 1 + 1 + 1 + 1 + 1 + 1, 0, none⟩) 1 1, .slice (some ⟨w.heap.size + 1 + 1 + 1 + 1 + 1 + 1 + 1 + 1 + 1 + 1 + 1 + 1 + 1, 0, none⟩) 3 3] 62, .cells #[.string ⟨#[65, 110, 110]⟩] 9, .cells #[.string ⟨#[65, 110]⟩] 9, .cells #[.string ⟨#[65]⟩] 9, .cells #[.string ⟨#[99, 110]⟩, .slice (some ⟨w.heap.size + 1 + 1 + 1 + 1 + 1 + 1 + 1 + 1 + 1 + 1, 0, none⟩) 1 1, .string ⟨#[99, 110, 59, 120]⟩, .slice (some ⟨w.heap.size + 1 + 1 + 1 + 1 + 1 + 1 + 1 + 1 + 1 + 1 + 1, 0, none⟩) 1 1, .string ⟨#[110, 97, 109, 101]⟩, .slice (some ⟨w.heap.size + 1 + 1 + 1 + 1 + 1 + 1 + 1 + 1 + 1 + 1 + 1 + 1, 0, none⟩) 1 1] 80]
theorem small_read (w w' : World) (hb : Below w.heap.size w w') (hh : ∀ k o, (obs w)[k]? = some o → w'.heap[w.heap.size + k]? = some o) :
    Small23 w (.returned (.tuple #[.agg #[.slice (some ⟨w.heap.size + 1 + 1 + 1 + 1 + 1, 0, none⟩) 3 3, .slice none 0 0], .agg #[.int .u64 1, .slice (some ⟨w.heap.size + 1 + 1 + 1 + 1 + 1 + 1 + 1 + 1, 0, none⟩) 1 1, .slice (some ⟨w.heap.size + 1 + 1 + 1 + 1 + 1 + 1 + 1 + 1 + 1 + 1 + 1 + 1 + 1, 0, none⟩) 3 3]])) w' := by
  refine ⟨_, _, _, rfl, ?_, ?_, ?_, hb⟩
  · refine ⟨rfl, ⟨Nat.le_refl _, by unfold maxLen; omega, (fun h => by cases h), (fun ad h => by cases h; exact lt_at hh 5 rfl), (fun ad h _ => by cases h; rfl)⟩, ?_, ?_, (fun ad h => by cases h; rfl)⟩
    · intro b o h i x hx
      cases h
      match i, hx with
      | 0, hx =>
        cases hx
        exact ⟨cell_at hh 5 0 rfl rfl, ⟨_, _, _, cell_at hh 5 1 rfl rfl, texts_at hh 2 1 [(⟨#[111, 98, 106, 101, 99, 116, 67, 108, 97, 115, 115]⟩ : ByteArray)] rfl rfl (by decide) (by decide)⟩, cell_at hh 5 2 rfl rfl, cell_at hh 5 3 rfl rfl, cell_at hh 5 4 rfl rfl, cell_at hh 5 5 rfl rfl, cell_at hh 5 6 rfl rfl, cell_at hh 5 7 rfl rfl, cell_at hh 5 8 rfl rfl⟩
      | 1, hx =>
        cases hx
        exact ⟨cell_at hh 5 9 rfl rfl, ⟨_, _, _, cell_at hh 5 10 rfl rfl, texts_at hh 3 1 [(⟨#[110, 97, 109, 101]⟩ : ByteArray)] rfl rfl (by decide) (by decide)⟩, cell_at hh 5 11 rfl rfl, cell_at hh 5 12 rfl rfl, cell_at hh 5 13 rfl rfl, cell_at hh 5 14 rfl rfl, cell_at hh 5 15 rfl rfl, cell_at hh 5 16 rfl rfl, cell_at hh 5 17 rfl rfl⟩
      | 2, hx =>
        cases hx
        exact ⟨cell_at hh 5 18 rfl rfl, ⟨_, _, _, cell_at hh 5 19 rfl rfl, texts_at hh 4 2 [(⟨#[99, 110]⟩ : ByteArray), (⟨#[99, 111, 109, 109, 111, 110, 78, 97, 109, 101]⟩ : ByteArray)] rfl rfl (by decide) (by decide)⟩, cell_at hh 5 20 rfl rfl, cell_at hh 5 21 rfl rfl, cell_at hh 5 22 rfl rfl, cell_at hh 5 23 rfl rfl, cell_at hh 5 24 rfl rfl, cell_at hh 5 25 rfl rfl, cell_at hh 5 26 rfl rfl⟩
      | n + 3, hx => simp [viewS, viewT] at hx
    · intro x hx
      simp only [viewS, viewT, List.mem_cons, List.not_mem_nil, or_false] at hx
      rcases hx with rfl | rfl | rfl <;> exact ⟨by decide, by decide, by decide, by decide, by decide, by decide, by decide⟩
  · refine ⟨rfl, ⟨Nat.le_refl _, by unfold maxLen; omega, (fun h => by cases h), (fun ad h _ => by cases h; exact lt_at hh 8 rfl), (fun ad h _ => by cases h; rfl)⟩, by omega, ?_⟩
    intro b o h i r hr
    cases h
    match i, hr with
    | 0, hr =>
      cases hr
      refine ⟨_, _, _, cell_at hh 8 0 rfl rfl, ⟨rfl, ⟨Nat.le_refl _, by unfold maxLen; omega, (fun h => by cases h), (fun ad h _ => by cases h; exact lt_at hh 7 rfl), (fun ad h _ => by cases h; rfl)⟩, by omega, ?_, ?_⟩⟩
      · intro b o h i x hx
        cases h
        match i, hx with
        | 0, hx =>
          cases hx
          exact ⟨cell_at hh 7 0 rfl rfl, cell_at hh 7 1 rfl rfl⟩
        | n + 1, hx => simp at hx
      · intro x hx
        simp only [List.mem_cons, List.not_mem_nil, or_false] at hx
        subst hx
        exact ⟨by decide, by decide⟩
    | n + 1, hr => simp [viewN] at hr
  · refine ⟨rfl, ⟨Nat.le_refl _, by unfold maxLen; omega, (fun h => by cases h), (fun ad h _ => by cases h; exact lt_at hh 13 rfl), (fun ad h _ => by cases h; rfl)⟩, by omega, ?_, ?_⟩
    · intro b o h i x hx
      cases h
      match i, hx with
      | 0, hx =>
        cases hx
        exact ⟨cell_at hh 13 0 rfl rfl, _, _, _, cell_at hh 13 1 rfl rfl, texts_at hh 10 1 [(⟨#[65, 110, 110]⟩ : ByteArray)] rfl rfl (by decide) (by decide)⟩
      | 1, hx =>
        cases hx
        exact ⟨cell_at hh 13 2 rfl rfl, _, _, _, cell_at hh 13 3 rfl rfl, texts_at hh 11 1 [(⟨#[65, 110]⟩ : ByteArray)] rfl rfl (by decide) (by decide)⟩
      | 2, hx =>
        cases hx
        exact ⟨cell_at hh 13 4 rfl rfl, _, _, _, cell_at hh 13 5 rfl rfl, texts_at hh 12 1 [(⟨#[65]⟩ : ByteArray)] rfl rfl (by decide) (by decide)⟩
      | n + 3, hx => simp [viewA] at hx
    · intro x hx
      simp only [viewA, List.mem_cons, List.not_mem_nil, or_false] at hx
      rcases hx with rfl | rfl | rfl <;> decide
set_option maxRecDepth 20000 in
set_option maxHeartbeats 4000000 in
theorem small_any23 (w : World) : Calls Tryz.prog 34 #[] w (Small23 w) := by
  go_enter Tryz.func34, Tryz.ntmps34
  go_wp2_with fail
  go_region
  go_wp2_with fail
  refine bodyPost_ret (v := .tuple #[.agg #[.slice (some ⟨w.heap.size + 1 + 1 + 1 + 1 + 1, 0, none⟩) 3 3, .slice none 0 0], .agg #[.int .u64 1, .slice (some ⟨w.heap.size + 1 + 1 + 1 + 1 + 1 + 1 + 1 + 1, 0, none⟩) 1 1, .slice (some ⟨w.heap.size + 1 + 1 + 1 + 1 + 1 + 1 + 1 + 1 + 1 + 1 + 1 + 1 + 1, 0, none⟩) 3 3]]) ?hres rfl ?_
  case hres => simp [results, Tryz.results34, go_sem]
  exact small_read w _ (tower (obs w) w).1.drew (tower (obs w) w).2
end Go.Proofs.YtifgmnafjihlkaaGreatDoor
/- rosterlaw23.works: true. -/
namespace Go.Proofs.YtifgmnafjihlkaaGreatDoor
open Go Go.RowKit Go.Maps

structure EnvV (w : World) : Prop where
  e : Env w
  s : EnvS w
theorem EnvV.next {w w' : World} (h : EnvV w) (k : Below w.heap.size w w') : EnvV w' := ⟨h.e.next k, h.s.next k⟩
theorem vk1 : showR viewS viewN viewA [[99, 111, 109, 109, 111, 110, 78, 97, 109, 101], [49, 46, 49]] false = ([99, 110, 61, 65, 110, 110], [(⟨#[99, 110]⟩, [⟨#[65, 110, 110]⟩]), (⟨#[99, 110, 59, 120]⟩, [⟨#[65, 110]⟩])], 0) := by decide +kernel
theorem vk2 : showR viewS viewN viewA [] true = ([99, 110, 61, 65, 110, 110], [(⟨#[99, 110]⟩, []), (⟨#[99, 110, 59, 120]⟩, []), (⟨#[110, 97, 109, 101]⟩, [])], 0) := by decide +kernel
theorem vk3 : wantsV viewS [[110, 97, 109, 101]] [99, 110, 59, 120] = true := by decide +kernel
theorem vk4 : wantsV viewS [[99, 110, 59, 120]] [99, 110] = false := by decide +kernel

theorem new_view (wq : World) (hE : EnvS wq) (a : Option Addr) (ht : Types wq.heap.size wq a 3 3 viewS.types) :
    Calls Tryz.prog 24 #[.agg #[.slice a 3 3, .slice none 0 0]] wq fun e w' => ∃ g, e = .returned (.tuple #[.pointer (some ⟨g, 0, none⟩), .int .i64 0, .int .i64 0]) ∧ Sch w' g viewS ∧ Below wq.heap.size wq w' :=
  (new_any viewS wq.heap.size a none 3 3 0 0 wq hE ht ⟨rfl, ⟨Nat.le_refl _, Nat.zero_le _, fun _ => rfl, (fun ad h => by cases h), (fun ad h => by cases h)⟩, (fun b o h => by cases h), (fun x hx => by cases hx), (fun ad h => by cases h)⟩ (Nat.le_refl _)).mono fun e w' ⟨h1, h2⟩ => by
    rcases h2 with ⟨_, g, h3, h4⟩ | ⟨h3, _⟩
    · exact ⟨g, h3, h4, h1⟩
    · exact absurd (by rw [view_new]) h3
/-- what is told, read: name, how many, one attribute's cells -/
theorem told {S : PSchema} {nm : PName} {l : List PAttr} {wanted : List Str} {only : Bool} {w w' : World} {e : Ending} (h : ShowPost S nm l wanted only w e w') {t : Str} {f : List PAttr} (hr : showR S nm l wanted only = (t, f, 0)) (hf : 0 < f.length) :
    ∃ b o c, e = .returned (.tuple #[.agg #[.string (baOf t), .slice (some ⟨b, o, none⟩) f.length c], .int .i64 0]) ∧ AttrsM w'.heap.size w' (some ⟨b, o, none⟩) f.length c f ∧ Below w.heap.size w w' := by
  obtain ⟨fa, fn, fc, h1, h2, h3⟩ := h
  rw [hr] at h1 h2
  have hn := h2.len
  simp only at hn
  subst hn
  obtain ⟨b, o, rfl, _⟩ := h2.lies.ptr hf
  exact ⟨b, o, fc, h1, h2, h3⟩
theorem cell2 (w : World) (A : Obj) (cs : Array Value) (t : TypeId) (j : Nat) : ((w.alloc A).alloc (.cells cs t)).cell? ⟨w.heap.size + 1, j, none⟩ = cs[j]? := by
  have := cellA_new (w.alloc A) cs t j
  rw [World.size_alloc] at this
  exact this
theorem two_texts {w : World} {b : Nat} {s t : ByteArray} (hc : w.cell? ⟨b, 0, none⟩ = some (.string s)) (hd : w.cell? ⟨b, 1, none⟩ = some (.string t)) (hs : s.size ≤ 4294967280) (ht : t.size ≤ 4294967280) : Texts w.heap.size w (some ⟨b, 0, none⟩) 2 2 [s, t] :=
  ⟨rfl, ⟨Nat.le_refl _, by unfold maxLen; omega, (fun h => by cases h), (fun ad h _ => by cases h; exact World.block_lt_of_cell? w _ hc), (fun ad h _ => by cases h; rfl)⟩, by omega, (fun b' o h i x hx => by
    cases h
    match i, hx with
    | 0, hx => simp at hx; subst hx; exact hc
    | 1, hx => simp at hx; subst hx; exact hd
    | i + 2, hx => simp at hx), (fun x hx => by
      simp only [List.mem_cons, List.not_mem_nil, or_false] at hx
      rcases hx with rfl | rfl
      · exact hs
      · exact ht)⟩
abbrev fnd1 : List PAttr := [(⟨#[99, 110]⟩, [⟨#[65, 110, 110]⟩]), (⟨#[99, 110, 59, 120]⟩, [⟨#[65, 110]⟩])]
abbrev fnd2 : List PAttr := [(⟨#[99, 110]⟩, []), (⟨#[99, 110, 59, 120]⟩, []), (⟨#[110, 97, 109, 101]⟩, [])]
theorem cell_new8 (w : World) (A : Obj) (x : ByteArray) : ((w.alloc A).alloc (.cells #[.string x] 9)).cell? ⟨w.heap.size + 1, 0, none⟩ = some (.string x) := by
  rw [cell2]; rfl
theorem works_facts {w6 w7 : World} {b o cc b2 o2 cc2 fb : Nat} (h : AttrsM w6.heap.size w6 (some ⟨b, o, none⟩) 2 cc fnd1) (h0 : w6.cell? ⟨fb, 0, none⟩ = some (.string ⟨#[99, 110, 61, 65, 110, 110]⟩)) (h1 : w6.cell? ⟨fb, 1, none⟩ = some (.slice (some ⟨b, o, none⟩) 2 cc))
    (h2 : AttrsM w7.heap.size w7 (some ⟨b2, o2, none⟩) 3 cc2 fnd2) (hb : Below w6.heap.size w6 w7) :
    w7.cell? ⟨fb, 0, none⟩ = some (.string ⟨#[99, 110, 61, 65, 110, 110]⟩) ∧ w7.cell? ⟨fb, 1, none⟩ = some (.slice (some ⟨b, o, none⟩) 2 cc) ∧ w7.cell? ⟨b, o + 2, none⟩ = some (.string ⟨#[99, 110, 59, 120]⟩) ∧
    (∃ vb vo vc, w7.cell? ⟨b, o + 1, none⟩ = some (.slice (some ⟨vb, vo, none⟩) 1 vc) ∧ w7.cell? ⟨vb, vo, none⟩ = some (.string ⟨#[65, 110, 110]⟩)) ∧ (∃ va vc, w7.cell? ⟨b2, o2 + 5, none⟩ = some (.slice va 0 vc)) ∧ True ∧ True := by
  have h' := h.keep hb hb.size
  refine ⟨(hb.cell (World.block_lt_of_cell? _ _ h0)).trans h0, (hb.cell (World.block_lt_of_cell? _ _ h1)).trans h1, (h'.cell b o rfl 1 _ rfl).1, ?_, ?_, trivial, trivial⟩
  · obtain ⟨_, va, vn, vc, hc, ht⟩ := h'.cell b o rfl 0 _ rfl
    have hn := ht.len
    simp only [List.length_cons, List.length_nil] at hn
    subst hn
    obtain ⟨vb, vo, rfl, _⟩ := ht.lies.ptr (by omega)
    exact ⟨vb, vo, vc, hc, ht.cell vb vo rfl 0 _ rfl⟩
  · obtain ⟨_, va, vn, vc, hc, ht⟩ := h2.cell b2 o2 rfl 2 _ rfl
    have hn := ht.len
    simp only [List.length_nil] at hn
    subst hn
    exact ⟨va, vc, hc⟩
set_option maxRecDepth 20000 in
set_option maxHeartbeats 4000000 in
theorem works_any23 (w : World) (hE : EnvV w) : Calls Tryz.prog 33 #[] w fun e w' => e = .returned (.bool true) ∧ Below w.heap.size w w' := by
  have hsm := small_any23 w
  have HSM := Lib.hid hsm; have HE := Lib.hid hE; clear hsm hE
  go_enter Tryz.func33, Tryz.ntmps33
  go_upto_region 2 with (go_at_call 34; refine (HSM.out).mono ?_; rintro e w1 ⟨ta, ra, aa, rfl, ht1, hr1, ha1, hb1⟩; have H1 := Lib.hid (And.intro ht1 (And.intro hr1 (And.intro ha1 hb1))); clear ht1 hr1 ha1 hb1)
  have c0 := cell2 w1 (.cells #[.slice ta 3 3, .slice none 0 0] 38) #[.int .u64 1, .slice ra 1 1, .slice aa 3 3] 62 0
  have c1 := cell2 w1 (.cells #[.slice ta 3 3, .slice none 0 0] 38) #[.int .u64 1, .slice ra 1 1, .slice aa 3 3] 62 1
  have c2 := cell2 w1 (.cells #[.slice ta 3 3, .slice none 0 0] 38) #[.int .u64 1, .slice ra 1 1, .slice aa 3 3] 62 2
  have d0 := cellA (cellA_new w1 #[.slice ta 3 3, .slice none 0 0] 38 0) (.cells #[.int .u64 1, .slice ra 1 1, .slice aa 3 3] 62)
  have d1 := cellA (cellA_new w1 #[.slice ta 3 3, .slice none 0 0] 38 1) (.cells #[.int .u64 1, .slice ra 1 1, .slice aa 3 3] 62)
  have hk : Below w1.heap.size w1 ((w1.alloc (.cells #[.slice ta 3 3, .slice none 0 0] 38)).alloc (.cells #[.int .u64 1, .slice ra 1 1, .slice aa 3 3] 62)) := ((Below.refl _ _).alloc (Nat.le_refl _) _).alloc (by simp) _
  generalize (w1.alloc (.cells #[.slice ta 3 3, .slice none 0 0] 38)).alloc (.cells #[.int .u64 1, .slice ra 1 1, .slice aa 3 3] 62) = w2 at c0 c1 c2 d0 d1 hk ⊢
  have q0 : w2.cell? ⟨w1.heap.size + 1, 0, none⟩ = some (.int .u64 1) := c0
  have q1 : w2.cell? ⟨w1.heap.size + 1, 1, none⟩ = some (.slice ra 1 1) := c1
  have q2 : w2.cell? ⟨w1.heap.size + 1, 2, none⟩ = some (.slice aa 3 3) := c2
  have q3 : w2.cell? ⟨w1.heap.size, 0, none⟩ = some (.slice ta 3 3) := d0
  have q4 : w2.cell? ⟨w1.heap.size, 1, none⟩ = some (.slice none 0 0) := d1
  clear c0 c1 c2 d0 d1
  have hb2 := H1.out.2.2.2.trans (hk.mono H1.out.2.2.2.size)
  have hnw := new_view w2 (HE.out.next hb2).s ta (H1.out.1.keep hk hk.size)
  have HNW := Lib.hid hnw
  have H2 := Lib.hid (And.intro (H1.out.2.1.keep hk hk.size) (And.intro (H1.out.2.2.1.keep hk hk.size) (And.intro hb2 (And.intro q0 (And.intro q1 q2)))))
  clear hk hb2 hnw
  go_upto_region 5 with (go_at_call 24; with_reducible refine HNW.out.mono ?_; rintro e w3 ⟨g, rfl, hs3, hb3⟩; have H3 := Lib.hid (And.intro hs3 hb3); clear hs3 hb3)
  clear q0 q1 q2 q3 q4
  have q0 := (H3.out.2.cell (World.block_lt_of_cell? _ _ H2.out.2.2.2.1)).trans H2.out.2.2.2.1
  have q1 := (H3.out.2.cell (World.block_lt_of_cell? _ _ H2.out.2.2.2.2.1)).trans H2.out.2.2.2.2.1
  have q2 := (H3.out.2.cell (World.block_lt_of_cell? _ _ H2.out.2.2.2.2.2)).trans H2.out.2.2.2.2.2
  have hb4 : Below w3.heap.size w3 (w3.alloc (.cells #[.string ⟨#[99, 111, 109, 109, 111, 110, 78, 97, 109, 101]⟩, .string ⟨#[49, 46, 49]⟩] 9)) := (Below.refl _ _).alloc (Nat.le_refl _) _
  have n0 := cellA_new w3 #[.string ⟨#[99, 111, 109, 109, 111, 110, 78, 97, 109, 101]⟩, .string ⟨#[49, 46, 49]⟩] 9 0
  have n1 := cellA_new w3 #[.string ⟨#[99, 111, 109, 109, 111, 110, 78, 97, 109, 101]⟩, .string ⟨#[49, 46, 49]⟩] 9 1
  have e0 := cellA q0 (.cells #[.string ⟨#[99, 111, 109, 109, 111, 110, 78, 97, 109, 101]⟩, .string ⟨#[49, 46, 49]⟩] 9)
  have e1 := cellA q1 (.cells #[.string ⟨#[99, 111, 109, 109, 111, 110, 78, 97, 109, 101]⟩, .string ⟨#[49, 46, 49]⟩] 9)
  have e2 := cellA q2 (.cells #[.string ⟨#[99, 111, 109, 109, 111, 110, 78, 97, 109, 101]⟩, .string ⟨#[49, 46, 49]⟩] 9)
  have hb24 := H3.out.2.trans (hb4.mono H3.out.2.size)
  have hs4 := H3.out.1.keep hb4
  have hE4 := (HE.out.next H2.out.2.2.1).next hb24
  have htx := two_texts n0 n1 (by decide) (by decide)
  have hsh := vshow_any viewS g (w3.alloc (.cells #[.string ⟨#[99, 111, 109, 109, 111, 110, 78, 97, 109, 101]⟩, .string ⟨#[49, 46, 49]⟩] 9)).heap.size 1 ra 1 1 viewN aa 3 3 viewA (some ⟨w3.heap.size, 0, none⟩) 2 2 [⟨#[99, 111, 109, 109, 111, 110, 78, 97, 109, 101]⟩, ⟨#[49, 46, 49]⟩] false (w3.alloc (.cells #[.string ⟨#[99, 111, 109, 109, 111, 110, 78, 97, 109, 101]⟩, .string ⟨#[49, 46, 49]⟩] 9)) hs4 hE4.s hE4.e (H2.out.1.keep hb24 hb24.size) (H2.out.2.1.keep hb24 hb24.size) htx (Nat.le_refl _)
  unfold recV at hsh
  have hsh := hsh.mono fun e w' h => told h vk1 (by decide)
  have H4 := Lib.hid (And.intro hs4 (And.intro hb24 (And.intro e0 (And.intro e1 e2))))
  have HSH := Lib.hid hsh
  clear hb4 n0 n1 e0 e1 e2 hb24 hs4 hE4 htx hsh
  go_upto_region 6 with (go_at_call 31; refine HSH.out.mono ?_; rintro e w5 ⟨b, o, cc, rfl, ha5, hb5⟩; have H5 := Lib.hid (And.intro ha5 hb5); clear ha5 hb5)
  clear q0 q1 q2
  have hba : baOf [99, 110, 61, 65, 110, 110] = ⟨#[99, 110, 61, 65, 110, 110]⟩ := rfl
  rw [hba]
  have hF : ∀ j v, (#[.string ⟨#[99, 110, 61, 65, 110, 110]⟩, .slice (some ⟨b, o, none⟩) 2 cc] : Array Value)[j]? = some v → (w5.alloc (.cells #[.string ⟨#[99, 110, 61, 65, 110, 110]⟩, .slice (some ⟨b, o, none⟩) 2 cc] 64)).cell? ⟨w5.heap.size, j, none⟩ = some v := fun j v h => by rw [cellA_new]; exact h
  have q0 := cellA ((H5.out.2.cell (World.block_lt_of_cell? _ _ H4.out.2.2.1)).trans H4.out.2.2.1) (.cells #[.string ⟨#[99, 110, 61, 65, 110, 110]⟩, .slice (some ⟨b, o, none⟩) 2 cc] 64)
  have q1 := cellA ((H5.out.2.cell (World.block_lt_of_cell? _ _ H4.out.2.2.2.1)).trans H4.out.2.2.2.1) (.cells #[.string ⟨#[99, 110, 61, 65, 110, 110]⟩, .slice (some ⟨b, o, none⟩) 2 cc] 64)
  have q2 := cellA ((H5.out.2.cell (World.block_lt_of_cell? _ _ H4.out.2.2.2.2)).trans H4.out.2.2.2.2) (.cells #[.string ⟨#[99, 110, 61, 65, 110, 110]⟩, .slice (some ⟨b, o, none⟩) 2 cc] 64)
  have hb56 : Below w5.heap.size w5 (w5.alloc (.cells #[.string ⟨#[99, 110, 61, 65, 110, 110]⟩, .slice (some ⟨b, o, none⟩) 2 cc] 64)) := (Below.refl _ _).alloc (Nat.le_refl _) _
  generalize w5.alloc (.cells #[.string ⟨#[99, 110, 61, 65, 110, 110]⟩, .slice (some ⟨b, o, none⟩) 2 cc] 64) = w6 at hF q0 q1 q2 hb56 ⊢
  have hb46 := H5.out.2.trans (hb56.mono H5.out.2.size)
  have hb26 := H4.out.2.1.trans (hb46.mono H4.out.2.1.size)
  have hs6 := H4.out.1.keep hb46
  have hE6 := (HE.out.next H2.out.2.2.1).next hb26
  have ha6 := H5.out.1.keep hb56 hb56.size
  have hsh := (vshow_any viewS g w6.heap.size 1 ra 1 1 viewN aa 3 3 viewA none 0 0 [] true w6 hs6 hE6.s hE6.e (H2.out.1.keep hb26 hb26.size) (H2.out.2.1.keep hb26 hb26.size) (Texts.nil0 _ _) (Nat.le_refl _)).mono fun e w' h => told h vk2 (by decide)
  unfold recV at hsh
  have f0 := hF 0 _ rfl
  have f1 := hF 1 _ rfl
  have w1c : ∀ wq nb, Below w6.heap.size w6 wq → wq.cell? ⟨nb, 0, none⟩ = some (.string ⟨#[110, 97, 109, 101]⟩) → Calls Tryz.prog 32 #[.pointer (some ⟨g, 0, none⟩), .slice (some ⟨nb, 0, none⟩) 1 1, .string ⟨#[99, 110, 59, 120]⟩] wq fun e w' => e = .returned (.bool true) ∧ Below wq.heap.size wq w' := fun wq nb hb hc => by
    have h := wants_any viewS g ⟨#[99, 110, 59, 120]⟩ wq.heap.size (some ⟨nb, 0, none⟩) 1 1 [⟨#[110, 97, 109, 101]⟩] wq (hs6.keep hb) (hE6.s.next hb) (by decide) (text1 hc (by decide)) (Nat.le_refl _)
    rw [show wantsV viewS (List.map toL [⟨#[110, 97, 109, 101]⟩]) (toL ⟨#[99, 110, 59, 120]⟩) = true from vk3] at h; exact h
  have w2c : ∀ wq nb, Below w6.heap.size w6 wq → wq.cell? ⟨nb, 0, none⟩ = some (.string ⟨#[99, 110, 59, 120]⟩) → Calls Tryz.prog 32 #[.pointer (some ⟨g, 0, none⟩), .slice (some ⟨nb, 0, none⟩) 1 1, .string ⟨#[99, 110]⟩] wq fun e w' => e = .returned (.bool false) ∧ Below wq.heap.size wq w' := fun wq nb hb hc => by
    have h := wants_any viewS g ⟨#[99, 110]⟩ wq.heap.size (some ⟨nb, 0, none⟩) 1 1 [⟨#[99, 110, 59, 120]⟩] wq (hs6.keep hb) (hE6.s.next hb) (by decide) (text1 hc (by decide)) (Nat.le_refl _)
    rw [show wantsV viewS (List.map toL [⟨#[99, 110, 59, 120]⟩]) (toL ⟨#[99, 110]⟩) = false from vk4] at h; exact h
  have W1C := Lib.hid w1c; have W2C := Lib.hid w2c; clear w1c w2c
  have H6 := Lib.hid (And.intro hs6 (And.intro hE6 (And.intro ha6 (And.intro f0 (And.intro f1 hb26)))))
  have HSH2 := Lib.hid hsh
  clear hF hb46 hb26 hs6 hE6 ha6 hsh f0 f1 hb56 HSH
  go_wp2_with (first
    | (go_at_call 31; refine HSH2.out.mono ?_; rintro e w7 ⟨b2, o2, cc2, rfl, ha7, hb7⟩; obtain ⟨f0, f1, g0, ⟨vb, vo, vc, g1, g2⟩, ⟨va2, vc2, g3⟩, _, _⟩ := works_facts H6.out.2.2.1 H6.out.2.2.2.1 H6.out.2.2.2.2.1 ha7 hb7; have f0 := cellA f0 (.cells #[.string ⟨#[99, 110, 61, 65, 110, 110]⟩, .slice (some ⟨b2, o2, none⟩) 3 cc2] 64); have f1 := cellA f1 (.cells #[.string ⟨#[99, 110, 61, 65, 110, 110]⟩, .slice (some ⟨b2, o2, none⟩) 3 cc2] 64); have g0 := cellA g0 (.cells #[.string ⟨#[99, 110, 61, 65, 110, 110]⟩, .slice (some ⟨b2, o2, none⟩) 3 cc2] 64); have g1 := cellA g1 (.cells #[.string ⟨#[99, 110, 61, 65, 110, 110]⟩, .slice (some ⟨b2, o2, none⟩) 3 cc2] 64); have g2 := cellA g2 (.cells #[.string ⟨#[99, 110, 61, 65, 110, 110]⟩, .slice (some ⟨b2, o2, none⟩) 3 cc2] 64); have g3 := cellA g3 (.cells #[.string ⟨#[99, 110, 61, 65, 110, 110]⟩, .slice (some ⟨b2, o2, none⟩) 3 cc2] 64); have H7 := Lib.hid hb7; have hb8 := hb7.alloc hb7.size (.cells #[.string ⟨#[99, 110, 61, 65, 110, 110]⟩, .slice (some ⟨b2, o2, none⟩) 3 cc2] 64); have hn := cell_new8 w7 (.cells #[.string ⟨#[99, 110, 61, 65, 110, 110]⟩, .slice (some ⟨b2, o2, none⟩) 3 cc2] 64) ⟨#[110, 97, 109, 101]⟩; have H8 := Lib.hid (And.intro (hb8.alloc hb8.size (.cells #[.string ⟨#[110, 97, 109, 101]⟩] 9)) hn); clear ha7 hb7 hb8 hn)
    | (go_at_call 32; with_reducible refine (W1C.out _ _ H8.out.1 H8.out.2).mono ?_; rintro e w9 ⟨rfl, hb9⟩; have hb10 := H8.out.1.trans (hb9.mono H8.out.1.size); have hn := cellA_new w9 #[.string ⟨#[99, 110, 59, 120]⟩] 9 0; have H9 := Lib.hid (And.intro (hb10.alloc hb10.size (.cells #[.string ⟨#[99, 110, 59, 120]⟩] 9)) hn); clear hb9 hb10 hn)
    | (go_at_call 32; with_reducible refine (W2C.out _ _ H9.out.1 H9.out.2).mono ?_; rintro e w11 ⟨rfl, hb11⟩; have H10 := Lib.hid (H9.out.1.trans (hb11.mono H9.out.1.size)); clear hb11)
    | fail)
  go_ret
  exact ⟨rfl, H2.out.2.2.1.trans ((H6.out.2.2.2.2.2.trans (H10.out.mono H6.out.2.2.2.2.2.size)).mono H2.out.2.2.1.size)⟩
end Go.Proofs.YtifgmnafjihlkaaGreatDoor
/- Loops of functions with many slots: what a round leaves is told of the frame as a whole. A law of my own. -/
namespace Go.Proofs.YtifgmnafjihlkaaGreatDoor
open Go

/-- what stands in a slot -/
def fr (a : Act) (k : Nat) : Value := (a.tmps.toList[k]?).getD undef
def frame (n : Nat) (f : Nat → Value) : Array Value := ((List.range n).map f).toArray
theorem frame_of {a : Act} {n : Nat} (h : a.tmps.size = n) (hd : a.defers = []) : a = ⟨frame n (fr a), []⟩ := by
  cases a with
  | mk t d =>
    simp only at h hd
    subst hd
    congr 1
    apply Array.ext
    · simp [frame, h]
    · intro i h1 h2
      simp [frame, fr, h1]
/-- what stands from the region k on -/
def restAt (k : Nat) : Code → Option Code
  | .seq (.region j o d) b => if j = k then some (.seq (.region j o d) b) else restAt k b
  | .seq a b => (restAt k a).or (restAt k b)
  | .cond _ a b => (restAt k a).or (restAt k b)
  | .block _ c => restAt k c
  | .loop c => restAt k c
  | .scope c => restAt k c
  | _ => none
structure InvF (n : Nat) (rel : (Nat → Value) → World → Prop) (a : Act) (w : World) : Prop where
  size : a.tmps.size = n
  defers : a.defers = []
  rel : rel (fr a) w
def EndF (n : Nat) (rel : (Nat → Value) → World → Prop) (mu : (Nat → Value) → Nat) (m : Nat) (a : Act) (w : World) : Prop := InvF n rel a w ∧ mu (fr a) < m
theorem wp_loopF {P : Program} {c : Code} {Q : Exit → Act → World → Prop} {a0 : Act} {w0 : World} (n : Nat) (rel : (Nat → Value) → World → Prop) (mu : (Nat → Value) → Nat) (h0 : InvF n rel a0 w0)
    (hr : ∀ f w, rel f w → c.wp P (Exit.then (EndF n rel mu (mu f)) Q) ⟨frame n f, []⟩ w) : (Code.loop c).wp P Q a0 w0 :=
  wp_loop (InvF n rel) (fun a _ => mu (fr a)) h0 fun a w h => by
    have h1 := hr (fr a) w h.rel
    rw [← frame_of h.size h.defers] at h1
    exact h1
def EndG (n : Nat) (rel : (Nat → Value) → World → Prop) (mu : (Nat → Value) → World → Nat) (m : Nat) (a : Act) (w : World) : Prop := InvF n rel a w ∧ mu (fr a) w < m
theorem wp_loopG {P : Program} {c : Code} {Q : Exit → Act → World → Prop} {a0 : Act} {w0 : World} (n : Nat) (rel : (Nat → Value) → World → Prop) (mu : (Nat → Value) → World → Nat) (h0 : InvF n rel a0 w0)
    (hr : ∀ f w, rel f w → c.wp P (Exit.then (EndG n rel mu (mu f w)) Q) ⟨frame n f, []⟩ w) : (Code.loop c).wp P Q a0 w0 :=
  wp_loop (InvF n rel) (fun a w => mu (fr a) w) h0 fun a w h => by
    have h1 := hr (fr a) w h.rel
    rw [← frame_of h.size h.defers] at h1
    exact h1
end Go.Proofs.YtifgmnafjihlkaaGreatDoor
/- The frame of ViewMore's loop. Printed by gen_frm.py. -/
namespace Go.Proofs.YtifgmnafjihlkaaGreatDoor
open Go
set_option maxRecDepth 100000 in
theorem frame_vm {f : Nat → Value} {x2 x3 x5 x9 x14 x16 x18 x19 x146 x147 : Value} (h2 : f 2 = x2) (h3 : f 3 = x3) (h5 : f 5 = x5) (h9 : f 9 = x9) (h14 : f 14 = x14) (h16 : f 16 = x16) (h18 : f 18 = x18) (h19 : f 19 = x19) (h146 : f 146 = x146) (h147 : f 147 = x147) : frame 309 f = [f 0, f 1, x2, x3, f 4, x5, f 6, f 7, f 8, x9, f 10, f 11, f 12, f 13, x14, f 15, x16, f 17, x18, x19, f 20, f 21, f 22, f 23, f 24, f 25, f 26, f 27, f 28, f 29, f 30, f 31, f 32, f 33, f 34, f 35, f 36, f 37, f 38, f 39, f 40, f 41, f 42, f 43, f 44, f 45, f 46, f 47, f 48, f 49, f 50, f 51, f 52, f 53, f 54, f 55, f 56, f 57, f 58, f 59, f 60, f 61, f 62, f 63, f 64, f 65, f 66, f 67, f 68, f 69, f 70, f 71, f 72, f 73, f 74, f 75, f 76, f 77, f 78, f 79, f 80, f 81, f 82, f 83, f 84, f 85, f 86, f 87, f 88, f 89, f 90, f 91, f 92, f 93, f 94, f 95, f 96, f 97, f 98, f 99, f 100, f 101, f 102, f 103, f 104, f 105, f 106, f 107, f 108, f 109, f 110, f 111, f 112, f 113, f 114, f 115, f 116, f 117, f 118, f 119, f 120, f 121, f 122, f 123, f 124, f 125, f 126, f 127, f 128, f 129, f 130, f 131, f 132, f 133, f 134, f 135, f 136, f 137, f 138, f 139, f 140, f 141, f 142, f 143, f 144, f 145, x146, x147, f 148, f 149, f 150, f 151, f 152, f 153, f 154, f 155, f 156, f 157, f 158, f 159, f 160, f 161, f 162, f 163, f 164, f 165, f 166, f 167, f 168, f 169, f 170, f 171, f 172, f 173, f 174, f 175, f 176, f 177, f 178, f 179, f 180, f 181, f 182, f 183, f 184, f 185, f 186, f 187, f 188, f 189, f 190, f 191, f 192, f 193, f 194, f 195, f 196, f 197, f 198, f 199, f 200, f 201, f 202, f 203, f 204, f 205, f 206, f 207, f 208, f 209, f 210, f 211, f 212, f 213, f 214, f 215, f 216, f 217, f 218, f 219, f 220, f 221, f 222, f 223, f 224, f 225, f 226, f 227, f 228, f 229, f 230, f 231, f 232, f 233, f 234, f 235, f 236, f 237, f 238, f 239, f 240, f 241, f 242, f 243, f 244, f 245, f 246, f 247, f 248, f 249, f 250, f 251, f 252, f 253, f 254, f 255, f 256, f 257, f 258, f 259, f 260, f 261, f 262, f 263, f 264, f 265, f 266, f 267, f 268, f 269, f 270, f 271, f 272, f 273, f 274, f 275, f 276, f 277, f 278, f 279, f 280, f 281, f 282, f 283, f 284, f 285, f 286, f 287, f 288, f 289, f 290, f 291, f 292, f 293, f 294, f 295, f 296, f 297, f 298, f 299, f 300, f 301, f 302, f 303, f 304, f 305, f 306, f 307, f 308].toArray := by
  subst h2 h3 h5 h9 h14 h16 h18 h19 h146 h147
  rfl

set_option maxRecDepth 100000 in
theorem frame_vt {f : Nat → Value} {x2 x3 x5 x9 x26 : Value} (h2 : f 2 = x2) (h3 : f 3 = x3) (h5 : f 5 = x5) (h9 : f 9 = x9) (h26 : f 26 = x26) : frame 309 f = [f 0, f 1, x2, x3, f 4, x5, f 6, f 7, f 8, x9, f 10, f 11, f 12, f 13, f 14, f 15, f 16, f 17, f 18, f 19, f 20, f 21, f 22, f 23, f 24, f 25, x26, f 27, f 28, f 29, f 30, f 31, f 32, f 33, f 34, f 35, f 36, f 37, f 38, f 39, f 40, f 41, f 42, f 43, f 44, f 45, f 46, f 47, f 48, f 49, f 50, f 51, f 52, f 53, f 54, f 55, f 56, f 57, f 58, f 59, f 60, f 61, f 62, f 63, f 64, f 65, f 66, f 67, f 68, f 69, f 70, f 71, f 72, f 73, f 74, f 75, f 76, f 77, f 78, f 79, f 80, f 81, f 82, f 83, f 84, f 85, f 86, f 87, f 88, f 89, f 90, f 91, f 92, f 93, f 94, f 95, f 96, f 97, f 98, f 99, f 100, f 101, f 102, f 103, f 104, f 105, f 106, f 107, f 108, f 109, f 110, f 111, f 112, f 113, f 114, f 115, f 116, f 117, f 118, f 119, f 120, f 121, f 122, f 123, f 124, f 125, f 126, f 127, f 128, f 129, f 130, f 131, f 132, f 133, f 134, f 135, f 136, f 137, f 138, f 139, f 140, f 141, f 142, f 143, f 144, f 145, f 146, f 147, f 148, f 149, f 150, f 151, f 152, f 153, f 154, f 155, f 156, f 157, f 158, f 159, f 160, f 161, f 162, f 163, f 164, f 165, f 166, f 167, f 168, f 169, f 170, f 171, f 172, f 173, f 174, f 175, f 176, f 177, f 178, f 179, f 180, f 181, f 182, f 183, f 184, f 185, f 186, f 187, f 188, f 189, f 190, f 191, f 192, f 193, f 194, f 195, f 196, f 197, f 198, f 199, f 200, f 201, f 202, f 203, f 204, f 205, f 206, f 207, f 208, f 209, f 210, f 211, f 212, f 213, f 214, f 215, f 216, f 217, f 218, f 219, f 220, f 221, f 222, f 223, f 224, f 225, f 226, f 227, f 228, f 229, f 230, f 231, f 232, f 233, f 234, f 235, f 236, f 237, f 238, f 239, f 240, f 241, f 242, f 243, f 244, f 245, f 246, f 247, f 248, f 249, f 250, f 251, f 252, f 253, f 254, f 255, f 256, f 257, f 258, f 259, f 260, f 261, f 262, f 263, f 264, f 265, f 266, f 267, f 268, f 269, f 270, f 271, f 272, f 273, f 274, f 275, f 276, f 277, f 278, f 279, f 280, f 281, f 282, f 283, f 284, f 285, f 286, f 287, f 288, f 289, f 290, f 291, f 292, f 293, f 294, f 295, f 296, f 297, f 298, f 299, f 300, f 301, f 302, f 303, f 304, f 305, f 306, f 307, f 308].toArray := by
  subst h2 h3 h5 h9 h26
  rfl

set_option maxRecDepth 100000 in
theorem frame_vd {f : Nat → Value} {x2 x3 x4 x5 : Value} (h2 : f 2 = x2) (h3 : f 3 = x3) (h4 : f 4 = x4) (h5 : f 5 = x5) : frame 309 f = [f 0, f 1, x2, x3, x4, x5, f 6, f 7, f 8, f 9, f 10, f 11, f 12, f 13, f 14, f 15, f 16, f 17, f 18, f 19, f 20, f 21, f 22, f 23, f 24, f 25, f 26, f 27, f 28, f 29, f 30, f 31, f 32, f 33, f 34, f 35, f 36, f 37, f 38, f 39, f 40, f 41, f 42, f 43, f 44, f 45, f 46, f 47, f 48, f 49, f 50, f 51, f 52, f 53, f 54, f 55, f 56, f 57, f 58, f 59, f 60, f 61, f 62, f 63, f 64, f 65, f 66, f 67, f 68, f 69, f 70, f 71, f 72, f 73, f 74, f 75, f 76, f 77, f 78, f 79, f 80, f 81, f 82, f 83, f 84, f 85, f 86, f 87, f 88, f 89, f 90, f 91, f 92, f 93, f 94, f 95, f 96, f 97, f 98, f 99, f 100, f 101, f 102, f 103, f 104, f 105, f 106, f 107, f 108, f 109, f 110, f 111, f 112, f 113, f 114, f 115, f 116, f 117, f 118, f 119, f 120, f 121, f 122, f 123, f 124, f 125, f 126, f 127, f 128, f 129, f 130, f 131, f 132, f 133, f 134, f 135, f 136, f 137, f 138, f 139, f 140, f 141, f 142, f 143, f 144, f 145, f 146, f 147, f 148, f 149, f 150, f 151, f 152, f 153, f 154, f 155, f 156, f 157, f 158, f 159, f 160, f 161, f 162, f 163, f 164, f 165, f 166, f 167, f 168, f 169, f 170, f 171, f 172, f 173, f 174, f 175, f 176, f 177, f 178, f 179, f 180, f 181, f 182, f 183, f 184, f 185, f 186, f 187, f 188, f 189, f 190, f 191, f 192, f 193, f 194, f 195, f 196, f 197, f 198, f 199, f 200, f 201, f 202, f 203, f 204, f 205, f 206, f 207, f 208, f 209, f 210, f 211, f 212, f 213, f 214, f 215, f 216, f 217, f 218, f 219, f 220, f 221, f 222, f 223, f 224, f 225, f 226, f 227, f 228, f 229, f 230, f 231, f 232, f 233, f 234, f 235, f 236, f 237, f 238, f 239, f 240, f 241, f 242, f 243, f 244, f 245, f 246, f 247, f 248, f 249, f 250, f 251, f 252, f 253, f 254, f 255, f 256, f 257, f 258, f 259, f 260, f 261, f 262, f 263, f 264, f 265, f 266, f 267, f 268, f 269, f 270, f 271, f 272, f 273, f 274, f 275, f 276, f 277, f 278, f 279, f 280, f 281, f 282, f 283, f 284, f 285, f 286, f 287, f 288, f 289, f 290, f 291, f 292, f 293, f 294, f 295, f 296, f 297, f 298, f 299, f 300, f 301, f 302, f 303, f 304, f 305, f 306, f 307, f 308].toArray := by
  subst h2 h3 h4 h5
  rfl

end Go.Proofs.YtifgmnafjihlkaaGreatDoor
/- rosterlaw23.ViewMore: what it stands on once the record was shown twice. No walk. -/
namespace Go.Proofs.YtifgmnafjihlkaaGreatDoor
open Go Go.RowKit Go.Maps

/-- what ViewMore stands on, once the record was shown twice -/
structure VM (S : PSchema) (g rb fab fbb : Nat) (a aa : Option Addr) (n c an ac : Nat) (nm : PName) (al : List PAttr) (wa : Option Addr) (wn wc : Nat) (wl : List ByteArray) (ma : Option Addr) (mn mc : Nat) (ml : List ByteArray) (fa : Option Addr) (fn fc : Nat) (ga : Option Addr) (gn gc : Nat) (w : World) : Prop where
  sch : Sch w g S
  env : EnvV w
  r2 : w.cell? ⟨rb, 2, none⟩ = some (.slice aa an ac)
  a1 : w.cell? ⟨fab, 1, none⟩ = some (.slice fa fn fc)
  b1 : w.cell? ⟨fbb, 1, none⟩ = some (.slice ga gn gc)
  at' : AttrsM w.heap.size w aa an ac al
  wt : Texts w.heap.size w wa wn wc wl
  mt : Texts w.heap.size w ma mn mc ml
  fd : AttrsM w.heap.size w fa fn fc (foundV S (wl.map toL) false al)
  gd : AttrsM w.heap.size w ga gn gc (foundV S (wl.map toL) true al)
section
variable {S : PSchema} {g rb fab fbb : Nat} {a aa : Option Addr} {n c an ac : Nat} {nm : PName} {al : List PAttr} {wa : Option Addr} {wn wc : Nat} {wl : List ByteArray} {ma : Option Addr} {mn mc : Nat} {ml : List ByteArray} {fa : Option Addr} {fn fc : Nat} {ga : Option Addr} {gn gc : Nat} {w w' : World}
theorem VM.keep (h : VM S g rb fab fbb a aa n c an ac nm al wa wn wc wl ma mn mc ml fa fn fc ga gn gc w) (k : Below w.heap.size w w') : VM S g rb fab fbb a aa n c an ac nm al wa wn wc wl ma mn mc ml fa fn fc ga gn gc w' :=
  ⟨h.sch.keep k, h.env.next k, (k.cell (World.block_lt_of_cell? _ _ h.r2)).trans h.r2, (k.cell (World.block_lt_of_cell? _ _ h.a1)).trans h.a1, (k.cell (World.block_lt_of_cell? _ _ h.b1)).trans h.b1, h.at'.keep k k.size, h.wt.keep k k.size, h.mt.keep k k.size, h.fd.keep k k.size, h.gd.keep k k.size⟩
end
end Go.Proofs.YtifgmnafjihlkaaGreatDoor
