/- Part 37 of the walks and plain laws, joined: MatKey, MatOf, KeyF, Same6. -/
import Derived.Test.YtlmfbjhokkpjhaaGreatDoorNM00
import Derived.Test.YtlmfbjhokkpjhaaGreatDoorNM06
import Derived.Test.YtlmfbjhokkpjhaaGreatDoorNM36
import Derived.Test.YtlmfbjhokkpjhaaGreatDoorNM30
import Derived.Test.YtlmfbjhokkpjhaaGreatDoorNM27
import Derived.Deep.QuietTactic
import Derived.BigQuiet
import Derived.BigRegion
set_option linter.unusedVariables false
set_option linter.unusedSimpArgs false
namespace Go.Proofs.YtlmfbjhokkpjhaaGreatDoor
open Go Go.RowKit
def KeyAt (w : World) (p : Option Addr) (r : Int) (K : Str → Str × Bool) : Prop :=
 ∀ (w' : World) (v : ByteArray), Below w.heap.size w w' → Calls Tryz.prog 11 #[.pointer p, .int .i8 r, .string v] w' fun e w'' => e = .returned (ret2 (K (toL v))) ∧ Below w'.heap.size w' w''
theorem KeyAt.next {w w' : World} {p : Option Addr} {r : Int} {K : Str → Str × Bool} (h : KeyAt w p r K) (k : Below w.heap.size w w') : KeyAt w' p r K := fun w2 v hb => h w2 v (bnext k hb)
structure OfAt (w : World) (c1 c2 c3 c4 : Nat) (p : Option Addr) (r sort : Int) (f : FuncId) (key : Str) : Prop where
 s : w.cell? ⟨c1, 0, none⟩ = some (.pointer p)
 r : w.cell? ⟨c2, 0, none⟩ = some (.int .i8 r)
 sort : w.cell? ⟨c3, 0, none⟩ = some (.int .i8 sort)
 says : w.cell? ⟨c3, 1, none⟩ = some (.func (.func f) #[] #[])
 key : w.cell? ⟨c4, 0, none⟩ = some (.string ⟨key.toArray⟩)
theorem OfAt.keep {w w' : World} {c1 c2 c3 c4 : Nat} {p : Option Addr} {r sort : Int} {f : FuncId} {key : Str} (h : OfAt w c1 c2 c3 c4 p r sort f key) (k : Below w.heap.size w w') : OfAt w' c1 c2 c3 c4 p r sort f key :=
 ⟨by rw [k.cell (Zb w _ h.s)]; exact h.s, by rw [k.cell (Zb w _ h.r)]; exact h.r, by rw [k.cell (Zb w _ h.sort)]; exact h.sort,
  by rw [k.cell (Zb w _ h.says)]; exact h.says, by rw [k.cell (Zb w _ h.key)]; exact h.key⟩
theorem nkeyV_none {S : PSchema} {l : PName} (h : (nkeyV S l).2 ≠ 0) : (nkeyV S l).1 = [] := by
 have hkv : nkeyV S l = if (printV l).2 ≠ 0 then ([], (printV l).2) else if (stepsK (rdK S) S l).1 ≠ 0 then ([], (stepsK (rdK S) S l).1) else ((stepsK (rdK S) S l).2.reverse.flatten, 0) := rfl
 rw [hkv] at h ⊢
 split
 ·rfl
 ·rename_i h1
  rw [if_neg h1] at h
  split
  ·rfl
  ·rename_i h2
   rw [if_neg h2] at h
   exact absurd rfl h
theorem rdK_err {S : PSchema} {v : Str} {f : PFault} (h : parseV v = .error f) : rdK S v = ([], false) := by rw [rdK_eq, h]; rfl
theorem rdK_ok {S : PSchema} {v : Str} {n : PName} (h : parseV v = .ok n) : rdK S v = ((nkeyV S n).1, decide ((nkeyV S n).2 = 0)) := by
 rw [rdK_eq, h]
 show (if (nkeyV S n).2 = 0 then ((nkeyV S n).1, true) else ([], false)) = _
 split
 ·rename_i h1; simp [h1]
 ·rename_i h1; rw [nkeyV_none h1]; simp [h1]
theorem reads_end {S : PSchema} (g : Nat) (v : ByteArray) (w : World) (h : Sch w g S) (hE : EnvK w)
  (hk : ∀ n, parseV (toL v) = .ok n → ∀ (wz : World) (B : Nat) (a : Option Addr) (k c : Nat), Below w.heap.size w wz → Rdns B wz a k c n → B ≤ wz.heap.size → Calls Tryz.prog 33 #[.pointer (some ⟨g, 0, none⟩), .agg #[.slice a k c]] wz (KeyPost (nkeyV S n) wz)) :
  Calls Tryz.prog 122 #[.pointer (some ⟨g, 0, none⟩), .string v] w fun e w' => e = .returned (ret2 (rdK S (toL v))) ∧ Below w.heap.size w w' := by
 have hp := nparse_any v w hE.v
 unfold ParsePost at hp
 have HK := Zh hk
 clear hk h hE
 cases hv : parseV (toL v) with
 | error f =>
  have hr := rdK_err (S := S) hv
  have hp2 := hp.mono (R' := fun e w' => (∃ fb, e = .returned (.tuple #[.agg #[.slice none 0 0], .iface 123 (.pointer (some ⟨fb, 0, none⟩))])) ∧ Below w.heap.size w w') fun e w' h => ⟨by obtain ⟨fb, h1, _⟩ := h.2.2 f hv; exact ⟨fb, h1⟩, h.1⟩
  have HP := Zh hp2
  have HR := Zh hr
  clear hp hp2 hr hv HK
  go_enter Tryz.func122, Tryz.ntmps122
  go_wp2_with (go_at_call 31; (with_reducible refine HP.out.mono ?_); rintro e w1 ⟨⟨fb, rfl⟩, hb1⟩; have HB := Zh hb1; clear hb1)
  go_ret2
  exact ⟨by rw [HR.out]; rfl, HB.out.alloc HB.out.size _⟩
 | ok n =>
  have hr := rdK_ok (S := S) hv
  have hp2 := hp.mono (R' := fun e w' => (∃ na k c, e = .returned (.tuple #[.agg #[.slice na k c], .nilIface]) ∧ NewName w w' na k c n) ∧ Below w.heap.size w w') fun e w' h => ⟨h.2.1 n hv, h.1⟩
  have HP := Zh hp2
  have HR := Zh hr
  have HV := Zh hv
  clear hp hp2 hr hv
  go_enter Tryz.func122, Tryz.ntmps122
  obtain ⟨K, hK⟩ : ∃ K, nkeyV S n = K := ⟨_, rfl⟩
  rw [hK] at HR
  have HKE := Zh hK
  clear hK
  obtain ⟨ks, ke⟩ := K
  go_wp2_with (first
   | (go_at_call 31; (with_reducible refine HP.out.mono ?_); rintro e w1 ⟨⟨na, k, c, rfl, hn⟩, hb1⟩; have HB := Zh (Zi hb1 hn); clear hb1 hn)
   | (go_at_call 33; have hcall := HK.out n HV.out _ _ _ _ _ (HB.out.1.alloc HB.out.1.size (.cells #[.slice na k c] 53)) (HB.out.2.rdns.1.keep ((Zl _ _).alloc (Zr _) _) (Zr _)) (by simp); rw [HKE.out] at hcall; unfold KeyPost at hcall; (with_reducible refine hcall.mono ?_); rintro e w2 ⟨rfl, hb2⟩; have HB2 := Zh hb2; clear hb2 hcall))
  go_ret2
  exact ⟨by rw [HR.out]; rfl, (HB.out.1.alloc HB.out.1.size _).trans (HB2.out.mono (HB.out.1.alloc HB.out.1.size _).size)⟩
theorem read_at (S : PSchema) (g : Nat) : ∀ (L : Nat) (v : ByteArray) (w : World), v.size < L → Sch w g S → EnvK w → Calls Tryz.prog 122 #[.pointer (some ⟨g, 0, none⟩), .string v] w fun e w' => e = .returned (ret2 (rdK S (toL v))) ∧ Below w.heap.size w w'
 | 0, _, _, h, _, _ => by omega
 | L + 1, v, w, hL, h, hE => reads_end g v w h hE fun n hn wz B a k c hb hl hB =>
  nkey_any0 S g B a k c n wz (h.keep hb) (hE.next hb) hl hB fun r hr x hx wy u hby hu => by
   have h1 := (parse_short hn r hr x hx).2
   have h2 : (toL v).length = v.size := Lib.size_eq v
   have h3 : (toL u).length = u.size := Lib.size_eq u
   have h4 : (toL x.2).length = x.2.size := Lib.size_eq x.2
   rw [← hu]
   exact read_at S g L u wy (by rw [hu] at h3; omega) ((h.keep hb).keep hby) ((hE.next hb).next hby)
theorem nread_any (S : PSchema) (g : Nat) (v : ByteArray) (w : World) (h : Sch w g S) (hE : EnvK w) : Calls Tryz.prog 122 #[.pointer (some ⟨g, 0, none⟩), .string v] w fun e w' => e = .returned (ret2 (rdK S (toL v))) ∧ Below w.heap.size w w' :=
 read_at S g (v.size + 1) v w (Nat.lt_succ_self _) h hE
theorem readAt_any {S : PSchema} {g : Nat} {w : World} (h : Sch w g S) (hE : EnvK w) (u : Str) : ReadAt S g w u := fun wz v hb hu => by
 subst hu
 exact nread_any S g v wz (h.keep hb) (hE.next hb)
theorem nkey_any (S : PSchema) (g B : Nat) (a : Option Addr) (n c : Nat) (l : PName) (w : World) (h : Sch w g S) (hE : EnvK w) (hl : Rdns B w a n c l) (hB : B ≤ w.heap.size) :
  Calls Tryz.prog 33 #[.pointer (some ⟨g, 0, none⟩), .agg #[.slice a n c]] w (KeyPost (nkeyV S l) w) :=
 nkey_any0 S g B a n c l w h hE hl hB fun _ _ _ _ => readAt_any h hE _
theorem box1 (w : World) (x : Array Value) (t : TypeId) : Below w.heap.size w (w.alloc (.cells x t)) ∧ ∀ j, (w.alloc (.cells x t)).cell? ⟨w.heap.size, j, none⟩ = x[j]? := ⟨(Zl _ w).alloc (Zr _) _, fun j => by rw [World.cell?_alloc_new]⟩
theorem boxes2 (w : World) (x y : Array Value) (t u : TypeId) : Below w.heap.size w ((w.alloc (.cells x t)).alloc (.cells y u)) ∧ (∀ j, ((w.alloc (.cells x t)).alloc (.cells y u)).cell? ⟨w.heap.size, j, none⟩ = x[j]?) ∧ ∀ j, ((w.alloc (.cells x t)).alloc (.cells y u)).cell? ⟨w.heap.size + 1, j, none⟩ = y[j]? := by
 refine ⟨((Zl _ w).alloc (Zr _) _).alloc (by simp) _, fun j => ?_, fun j => ?_⟩
 ·have h : ((w.alloc (.cells x t)).alloc (.cells y u)).heap[w.heap.size]? = some (.cells x t) := by
   rw [Below.heap_alloc _ _ _ (by simp)]; exact heap_alloc_new w _
  rw [Lib.cell_of_heap h]
 ·have h := heap_alloc_new (w.alloc (.cells x t)) (.cells y u)
  rw [World.size_alloc] at h
  rw [Lib.cell_of_heap h]
end Go.Proofs.YtlmfbjhokkpjhaaGreatDoor
