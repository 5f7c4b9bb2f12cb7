/- Part 38 of the walks and plain laws, joined: MatKey, MatOf, KeyF, Same6. -/
import Derived.Test.YtlmfbjhokkpjhaaGreatDoorNB00
import Derived.Test.YtlmfbjhokkpjhaaGreatDoorNB06
import Derived.Test.YtlmfbjhokkpjhaaGreatDoorNB37
import Derived.Test.YtlmfbjhokkpjhaaGreatDoorNB31
import Derived.Test.YtlmfbjhokkpjhaaGreatDoorNB27
import Derived.Deep.QuietTactic
import Derived.BigQuiet
import Derived.BigRegion
set_option linter.unusedVariables false
set_option linter.unusedSimpArgs false
namespace Go.Proofs.YtlmfbjhokkpjhaaGreatDoor
open Go Go.RowKit
end Go.Proofs.YtlmfbjhokkpjhaaGreatDoor
namespace Go.Proofs.YtlmfbjhokkpjhaaGreatDoor
open Go Go.RowKit
def KeyAt (w : World) (p : Option Addr) (r : Int) (K : Str → Str × Bool) : Prop :=
 ∀ (w' : World) (v : ByteArray), Below w.heap.size w w' → Calls Tryz.prog 11 #[.pointer p, .int .i8 r, .string v] w' fun e w'' => e = .returned (ret2 (K (toL v))) ∧ Below w'.heap.size w' w''
theorem KeyAt.next {w w' : World} {p : Option Addr} {r : Int} {K : Str → Str × Bool} (h : KeyAt w p r K) (k : Below w.heap.size w w') : KeyAt w' p r K := fun w2 v hb => h w2 v (bnext k hb)
structure OfAt (w : World) (c1 c2 c3 c4 : Nat) (p : Option Addr) (r sort : Int) (f : FuncId) (key : Str) : Prop where
 s : w.cell? ⟨c1, 0, none⟩ = some (.pointer p)
 r : w.cell? ⟨c2, 0, none⟩ = some (.int .i8 r)
 sort : w.cell? ⟨c3, 0, none⟩ = some (.int .i8 sort)
 says : w.cell? ⟨c3, 1, none⟩ = some (.func (.func f) #[] #[])
 key : w.cell? ⟨c4, 0, none⟩ = some (.string ⟨key.toArray⟩)
theorem OfAt.keep {w w' : World} {c1 c2 c3 c4 : Nat} {p : Option Addr} {r sort : Int} {f : FuncId} {key : Str} (h : OfAt w c1 c2 c3 c4 p r sort f key) (k : Below w.heap.size w w') : OfAt w' c1 c2 c3 c4 p r sort f key :=
 ⟨by rw [k.cell (Zb w _ h.s)]; exact h.s, by rw [k.cell (Zb w _ h.r)]; exact h.r, by rw [k.cell (Zb w _ h.sort)]; exact h.sort,
  by rw [k.cell (Zb w _ h.says)]; exact h.says, by rw [k.cell (Zb w _ h.key)]; exact h.key⟩
end Go.Proofs.YtlmfbjhokkpjhaaGreatDoor
namespace Go.Proofs.YtlmfbjhokkpjhaaGreatDoor
open Go Go.RowKit
theorem nkeyV_none {S : PSchema} {l : PName} (h : (nkeyV S l).2 ≠ 0) : (nkeyV S l).1 = [] := by
 have hkv : nkeyV S l = if (printV l).2 ≠ 0 then ([], (printV l).2) else if (stepsK (rdK S) S l).1 ≠ 0 then ([], (stepsK (rdK S) S l).1) else ((stepsK (rdK S) S l).2.reverse.flatten, 0) := rfl
 rw [hkv] at h ⊢
 split
 ·rfl
 ·rename_i h1
  rw [if_neg h1] at h
  split
  ·rfl
  ·rename_i h2
   rw [if_neg h2] at h
   exact absurd rfl h
theorem rdK_err {S : PSchema} {v : Str} {f : PFault} (h : parseV v = .error f) : rdK S v = ([], false) := by rw [rdK_eq, h]; rfl
theorem rdK_ok {S : PSchema} {v : Str} {n : PName} (h : parseV v = .ok n) : rdK S v = ((nkeyV S n).1, decide ((nkeyV S n).2 = 0)) := by
 rw [rdK_eq, h]
 show (if (nkeyV S n).2 = 0 then ((nkeyV S n).1, true) else ([], false)) = _
 split
 ·rename_i h1; simp [h1]
 ·rename_i h1; rw [nkeyV_none h1]; simp [h1]
theorem reads_end {S : PSchema} (g : Nat) (v : ByteArray) (w : World) (h : Sch w g S) (hE : EnvK w)
  (hk : ∀ n, parseV (toL v) = .ok n → ∀ (wz : World) (B : Nat) (a : Option Addr) (k c : Nat), Below w.heap.size w wz → Rdns B wz a k c n → B ≤ wz.heap.size → Calls Tryz.prog 33 #[.pointer (some ⟨g, 0, none⟩), .agg #[.slice a k c]] wz (KeyPost (nkeyV S n) wz)) :
  Calls Tryz.prog 122 #[.pointer (some ⟨g, 0, none⟩), .string v] w fun e w' => e = .returned (ret2 (rdK S (toL v))) ∧ Below w.heap.size w w' := by
 have hp := nparse_any v w hE.v
 unfold ParsePost at hp
 have HK := Zh hk
 clear hk h hE
 cases hv : parseV (toL v) with
 | error f =>
  have hr := rdK_err (S := S) hv
  have hp2 := hp.mono (R' := fun e w' => (∃ fb, e = .returned (.tuple #[.agg #[.slice none 0 0], .iface 123 (.pointer (some ⟨fb, 0, none⟩))])) ∧ Below w.heap.size w w') fun e w' h => ⟨by obtain ⟨fb, h1, _⟩ := h.2.2 f hv; exact ⟨fb, h1⟩, h.1⟩
  have HP := Zh hp2
  have HR := Zh hr
  clear hp hp2 hr hv HK
  go_enter Tryz.func122, Tryz.ntmps122
  go_wp2_with (go_at_call 31; (with_reducible refine HP.out.mono ?_); rintro e w1 ⟨⟨fb, rfl⟩, hb1⟩; have HB := Zh hb1; clear hb1)
  go_ret2
  exact ⟨by rw [HR.out]; rfl, HB.out.alloc HB.out.size _⟩
 | ok n =>
  have hr := rdK_ok (S := S) hv
  have hp2 := hp.mono (R' := fun e w' => (∃ na k c, e = .returned (.tuple #[.agg #[.slice na k c], .nilIface]) ∧ NewName w w' na k c n) ∧ Below w.heap.size w w') fun e w' h => ⟨h.2.1 n hv, h.1⟩
  have HP := Zh hp2
  have HR := Zh hr
  have HV := Zh hv
  clear hp hp2 hr hv
  go_enter Tryz.func122, Tryz.ntmps122
  obtain ⟨K, hK⟩ : ∃ K, nkeyV S n = K := ⟨_, rfl⟩
  rw [hK] at HR
  have HKE := Zh hK
  clear hK
  obtain ⟨ks, ke⟩ := K
  go_wp2_with (first
   | (go_at_call 31; (with_reducible refine HP.out.mono ?_); rintro e w1 ⟨⟨na, k, c, rfl, hn⟩, hb1⟩; have HB := Zh (Zi hb1 hn); clear hb1 hn)
   | (go_at_call 33; have hcall := HK.out n HV.out _ _ _ _ _ (HB.out.1.alloc HB.out.1.size (.cells #[.slice na k c] 53)) (HB.out.2.rdns.1.keep ((Zl _ _).alloc (Zr _) _) (Zr _)) (by simp); rw [HKE.out] at hcall; unfold KeyPost at hcall; (with_reducible refine hcall.mono ?_); rintro e w2 ⟨rfl, hb2⟩; have HB2 := Zh hb2; clear hb2 hcall))
  go_ret2
  exact ⟨by rw [HR.out]; rfl, (HB.out.1.alloc HB.out.1.size _).trans (HB2.out.mono (HB.out.1.alloc HB.out.1.size _).size)⟩
theorem read_at (S : PSchema) (g : Nat) : ∀ (L : Nat) (v : ByteArray) (w : World), v.size < L → Sch w g S → EnvK w → Calls Tryz.prog 122 #[.pointer (some ⟨g, 0, none⟩), .string v] w fun e w' => e = .returned (ret2 (rdK S (toL v))) ∧ Below w.heap.size w w'
 | 0, _, _, h, _, _ => by omega
 | L + 1, v, w, hL, h, hE => reads_end g v w h hE fun n hn wz B a k c hb hl hB =>
  nkey_any0 S g B a k c n wz (h.keep hb) (hE.next hb) hl hB fun r hr x hx wy u hby hu => by
   have h1 := (parse_short hn r hr x hx).2
   have h2 : (toL v).length = v.size := Lib.size_eq v
   have h3 : (toL u).length = u.size := Lib.size_eq u
   have h4 : (toL x.2).length = x.2.size := Lib.size_eq x.2
   rw [← hu]
   exact read_at S g L u wy (by rw [hu] at h3; omega) ((h.keep hb).keep hby) ((hE.next hb).next hby)
theorem nread_any (S : PSchema) (g : Nat) (v : ByteArray) (w : World) (h : Sch w g S) (hE : EnvK w) : Calls Tryz.prog 122 #[.pointer (some ⟨g, 0, none⟩), .string v] w fun e w' => e = .returned (ret2 (rdK S (toL v))) ∧ Below w.heap.size w w' :=
 read_at S g (v.size + 1) v w (Nat.lt_succ_self _) h hE
theorem readAt_any {S : PSchema} {g : Nat} {w : World} (h : Sch w g S) (hE : EnvK w) (u : Str) : ReadAt S g w u := fun wz v hb hu => by
 subst hu
 exact nread_any S g v wz (h.keep hb) (hE.next hb)
theorem nkey_any (S : PSchema) (g B : Nat) (a : Option Addr) (n c : Nat) (l : PName) (w : World) (h : Sch w g S) (hE : EnvK w) (hl : Rdns B w a n c l) (hB : B ≤ w.heap.size) :
  Calls Tryz.prog 33 #[.pointer (some ⟨g, 0, none⟩), .agg #[.slice a n c]] w (KeyPost (nkeyV S l) w) :=
 nkey_any0 S g B a n c l w h hE hl hB fun _ _ _ _ => readAt_any h hE _
end Go.Proofs.YtlmfbjhokkpjhaaGreatDoor
namespace Go.Proofs.YtlmfbjhokkpjhaaGreatDoor
open Go Go.RowKit
theorem box1 (w : World) (x : Array Value) (t : TypeId) : Below w.heap.size w (w.alloc (.cells x t)) ∧ ∀ j, (w.alloc (.cells x t)).cell? ⟨w.heap.size, j, none⟩ = x[j]? := ⟨(Zl _ w).alloc (Zr _) _, fun j => by rw [World.cell?_alloc_new]⟩
theorem boxes2 (w : World) (x y : Array Value) (t u : TypeId) : Below w.heap.size w ((w.alloc (.cells x t)).alloc (.cells y u)) ∧ (∀ j, ((w.alloc (.cells x t)).alloc (.cells y u)).cell? ⟨w.heap.size, j, none⟩ = x[j]?) ∧ ∀ j, ((w.alloc (.cells x t)).alloc (.cells y u)).cell? ⟨w.heap.size + 1, j, none⟩ = y[j]? := by
 refine ⟨((Zl _ w).alloc (Zr _) _).alloc (by simp) _, fun j => ?_, fun j => ?_⟩
 ·have h : ((w.alloc (.cells x t)).alloc (.cells y u)).heap[w.heap.size]? = some (.cells x t) := by
   rw [Below.heap_alloc _ _ _ (by simp)]; exact heap_alloc_new w _
  rw [Lib.cell_of_heap h]
 ·have h := heap_alloc_new (w.alloc (.cells x t)) (.cells y u)
  rw [World.size_alloc] at h
  rw [Lib.cell_of_heap h]
set_option maxRecDepth 20000 in
set_option maxHeartbeats 8000000 in
theorem same6_eq (B B2 : Nat) (a a2 : Option Addr) (n n2 c c2 : Nat) (l : PName) (w : World) (h1 : Rdns B w a n c l) (h2 : Rdns B2 w a2 n2 c2 l) (hB : B ≤ w.heap.size) (hB2 : B2 ≤ w.heap.size) :
  Calls Tryz.prog 32 #[.agg #[.slice a n c], .agg #[.slice a2 n2 c2]] w fun e w' => e = .returned (.bool true) ∧ Below w.heap.size w w' := by
 obtain rfl : n2 = n := h2.len.trans h1.len.symm
 have HN := Zh h1.len
 have hsm := h1.small
 obtain ⟨hb, x0, x1⟩ := boxes2 w #[.slice a n2 c] #[.slice a2 n2 c2] 53 53
 have y0 := x0 0; have y1 := x1 0
 clear x0 x1
 have k1 := h1.keep (hb.mono hB) (Nat.le_trans hB hb.size)
 have k2 := h2.keep (hb.mono hB2) (Nat.le_trans hB2 hb.size)
 clear h1 h2
 go_enter Tryz.func32, Tryz.ntmps32
 go_upto_region 1 with fail
 generalize (w.alloc (.cells #[.slice a n2 c] 53)).alloc (.cells #[.slice a2 n2 c2] 53) = w1 at hb y0 y1 k1 k2 ⊢
 have y0' : w1.cell? ⟨w.heap.size, 0, none⟩ = some (.slice a n2 c) := y0
 have y1' : w1.cell? ⟨w.heap.size + 1, 0, none⟩ = some (.slice a2 n2 c2) := y1
 clear y0 y1
 have hat : ∀ wr, Below w1.heap.size w1 wr → wr.cell? ⟨w.heap.size, 0, none⟩ = some (.slice a n2 c) ∧ wr.cell? ⟨w.heap.size + 1, 0, none⟩ = some (.slice a2 n2 c2) := fun wr hk => ⟨(hk.cell (Zb _ _ y0')).trans y0', (hk.cell (Zb _ _ y1')).trans y1'⟩
 have hrow : ∀ i, i < n2 → ∃ b1 o1 b2 o2 r m1 cc1 m2 cc2, a = some ⟨b1, o1, none⟩ ∧ a2 = some ⟨b2, o2, none⟩ ∧ w1.cell? ⟨b1, o1 + i, none⟩ = some (.slice m1 r.length cc1) ∧ w1.cell? ⟨b2, o2 + i, none⟩ = some (.slice m2 r.length cc2) ∧ Avas w1.heap.size w1 m1 r.length cc1 r ∧ Avas w1.heap.size w1 m2 r.length cc2 r := fun i hi => by
  obtain ⟨b1, o1, rfl, _⟩ := k1.lies.ptr (by omega)
  obtain ⟨b2, o2, rfl, _⟩ := k2.lies.ptr (by omega)
  obtain ⟨r, hr⟩ : ∃ r, l[i]? = some r := ⟨_, List.getElem?_eq_getElem (by have := HN.out; omega)⟩
  obtain ⟨m1, z1, cc1, e1, v1⟩ := k1.cell b1 o1 rfl i r hr
  obtain ⟨m2, z2, cc2, e2, v2⟩ := k2.cell b2 o2 rfl i r hr
  have := v1.len; have := v2.len
  subst z1 z2
  exact ⟨b1, o1, b2, o2, r, m1, cc1, m2, cc2, rfl, rfl, e1, e2, v1, v2⟩
 have HAT := Zh hat; have HROW := Zh hrow; have HB := Zh hb
 obtain ⟨x, hx⟩ : ∃ x, x = w.heap.size := ⟨_, rfl⟩
 rw [← hx] at HAT
 rw [← hx]
 clear hat hrow hb y0' y1' k1 k2 hx
 have z0 := (HAT.out w1 (Zl _ _)).1
 have z1 := (HAT.out w1 (Zl _ _)).2
 go_wp2_with fail
 clear z0 z1
 go_loopw [5] (fun iv wr => ∃ i : Nat, iv = .int .i64 (i : Nat) ∧ i ≤ n2 ∧ Below w1.heap.size w1 wr) (fun iv _ => n2 - (intOf iv).toNat)
 case atStart => exact ⟨0, rfl, Nat.zero_le _, Zl _ _⟩
 case round =>
  obtain ⟨i, rfl, hin, hbl⟩ := hrel
  obtain ⟨z0, z1⟩ := HAT.out wr hbl
  have HBL := Zh hbl; clear hbl
  by_cases hi : i < n2
  ·have i2 : (i : Int) < (n2 : Int) := by omega
   have i3 : (0 : Int) ≤ (i : Int) := by omega
   obtain ⟨b1, o1, b2, o2, r, m1, cc1, m2, cc2, rfl, rfl, e1, e2, v1, v2⟩ := HROW.out i hi
   have q1 := (HBL.out.cell (Zb _ _ e1)).trans e1
   have q2 := (HBL.out.cell (Zb _ _ e2)).trans e2
   have hrs := v1.small
   obtain ⟨m, hm⟩ : ∃ m, m = r.length := ⟨_, rfl⟩
   rw [← hm] at q1 q2 e1 e2 v1 v2 hrs
   have HV := Zh (Zi e1 (Zi e2 (Zi v1 (Zi v2 hm))))
   clear e1 e2 v1 v2 hm
   go_wp2_with fail
   go_quiet (fail)
   go_wp2_with fail
   clear z0 z1 q1 q2
   go_loopw [6] (fun kv wx => ∃ k : Nat, kv = .int .i64 (k : Nat) ∧ k ≤ m ∧ Below w1.heap.size w1 wx) (fun kv _ => m - (intOf kv).toNat)
   case atStart => exact ⟨0, rfl, Nat.zero_le _, bdrewN HBL.out _⟩
   case round =>
    obtain ⟨k, rfl, hkm, hbx⟩ := hrel
    obtain ⟨z0, z1⟩ := HAT.out wr hbx
    have q1 := (hbx.cell (Zb _ _ HV.out.1)).trans HV.out.1
    have q2 := (hbx.cell (Zb _ _ HV.out.2.1)).trans HV.out.2.1
    have HBX := Zh hbx; clear hbx
    by_cases hk : k < m
    ·have k2 : (k : Int) < (m : Int) := by omega
     have k3 : (0 : Int) ≤ (k : Int) := by omega
     obtain ⟨d1, p1, rfl, _⟩ := HV.out.2.2.1.lies.ptr (by omega)
     obtain ⟨d2, p2, rfl, _⟩ := HV.out.2.2.2.1.lies.ptr (by omega)
     obtain ⟨t, ht⟩ : ∃ t, r[k]? = some t := ⟨_, List.getElem?_eq_getElem (by have := HV.out.2.2.2.2; omega)⟩
     obtain ⟨s1, s2⟩ := HV.out.2.2.1.cell d1 p1 rfl k t ht
     obtain ⟨t1, t2⟩ := HV.out.2.2.2.1.cell d2 p2 rfl k t ht
     have s1 := (HBX.out.cell (Zb _ _ s1)).trans s1
     have s2 := (HBX.out.cell (Zb _ _ s2)).trans s2
     have t1 := (HBX.out.cell (Zb _ _ t1)).trans t1
     have t2 := (HBX.out.cell (Zb _ _ t2)).trans t2
     clear ht
     go_wp2_with fail
     go_quiet (fail)
     go_wp2_with fail
     exact ⟨⟨k + 1, by simp, by omega, bdrewN HBX.out _⟩, by simp [intOf]; omega⟩
    ·have k2 : ¬ (k : Int) < (m : Int) := by omega
     go_wp2_with fail
     exact ⟨⟨i + 1, by simp, by omega, HBX.out⟩, by simp [intOf]; omega⟩
  ·have i2 : ¬ (i : Int) < (n2 : Int) := by omega
   go_wp2_with fail
   go_ret
   exact ⟨rfl, HB.out.trans (HBL.out.mono HB.out.size)⟩
end Go.Proofs.YtlmfbjhokkpjhaaGreatDoor
