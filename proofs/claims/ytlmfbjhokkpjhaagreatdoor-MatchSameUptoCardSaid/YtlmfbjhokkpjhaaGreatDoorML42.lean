/- Part 42 of the walks and plain laws, joined: KeyF, KeyG, LawSm. -/
import Derived.Test.YtlmfbjhokkpjhaaGreatDoorML00
import Derived.Test.YtlmfbjhokkpjhaaGreatDoorML41
import Derived.Test.YtlmfbjhokkpjhaaGreatDoorML34
import Derived.Test.YtlmfbjhokkpjhaaGreatDoorML11
import Derived.Test.YtlmfbjhokkpjhaaGreatDoorML10
import Derived.Test.YtlmfbjhokkpjhaaGreatDoorML26
set_option linter.unusedVariables false
set_option linter.unusedSimpArgs false
namespace Go.Proofs.YtlmfbjhokkpjhaaGreatDoor
open Go Go.RowKit
theorem nkeyV_none {S : PSchema} {l : PName} (h : (nkeyV S l).2 ≠ 0) : (nkeyV S l).1 = [] := by
 have hkv : nkeyV S l = if (printV l).2 ≠ 0 then ([], (printV l).2) else if (stepsK (rdK S) S l).1 ≠ 0 then ([], (stepsK (rdK S) S l).1) else ((stepsK (rdK S) S l).2.reverse.flatten, 0) := rfl
 rw [hkv] at h ⊢
 split
 ·rfl
 ·rename_i h1
  rw [if_neg h1] at h
  split
  ·rfl
  ·rename_i h2
   rw [if_neg h2] at h
   exact absurd rfl h
theorem rdK_err {S : PSchema} {v : Str} {f : PFault} (h : parseV v = .error f) : rdK S v = ([], false) := by rw [rdK_eq, h]; rfl
theorem rdK_ok {S : PSchema} {v : Str} {n : PName} (h : parseV v = .ok n) : rdK S v = ((nkeyV S n).1, decide ((nkeyV S n).2 = 0)) := by
 rw [rdK_eq, h]
 show (if (nkeyV S n).2 = 0 then ((nkeyV S n).1, true) else ([], false)) = _
 split
 ·rename_i h1; simp [h1]
 ·rename_i h1; rw [nkeyV_none h1]; simp [h1]
theorem reads_end {S : PSchema} (g : Nat) (v : ByteArray) (w : World) (h : Sch w g S) (hE : EnvK w)
  (hk : ∀ n, parseV (toL v) = .ok n → ∀ (wz : World) (B : Nat) (a : Option Addr) (k c : Nat), Below w.heap.size w wz → Rdns B wz a k c n → B ≤ wz.heap.size → Calls Tryz.prog 33 #[.pointer (some ⟨g, 0, none⟩), .agg #[.slice a k c]] wz (KeyPost (nkeyV S n) wz)) :
  Calls Tryz.prog 122 #[.pointer (some ⟨g, 0, none⟩), .string v] w fun e w' => e = .returned (ret2 (rdK S (toL v))) ∧ Below w.heap.size w w' := by
 have hp := nparse_any v w hE.v
 unfold ParsePost at hp
 have HK := Zh hk
 clear hk h hE
 cases hv : parseV (toL v) with
 | error f =>
  have hr := rdK_err (S := S) hv
  have hp2 := hp.mono (R' := fun e w' => (∃ fb, e = .returned (.tuple #[.agg #[.slice none 0 0], .iface 123 (.pointer (some ⟨fb, 0, none⟩))])) ∧ Below w.heap.size w w') fun e w' h => ⟨by obtain ⟨fb, h1, _⟩ := h.2.2 f hv; exact ⟨fb, h1⟩, h.1⟩
  have HP := Zh hp2
  have HR := Zh hr
  clear hp hp2 hr hv HK
  go_enter Tryz.func122, Tryz.ntmps122
  go_wp2_with (go_at_call 31; (with_reducible refine HP.out.mono ?_); rintro e w1 ⟨⟨fb, rfl⟩, hb1⟩; have HB := Zh hb1; clear hb1)
  go_ret2
  exact ⟨by rw [HR.out]; rfl, HB.out.alloc HB.out.size _⟩
 | ok n =>
  have hr := rdK_ok (S := S) hv
  have hp2 := hp.mono (R' := fun e w' => (∃ na k c, e = .returned (.tuple #[.agg #[.slice na k c], .nilIface]) ∧ NewName w w' na k c n) ∧ Below w.heap.size w w') fun e w' h => ⟨h.2.1 n hv, h.1⟩
  have HP := Zh hp2
  have HR := Zh hr
  have HV := Zh hv
  clear hp hp2 hr hv
  go_enter Tryz.func122, Tryz.ntmps122
  obtain ⟨K, hK⟩ : ∃ K, nkeyV S n = K := ⟨_, rfl⟩
  rw [hK] at HR
  have HKE := Zh hK
  clear hK
  obtain ⟨ks, ke⟩ := K
  go_wp2_with (first
   | (go_at_call 31; (with_reducible refine HP.out.mono ?_); rintro e w1 ⟨⟨na, k, c, rfl, hn⟩, hb1⟩; have HB := Zh (Zi hb1 hn); clear hb1 hn)
   | (go_at_call 33; have hcall := HK.out n HV.out _ _ _ _ _ (HB.out.1.alloc HB.out.1.size (.cells #[.slice na k c] 53)) (HB.out.2.rdns.1.keep ((Zl _ _).alloc (Zr _) _) (Zr _)) (by simp); rw [HKE.out] at hcall; unfold KeyPost at hcall; (with_reducible refine hcall.mono ?_); rintro e w2 ⟨rfl, hb2⟩; have HB2 := Zh hb2; clear hb2 hcall))
  go_ret2
  exact ⟨by rw [HR.out]; rfl, (HB.out.1.alloc HB.out.1.size _).trans (HB2.out.mono (HB.out.1.alloc HB.out.1.size _).size)⟩
theorem read_at (S : PSchema) (g : Nat) : ∀ (L : Nat) (v : ByteArray) (w : World), v.size < L → Sch w g S → EnvK w → Calls Tryz.prog 122 #[.pointer (some ⟨g, 0, none⟩), .string v] w fun e w' => e = .returned (ret2 (rdK S (toL v))) ∧ Below w.heap.size w w'
 | 0, _, _, h, _, _ => by omega
 | L + 1, v, w, hL, h, hE => reads_end g v w h hE fun n hn wz B a k c hb hl hB =>
  nkey_any0 S g B a k c n wz (h.keep hb) (hE.next hb) hl hB fun r hr x hx wy u hby hu => by
   have h1 := (parse_short hn r hr x hx).2
   have h2 : (toL v).length = v.size := Lib.size_eq v
   have h3 : (toL u).length = u.size := Lib.size_eq u
   have h4 : (toL x.2).length = x.2.size := Lib.size_eq x.2
   rw [← hu]
   exact read_at S g L u wy (by rw [hu] at h3; omega) ((h.keep hb).keep hby) ((hE.next hb).next hby)
theorem nread_any (S : PSchema) (g : Nat) (v : ByteArray) (w : World) (h : Sch w g S) (hE : EnvK w) : Calls Tryz.prog 122 #[.pointer (some ⟨g, 0, none⟩), .string v] w fun e w' => e = .returned (ret2 (rdK S (toL v))) ∧ Below w.heap.size w w' :=
 read_at S g (v.size + 1) v w (Nat.lt_succ_self _) h hE
theorem readAt_any {S : PSchema} {g : Nat} {w : World} (h : Sch w g S) (hE : EnvK w) (u : Str) : ReadAt S g w u := fun wz v hb hu => by
 subst hu
 exact nread_any S g v wz (h.keep hb) (hE.next hb)
theorem nkey_any (S : PSchema) (g B : Nat) (a : Option Addr) (n c : Nat) (l : PName) (w : World) (h : Sch w g S) (hE : EnvK w) (hl : Rdns B w a n c l) (hB : B ≤ w.heap.size) :
  Calls Tryz.prog 33 #[.pointer (some ⟨g, 0, none⟩), .agg #[.slice a n c]] w (KeyPost (nkeyV S l) w) :=
 nkey_any0 S g B a n c l w h hE hl hB fun _ _ _ _ => readAt_any h hE _
end Go.Proofs.YtlmfbjhokkpjhaaGreatDoor
namespace Go.Proofs.YtlmfbjhokkpjhaaGreatDoor
open Go Go.RowKit
theorem mkey19 (S : PSchema) (g : Nat) (v : ByteArray) (w : World) (h : Sch w g S) (hE : EnvK w) (hEM : EnvM w) :
  Calls Tryz.prog 11 #[.pointer (some ⟨g, 0, none⟩), .int .i8 19, .string v] w fun e w' => e = .returned (ret2 (rdK S (toL v))) ∧ Below w.heap.size w w' := by
 have hso := sortOf_any 19 w hEM ⟨by omega, by omega⟩
 rw [show sortV 19 = 1 from by decide] at hso
 have hp := nparse_any v w hE.v
 unfold ParsePost at hp
 have HSO := Zh hso
 have HS := Zh (Zi h hE)
 clear h hE hEM hso
 cases hv : parseV (toL v) with
 | error f =>
  have hr := rdK_err (S := S) hv
  have hp2 := hp.mono (R' := fun e w' => (∃ fb, e = .returned (.tuple #[.agg #[.slice none 0 0], .iface 123 (.pointer (some ⟨fb, 0, none⟩))])) ∧ Below w.heap.size w w') fun e w' h => ⟨by obtain ⟨fb, h1, _⟩ := h.2.2 f hv; exact ⟨fb, h1⟩, h.1⟩
  have HP := Zh hp2
  have HR := Zh hr
  clear hp hp2 hr hv
  go_enter Tryz.func11, Tryz.ntmps11
  go_wp2_with (first
   | (go_at_call 51; (with_reducible refine HSO.out.mono ?_); rintro e w0 ⟨rfl, rfl⟩)
   | (go_at_call 31; (with_reducible refine HP.out.mono ?_); rintro e w1 ⟨⟨fb, rfl⟩, hb1⟩; have HB := Zh hb1; clear hb1))
  go_ret2
  exact ⟨by rw [HR.out]; rfl, HB.out.alloc HB.out.size _⟩
 | ok n =>
  have hr := rdK_ok (S := S) hv
  have hp2 := hp.mono (R' := fun e w' => (∃ na k c, e = .returned (.tuple #[.agg #[.slice na k c], .nilIface]) ∧ NewName w w' na k c n) ∧ Below w.heap.size w w') fun e w' h => ⟨h.2.1 n hv, h.1⟩
  have HP := Zh hp2
  have HR := Zh hr
  clear hp hp2 hr hv
  obtain ⟨K, hK⟩ : ∃ K, nkeyV S n = K := ⟨_, rfl⟩
  have hno := nkeyV_none (S := S) (l := n)
  rw [hK] at HR hno
  have HKE := Zh hK
  clear hK
  obtain ⟨ks, ke⟩ := K
  have HNO := Zh hno
  clear hno
  by_cases k0 : ke = 0
  ·subst k0
   go_enter Tryz.func11, Tryz.ntmps11
   go_wp2_with (first
    | (go_at_call 51; (with_reducible refine HSO.out.mono ?_); rintro e w0 ⟨rfl, rfl⟩)
    | (go_at_call 31; (with_reducible refine HP.out.mono ?_); rintro e w1 ⟨⟨na, k, c, rfl, hn⟩, hb1⟩; have HB := Zh (Zi hb1 hn); clear hb1 hn)
    | (go_at_call 33; have hcall := nkey_any S g _ _ _ _ _ _ ((HS.out.1.keep HB.out.1).keep ((Zl _ _).alloc (Zr _) (.cells #[.slice na k c] 53))) ((HS.out.2.next HB.out.1).next ((Zl _ _).alloc (Zr _) (.cells #[.slice na k c] 53))) (HB.out.2.rdns.1.keep ((Zl _ _).alloc (Zr _) _) (Zr _)) (by simp); rw [HKE.out] at hcall; unfold KeyPost at hcall; (with_reducible refine hcall.mono ?_); rintro e w2 ⟨rfl, hb2⟩; have HB2 := Zh hb2; clear hb2 hcall))
   go_ret2
   exact ⟨by rw [HR.out]; rfl, (HB.out.1.alloc HB.out.1.size _).trans (HB2.out.mono (HB.out.1.alloc HB.out.1.size _).size)⟩
  ·have n0 : (ke != 0) = true := by simp [k0]
   have hr3 : rdK S (toL v) = ([], false) := by
    rw [HR.out]
    have := HNO.out k0
    simp only at this
    simp [this, k0]
   have HR3 := Zh hr3
   clear hr3 k0
   go_enter Tryz.func11, Tryz.ntmps11
   go_wp2_with (first
    | (go_at_call 51; (with_reducible refine HSO.out.mono ?_); rintro e w0 ⟨rfl, rfl⟩)
    | (go_at_call 31; (with_reducible refine HP.out.mono ?_); rintro e w1 ⟨⟨na, k, c, rfl, hn⟩, hb1⟩; have HB := Zh (Zi hb1 hn); clear hb1 hn)
    | (go_at_call 33; have hcall := nkey_any S g _ _ _ _ _ _ ((HS.out.1.keep HB.out.1).keep ((Zl _ _).alloc (Zr _) (.cells #[.slice na k c] 53))) ((HS.out.2.next HB.out.1).next ((Zl _ _).alloc (Zr _) (.cells #[.slice na k c] 53))) (HB.out.2.rdns.1.keep ((Zl _ _).alloc (Zr _) _) (Zr _)) (by simp); rw [HKE.out] at hcall; unfold KeyPost at hcall; (with_reducible refine hcall.mono ?_); rintro e w2 ⟨rfl, hb2⟩; have HB2 := Zh hb2; clear hb2 hcall))
   go_ret2
   exact ⟨by rw [HR3.out]; rfl, (HB.out.1.alloc HB.out.1.size _).trans (HB2.out.mono (HB.out.1.alloc HB.out.1.size _).size)⟩
def oidM (S : PSchema) (v : Str) : Str × Bool :=
 if (keyL 8 v).2 = false then ([], false) else match typeAt S (keyL 8 v).1 with
  | some t => keyL 8 (toL (fullT S t).oid)
  | none => match classAt S (keyL 8 v).1 with
   | some c => keyL 8 (toL (clAt S c).oid)
   | none => ((keyL 8 v).1, true)
set_option maxRecDepth 20000 in
set_option maxHeartbeats 1000000 in
theorem mkey20 (S : PSchema) (g : Nat) (v : ByteArray) (w : World) (h : Sch w g S) (hE : Env w) (hEM : EnvM w) :
  Calls Tryz.prog 11 #[.pointer (some ⟨g, 0, none⟩), .int .i8 20, .string v] w fun e w' => e = .returned (ret2 (oidM S (toL v))) ∧ Below w.heap.size w w' := by
 have hso := sortOf_any 20 w hEM ⟨by omega, by omega⟩
 rw [show sortV 20 = 1 from by decide] at hso
 have HSO := Zh hso
 clear hso hEM
 have hkey := key_any 8 v w hE
 change Calls Tryz.prog 52 #[.int .i8 8, .string v] w fun e w'' => e = .returned (ret2 (keyL 8 (toL v))) ∧ Below w.heap.size w w'' at hkey
 have hlen := key_len 8 (toL v)
 have hkey2 : ∀ (u : ByteArray) w1, Below w.heap.size w w1 → Calls Tryz.prog 52 #[.int .i8 8, .string u] w1 fun e w'' => e = .returned (ret2 (keyL 8 (toL u))) ∧ Below w1.heap.size w1 w'' := fun u w1 hb => key_any 8 u w1 (hE.next hb)
 have hoid : oidM S (toL v) = if (keyL 8 (toL v)).2 = false then ([], false) else match typeAt S (keyL 8 (toL v)).1 with
  | some t => keyL 8 (toL (fullT S t).oid)
  | none => match classAt S (keyL 8 (toL v)).1 with
   | some c => keyL 8 (toL (clAt S c).oid)
   | none => ((keyL 8 (toL v)).1, true) := rfl
 generalize keyL 8 (toL v) = K at hkey hlen hoid
 obtain ⟨k, ok⟩ := K
 rw [hoid]
 cases ok with
 | false =>
  have HK := Zh hkey
  clear hkey hkey2 hoid hlen
  go_enter Tryz.func11, Tryz.ntmps11
  go_wp2_with (first
   | (go_at_call 51; (with_reducible refine HSO.out.mono ?_); rintro e w0 ⟨rfl, rfl⟩)
   | (go_at_call 52; (with_reducible refine HK.out.mono ?_); rintro e w1 ⟨rfl, hb1⟩; have HB1 := Zh hb1; clear hb1; unfold ret2))
  go_ret2
  exact ⟨rfl, HB1.out⟩
 | true =>
  rw [if_neg (by simp)]
  simp only at hlen ⊢
  have hks : (⟨k.toArray⟩ : ByteArray).size ≤ 140737488355328 := by
   have : (⟨k.toArray⟩ : ByteArray).size = k.length := rfl
   omega
  have htk : toL (⟨k.toArray⟩ : ByteArray) = k := rfl
  have hty := fun w1 (hb : Below w.heap.size w w1) => type_any S g ⟨k.toArray⟩ w1 (h.keep hb) hks
  have hcl := fun w1 (hb : Below w.heap.size w w1) => class_any S g ⟨k.toArray⟩ w1 (h.keep hb) hks
  rw [htk] at hty hcl
  have hcp := fun c => classAt_lt (S := S) (n := k) (t := c)
  have htp := fun t => typeI_at (S := S) (n := k) (t := t)
  have HK := Zh hkey
  clear hkey hoid hks htk hlen
  cases ht : typeAt S k with
  | some t =>
   rw [ht] at hty
   have hfu := fun w1 (hb : Below w.heap.size w w1) => full_any S g (t : Int) w1 (h.keep hb)
   rw [htp t ht] at hfu
   unfold FullPost tyAgg at hfu
   have hko := hkey2 (fullT S t).oid
   simp only
   generalize keyL 8 (toL (fullT S t).oid) = K2 at hko ⊢
   obtain ⟨k2, ok2⟩ := K2
   have HTY := Zh hty
   have HFU := Zh hfu
   have HKO := Zh hko
   clear hty hfu hcl ht htp hcp hkey2 hko
   have t0 : (0 : Int) ≤ (t : Int) := by omega
   go_enter Tryz.func11, Tryz.ntmps11
   go_wp2_with (first
    | (go_at_call 51; (with_reducible refine HSO.out.mono ?_); rintro e w0 ⟨rfl, rfl⟩)
    | (go_at_call 52; (with_reducible refine HK.out.mono ?_); rintro e w1 ⟨rfl, hb1⟩; have HB1 := Zh hb1; clear hb1; unfold ret2)
    | (go_at_call 35; (with_reducible refine (HTY.out _ HB1.out).mono ?_); rintro e w2 ⟨rfl, hb2⟩; have HB2 := Zh (HB1.out.trans (hb2.mono HB1.out.size)); clear hb2; unfold placeI)
    | (go_at_call 22; (with_reducible refine (HFU.out _ HB2.out).mono ?_); rintro e w3 ⟨hb3, a3, n3, c3, rfl, _⟩; have hfd := field_type0 (fullT S t) (.slice a3 n3 c3) w3; have HB3 := Zh (HB2.out.trans (hb3.mono HB2.out.size)); clear hb3)
    | (go_at_call 52; (with_reducible refine (HKO.out _ HB3.out).mono ?_); rintro e w4 ⟨rfl, hb4⟩; have HB4 := Zh (HB3.out.trans (hb4.mono HB3.out.size)); clear hb4; unfold ret2)
    | fail)
   go_ret2
   exact ⟨rfl, HB4.out⟩
  | none =>
   simp only
   rw [ht] at hty
   have HTY := Zh hty
   clear hty ht htp
   cases hc : classAt S k with
   | none =>
    rw [hc] at hcl
    have HCL := Zh hcl
    clear hcl hc hcp hkey2
    go_enter Tryz.func11, Tryz.ntmps11
    go_wp2_with (first
     | (go_at_call 51; (with_reducible refine HSO.out.mono ?_); rintro e w0 ⟨rfl, rfl⟩)
     | (go_at_call 52; (with_reducible refine HK.out.mono ?_); rintro e w1 ⟨rfl, hb1⟩; have HB1 := Zh hb1; clear hb1; unfold ret2)
     | (go_at_call 35; (with_reducible refine (HTY.out _ HB1.out).mono ?_); rintro e w2 ⟨rfl, hb2⟩; have HB2 := Zh (HB1.out.trans (hb2.mono HB1.out.size)); clear hb2; unfold placeI)
     | (go_at_call 53; (with_reducible refine (HCL.out _ HB2.out).mono ?_); rintro e w3 ⟨rfl, hb3⟩; have HB3 := Zh (HB2.out.trans (hb3.mono HB2.out.size)); clear hb3; unfold placeI)
     | fail)
    go_ret2
    exact ⟨rfl, HB3.out⟩
   | some c =>
    rw [hc] at hcl
    have hcl2 := hcp c hc
    have hpl := fun w1 (hb : Below w.heap.size w w1) => plain_any S g w1 (h.keep hb)
    obtain ⟨x, hx⟩ : ∃ x, S.classes[c]? = some x := ⟨_, List.getElem?_eq_getElem hcl2⟩
    have hxa : clAt S c = x := by unfold clAt; rw [List.getD_eq_getElem?_getD, hx]; rfl
    simp only
    rw [hxa]
    have hs2 := h.small.2
    obtain ⟨N, hN⟩ : ∃ N, S.classes.length = N := ⟨_, rfl⟩
    rw [hN] at hcl2 hs2
    have hpl2 : ∀ w1, Below w.heap.size w w1 → Calls Tryz.prog 54 #[.pointer (some ⟨g, 0, none⟩)] w1 fun e w' => ∃ a n c1 b o c2, e = .returned (.agg #[.slice a n c1, .slice (some ⟨b, o, none⟩) N c2]) ∧ w'.cell? ⟨b, o + c * 6, none⟩ = some (.string x.oid) ∧ Below w1.heap.size w1 w' := fun w1 hb => (hpl w1 hb).mono fun e w' ⟨a, c1, a2, c2, h1, h2, h3, h4⟩ => by
     rw [hN] at h1 h3
     cases a2 with
     | none => have e1 := h3.lies.nil rfl; have e2 := h3.lies.le; omega
     | some ad =>
      have := h3.top ad rfl
      obtain ⟨b, o, sp⟩ := ad
      simp only at this
      subst this
      exact ⟨a, _, c1, b, o, c2, h1, (h3.cell b o rfl c x hx).c0, h4⟩
    have hko := hkey2 x.oid
    generalize keyL 8 (toL x.oid) = K2 at hko ⊢
    obtain ⟨k2, ok2⟩ := K2
    have HCL := Zh hcl
    have HPL := Zh hpl2
    have HKO := Zh hko
    clear hcl hc hcp hpl hpl2 hx hxa hN hko hkey2
    have t0 : (0 : Int) ≤ (c : Int) := by omega
    have t1 : (c : Int) < (N : Int) := by omega
    go_enter Tryz.func11, Tryz.ntmps11
    go_wp2_with (first
     | (go_at_call 51; (with_reducible refine HSO.out.mono ?_); rintro e w0 ⟨rfl, rfl⟩)
     | (go_at_call 52; (with_reducible refine HK.out.mono ?_); rintro e w1 ⟨rfl, hb1⟩; have HB1 := Zh hb1; clear hb1; unfold ret2)
     | (go_at_call 35; (with_reducible refine (HTY.out _ HB1.out).mono ?_); rintro e w2 ⟨rfl, hb2⟩; have HB2 := Zh (HB1.out.trans (hb2.mono HB1.out.size)); clear hb2; unfold placeI)
     | (go_at_call 53; (with_reducible refine (HCL.out _ HB2.out).mono ?_); rintro e w3 ⟨rfl, hb3⟩; have HB3 := Zh (HB2.out.trans (hb3.mono HB2.out.size)); clear hb3; unfold placeI)
     | (go_at_call 54; (with_reducible refine (HPL.out _ HB3.out).mono ?_); rintro e w4 ⟨a4, n4, c4, b4, o4, d4, rfl, k4, hb4⟩; have hfd := field_schema1 (.slice a4 n4 c4) (.slice (some ⟨b4, o4, none⟩) N d4) w4; have HB4 := Zh (HB3.out.trans (hb4.mono HB3.out.size)); clear hb4)
     | (go_at_call 52; (with_reducible refine (HKO.out _ HB4.out).mono ?_); rintro e w5 ⟨rfl, hb5⟩; have HB5 := Zh (HB4.out.trans (hb5.mono HB4.out.size)); clear hb5; unfold ret2)
     | fail)
    go_ret2
    exact ⟨rfl, HB5.out⟩
def keyR (S : PSchema) (r : Int) (v : Str) : Str × Bool := if r = 19 then rdK S v else if r = 20 then oidM S v else keyM r v
theorem keyAt_any (S : PSchema) (g : Nat) (r : Int) (w : World) (h : Sch w g S) (hE : EnvK w) (hEM : EnvM w) (hr : -128 ≤ r ∧ r ≤ 127) : KeyAt w (some ⟨g, 0, none⟩) r (keyR S r) := by
 by_cases h19 : r = 19
 ·subst h19
  exact fun w' v hb => mkey19 S g v w' (h.keep hb) (hE.next hb) (hEM.next hb)
 ·by_cases h20 : r = 20
  ·subst h20
   exact fun w' v hb => mkey20 S g v w' (h.keep hb) (hE.e.next hb) (hEM.next hb)
  ·have : keyR S r = keyM r := funext fun v => by unfold keyR; rw [if_neg h19, if_neg h20]
   rw [this]
   exact keyAt_form _ r w hE.e hE.s hEM hr h19 h20
end Go.Proofs.YtlmfbjhokkpjhaaGreatDoor
namespace Go.Proofs.YtlmfbjhokkpjhaaGreatDoor
open Go Go.RowKit Go.Maps
theorem sort3 : ∀ n : Fin 21, (sortV (n.val : Int) = 3 ↔ n.val = 3 ∨ n.val = 6 ∨ n.val = 9 ∨ n.val = 11) := by decide
theorem sort3_iff (r : Int) : sortV r = 3 ↔ r = 3 ∨ r = 6 ∨ r = 9 ∨ r = 11 := by
 by_cases h : 0 ≤ r ∧ r < 21
 ·obtain ⟨n, rfl⟩ : ∃ n : Nat, r = (n : Int) := ⟨r.toNat, by omega⟩
  have := sort3 ⟨n, by omega⟩
  simp only at this
  rw [this]; omega
 ·unfold sortV
  rw [if_neg h]
  constructor
  ·intro e; cases e
  ·intro e; omega
theorem pieces_any (r : Int) (w : World) : Calls Tryz.prog 14 #[.int .i8 r] w fun e w' => e = .returned (.bool (decide (sortV r = 3))) ∧ w = w' := by
 by_cases h : r = 3 ∨ r = 6 ∨ r = 9 ∨ r = 11
 ·rw [decide_eq_true ((sort3_iff r).2 h)]
  rcases h with rfl | rfl | rfl | rfl <;> (
   go_enter Tryz.func14, Tryz.ntmps14
   go_wp2_with fail
   go_ret
   exact ⟨rfl, rfl⟩)
 ·rw [decide_eq_false (fun e => h ((sort3_iff r).1 e))]
  have h1 : (r == 3) = false := beq_eq_false_iff_ne.2 fun e => h (.inl e)
  have h2 : (r == 6) = false := beq_eq_false_iff_ne.2 fun e => h (.inr (.inl e))
  have h3 : (r == 9) = false := beq_eq_false_iff_ne.2 fun e => h (.inr (.inr (.inl e)))
  have h4 : (r == 11) = false := beq_eq_false_iff_ne.2 fun e => h (.inr (.inr (.inr e)))
  clear h
  go_enter Tryz.func14, Tryz.ntmps14
  go_wp2_with fail
  go_ret
  exact ⟨rfl, rfl⟩
theorem truth7_any (b : Bool) (w : World) : Calls Tryz.prog 15 #[.bool b] w fun e w' => e = .returned (.int .i8 (truthV b)) ∧ w = w' := by
 cases b <;> (
  go_enter Tryz.func15, Tryz.ntmps15
  go_wp2_with fail
  go_ret
  exact ⟨rfl, rfl⟩)
theorem beq_sym (a b : Str) : (b == a) = (a == b) := by
 by_cases h : a = b
 ·subst h; rfl
 ·rw [beq_eq_false_iff_ne.2 h, beq_eq_false_iff_ne.2 (Ne.symm h)]
end Go.Proofs.YtlmfbjhokkpjhaaGreatDoor
