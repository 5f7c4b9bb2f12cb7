/- Part 20 of the walks and plain laws, joined: MatLike, NewMade. -/
import Derived.Test.YtifgmnafjihlkaaGreatDoorMX19
import Derived.Test.YtifgmnafjihlkaaGreatDoorMX14
/- match.Like. -/
namespace Go.Proofs.YtifgmnafjihlkaaGreatDoor
open Go Go.RowKit Go.Maps

def likeV (S : PSchema) (t : Int) (K19 Keq : Str → Str × Bool) (value asked : Str) : Int :=
  if hasT S t = false ∨ fitsV S t K19 asked = false then 2
  else if (typeI S t).syn ≠ 0 then askV 1 saysE Keq (typeI S t).eq value asked
  else truthV (((keyL 0 value).2 && (keyL 0 asked).2 && (keyL 0 value).1 == (keyL 0 asked).1) || (soundL asked != [] && soundL value == soundL asked))

theorem like_nil (t : Int) (va vb : ByteArray) (w : World) : Calls Tryz.prog 22 #[.pointer none, .int .i64 t, .string va, .string vb] w fun e w' => e = .returned (.int .i8 2) ∧ Below w.heap.size w w' := by
  have hm := mfull_nil t w
  unfold tyAgg zeroT at hm
  have HM := Lib.hid hm; clear hm
  go_enter Tryz.func22, Tryz.ntmps22
  go_wp2_with (first | (go_at_call 64; with_reducible refine (HM.out).mono ?_; rintro e w1 ⟨rfl, hb1⟩; have HB1 := Lib.hid hb1; clear hb1) | fail)
  go_ret
  exact ⟨rfl, HB1.out.alloc HB1.out.size _⟩

set_option maxRecDepth 20000 in
set_option maxHeartbeats 4000000 in
theorem like_any (S : PSchema) (g : Nat) (t : Int) (K19 Keq : Str → Str × Bool) (va vb : ByteArray) (w : World) (h : Sch w g S) (hE : Env w) (hEM : EnvM w) (hK19 : hasT S t = true → (typeI S t).syn = 7 → KeyAt w (some ⟨g, 0, none⟩) 19 K19)
    (hK : hasT S t = true → (-128 ≤ (typeI S t).eq ∧ (typeI S t).eq ≤ 127) ∧ KeyAt w (some ⟨g, 0, none⟩) (typeI S t).eq Keq) (ha : va.size ≤ 4294967296) (hb : vb.size ≤ 4294967296) :
    Calls Tryz.prog 22 #[.pointer (some ⟨g, 0, none⟩), .int .i64 t, .string va, .string vb] w fun e w' => e = .returned (.int .i8 (likeV S t K19 Keq (toL va) (toL vb))) ∧ Below w.heap.size w w' := by
  have hm := mfull_any S g t w h
  unfold MFullPost at hm
  have hft := fun wq (hq : Below w.heap.size w wq) => fits_any S g t K19 vb wq (h.keep hq) (hE.next hq) (hEM.next hq) (fun a b => (hK19 a b).next hq)
  obtain ⟨fv, hfv⟩ : ∃ fv, likeV S t K19 Keq (toL va) (toL vb) = fv := ⟨_, rfl⟩
  have hfv2 := hfv
  unfold likeV at hfv2
  rw [hfv]
  obtain ⟨ff, hff⟩ : ∃ ff, fitsV S t K19 (toL vb) = ff := ⟨_, rfl⟩
  rw [hff] at hft hfv2
  generalize typeI S t = x at hm hK hfv2
  unfold tyAgg at hm
  cases hh : hasT S t with
  | false =>
    rw [hh, if_pos (.inl rfl)] at hfv2
    rw [hh] at hm
    have HM := Lib.hid hm; have HF := Lib.hid hfv2; clear hm hfv2 hfv hK hh h hft hff hE hEM hK19
    go_enter Tryz.func22, Tryz.ntmps22
    go_wp2_with (first | (go_at_call 64; refine (HM.out).mono ?_; rintro e w1 ⟨hb1, a, n, c, rfl⟩; have HB1 := Lib.hid hb1; clear hb1) | fail)
    go_ret
    exact ⟨by rw [← HF.out]; rfl, HB1.out.alloc HB1.out.size _⟩
  | true =>
    rw [hh] at hm hfv2
    cases ff with
    | false =>
      rw [if_pos (.inr rfl)] at hfv2
      have HM := Lib.hid hm; have HF := Lib.hid hfv2; have HFT := Lib.hid hft; clear hm hfv2 hfv hK hh h hft hff hE hEM hK19
      go_enter Tryz.func22, Tryz.ntmps22
      go_upto_region 2 with (first | (go_at_call 64; refine (HM.out).mono ?_; rintro e w1 ⟨hb1, a, n, c, rfl⟩; have HB1 := Lib.hid hb1; clear hb1) | fail)
      have hx3 : TyBlk (w1.alloc (.cells #[.string x.oid, .slice a n c, .string x.sup, .int .i8 x.syn, .int .i8 x.eq, .int .i8 x.ord, .int .i8 x.part, .bool x.single, .int .u8 x.index] 48)) w1.heap.size x (.slice a n c) := TyBlk.made w1 x (.slice a n c) 48
      have hb3 : Below w.heap.size w (w1.alloc (.cells #[.string x.oid, .slice a n c, .string x.sup, .int .i8 x.syn, .int .i8 x.eq, .int .i8 x.ord, .int .i8 x.part, .bool x.single, .int .u8 x.index] 48)) := HB1.out.alloc HB1.out.size _
      generalize w1.alloc (.cells #[.string x.oid, .slice a n c, .string x.sup, .int .i8 x.syn, .int .i8 x.eq, .int .i8 x.ord, .int .i8 x.part, .bool x.single, .int .u8 x.index] 48) = w3 at hb3 hx3 ⊢
      have HB3 := Lib.hid (And.intro hb3 hx3); clear hb3 hx3
      go_wp2_with (first
        | (go_at_call 16; refine (HFT.out _ HB3.out.1).mono ?_; rintro e w4 ⟨rfl, hb4⟩; have HB4 := Lib.hid (And.intro (bnext HB3.out.1 hb4) (HB3.out.2.keep hb4)); clear hb4)
        | fail)
      go_ret
      exact ⟨by rw [← HF.out]; rfl, HB4.out.1⟩
    | true =>
      rw [if_neg (by simp)] at hfv2
      have hKe := hK hh
      have hask := fun wq (hq : Below w.heap.size w wq) => ask_anyE (some ⟨g, 0, none⟩) x.eq Keq va vb wq (hEM.next hq) hKe.1 (hKe.2.next hq)
      have hka := fun wq (hq : Below w.heap.size w wq) => key_any 0 va wq (hE.next hq)
      have hkb := fun wq (hq : Below w.heap.size w wq) => key_any 0 vb wq (hE.next hq)
      have hsa := fun wq => sound_any va wq ha
      have hsb := fun wq => sound_any vb wq hb
      change ∀ wq (_ : Below w.heap.size w wq), Calls Tryz.prog 60 #[.int .i8 0, .string va] wq fun e w'' => e = .returned (ret2 (keyL 0 (toL va))) ∧ Below wq.heap.size wq w'' at hka
      change ∀ wq (_ : Below w.heap.size w wq), Calls Tryz.prog 60 #[.int .i8 0, .string vb] wq fun e w'' => e = .returned (ret2 (keyL 0 (toL vb))) ∧ Below wq.heap.size wq w'' at hkb
      change ∀ wq, Calls Tryz.prog 74 #[.string va] wq fun e w'' => e = .returned (.string ⟨(soundL (toL va)).toArray⟩) ∧ Below wq.heap.size wq w'' at hsa
      change ∀ wq, Calls Tryz.prog 74 #[.string vb] wq fun e w'' => e = .returned (.string ⟨(soundL (toL vb)).toArray⟩) ∧ Below wq.heap.size wq w'' at hsb
      generalize keyL 0 (toL va) = k at hka hfv2
      generalize keyL 0 (toL vb) = k2 at hkb hfv2
      generalize soundL (toL va) = so at hsa hfv2
      generalize soundL (toL vb) = so2 at hsb hfv2
      obtain ⟨kl, kb⟩ := k
      obtain ⟨ll, lb⟩ := k2
      unfold ret2 at hka hkb
      by_cases h0 : x.syn = 0
      · rw [if_neg (by rw [h0]; simp)] at hfv2
        have H0 := Lib.hid h0
        have HM := Lib.hid hm; have HF := Lib.hid hfv2; have HFT := Lib.hid hft; have HKA := Lib.hid hka; have HKB := Lib.hid hkb; have HSA := Lib.hid hsa; have HSB := Lib.hid hsb; clear hm hfv2 hfv hK hh h hft hff hE hEM hK19 h0 hka hkb hsa hsb hask hKe ha hb
        go_enter Tryz.func22, Tryz.ntmps22
        go_upto_region 2 with (first | (go_at_call 64; refine (HM.out).mono ?_; rintro e w1 ⟨hb1, a, n, c, rfl⟩; have HB1 := Lib.hid hb1; clear hb1) | fail)
        have hx3 : TyBlk (w1.alloc (.cells #[.string x.oid, .slice a n c, .string x.sup, .int .i8 x.syn, .int .i8 x.eq, .int .i8 x.ord, .int .i8 x.part, .bool x.single, .int .u8 x.index] 48)) w1.heap.size x (.slice a n c) := TyBlk.made w1 x (.slice a n c) 48
        have hb3 : Below w.heap.size w (w1.alloc (.cells #[.string x.oid, .slice a n c, .string x.sup, .int .i8 x.syn, .int .i8 x.eq, .int .i8 x.ord, .int .i8 x.part, .bool x.single, .int .u8 x.index] 48)) := HB1.out.alloc HB1.out.size _
        generalize w1.alloc (.cells #[.string x.oid, .slice a n c, .string x.sup, .int .i8 x.syn, .int .i8 x.eq, .int .i8 x.ord, .int .i8 x.part, .bool x.single, .int .u8 x.index] 48) = w3 at hb3 hx3 ⊢
        have HB3 := Lib.hid (And.intro hb3 hx3); clear hb3 hx3
        go_upto_region 4 with (first
          | (go_at_call 16; refine (HFT.out _ HB3.out.1).mono ?_; rintro e w4 ⟨rfl, hb4⟩; have HB4 := Lib.hid (And.intro (bnext HB3.out.1 hb4) (HB3.out.2.keep hb4)); clear hb4)
          | fail)
        have c3 := HB4.out.2.c3
        rw [H0.out] at c3
        by_cases hA : (kb && lb && kl == ll) = true
        · have hk1 : kb = true := by simp at hA; exact hA.1.1
          have hk2 : lb = true := by simp at hA; exact hA.1.2
          have hk3 : kl = ll := by simp at hA; exact hA.2
          subst hk1; subst hk2; subst hk3
          have hfin : fv = truthV true := by rw [← HF.out]; simp
          have HFIN := Lib.hid hfin; clear hfin hA
          go_wp2_with (first
            | (go_at_call 60; (with_reducible refine (HKA.out _ HB4.out.1).mono ?_); rintro e w5 ⟨rfl, hb5⟩; have HB5 := Lib.hid (bnext HB4.out.1 hb5); clear hb5)
            | (go_at_call 60; (with_reducible refine (HKB.out _ HB5.out).mono ?_); rintro e w6 ⟨rfl, hb6⟩; have HB6 := Lib.hid (bnext HB5.out hb6); clear hb6)
            | (go_at_call 74; (with_reducible refine (HSB.out _).mono ?_); rintro e w7 ⟨rfl, hb7⟩; have HB7 := Lib.hid (bnext HB6.out hb7); clear hb7)
            | (go_at_call 74; (with_reducible refine (HSA.out _).mono ?_); rintro e w8 ⟨rfl, hb8⟩; have HB8 := Lib.hid (bnext HB7.out hb8); clear hb8)
            | (go_at_call 75; (with_reducible refine (truth_any _ _).mono ?_); rintro e w9 ⟨rfl, rfl⟩)
            | fail)
          go_ret
          exact ⟨by rw [HFIN.out]; rfl, HB7.out⟩
        · have hA' : (kb && lb && kl == ll) = false := by simpa using hA
          have hfin : fv = truthV (so2 != [] && so == so2) := by rw [← HF.out, hA']; rfl
          clear hA
          have hkk : (kb = false) ∨ (kb = true ∧ lb = false) ∨ (kb = true ∧ lb = true ∧ (kl == ll) = false) := by
            cases kb <;> cases lb <;> simp_all
          clear hA'
          rcases (by cases so2 with | nil => exact .inl rfl | cons b l => exact .inr ⟨by simp, by simp⟩ : so2 = [] ∨ (so2 ≠ [] ∧ (so2 != []) = true)) with rfl | ⟨hs2, hs3⟩
          · have HFIN := Lib.hid (show fv = truthV false by rw [hfin]; rfl); clear hfin
            rcases hkk with rfl | ⟨rfl, rfl⟩ | ⟨rfl, rfl, hne⟩ <;> (
          go_wp2_with (first
            | (go_at_call 60; (with_reducible refine (HKA.out _ HB4.out.1).mono ?_); rintro e w5 ⟨rfl, hb5⟩; have HB5 := Lib.hid (bnext HB4.out.1 hb5); clear hb5)
            | (go_at_call 60; (with_reducible refine (HKB.out _ HB5.out).mono ?_); rintro e w6 ⟨rfl, hb6⟩; have HB6 := Lib.hid (bnext HB5.out hb6); clear hb6)
            | (go_at_call 74; (with_reducible refine (HSB.out _).mono ?_); rintro e w7 ⟨rfl, hb7⟩; have HB7 := Lib.hid (bnext HB6.out hb7); clear hb7)
            | (go_at_call 74; (with_reducible refine (HSA.out _).mono ?_); rintro e w8 ⟨rfl, hb8⟩; have HB8 := Lib.hid (bnext HB7.out hb8); clear hb8)
            | (go_at_call 75; (with_reducible refine (truth_any _ _).mono ?_); rintro e w9 ⟨rfl, rfl⟩)
            | fail)
          go_ret
          exact ⟨by rw [HFIN.out]; rfl, HB7.out⟩)
          · rw [hs3, Bool.true_and] at hfin
            have hnz := nonempty_of ⟨so2.toArray⟩ hs2
            obtain ⟨z1, z2, z3⟩ := hnz
            have he : so2.isEmpty = false := by cases so2 with | nil => exact absurd rfl hs2 | cons => rfl
            have hs2' : ¬ so2 = [] := hs2
            have HFIN := Lib.hid hfin; clear hfin hs2 hs3
            rcases hkk with rfl | ⟨rfl, rfl⟩ | ⟨rfl, rfl, hne⟩ <;> (
          go_wp2_with (first
            | (go_at_call 60; (with_reducible refine (HKA.out _ HB4.out.1).mono ?_); rintro e w5 ⟨rfl, hb5⟩; have HB5 := Lib.hid (bnext HB4.out.1 hb5); clear hb5)
            | (go_at_call 60; (with_reducible refine (HKB.out _ HB5.out).mono ?_); rintro e w6 ⟨rfl, hb6⟩; have HB6 := Lib.hid (bnext HB5.out hb6); clear hb6)
            | (go_at_call 74; (with_reducible refine (HSB.out _).mono ?_); rintro e w7 ⟨rfl, hb7⟩; have HB7 := Lib.hid (bnext HB6.out hb7); clear hb7)
            | (go_at_call 74; (with_reducible refine (HSA.out _).mono ?_); rintro e w8 ⟨rfl, hb8⟩; have HB8 := Lib.hid (bnext HB7.out hb8); clear hb8)
            | (go_at_call 75; (with_reducible refine (truth_any _ _).mono ?_); rintro e w9 ⟨rfl, rfl⟩)
            | fail)
          go_ret
          exact ⟨by rw [HFIN.out]; simp, HB8.out⟩)
      · rw [if_pos h0] at hfv2
        have hb0 : (x.syn != 0) = true := by simpa using h0
        have HM := Lib.hid hm; have HF := Lib.hid hfv2; have HFT := Lib.hid hft; have HASK := Lib.hid hask; clear hm hfv2 hfv hK hh h hft hff hE hEM hK19 h0 hka hkb hsa hsb hask hKe ha hb
        go_enter Tryz.func22, Tryz.ntmps22
        go_upto_region 2 with (first | (go_at_call 64; refine (HM.out).mono ?_; rintro e w1 ⟨hb1, a, n, c, rfl⟩; have HB1 := Lib.hid hb1; clear hb1) | fail)
        have hx3 : TyBlk (w1.alloc (.cells #[.string x.oid, .slice a n c, .string x.sup, .int .i8 x.syn, .int .i8 x.eq, .int .i8 x.ord, .int .i8 x.part, .bool x.single, .int .u8 x.index] 48)) w1.heap.size x (.slice a n c) := TyBlk.made w1 x (.slice a n c) 48
        have hb3 : Below w.heap.size w (w1.alloc (.cells #[.string x.oid, .slice a n c, .string x.sup, .int .i8 x.syn, .int .i8 x.eq, .int .i8 x.ord, .int .i8 x.part, .bool x.single, .int .u8 x.index] 48)) := HB1.out.alloc HB1.out.size _
        generalize w1.alloc (.cells #[.string x.oid, .slice a n c, .string x.sup, .int .i8 x.syn, .int .i8 x.eq, .int .i8 x.ord, .int .i8 x.part, .bool x.single, .int .u8 x.index] 48) = w3 at hb3 hx3 ⊢
        have HB3 := Lib.hid (And.intro hb3 hx3); clear hb3 hx3
        go_upto_region 4 with (first
          | (go_at_call 16; refine (HFT.out _ HB3.out.1).mono ?_; rintro e w4 ⟨rfl, hb4⟩; have HB4 := Lib.hid (And.intro (bnext HB3.out.1 hb4) (HB3.out.2.keep hb4)); clear hb4)
          | fail)
        have c3 := HB4.out.2.c3
        have c4 := HB4.out.2.c4
        go_wp2_with (first | (go_at_call 18; refine (HASK.out _ HB4.out.1).mono ?_; rintro e w5 ⟨rfl, hb5⟩; have HB5 := Lib.hid (bnext HB4.out.1 hb5); clear hb5) | fail)
        go_ret
        exact ⟨by rw [← HF.out]; rfl, HB5.out⟩
end Go.Proofs.YtifgmnafjihlkaaGreatDoor
/- schema.New: the schema under way as it is first laid. -/
namespace Go.Proofs.YtifgmnafjihlkaaGreatDoor
open Go Go.RowKit Go.Maps

/-- the world once the two maps, the schema and the maker are laid -/
def laidN (w2 : World) (a' a2' : Option Addr) (n c' n2 c2' : Nat) : World :=
  (((w2.alloc (.map #[] 0)).alloc (.map #[] 0)).alloc (.cells #[.slice a' n c', .slice a2' n2 c2', .map (some w2.heap.size), .map (some (w2.heap.size + 1)), .slice none 0 0, .slice none 0 0, .slice none 0 0] 129)).alloc (.cells #[.pointer (some ⟨w2.heap.size + 1 + 1, 0, none⟩)] 131)
theorem New0.made (S : PSchema) {w w2 : World} {B : Nat} {a a2 a' a2' : Option Addr} {n c n2 c2 c' c2' : Nat} (hB : B ≤ w.heap.size)
    (h : Types B w a n c S.types) (h2 : Classes B w a2 n2 c2 S.classes)
    (hb2 : Below (w.alloc (.cells #[.slice a n c, .slice a2 n2 c2] 38)).heap.size (w.alloc (.cells #[.slice a n c, .slice a2 n2 c2] 38)) w2)
    (ht : Types w2.heap.size w2 a' n c' S.types) (hc : Classes w2.heap.size w2 a2' n2 c2' S.classes) :
    New0 S w (laidN w2 a' a2' n c' n2 c2') B w.heap.size (w2.heap.size + 1 + 1 + 1) (w2.heap.size + 1 + 1) w2.heap.size (w2.heap.size + 1) a a2 a' a2' n c n2 c2 c' c2' 0 0 (placeOf ((tK S).take 0)) (placeOf ((cK S).take 0)) := by
  have hk : Below w2.heap.size w2 (laidN w2 a' a2' n c' n2 c2') := ((((Below.refl _ w2).alloc (Nat.le_refl _) _).alloc (by simp) _).alloc (by simp; omega) _).alloc (by simp; omega) _
  have hbx : Below w.heap.size w (w.alloc (.cells #[.slice a n c, .slice a2 n2 c2] 38)) := (Below.refl _ w).alloc (Nat.le_refl _) _
  have hw2 : w.heap.size + 1 ≤ w2.heap.size := by have := hb2.size; simpa using this
  have hba : Below w.heap.size w (laidN w2 a' a2' n c' n2 c2') := bnext (bnext hbx hb2) hk
  have hsz : (laidN w2 a' a2' n c' n2 c2').heap.size = w2.heap.size + 4 := by simp [laidN]
  have hs : ∀ j v, (#[.slice a n c, .slice a2 n2 c2] : Array Value)[j]? = some v → (laidN w2 a' a2' n c' n2 c2').cell? ⟨w.heap.size, j, none⟩ = some v := fun j v hv => by
    rw [hk.cell (p := ⟨w.heap.size, j, none⟩) (show w.heap.size < _ by omega), hb2.cell (p := ⟨w.heap.size, j, none⟩) (by simp), World.cell?_alloc_new]; exact hv
  have e1 : (w2.alloc (.map #[] 0)).heap.size = w2.heap.size + 1 := by simp
  have e2 : ((w2.alloc (.map #[] 0)).alloc (.map #[] 0)).heap.size = w2.heap.size + 1 + 1 := by simp
  generalize hcs : (#[.slice a' n c', .slice a2' n2 c2', .map (some w2.heap.size), .map (some (w2.heap.size + 1)), .slice none 0 0, .slice none 0 0, .slice none 0 0] : Array Value) = cs
  have e3 : (((w2.alloc (.map #[] 0)).alloc (.map #[] 0)).alloc (.cells cs 129)).heap.size = w2.heap.size + 1 + 1 + 1 := by simp
  have hg : ∀ j v, cs[j]? = some v → (laidN w2 a' a2' n c' n2 c2').cell? ⟨w2.heap.size + 1 + 1, j, none⟩ = some v := fun j v hv => by
    unfold laidN
    rw [hcs, World.cell?_alloc_lt _ _ _ (by show w2.heap.size + 1 + 1 < _; rw [e3]; omega)]
    have := World.cell?_alloc_new ((w2.alloc (.map #[] 0)).alloc (.map #[] 0)) cs 129 j
    rw [e2] at this
    rw [this]; exact hv
  have hm : (laidN w2 a' a2' n c' n2 c2').cell? ⟨w2.heap.size + 1 + 1 + 1, 0, none⟩ = some (.pointer (some ⟨w2.heap.size + 1 + 1, 0, none⟩)) := by
    unfold laidN
    rw [hcs]
    have := World.cell?_alloc_new (((w2.alloc (.map #[] 0)).alloc (.map #[] 0)).alloc (.cells cs 129)) #[.pointer (some ⟨w2.heap.size + 1 + 1, 0, none⟩)] 131 0
    rw [e3] at this
    rw [this]; rfl
  have hfr : ∀ j, (laidN w2 a' a2' n c' n2 c2').frozen? ⟨w2.heap.size + 1 + 1, j, none⟩ = false := fun j => by
    refine frozen_of_row _ _ j cs 129 ?_
    unfold laidN
    rw [hcs, Below.heap_alloc _ _ _ (by rw [e3]; omega)]
    have := heap_alloc_new ((w2.alloc (.map #[] 0)).alloc (.map #[] 0)) (.cells cs 129)
    rw [e2] at this
    exact this
  subst hcs
  have hmT : MapIs (laidN w2 a' a2' n c' n2 c2') w2.heap.size 0 (fun _ => none) := by
    have h0 := MapIs.made w2
    have h1 := h0.keep ((Below.refl _ (w2.alloc (.map #[] 0))).alloc (Nat.le_refl _) (.map #[] 0)) h0.lt
    have h3 := h1.keep ((((Below.refl _ ((w2.alloc (.map #[] 0)).alloc (.map #[] 0))).alloc (Nat.le_refl _) (.cells #[.slice a' n c', .slice a2' n2 c2', .map (some w2.heap.size), .map (some (w2.heap.size + 1)), .slice none 0 0, .slice none 0 0, .slice none 0 0] 129))).alloc (by simp) (.cells #[.pointer (some ⟨w2.heap.size + 1 + 1, 0, none⟩)] 131)) h1.lt
    exact h3
  have hmC : MapIs (laidN w2 a' a2' n c' n2 c2') (w2.heap.size + 1) 0 (fun _ => none) := by
    have h0 := MapIs.made (w2.alloc (.map #[] 0))
    have h3 := h0.keep ((((Below.refl _ ((w2.alloc (.map #[] 0)).alloc (.map #[] 0))).alloc (Nat.le_refl _) (.cells #[.slice a' n c', .slice a2' n2 c2', .map (some w2.heap.size), .map (some (w2.heap.size + 1)), .slice none 0 0, .slice none 0 0, .slice none 0 0] 129))).alloc (by simp) (.cells #[.pointer (some ⟨w2.heap.size + 1 + 1, 0, none⟩)] 131)) h0.lt
    rw [e1] at h3
    exact h3
  exact ⟨hba, ⟨rfl, hB, by omega, rfl, rfl, rfl, by omega⟩, hs 0 _ rfl, hs 1 _ rfl, hm, hg 0 _ rfl, hg 1 _ rfl, hg 2 _ rfl, hg 3 _ rfl, hg 4 _ rfl, hg 5 _ rfl, hg 6 _ rfl, hfr,
    h.keep (hba.mono hB) (Nat.le_refl _), h2.keep (hba.mono hB) (Nat.le_refl _), ht.keep hk (Nat.le_refl _), hc.keep hk (Nat.le_refl _), hmT, hmC⟩
end Go.Proofs.YtifgmnafjihlkaaGreatDoor
