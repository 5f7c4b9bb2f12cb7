/- Part 12 of the walks and plain laws, joined: NTyped, Bey, NameVP. -/
import Derived.Test.YtifgmnafjihlkaaGreatDoorMW11
import Derived.Test.YtifgmnafjihlkaaGreatDoorMW09
import Derived.Test.YtifgmnafjihlkaaGreatDoorMW08
import Derived.BigQuiet
/- name.word, name.typed. Printed by gen_typed.py. -/
namespace Go.Proofs.YtifgmnafjihlkaaGreatDoor
open Go Go.RowKit

set_option maxHeartbeats 1000000 in
theorem nword_any (v : ByteArray) (w : World) (hE : Env w) : Calls Tryz.prog 140 #[.string v] w fun e w' => e = .returned (.bool (wordOk (toL v))) ∧ Below w.heap.size w w' := by
  have hk := key_any 8 v w hE
  have hw : wordOk (toL v) = (keyL 8 v.data.toList).2 := rfl
  rw [hw]
  generalize keyL 8 v.data.toList = k at hk ⊢
  obtain ⟨k1, k2⟩ := k
  simp only [ret2] at hk
  have HK := Lib.hid hk; clear hk hw hE
  go_enter Tryz.func140, Tryz.ntmps140
  go_wp2_with (go_at_call 60; with_reducible refine HK.out.mono ?_; rintro e w1 ⟨rfl, h1⟩)
  go_ret
  exact ⟨rfl, h1⟩
theorem typed_long {v : ByteArray} (h : 65536 < v.size) : typedV (toL v) = (kindN ((toL v) ++ [61]) == (v.size, true)) := by
  have hz : (toL v).length = v.size := Lib.size_eq v
  unfold typedV
  rw [hz, if_neg (by omega)]
theorem bytes_ne {a b : ByteArray} (h : ¬ a = b) : (a.toList == b.toList) = false := by
  rw [Lib.toList_data, Lib.toList_data]
  refine beq_false_of_ne fun e => h ?_
  cases a; cases b
  simp only [ByteArray.mk.injEq]
  exact Array.toList_inj.1 e
theorem pairb (k : Nat × Bool) (n : Nat) : (k == (n, true)) = (k.2 && decide (k.1 = n)) := by
  obtain ⟨a, b⟩ := k
  show (a == n && b == true) = (b && decide (a = n))
  cases b <;> by_cases h : a = n <;> simp [h]
theorem fin_ok {g : Nat} {w w' : World} (hg : w.heap.size ≤ g) (h : Chg (· = g) w w') : Below w.heap.size w w' := h.below (Nat.le_refl _) fun k hk e => by have e : k = g := e; omega
set_option maxRecDepth 20000 in
set_option maxHeartbeats 4000000 in
theorem ntyped_any (v : ByteArray) (w : World) (hE : Env w) (hv : v.size ≤ 4294967280) : Calls Tryz.prog 87 #[.string v] w fun e w' => e = .returned (.bool (typedV (toL v))) ∧ Below w.heap.size w w' := by
  have hz : (toL v).length = v.size := Lib.size_eq v
  by_cases hs : v.size ≤ 65536
  · have ht : typedV (toL v) = wordOk (toL v) := by unfold typedV; rw [hz, if_pos hs]
    rw [ht]
    have hk := nword_any v w hE
    have HK := Lib.hid hk; clear hk ht hE hz
    have i1 : (v.size : Int) ≤ 65536 := by omega
    go_enter Tryz.func87, Tryz.ntmps87
    go_wp2_with (go_at_call 140; with_reducible refine HK.out.mono ?_; rintro e w1 ⟨rfl, h1⟩)
    go_ret
    exact ⟨rfl, h1⟩
  · rw [typed_long (by omega)]
    have i1 : ¬ (v.size : Int) ≤ 65536 := by omega
    clear hE hz
    have hsz : (v ++ ⟨#[61]⟩ : ByteArray).size = v.size + 1 := by rw [ByteArray.size_append]; rfl
    have hl2 : toL (v ++ ⟨#[61]⟩ : ByteArray) = toL v ++ [61] := by unfold toL; simp [ByteArray.data_append]
    have hx : (v ++ ⟨#[61]⟩ : ByteArray).extract 0 v.size = v := ByteArray.extract_append_eq_left rfl
    have hkn := fun w1 h1 => nkind_any w.heap.size (v ++ ⟨#[61]⟩) 0 none w1 h1
    have hrd : Rd (w.alloc (.cells #[.string (v ++ ⟨#[61]⟩), .int .i64 0, .pointer none] 163)) w.heap.size (v ++ ⟨#[61]⟩) 0 none :=
      ⟨by rw [World.cell?_alloc_new]; rfl, by rw [World.cell?_alloc_new]; rfl, by rw [World.cell?_alloc_new]; rfl, fun j => frozen_of_row _ _ j _ _ (heap_alloc_new w _), Nat.zero_le _, by omega⟩
    rw [← hl2]
    rw [List.drop_zero] at hkn
    have hch : Chg (· = w.heap.size) w (w.alloc (.cells #[.string (v ++ ⟨#[61]⟩), .int .i64 0, .pointer none] 163)) := (Chg.refl _ _).alloc _
    generalize hs2 : (v ++ ⟨#[61]⟩ : ByteArray) = s2 at hsz hl2 hx hkn hrd hch ⊢
    rw [pairb]
    generalize kindN (toL s2) = k at hkn ⊢
    have HKN := Lib.hid hkn; have HX := Lib.hid hx; have HSZ := Lib.hid hsz; have HRD := Lib.hid (And.intro hrd hch); clear hkn hx hsz hl2 hrd hch
    go_enter Tryz.func87, Tryz.ntmps87
    go_wp2_with fail
    clear hs2
    obtain ⟨hrd, hch⟩ := HRD.out
    clear HRD
    generalize w.alloc (.cells #[.string s2, .int .i64 0, .pointer none] 163) = w1 at hrd hch ⊢
    generalize hg : w.heap.size = g at hrd hch HKN ⊢
    have HG := Lib.hid hg; clear hg
    refine wp_region_C (s0 := 1) (C := fun w' => Rd w' g s2 0 none) (by kernel_rfl) (hrd.drewN 1) (fun hC => ?_)
    have hch2 := hch.drewN 1
    change Chg _ _ w1.drew at hch2
    clear hrd hch
    generalize w1.drew = w2 at hC hch2 ⊢
    have HC2 := Lib.hid hch2; clear hch2
    refine wpC_pure (i := 0) (v := ?v0) rfl (by decide) (by kernel_rfl) (by kernel_rfl) (by kernel_rfl) (fun _ _ _ h => h) (Or.inl ⟨by rfl, ?y0⟩) (fun _ => hC) ?r0
    case y0 => ((intro w _; go_simp; (first | done | with_reducible rfl)))
    (try simp only [Act.put, List.setIfInBounds_toArray, List.set_cons_zero, List.set_cons_succ, List.getElem_toArray, List.getElem_cons_zero])
    refine wpC_pure (i := 2) (v := ?v2) rfl (by decide) (by kernel_rfl) (by kernel_rfl) (by kernel_rfl) (fun _ _ _ h => h) (Or.inl ⟨by rfl, ?y2⟩) (fun _ => hC) ?r2
    case y2 => ((intro w _; go_simp; (first | done | with_reducible rfl)))
    (try simp only [Act.put, List.setIfInBounds_toArray, List.set_cons_zero, List.set_cons_succ, List.getElem_toArray, List.getElem_cons_zero, List.getElem_cons_succ])
    refine wpC_step (i := 1) (by kernel_rfl) rfl (fun K1 hK1 => ?_)
    go_simp
    go_at_call 100
    with_reducible refine (HKN.out _ hC).mono ?_
    intro e w3 hpost
    cases hk2 : k.2 with
    | false =>
      obtain ⟨rfl, hbad⟩ := hpost.2 hk2
      have hne : ¬ (⟨#[]⟩ : ByteArray) = v := fun e => by have : (⟨#[]⟩ : ByteArray).size = v.size := by rw [e]
                                                          have h0 : (⟨#[]⟩ : ByteArray).size = 0 := rfl
                                                          omega
      obtain ⟨_, _, _, _, _, hch3⟩ := hbad
      have HF := Lib.hid (HC2.out.trans hch3)
      have HK2 := Lib.hid hk2
      clear hpost hk2 hch3
      generalize (⟨#[]⟩ : ByteArray) = v2 at hne ⊢
      have hneb := bytes_ne hne
      clear hne
      go_wp2_with fail
      refine hK1.out _ _ (fun h => absurd (h.symm.trans (by kernel_rfl : _ = true)) (by decide)) ?_
      clear hK1 K1 hC
      (try simp only [Act.put, List.setIfInBounds_toArray, List.set_cons_zero, List.set_cons_succ, List.getElem_toArray, List.getElem_cons_zero, List.getElem_cons_succ])
      refine wpC_lex (k := 3) (C' := fun w' => ∃ n, w' = w3.drewN n) (by kernel_rfl) (by kernel_rfl) rfl (by kernel_rfl) ⟨0, rfl⟩ ?_
      repeat (go_big_quiet_step (fail))
      refine wpQuiet_nil ?_
      intro _ hw'
      obtain ⟨nq, hw''⟩ := hw'
      subst hw''
      go_wp2_with fail
      go_ret
      exact ⟨by rw [HK2.out]; rfl, fin_ok (HG.out ▸ Nat.le_refl _) (HF.out.drewN _)⟩
    | true =>
      obtain ⟨rfl, hrd3, hch3⟩ := hpost.1 hk2
      have HF := Lib.hid (HC2.out.trans hch3)
      have HK2 := Lib.hid hk2
      clear hpost hk2 hch3
      by_cases hkz : k.1 = v.size
      · have hx : s2.extract 0 (0 + k.1) = v := by rw [Nat.zero_add, hkz]; exact HX.out
        rw [hx]
        have e0 := hrd3.c0
        have e1 := hrd3.c1
        rw [hkz, Nat.zero_add] at e1
        have hzz : (((v.size + 1 : Nat)) : Int) = (s2.size : Int) := by have := HSZ.out; omega
        rw [hzz] at e1
        have hdk : decide (k.1 = v.size) = true := decide_eq_true hkz
        have HDK := Lib.hid hdk
        clear hx hrd3 hdk hzz hkz
        go_wp2_with fail
        refine hK1.out _ _ (fun h => absurd (h.symm.trans (by kernel_rfl : _ = true)) (by decide)) ?_
        clear hK1 K1 hC
        (try simp only [Act.put, List.setIfInBounds_toArray, List.set_cons_zero, List.set_cons_succ, List.getElem_toArray, List.getElem_cons_zero, List.getElem_cons_succ])
        refine wpC_lex (k := 3) (C' := fun w' => ∃ n, w' = w3.drewN n) (by kernel_rfl) (by kernel_rfl) rfl (by kernel_rfl) ⟨0, rfl⟩ ?_
        repeat (go_big_quiet_step (fail))
        refine wpQuiet_nil ?_
        intro _ hw'
        obtain ⟨nq, hw''⟩ := hw'
        subst hw''
        go_wp2_with fail
        go_ret
        exact ⟨by rw [HK2.out, HDK.out]; rfl, fin_ok (HG.out ▸ Nat.le_refl _) (HF.out.drewN _)⟩
      · have hle := hrd3.le
        have hne : ¬ s2.extract 0 (0 + k.1) = v := fun e => hkz (by
          have h1 : (s2.extract 0 (0 + k.1)).size = v.size := by rw [e]
          rw [ByteArray.size_extract] at h1
          omega)
        generalize s2.extract 0 (0 + k.1) = v2 at hne ⊢
        have hneb := bytes_ne hne
        clear hne
        have hdk : decide (k.1 = v.size) = false := decide_eq_false hkz
        have HDK := Lib.hid hdk
        clear hrd3 hdk hkz
        go_wp2_with fail
        refine hK1.out _ _ (fun h => absurd (h.symm.trans (by kernel_rfl : _ = true)) (by decide)) ?_
        clear hK1 K1 hC
        (try simp only [Act.put, List.setIfInBounds_toArray, List.set_cons_zero, List.set_cons_succ, List.getElem_toArray, List.getElem_cons_zero, List.getElem_cons_succ])
        refine wpC_lex (k := 3) (C' := fun w' => ∃ n, w' = w3.drewN n) (by kernel_rfl) (by kernel_rfl) rfl (by kernel_rfl) ⟨0, rfl⟩ ?_
        repeat (go_big_quiet_step (fail))
        refine wpQuiet_nil ?_
        intro _ hw'
        obtain ⟨nq, hw''⟩ := hw'
        subst hw''
        go_wp2_with fail
        go_ret
        exact ⟨by rw [HK2.out, HDK.out]; rfl, fin_ok (HG.out ▸ Nat.le_refl _) (HF.out.drewN _)⟩
end Go.Proofs.YtifgmnafjihlkaaGreatDoor
/- rosterlaw23.has, large, beyond: what they hand back is not asked (but of has). -/
namespace Go.Proofs.YtifgmnafjihlkaaGreatDoor
open Go Go.RowKit

theorem toL_inj {a b : ByteArray} (h : toL a = toL b) : a = b := by
  unfold toL at h
  cases a; cases b
  simp only [ByteArray.mk.injEq]
  exact Array.toList_inj.1 h
theorem mem_toL {s : ByteArray} {l : List ByteArray} (h : toL s ∈ l.map toL) : s ∈ l := by
  obtain ⟨x, hx, e⟩ := List.mem_map.1 h
  exact toL_inj e ▸ hx
set_option maxRecDepth 20000 in
set_option maxHeartbeats 2000000 in
theorem has_any (B : Nat) (a : Option Addr) (n c : Nat) (l : List ByteArray) (s : ByteArray) (w : World) (h : Texts B w a n c l) :
    Calls Tryz.prog 38 #[.slice a n c, .string s] w fun e w' => e = .returned (.bool (decide (toL s ∈ l.map toL))) ∧ w' = w := by
  have hn := h.len
  have hs := h.small
  have hv1 : s ∈ l → decide (toL s ∈ l.map toL) = true := fun h => decide_eq_true (List.mem_map_of_mem h)
  have hv2 : ¬ s ∈ l → decide (toL s ∈ l.map toL) = false := fun h => decide_eq_false fun hm => h (mem_toL hm)
  generalize decide (toL s ∈ l.map toL) = bv at hv1 hv2 ⊢
  have HV1 := Lib.hid hv1; have HV2 := Lib.hid hv2; clear hv1 hv2
  have HN := Lib.hid hn; have HT := Lib.hid h; clear hn h
  go_enter Tryz.func38, Tryz.ntmps38
  go_wp2_with fail
  go_loopw [8] (fun iv wr => wr = w ∧ ∃ i : Nat, iv = .int .i64 (i : Nat) ∧ i ≤ n ∧ ¬ s ∈ l.take i) (fun iv _ => n - (intOf iv).toNat)
  case atStart => exact ⟨rfl, 0, rfl, Nat.zero_le _, by simp⟩
  case round =>
    obtain ⟨rfl, i, rfl, hin, hno⟩ := hrel
    have HNO := Lib.hid hno; clear hno
    by_cases hi : i < n
    · have i2 : (i : Int) < (n : Int) := by omega
      obtain ⟨b, o, rfl, hb⟩ := HT.out.lies.ptr (by omega)
      obtain ⟨x, hx⟩ : ∃ x, l[i]? = some x := ⟨_, List.getElem?_eq_getElem (by have := HN.out; omega)⟩
      have hc := HT.out.cell b o rfl i x hx
      have HX := Lib.hid hx; clear hx
      by_cases he : x = s
      · have hbs : (x.toList == s.toList) = true := by rw [he]; simp
        have HV := Lib.hid (HV1.out (he ▸ List.mem_of_getElem? HX.out))
        clear he
        go_wp2_with fail
        go_ret
        exact ⟨by rw [HV.out]; rfl, rfl⟩
      · have hb := bytes_ne he
        have HE := Lib.hid he; clear he
        go_wp2_with fail
        refine ⟨⟨by first | trivial | rfl, i + 1, by simp, by omega, ?_⟩, by simp [intOf]; omega⟩
        rw [List.take_add_one, HX.out]
        intro hm
        rcases List.mem_append.1 hm with h | h
        · exact HNO.out h
        · simp at h; exact HE.out h.symm
    · have i2 : ¬ (i : Int) < (n : Int) := by omega
      go_wp2_with fail
      go_ret
      have hno := HNO.out
      rw [List.take_of_length_le (by have := HN.out; omega)] at hno
      exact ⟨by rw [HV2.out hno]; rfl, rfl⟩
end Go.Proofs.YtifgmnafjihlkaaGreatDoor
/- What is written of a name is read ps that name (plain: no program in it). -/
namespace Go.Proofs.YtifgmnafjihlkaaGreatDoor
open Go Go.RowKit

theorem all_bytesN {p : UInt8 → Bool} (h : ∀ n, n < 256 → p (UInt8.ofNat n) = true) (b : UInt8) : p b = true := by
  have := h b.toNat b.toNat_lt
  rwa [UInt8.ofNat_toNat] at this

/-! ### the letters of a value -/
theorem showK_copy : ∀ (k : Nat) (l : Str) (fst : Bool), 1 ≤ k → showK fst l k = l.take k ++ showK false (l.drop k) 0
  | 0, _, _, h => absurd h (by omega)
  | k + 1, [], fst, _ => by simp [showK]
  | k + 1, c :: l, fst, _ => by
    rw [showK]
    by_cases h0 : k = 0
    · subst h0; simp
    · rw [showK_copy k l false (by omega)]; simp
theorem chN_spec (l : Str) : (chN l = 0 ∧ ∀ n, 1 ≤ n → n ≤ 4 → n ≤ l.length → Lib.validD (l.take n) = false) ∨
    (1 ≤ chN l ∧ chN l ≤ 4 ∧ chN l ≤ l.length ∧ Lib.validD (l.take (chN l)) = true ∧ ∀ m, 1 ≤ m → m < chN l → Lib.validD (l.take m) = false) := by
  have hq : ∀ n, (decide (n ≤ l.length) && Lib.validD (l.take n)) = false ∨ (n ≤ l.length ∧ Lib.validD (l.take n) = true) := fun n => by
    cases h : (decide (n ≤ l.length) && Lib.validD (l.take n)) with
    | false => exact .inl rfl
    | true => simp at h; exact .inr h
  have no : ∀ n, (decide (n ≤ l.length) && Lib.validD (l.take n)) = false → n ≤ l.length → Lib.validD (l.take n) = false := fun n h hn => by simpa [hn] using h
  unfold chN
  rcases hq 1 with h1 | h1
  · rcases hq 2 with h2 | h2
    · rcases hq 3 with h3 | h3
      · rcases hq 4 with h4 | h4
        · left
          simp only [List.find?, h1, h2, h3, h4]
          refine ⟨rfl, fun n n1 n4 hn => ?_⟩
          match n, n1, n4 with
          | 1, _, _ => exact no 1 h1 hn
          | 2, _, _ => exact no 2 h2 hn
          | 3, _, _ => exact no 3 h3 hn
          | 4, _, _ => exact no 4 h4 hn
        · right
          have e : (decide (4 ≤ l.length) && Lib.validD (l.take 4)) = true := by simp [h4.1, h4.2]
          simp only [List.find?, h1, h2, h3, e, Option.getD_some]
          refine ⟨by omega, by omega, h4.1, h4.2, fun m m1 m4 => ?_⟩
          match m, m1, m4 with
          | 1, _, _ => exact no 1 h1 (by omega)
          | 2, _, _ => exact no 2 h2 (by omega)
          | 3, _, _ => exact no 3 h3 (by omega)
      · right
        have e : (decide (3 ≤ l.length) && Lib.validD (l.take 3)) = true := by simp [h3.1, h3.2]
        simp only [List.find?, h1, h2, e, Option.getD_some]
        refine ⟨by omega, by omega, h3.1, h3.2, fun m m1 m4 => ?_⟩
        match m, m1, m4 with
        | 1, _, _ => exact no 1 h1 (by omega)
        | 2, _, _ => exact no 2 h2 (by omega)
    · right
      have e : (decide (2 ≤ l.length) && Lib.validD (l.take 2)) = true := by simp [h2.1, h2.2]
      simp only [List.find?, h1, e, Option.getD_some]
      refine ⟨by omega, by omega, h2.1, h2.2, fun m m1 m4 => ?_⟩
      match m, m1, m4 with
      | 1, _, _ => exact no 1 h1 (by omega)
  · right
    have e : (decide (1 ≤ l.length) && Lib.validD (l.take 1)) = true := by simp [h1.1, h1.2]
    simp only [List.find?, e, Option.getD_some]
    exact ⟨by omega, by omega, h1.1, h1.2, fun m m1 m4 => by omega⟩
theorem valid_one {c : UInt8} (h : c.toNat < 128) : Lib.validD [c] = true := by rw [Lib.validD_cons c [] h]; rfl
theorem chN_low {c : UInt8} (l : Str) (h : c.toNat < 128) : chN (c :: l) = 1 := by
  have e : (decide (1 ≤ (c :: l).length) && Lib.validD ((c :: l).take 1)) = true := by simp [valid_one h]
  unfold chN
  simp only [List.find?, e, Option.getD_some]
theorem lo_fin : ∀ n : Fin 256, (Lib.firstT n.val % 8 = 2 ∨ Lib.firstT n.val % 8 = 3 ∨ Lib.firstT n.val % 8 = 4) → 128 ≤ Lib.accLo (Lib.firstT n.val / 16) := by decide +kernel
theorem lo_ge {b0 : Nat} (hb : b0 < 256) (h : Lib.firstT b0 % 8 = 2 ∨ Lib.firstT b0 % 8 = 3 ∨ Lib.firstT b0 % 8 = 4) : 128 ≤ Lib.accLo (Lib.firstT b0 / 16) := lo_fin ⟨b0, hb⟩ h
theorem check_facts {n b1 b2 b3 sz lo hi k : Nat} (h : Lib.checkN n b1 b2 b3 sz lo hi = some k) (hlo : sz = 2 ∨ sz = 3 ∨ sz = 4 → 128 ≤ lo) :
    (k = 2 ∧ sz = 2 ∧ 2 ≤ n ∧ 128 ≤ b1 ∧ ¬ (b1 < lo ∨ hi < b1)) ∨ (k = 3 ∧ sz = 3 ∧ 3 ≤ n ∧ 128 ≤ b1 ∧ 128 ≤ b2 ∧ ¬ (b1 < lo ∨ hi < b1 ∨ b2 < 128 ∨ 191 < b2)) ∨
    (k = 4 ∧ sz = 4 ∧ 4 ≤ n ∧ 128 ≤ b1 ∧ 128 ≤ b2 ∧ 128 ≤ b3 ∧ ¬ (b1 < lo ∨ hi < b1 ∨ b2 < 128 ∨ 191 < b2 ∨ b3 < 128 ∨ 191 < b3)) := by
  unfold Lib.checkN at h
  by_cases h2 : sz = 2
  · rw [if_pos h2] at h
    have := hlo (.inl h2)
    split at h
    · cases h
    · injection h with h; left; omega
  · rw [if_neg h2] at h
    by_cases h3 : sz = 3
    · rw [if_pos h3] at h
      have := hlo (.inr (.inl h3))
      split at h
      · cases h
      · injection h with h; right; left; omega
    · rw [if_neg h3] at h
      by_cases h4 : sz = 4
      · rw [if_pos h4] at h
        have := hlo (.inr (.inr h4))
        split at h
        · cases h
        · injection h with h; right; right; omega
      · rw [if_neg h4] at h; cases h
theorem check_take {b1 b2 b3 sz lo hi k n c2 c3 : Nat} (h : Lib.checkN n b1 b2 b3 sz lo hi = some k) (hlo : sz = 2 ∨ sz = 3 ∨ sz = 4 → 128 ≤ lo) (h2 : 3 ≤ k → c2 = b2) (h3 : 4 ≤ k → c3 = b3) : Lib.checkN k b1 c2 c3 sz lo hi = some k := by
  unfold Lib.checkN
  rcases check_facts h hlo with ⟨rfl, e, q⟩ | ⟨rfl, e, q⟩ | ⟨rfl, e, q⟩
  · rw [if_pos e, if_neg (by omega)]
  · rw [if_neg (by omega), if_pos e, h2 (by omega), if_neg (by omega)]
  · rw [if_neg (by omega), if_neg (by omega), if_pos e, h2 (by omega), h3 (by omega), if_neg (by omega)]
theorem valid_hi {l : Str} (hl : l.length ≤ 4) (h0 : 128 ≤ (l.getD 0 0).toNat) (hv : Lib.validD l = true) (hmin : ∀ m, 1 ≤ m → m < l.length → Lib.validD (l.take m) = false) : ∀ x ∈ l, 128 ≤ x.toNat := by
  by_cases hne : l = []
  · subst hne; intro x hx; cases hx
  have hlen : 0 < l.length := List.length_pos_iff.2 hne
  have hL := Lib.validD_lead l hne h0
  rw [hv] at hL
  obtain ⟨k, hk⟩ : ∃ k, Lib.checkN l.length (l.getD 1 0).toNat (l.getD 2 0).toNat (l.getD 3 0).toNat (Lib.firstT (l.getD 0 0).toNat % 8) (Lib.accLo (Lib.firstT (l.getD 0 0).toNat / 16)) (Lib.accHi (Lib.firstT (l.getD 0 0).toNat / 16)) = some k := by
    cases hc : Lib.checkN l.length (l.getD 1 0).toNat (l.getD 2 0).toNat (l.getD 3 0).toNat (Lib.firstT (l.getD 0 0).toNat % 8) (Lib.accLo (Lib.firstT (l.getD 0 0).toNat / 16)) (Lib.accHi (Lib.firstT (l.getD 0 0).toNat / 16)) with
    | none => rw [hc] at hL; cases hL
    | some k => exact ⟨k, rfl⟩
  have hlo := @lo_ge (l.getD 0 0).toNat (UInt8.toNat_lt _)
  obtain ⟨b0, e0⟩ : ∃ b0, (l.getD 0 0).toNat = b0 := ⟨_, rfl⟩
  obtain ⟨b1, e1⟩ : ∃ b1, (l.getD 1 0).toNat = b1 := ⟨_, rfl⟩
  obtain ⟨b2, e2⟩ : ∃ b2, (l.getD 2 0).toNat = b2 := ⟨_, rfl⟩
  obtain ⟨b3, e3⟩ : ∃ b3, (l.getD 3 0).toNat = b3 := ⟨_, rfl⟩
  rw [e0, e1, e2, e3] at hk
  rw [e0] at hlo h0
  have facts := check_facts hk hlo
  have hkl : k = l.length := by
    by_cases hlt : k < l.length
    · exfalso
      have hk1 : 1 ≤ k := by omega
      have hm := hmin k hk1 hlt
      have g : ∀ j, j < k → (l.take k).getD j 0 = l.getD j 0 := fun j hj => by simp [List.getD_eq_getElem?_getD, hj]
      have hlk : (l.take k).length = k := by rw [List.length_take]; omega
      have hL2 := Lib.validD_lead (l.take k) (by intro e; have := congrArg List.length e; rw [hlk] at this; simp at this; omega) (by rw [g 0 (by omega), e0]; exact h0)
      rw [g 0 (by omega), e0, hm] at hL2
      have hkk : Lib.checkN (l.take k).length ((l.take k).getD 1 0).toNat ((l.take k).getD 2 0).toNat ((l.take k).getD 3 0).toNat (Lib.firstT b0 % 8) (Lib.accLo (Lib.firstT b0 / 16)) (Lib.accHi (Lib.firstT b0 / 16)) = some k := by
        rw [hlk, g 1 (by omega), e1]
        exact check_take hk hlo (fun h => by rw [g 2 (by omega), e2]) (fun h => by rw [g 3 (by omega), e3])
      rw [hkk] at hL2
      simp only [List.drop_take_self] at hL2
      rw [Lib.validD_nil] at hL2
      cases hL2
    · omega
  intro x hx
  obtain ⟨j, hj, rfl⟩ := List.getElem_of_mem hx
  have hg : (l.getD j 0) = l[j] := by simp [List.getD_eq_getElem?_getD, hj]
  rw [← hg]
  have hj4 : j < 4 := by omega
  match j, hj4 with
  | 0, _ => omega
  | 1, _ => rw [e1]; omega
  | 2, _ => rw [e2]; omega
  | 3, _ => rw [e3]; omega
/-- the bytes of a letter that begins from 128 on -/
theorem chN_hi {c : UInt8} {l : Str} (h : 2 ≤ chN (c :: l)) : chN (c :: l) - 1 ≤ l.length ∧ ∀ x ∈ l.take (chN (c :: l) - 1), 128 ≤ x.toNat := by
  rcases chN_spec (c :: l) with ⟨h0, _⟩ | ⟨h1, h4, hl, hv, hm⟩
  · omega
  · simp only [List.length_cons] at hl
    refine ⟨by omega, ?_⟩
    have hc : 128 ≤ c.toNat := by
      by_cases hc : c.toNat < 128
      · rw [chN_low l hc] at h; omega
      · omega
    have := valid_hi (l := (c :: l).take (chN (c :: l))) (by simp; omega) (by obtain ⟨n, hn⟩ : ∃ n, chN (c :: l) = n + 1 := ⟨chN (c :: l) - 1, by omega⟩; rw [hn]; simpa using hc) hv (fun m m1 m2 => by
      rw [List.take_take]
      have : m < chN (c :: l) := by simp at m2; omega
      rw [Nat.min_eq_left (by omega)]
      exact hm m m1 this)
    obtain ⟨n, hn⟩ : ∃ n, chN (c :: l) = n + 1 := ⟨chN (c :: l) - 1, by omega⟩
    rw [hn] at this ⊢
    intro x hx
    exact this x (by simp at hx ⊢; exact .inr hx)

/-! ### a value, read -/
theorem valR_nil (st off : Nat) (b : Str) (bare : Option Nat) : valR st [] off b bare = (b, off, bare.map fun p => (50, p)) := by rw [valR]
theorem valR_end {c : UInt8} (h : c = 44 ∨ c = 43) (st : Nat) (l : Str) (off : Nat) (b : Str) (bare : Option Nat) : valR st (c :: l) off b bare = (b, off, bare.map fun p => (50, p)) := by
  rw [valR.eq_def]; simp only; rw [if_pos h]
theorem valR_esc {x : UInt8} (h : escs.contains x = true) (st : Nat) (l : Str) (off : Nat) (b : Str) (bare : Option Nat) : valR st (92 :: x :: l) off b bare = valR st l (off + 2) (b ++ [x]) none := by
  rw [valR.eq_def]; simp only; rw [if_neg (by decide), if_pos trivial, if_pos h]
theorem valR_hex {x y : UInt8} (h : escs.contains x = false) (h2 : (hexd x && hexd y) = true) (st : Nat) (l : Str) (off : Nat) (b : Str) (bare : Option Nat) : valR st (92 :: x :: y :: l) off b bare = valR st l (off + 3) (b ++ [UInt8.ofNat (hexv x * 16 + hexv y)]) none := by
  rw [valR.eq_def]; simp only; rw [if_neg (by decide), if_pos trivial, if_neg (by rw [h]; simp), if_pos h2]
theorem valR_put {c : UInt8} {st off : Nat} (h1 : c ≠ 44) (h2 : c ≠ 43) (h3 : c ≠ 92) (h4 : bads.contains c = false) (h5 : ¬ (off = st ∧ (c = 32 ∨ c = 35))) (l : Str) (b : Str) (bare : Option Nat) :
    valR st (c :: l) off b bare = valR st l (off + 1) (b ++ [c]) (if c = 32 then some off else none) := by
  rw [valR.eq_def]; simp only; rw [if_neg (by rintro (e | e); exact h1 e; exact h2 e), if_neg h3, if_neg (by rintro (e | e); rw [h4] at e; cases e; exact h5 e)]
theorem hex_back (c : UInt8) : escs.contains (hexC (c.toNat / 16)) = false ∧ (hexd (hexC (c.toNat / 16)) && hexd (hexC (c.toNat % 16))) = true ∧ UInt8.ofNat (hexv (hexC (c.toNat / 16)) * 16 + hexv (hexC (c.toNat % 16))) = c := by
  have := all_bytesN (p := fun c => !escs.contains (hexC (c.toNat / 16)) && (hexd (hexC (c.toNat / 16)) && hexd (hexC (c.toNat % 16))) && (UInt8.ofNat (hexv (hexC (c.toNat / 16)) * 16 + hexv (hexC (c.toNat % 16))) == c)) (by decide +kernel) c
  simp only [Bool.and_eq_true, Bool.not_eq_true', beq_iff_eq] at this
  exact ⟨this.1.1, by simp only [Bool.and_eq_true]; exact this.1.2, this.2⟩
theorem hi_plain {c : UInt8} (h : 128 ≤ c.toNat) : c ≠ 44 ∧ c ≠ 43 ∧ c ≠ 92 ∧ bads.contains c = false ∧ c ≠ 32 ∧ c ≠ 35 := by
  have := all_bytesN (p := fun c => !decide (128 ≤ c.toNat) || (c != 44 && c != 43 && c != 92 && !bads.contains c && c != 32 && c != 35)) (by decide +kernel) c
  simp only [h, decide_true, Bool.not_true, Bool.false_or, Bool.and_eq_true, bne_iff_ne, Bool.not_eq_true'] at this
  exact ⟨this.1.1.1.1.1, this.1.1.1.1.2, this.1.1.1.2, this.1.1.2, this.1.2, this.2⟩
theorem esc_in {c : UInt8} (h : [34, 43, 44, 59, 60, 62, 92].contains c = true ∨ c = 32 ∨ c = 35) : escs.contains c = true := by
  have := all_bytesN (p := fun c => !([34, 43, 44, 59, 60, 62, 92].contains c || c == 32 || c == 35) || escs.contains c) (by decide +kernel) c
  have h2 : ([34, 43, 44, 59, 60, 62, 92].contains c || c == 32 || c == 35) = true := by
    rcases h with h | rfl | rfl
    · rw [h]; simp
    · decide
    · decide
  rw [h2] at this
  simpa using this
theorem plain_in {c : UInt8} (h1 : ¬ (c.toNat < 32 ∨ c = 127)) (h2 : [34, 43, 44, 59, 60, 62, 92].contains c = false) : c ≠ 44 ∧ c ≠ 43 ∧ c ≠ 92 ∧ bads.contains c = false := by
  have := all_bytesN (p := fun c => (decide (c.toNat < 32) || c == 127) || [34, 43, 44, 59, 60, 62, 92].contains c || (c != 44 && c != 43 && c != 92 && !bads.contains c)) (by decide +kernel) c
  have h3 : (decide (c.toNat < 32) || c == 127) = false := by
    rw [Bool.or_eq_false_iff]; exact ⟨by simpa using fun e => h1 (.inl e), by simpa using fun e => h1 (.inr e)⟩
  rw [h3, h2] at this
  simp only [Bool.false_or, Bool.and_eq_true, bne_iff_ne, Bool.not_eq_true'] at this
  exact ⟨this.1.1.1, this.1.1.2, this.1.2, this.2⟩

/-- what may stand behind a value -/
def Ends (tl : Str) : Prop := tl = [] ∨ ∃ d t, tl = d :: t ∧ (d = 44 ∨ d = 43)
theorem valR_stop {tl : Str} (h : Ends tl) (st off : Nat) (b : Str) : valR st tl off b none = (b, off, none) := by
  rcases h with rfl | ⟨d, t, rfl, h⟩
  · rw [valR_nil]; rfl
  · rw [valR_end h]; rfl
theorem valR_show (st : Nat) {tl : Str} (htl : Ends tl) : ∀ (v : Str) (fst : Bool) (k off : Nat) (b : Str) (bare : Option Nat), st ≤ off → (fst = false → st < off) → k ≤ v.length → (∀ x ∈ v.take k, 128 ≤ x.toNat) → (v = [] → bare = none) → (fst = true → k = 0) →
    valR st (showK fst v k ++ tl) off b bare = (b ++ v, off + (showK fst v k).length, none)
  | [], fst, k, off, b, bare, _, _, _, _, hb, _ => by
    rw [hb rfl]
    cases k <;> simp [showK, valR_stop htl]
  | c :: v, fst, k + 1, off, b, bare, h1, h2, hk, hx, _, hf => by
    have hc := hi_plain (hx c (by simp))
    have hfs : fst = false := by cases fst with | false => rfl | true => exact absurd (hf rfl) (by omega)
    rw [showK, List.cons_append, valR_put hc.1 hc.2.1 hc.2.2.1 hc.2.2.2.1 (by rintro ⟨_, e | e⟩; exact hc.2.2.2.2.1 e; exact hc.2.2.2.2.2 e), if_neg hc.2.2.2.2.1,
      valR_show st htl v false k (off + 1) (b ++ [c]) none (by omega) (fun _ => by omega) (by simpa using hk) (fun x hx2 => hx x (by simp; exact .inr (by simpa using hx2))) (fun _ => rfl) (fun e => by cases e)]
    simp; omega
  | c :: v, fst, 0, off, b, bare, h1, h2, _, _, _, hf => by
    rw [showK]
    by_cases c0 : chN (c :: v) = 0
    · rw [if_pos c0]
      obtain ⟨g1, g2, g3⟩ := hex_back c
      unfold hexB
      simp only [List.cons_append, List.nil_append]
      rw [valR_hex g1 g2, g3, valR_show st htl v false 0 (off + 3) (b ++ [c]) none (by omega) (fun _ => by omega) (Nat.zero_le _) (fun x hx => by simp at hx) (fun _ => rfl) (fun e => by cases e)]
      simp; omega
    · rw [if_neg c0]
      by_cases c1 : c.toNat < 32 ∨ c = 127
      · have hlow : c.toNat < 128 := by rcases c1 with h | rfl; omega; decide
        rw [if_pos c1, chN_low v hlow]
        obtain ⟨g1, g2, g3⟩ := hex_back c
        unfold hexB
        simp only [List.cons_append, List.nil_append]
        rw [valR_hex g1 g2, g3, valR_show st htl v false 0 (off + 3) (b ++ [c]) none (by omega) (fun _ => by omega) (Nat.zero_le _) (fun x hx => by simp at hx) (fun _ => rfl) (fun e => by cases e)]
        simp; omega
      · rw [if_neg c1]
        by_cases c2 : [34, 43, 44, 59, 60, 62, 92].contains c = true ∨ (c = 32 ∧ (fst = true ∨ v = [])) ∨ (c = 35 ∧ fst = true)
        · have hlow : c.toNat < 128 := by
            have := all_bytesN (p := fun c => !escs.contains c || decide (c.toNat < 128)) (by decide +kernel) c
            rw [esc_in (by rcases c2 with h | ⟨h, _⟩ | ⟨h, _⟩; exact .inl h; exact .inr (.inl h); exact .inr (.inr h))] at this
            simpa using this
          rw [if_pos c2, chN_low v hlow]
          simp only [List.cons_append, List.nil_append]
          rw [valR_esc (esc_in (by rcases c2 with h | ⟨h, _⟩ | ⟨h, _⟩; exact .inl h; exact .inr (.inl h); exact .inr (.inr h))),
            valR_show st htl v false 0 (off + 2) (b ++ [c]) none (by omega) (fun _ => by omega) (Nat.zero_le _) (fun x hx => by simp at hx) (fun _ => rfl) (fun e => by cases e)]
          simp; omega
        · rw [if_neg c2]
          have c3 : [34, 43, 44, 59, 60, 62, 92].contains c = false := by
            cases h : [34, 43, 44, 59, 60, 62, 92].contains c with
            | false => rfl
            | true => exact absurd (.inl h) c2
          obtain ⟨p1, p2, p3, p4⟩ := plain_in c1 c3
          have hn : chN (c :: v) - 1 ≤ v.length ∧ ∀ x ∈ v.take (chN (c :: v) - 1), 128 ≤ x.toNat := by
            by_cases h2 : 2 ≤ chN (c :: v)
            · exact chN_hi h2
            · have : chN (c :: v) - 1 = 0 := by omega
              rw [this]; exact ⟨Nat.zero_le _, fun x hx => by simp at hx⟩
          rw [List.cons_append, valR_put p1 p2 p3 p4 (by
            rintro ⟨e1, e2⟩
            cases fst with
            | false => have := h2 rfl; omega
            | true => rcases e2 with e2 | e2; exact c2 (.inr (.inl ⟨e2, .inl rfl⟩)); exact c2 (.inr (.inr ⟨e2, rfl⟩))),
            valR_show st htl v false (chN (c :: v) - 1) (off + 1) (b ++ [c]) (if c = 32 then some off else none) (by omega) (fun _ => by omega) hn.1 hn.2 (fun hv => by
              by_cases e : c = 32
              · exact absurd (.inr (.inl ⟨e, .inr hv⟩)) c2
              · rw [if_neg e]) (fun e => by cases e)]
          simp; omega

/-! ### a type's word, read -/
theorem letters_let (b : UInt8) : letters.contains b = isLet b := by
  have := all_bytesN (p := fun b => letters.contains b == isLet b) (by decide +kernel) b
  simpa using this
theorem tail_only (l : Str) : onlyL (letters ++ [45]) l = tailB l := by
  unfold onlyL tailB
  congr 1
  funext b
  have := all_bytesN (p := fun b => (dig b || (letters ++ [45]).contains b) == tailC b) (by decide +kernel) b
  simpa using this
theorem takeWhile_stop {p : UInt8 → Bool} {l : Str} {d : UInt8} (t : Str) (h : l.all p = true) (hd : p d = false) : (l ++ d :: t).takeWhile p = l := by
  induction l with
  | nil => simp [hd]
  | cons a l ih =>
    simp only [List.all_cons, Bool.and_eq_true] at h
    simp only [List.cons_append, List.takeWhile_cons, h.1, if_true]
    rw [ih h.2]
theorem joinP_cut (c : UInt8) : ∀ l : Str, joinP c (cutAt c l) = l
  | [] => rfl
  | b :: l => by
    have ih := joinP_cut c l
    obtain ⟨r, rs, hc⟩ := cutAt_ne c l
    unfold cutAt
    by_cases h : b = c
    · rw [if_pos h]
      rw [hc] at ih ⊢
      show [] ++ c :: joinP c (r :: rs) = _
      rw [ih, h]; rfl
    · rw [if_neg h, hc]
      rw [hc] at ih
      cases rs with
      | nil => simp only [joinP] at ih ⊢; rw [ih]
      | cons r2 rs =>
        simp only [joinP] at ih ⊢
        rw [← ih]; rfl
theorem row_len {x : Str} (h : rowOk x = true) {d : UInt8} (t : Str) (hd : dig d = false) : (if (x ++ d :: t).head? = some 48 then 1 else ((x ++ d :: t).takeWhile dig).length) = x.length ∧ x ≠ [] := by
  cases x with
  | nil => simp [rowOk] at h
  | cons b l =>
    simp only [rowOk, Bool.and_eq_true, Bool.not_eq_true', Bool.and_eq_false_iff] at h
    refine ⟨?_, by simp⟩
    by_cases e : b = 48
    · subst e
      have : l = [] := by
        rcases h.2 with h2 | h2
        · simp at h2
        · simpa using h2
      subst this
      rfl
    · rw [if_neg (by simpa using e), takeWhile_stop (l := b :: l) t (by simpa using h.1) hd]
theorem oidN_join {t : Str} : ∀ (rows : List Str) (f off : Nat) (one : Bool), rows ≠ [] → rows.all rowOk = true → rows.length ≤ f → (one = true → 2 ≤ rows.length) →
    oidN f (joinP 46 rows ++ 61 :: t) off one = (off + (joinP 46 rows).length, true)
  | [], _, _, _, h, _, _, _ => absurd rfl h
  | x :: rows, 0, _, _, _, _, h, _ => absurd h (by simp)
  | [x], f + 1, off, one, _, hr, _, h1 => by
    have hx : rowOk x = true := by simpa using hr
    obtain ⟨g1, g2⟩ := row_len hx t (d := 61) (by decide)
    have hxl : x.length ≠ 0 := by cases x with | nil => exact absurd rfl g2 | cons => simp
    show oidN (f + 1) (x ++ 61 :: t) off one = (off + x.length, true)
    unfold oidN
    simp only
    rw [g1, if_neg hxl]
    have hg : (x ++ 61 :: t)[x.length]? = some 61 := by simp
    rw [hg, if_neg (by decide)]
    cases one with
    | true => have := h1 rfl; simp at this
    | false => simp
  | x :: y :: rows, f + 1, off, one, _, hr, hf, _ => by
    have hx : rowOk x = true := by simp at hr; exact hr.1
    have hr2 : (y :: rows).all rowOk = true := by simp at hr ⊢; exact hr.2
    have hj : joinP 46 (x :: y :: rows) ++ 61 :: t = x ++ 46 :: (joinP 46 (y :: rows) ++ 61 :: t) := by simp [joinP]
    obtain ⟨g1, g2⟩ := row_len hx (joinP 46 (y :: rows) ++ 61 :: t) (d := 46) (by decide)
    have hxl : x.length ≠ 0 := by cases x with | nil => exact absurd rfl g2 | cons => simp
    rw [hj]
    unfold oidN
    simp only
    rw [g1, if_neg hxl]
    have hg : (x ++ 46 :: (joinP 46 (y :: rows) ++ 61 :: t))[x.length]? = some 46 := by simp
    have hd : (x ++ 46 :: (joinP 46 (y :: rows) ++ 61 :: t)).drop (x.length + 1) = joinP 46 (y :: rows) ++ 61 :: t := by
      rw [← List.drop_drop, List.drop_left]; rfl
    rw [hg, if_pos rfl, hd, oidN_join (y :: rows) f (off + x.length + 1) false (by simp) hr2 (by simpa using hf) (fun e => by cases e)]
    simp [joinP]; omega
theorem cut_len_le (c : UInt8) : ∀ l : Str, (cutAt c l).length ≤ l.length + 1
  | [] => by simp [cutAt]
  | b :: l => by
    have ih := cut_len_le c l
    obtain ⟨r, rs, hc⟩ := cutAt_ne c l
    unfold cutAt
    rw [hc] at ih ⊢
    split <;> simp at ih ⊢ <;> omega
theorem kind_word {s : Str} (h : wordOk s = true) (t : Str) : kindN (s ++ 61 :: t) = (s.length, true) := by
  have h2 : (oidL s).2 = true := by
    unfold wordOk keyL at h
    split at h
    · cases h
    · have e : ruleL 8 s = oidL s := by unfold ruleL; simp
      rw [e] at h
      by_cases e2 : (oidL s).2 = true
      · exact e2
      · rw [if_neg e2] at h; cases h
  cases s with
  | nil => simp [oidL] at h2
  | cons b l =>
    unfold oidL at h2
    simp only at h2
    rw [letters_let] at h2
    unfold kindN
    simp only [List.cons_append]
    by_cases hb : isLet b = true
    · rw [if_pos hb] at h2 ⊢
      simp only at h2
      rw [tail_only] at h2
      have ht : (b :: (l ++ 61 :: t)).takeWhile tailC = b :: l := takeWhile_stop (l := b :: l) t h2 (by decide)
      rw [ht]
      simp
    · rw [if_neg hb] at h2 ⊢
      by_cases hr : (cutAt 46 (b :: l)).all rowOk = true
      · rw [if_pos hr] at h2
        simp only [decide_eq_true_eq] at h2
        have hne : cutAt 46 (b :: l) ≠ [] := fun e => by rw [e] at h2; simp at h2
        have := oidN_join (t := t) (cutAt 46 (b :: l)) ((b :: (l ++ 61 :: t)).length + 1) 0 true hne hr (by have := cut_len_le 46 (b :: l); simp at this ⊢; omega) (fun _ => by omega)
        rw [joinP_cut] at this
        simpa using this
      · rw [if_neg hr] at h2; cases h2

/-! ### a name, read -/
/-- the text that is left: pairs of a part, then parts -/
def restP (ps : PRdn) (rs : PName) : Str := rdnP ps ++ rs.flatMap fun r => 44 :: rdnP r
theorem joinP_cons (c : UInt8) (x : Str) (l : List Str) : joinP c (x :: l) = x ++ l.flatMap fun y => c :: y := by
  induction l generalizing x with
  | nil => simp [joinP]
  | cons y l ih => rw [joinP, ih]; simp
theorem nameP_cons (r : PRdn) (l : PName) : nameP (r :: l) = restP r l := by
  unfold nameP restP
  rw [List.map_cons, joinP_cons]
  simp [List.flatMap_map]
theorem restP_one (a : PAva) (rs : PName) : restP [a] rs = avaP a ++ rs.flatMap fun r => 44 :: rdnP r := by unfold restP rdnP; simp [joinP]
theorem restP_more (a b : PAva) (ps : PRdn) (rs : PName) : restP (a :: b :: ps) rs = avaP a ++ 43 :: restP (b :: ps) rs := by
  unfold restP rdnP; simp [joinP]
theorem restP_next (r : PRdn) (rs : PName) : ((r :: rs).flatMap fun r => 44 :: rdnP r) = 44 :: restP r rs := by
  unfold restP; simp

def PairsOk (r : PRdn) : Prop := ∀ a ∈ r, wordOk (toL a.1) = true
def count2 (ps : PRdn) (rs : PName) : Nat := ps.length + (rs.map List.length).sum
theorem baOf_toL (s : ByteArray) : baOf (toL s) = s := by unfold baOf toL; simp
theorem parse_rest (s : Str) : ∀ (f p : Nat) (done : PName) (part ps : PRdn) (rs : PName), s.drop p = restP ps rs → p ≤ s.length → ps ≠ [] → count2 ps rs ≤ f → PairsOk ps → (∀ r ∈ rs, r ≠ [] ∧ r.length ≤ 8 ∧ PairsOk r) →
    part.length + ps.length ≤ 8 → done.length + 1 + rs.length ≤ 64 → parseR s f p done part = .ok (done ++ (part ++ ps) :: rs)
  | f, p, done, part, [], rs, _, _, h, _, _, _, _, _ => absurd rfl h
  | 0, p, done, part, a :: ps, rs, _, _, _, h, _, _, _, _ => by unfold count2 at h; simp at h
  | f + 1, p, done, part, a :: ps, rs, hs, hp, _, hf, ho, hr, h8, h64 => by
    -- what stands behind the first pair
    obtain ⟨tl, htl, hsp⟩ : ∃ tl, restP (a :: ps) rs = avaP a ++ tl ∧ Ends tl := by
      cases ps with
      | nil =>
        refine ⟨_, restP_one a rs, ?_⟩
        cases rs with
        | nil => exact .inl rfl
        | cons r rs => exact .inr ⟨44, restP r rs, restP_next r rs, .inl rfl⟩
      | cons b ps => exact ⟨_, restP_more a b ps rs, .inr ⟨43, _, rfl, .inr rfl⟩⟩
    have hw := ho a (by simp)
    have hs1 : s.drop p = toL a.1 ++ 61 :: (showV (toL a.2) ++ tl) := by rw [hs, htl]; unfold avaP; simp
    have hk : kindN (s.drop p) = ((toL a.1).length, true) := by rw [hs1]; exact kind_word hw _
    have hs2 : s.drop (p + (toL a.1).length + 1) = showV (toL a.2) ++ tl := by
      rw [show p + (toL a.1).length + 1 = p + ((toL a.1).length + 1) by omega, ← List.drop_drop, hs1, ← List.drop_drop, List.drop_left]; rfl
    have hv : valR (p + (toL a.1).length + 1) (s.drop (p + (toL a.1).length + 1)) (p + (toL a.1).length + 1) [] none = (toL a.2, p + (toL a.1).length + 1 + (showV (toL a.2)).length, none) := by
      rw [hs2]
      have := valR_show (p + (toL a.1).length + 1) hsp (toL a.2) true 0 (p + (toL a.1).length + 1) [] none (Nat.le_refl _) (fun e => by cases e) (Nat.zero_le _) (fun x hx => by simp at hx) (fun _ => rfl) (fun _ => rfl)
      simpa [showV] using this
    have hword : (s.drop p).take (toL a.1).length = toL a.1 := by rw [hs1]; simp
    obtain ⟨q, hq⟩ : ∃ q, p + (toL a.1).length + 1 + (showV (toL a.2)).length = q := ⟨_, rfl⟩
    have hsq : s.drop q = tl := by rw [← hq, ← List.drop_drop, hs2, List.drop_left]
    unfold parseR
    simp only [hk, hv, hq, hword, baOf_toL, Bool.true_eq_false, if_false]
    have hps : part.length + 1 ≤ 8 := by simp at h8; omega
    cases ps with
    | nil =>
      have e1 := restP_one a rs
      rw [e1] at htl
      have htl2 := List.append_cancel_left htl
      cases rs with
      | nil =>
        simp at htl2
        subst htl2
        have : s.length ≤ q := by have := congrArg List.length hsq; simp at this; omega
        rw [if_pos this]
      | cons r rs =>
        rw [restP_next] at htl2
        rw [← htl2] at hsq
        have hlt : q < s.length := by have := congrArg List.length hsq; simp at this; omega
        have hc : s[q]? = some 44 := by
          have := congrArg (·[0]?) hsq; simpa using this
        rw [if_neg (by omega), if_pos hc, if_neg (by simp at h64; omega)]
        have hsn : s.drop (q + 1) = restP r rs := by rw [← List.drop_drop, hsq]; rfl
        obtain ⟨r1, r2, r3⟩ := hr r (by simp)
        rw [parse_rest s f (q + 1) (done ++ [part ++ [a]]) [] r rs hsn (by omega) r1 (by unfold count2 at hf ⊢; simp at hf ⊢; omega) r3 (fun x hx => hr x (by simp [hx])) (by simpa using r2) (by simp at h64 ⊢; omega)]
        simp
    | cons b ps =>
      rw [restP_more] at htl
      have htl2 := List.append_cancel_left htl
      rw [← htl2] at hsq
      have hlt : q < s.length := by have := congrArg List.length hsq; simp at this; omega
      have hc : s[q]? = some 43 := by
        have := congrArg (·[0]?) hsq; simpa using this
      rw [if_neg (by omega), if_neg (by rw [hc]; decide), if_neg (by rintro (e | e); omega; simp at e h8; omega)]
      have hsn : s.drop (q + 1) = restP (b :: ps) rs := by rw [← List.drop_drop, hsq]; rfl
      rw [parse_rest s f (q + 1) done (part ++ [a]) (b :: ps) rs hsn (by omega) (by simp) (by unfold count2 at hf ⊢; simp at hf ⊢; omega) (fun x hx => ho x (by simp at hx ⊢; exact .inr hx)) hr (by simp at h8 ⊢; omega) h64]
      simp
theorem print_ok {n : PName} {t : Str} (h : printV n = (t, 0)) : t = nameP n ∧ t.length ≤ 65536 ∧ n.length ≤ 64 ∧ ∀ r ∈ n, r ≠ [] ∧ r.length ≤ 8 ∧ PairsOk r := by
  unfold printV at h
  split at h
  · cases h
  · rename_i h1
    split at h
    · cases h
    · rename_i h2
      split at h
      · cases h
      · rename_i h3
        injection h with h4 _
        have h1a : n.length ≤ 64 := by
          by_cases e : 64 < n.length
          · exact absurd (.inl e) h1
          · omega
        have h1b : ∀ r ∈ n, r.length ≤ 8 := fun r hr => by
          by_cases e : 8 < r.length
          · exact absurd (.inr (List.any_eq_true.2 ⟨r, hr, by simpa using e⟩)) h1
          · omega
        have h3b : ∀ r ∈ n, ∀ a ∈ r, a.1.size ≤ 65536 := fun r hr a ha => by
          by_cases e : 65536 < a.1.size
          · exact absurd (.inl (List.any_eq_true.2 ⟨r, hr, List.any_eq_true.2 ⟨a, ha, by simp [e]⟩⟩)) h3
          · omega
        refine ⟨h4.symm, ?_, h1a, fun r hr => ⟨?_, h1b r hr, fun a ha => ?_⟩⟩
        · by_cases e : 65536 < (nameP n).length
          · exact absurd (.inr e) h3
          · rw [← h4]; omega
        · rintro rfl
          exact h2 (List.any_eq_true.2 ⟨[], hr, rfl⟩)
        · by_cases e : typedV (toL a.1) = true
          · unfold typedV at e
            rw [if_pos (by have := h3b r hr a ha; simpa using this)] at e
            exact e
          · exact absurd (List.any_eq_true.2 ⟨r, hr, by rw [Bool.or_eq_true]; exact .inr (List.any_eq_true.2 ⟨a, ha, by simpa using e⟩)⟩) h2
theorem count_le (ps : PRdn) (rs : PName) : count2 ps rs ≤ (restP ps rs).length := by
  have hA : ∀ ps : PRdn, ps.length ≤ (rdnP ps).length := fun ps => by
    induction ps with
    | nil => simp
    | cons a ps ih =>
      cases ps with
      | nil => unfold rdnP; simp [joinP, avaP]; omega
      | cons b ps =>
        unfold rdnP at ih ⊢
        simp only [List.map_cons, joinP, List.length_append, List.length_cons] at ih ⊢
        have : 1 ≤ (avaP a).length := by unfold avaP; simp; omega
        omega
  unfold count2 restP
  induction rs with
  | nil => simpa using hA ps
  | cons r rs ih =>
    have := hA r
    simp only [List.map_cons, List.sum_cons, List.flatMap_cons, List.length_append, List.length_cons] at ih ⊢
    omega
/-- THERE AND BACK -/
theorem parse_print {n : PName} {t : Str} (h : printV n = (t, 0)) : parseV t = .ok n := by
  obtain ⟨ht, hl, hn, hr⟩ := print_ok h
  unfold parseV
  rw [if_neg (by omega)]
  cases n with
  | nil =>
    have : t = [] := by rw [ht]; rfl
    rw [if_pos this]
  | cons r rs =>
    obtain ⟨r1, r2, r3⟩ := hr r (by simp)
    have hc := count_le r rs
    rw [nameP_cons] at ht
    have hne : t ≠ [] := by
      rintro rfl
      rw [← ht] at hc
      unfold count2 at hc
      have : 0 < r.length := List.length_pos_iff.2 r1
      have hc2 : r.length + (rs.map List.length).sum ≤ 0 := hc
      omega
    rw [if_neg hne, parse_rest t (t.length + 1) 0 [] [] r rs (by rw [← ht]; rfl) (Nat.zero_le _) r1 (by rw [ht]; omega) r3 (fun x hx => hr x (by simp [hx])) (by simpa using r2) (by simp at hn ⊢; omega)]
    rfl
end Go.Proofs.YtifgmnafjihlkaaGreatDoor
