/- prep.Time from the fraction on. -/
import Derived.Test.YtpnnbffhdhbonaaGreatDoorTimeZone
import Derived.Shelf.Strings.SlTrimAscii
namespace Go.Proofs.YtpnnbffhdhbonaaGreatDoor
open Go Go.RowKit Go.Shelf

noncomputable def timeTail : Code := (Tryz.f17.body.bind (tailOf 8)).getD .skip

/-- what is told behind a second -/
def tailT (Y M D h m s : Int) (t : List UInt8) : Int × List UInt8 × Bool := match fracT t with
  | none => (0, [], false)
  | some (rest, z) => timeZ Y M D h m s rest z

theorem trimL_split (r : List UInt8) : Lib.trimLeftS r digits10 = r.drop (r.length - (Lib.trimLeftS r digits10).length) ∧ (Lib.trimLeftS r digits10).length ≤ r.length := by
  have h := (List.dropWhile_suffix (l := r) (digits10.contains ·))
  obtain ⟨p, hp⟩ := h
  have hl : r.length = p.length + (Lib.trimLeftS r digits10).length := by
    conv => lhs; rw [← hp, List.length_append]
    rfl
  refine ⟨?_, by omega⟩
  rw [show r.length - (Lib.trimLeftS r digits10).length = p.length by omega]
  conv => rhs; arg 2; rw [← hp]
  rw [List.drop_left]; rfl

set_option maxRecDepth 1000000 in
set_option maxHeartbeats 40000000 in
theorem time_tail {w0 w : World} {gd gt : Nat} {Y M D h m s : Int} {v t : ByteArray} {c : UInt8} {r : List UInt8} (hd : Civ w0 w gd 45 Y M D) (ht : Civ w0 w gt 44 h m s)
    (hY : 0 ≤ Y ∧ Y ≤ 9999) (hM : 1 ≤ M ∧ M ≤ 12) (hD : 1 ≤ D ∧ D ≤ 99) (hh : 0 ≤ h ∧ h ≤ 23) (hm : 0 ≤ m ∧ m ≤ 59) (hs : 0 ≤ s ∧ s ≤ 59)
    (htt : t = ⟨(c :: r).toArray⟩) (hv2 : r.length ≤ 65535)
    (u1 u8 u9 u10 u11 u12 u13 u14 u15 u16 u17 u18 u19 u20 u21 u22 u23 u24 u25 u26 u27 u28 u29 u30 u31 u32 u33 u34 u35 u36 u37 u38 u39 u40 u41 u42 u43 u44 u45 u46 u47 u48 u49 u50 u51 u52 u53 u54 u55 u56 u57 u58 u59 u60 u61 u62 u63 u64 u65 u66 u67 u68 u69 u70 u71 u72 u73 u74 u75 u76 u77 u78 u79 u80 u81 u82 u83 u84 u85 u86 u87 u88 u89 u90 u91 u92 u93 u94 u95 u96 u97 u98 u99 u100 u101 u102 u103 u104 u105 u106 u107 u108 u109 u110 u111 u112 u113 u114 u115 u116 u117 u118 u119 u120 u121 u122 u123 u124 u125 u126 u127 u128 u129 u130 u131 u132 u133 u134 u135 u136 u137 u138 u139 u140 u141 u142 u143 u144 u145 u146 u147 : Value) :
    Code.wp Tryz.prog timeTail (bodyPost Tryz.prog Tryz.f17 fun e w' => e = .returned (ret3 (tailT Y M D h m s (c :: r))) ∧ Below w0.heap.size w0 w') { tmps := #[.string v, u1, .int .i64 0, .string ⟨#[]⟩, .bool false, .pointer (some ⟨gd, 0, none⟩), .pointer (some ⟨gt, 0, none⟩), .string t, u8, u9, u10, u11, u12, u13, u14, u15, u16, u17, u18, u19, u20, u21, u22, u23, u24, u25, u26, u27, u28, u29, u30, u31, u32, u33, u34, u35, u36, u37, u38, u39, u40, u41, u42, u43, u44, u45, u46, u47, u48, u49, u50, u51, u52, u53, u54, u55, u56, u57, u58, u59, u60, u61, u62, u63, u64, u65, u66, u67, u68, u69, u70, u71, u72, u73, u74, u75, u76, u77, u78, u79, u80, u81, u82, u83, u84, u85, u86, u87, u88, u89, u90, u91, u92, u93, u94, u95, u96, u97, u98, u99, u100, u101, u102, u103, u104, u105, u106, u107, u108, u109, u110, u111, u112, u113, u114, u115, u116, u117, u118, u119, u120, u121, u122, u123, u124, u125, u126, u127, u128, u129, u130, u131, u132, u133, u134, u135, u136, u137, u138, u139, u140, u141, u142, u143, u144, u145, u146, u147], defers := [] } w := by
  conv => arg 2; whnf
  refine wp_seq_k fun K hK => ?_
  have HK := Lib.hid hK; clear hK
  have HCd := Lib.hid hd; have HCt := Lib.hid ht; clear hd ht
  have HB := Lib.hid (And.intro hY (And.intro hM (And.intro hD (And.intro hh (And.intro hm hs))))); clear hY hM hD hh hm hs
  have b0 : ∀ h, t[0]'h = c := fun _ => by subst htt; rfl
  have tsz : t.size = r.length + 1 := by rw [htt]; rfl
  have TSZ := Lib.hid tsz
  have ts0 : 0 < t.size := by omega
  have ti0 : (0 : Int) < t.size := by omega
  have ts1 : 1 ≤ t.size := by omega
  have ti1 : (1 : Int) ≤ t.size := by omega
  have tx : t.extract 1 t.size = ⟨r.toArray⟩ := by
    rw [Lib.extract_eq, htt]
    show (⟨((r.take (r.length + 1 - 1)).toArray)⟩ : ByteArray) = _
    rw [Nat.add_sub_cancel, List.take_length]
  have hn := trimL_split r
  have TTT := Lib.hid htt
  have hfr : fracT (c :: r) = if c = 46 ∨ c = 44 then
      (if r.length - (Lib.trimLeftS r digits10).length < 1 ∨ 9 < r.length - (Lib.trimLeftS r digits10).length then none
       else some (Lib.trimRightB (r.take (r.length - (Lib.trimLeftS r digits10).length)) 48, Lib.trimLeftS r digits10))
      else some ([], c :: r) := rfl
  have hT : tailT Y M D h m s (c :: r) = match fracT (c :: r) with
    | none => (0, [], false)
    | some (rest, z) => timeZ Y M D h m s rest z := rfl
  by_cases hc : c = 46 ∨ c = 44
  · rw [if_pos hc] at hfr
    have hsz : ((t.size : Nat) : Int) = (r.length : Int) + 1 := by omega
    have HTL : ∀ w, Calls Tryz.prog 49 #[.string ⟨r.toArray⟩, .string ⟨#[48, 49, 50, 51, 52, 53, 54, 55, 56, 57]⟩] w fun e w' => e = .returned (.string ⟨(Lib.trimLeftS r digits10).toArray⟩) ∧ Below w.heap.size w w' :=
      fun w => Any.strings_TrimLeft_laid Tryz.lays161 (by kernel_rfl) ⟨r.toArray⟩ ⟨#[48, 49, 50, 51, 52, 53, 54, 55, 56, 57]⟩ w (by decide) (ascii_of_all (by decide))
    generalize hzz : Lib.trimLeftS r digits10 = zz at hn hfr HTL
    obtain ⟨hn1, hn2⟩ := hn
    have HZZ := Lib.hid hn1; clear hn1 hzz
    obtain ⟨k, hk⟩ : ∃ k, k = r.length - zz.length := ⟨_, rfl⟩
    rw [← hk] at hfr
    have v1 : IntKind.i64.wrap ((t.size : Int) - 1) = (r.length : Int) := by rw [IntWalk.i64_in _ (by omega)]; omega
    have v2 : IntKind.i64.wrap ((r.length : Int) - (zz.length : Int)) = (k : Int) := by rw [IntWalk.i64_in _ (by omega)]; omega
    have v3 : IntKind.i64.wrap ((k : Int) + 1) = ((k + 1 : Nat) : Int) := by rw [IntWalk.i64_in _ (by omega)]; rfl
    have HX := Lib.hid HTL; clear HTL
    have zsz : ((⟨zz.toArray⟩ : ByteArray).size : Int) = (zz.length : Int) := rfl
    have hk8 : zz.length + k = r.length := by omega
    clear tsz hk htt hn2
    have HK8 := Lib.hid hk8
    by_cases hk1 : k < 1 ∨ 9 < k
    · rw [if_pos hk1] at hfr; rw [hfr] at hT
      have HT := Lib.hid hT; clear hT hfr
      have HK := Lib.hid hk1; clear hk1
      have q1 : (k : Int) < 1 ∨ ¬ (k : Int) < 1 ∧ 9 < (k : Int) := by have := HK.out; omega
      rcases hc with hc | hc <;> subst hc <;> rcases q1 with q1 | ⟨q1, q2⟩ <;> (
        go_wp2_with (first
          | (go_at_call 49; refine (HX.out w).mono ?_; rintro e w1 ⟨rfl, hb1⟩)
          | fail)
        go_ret3
        exact ⟨by rw [HT.out]; rfl, bnext HCd.out.below hb1⟩)
    · rw [if_neg hk1] at hfr; rw [hfr] at hT
      have HT := Lib.hid hT; clear hT hfr
      have q1 : ¬ (k : Int) < 1 := by omega
      have q2 : ¬ 9 < (k : Int) := by omega
      have tx2 : t.extract 1 (k + 1) = ⟨(r.take k).toArray⟩ := by
        rw [Lib.extract_eq, TTT.out]
        show (⟨((r.take (k + 1 - 1)).toArray)⟩ : ByteArray) = _
        rw [Nat.add_sub_cancel]
      have l1 : k + 1 ≤ t.size := by omega
      have l2 : ((k + 1 : Nat) : Int) ≤ t.size := by omega
      have l3 : (1 : Int) ≤ ((k + 1 : Nat) : Int) := by omega
      have l4 : 1 ≤ k + 1 := by omega
      generalize k + 1 = k1 at tx2 l1 l2 l3 l4 v3
      rcases hc with hc | hc <;> subst hc <;> (
        go_wp2_with (first
          | (go_at_call 49; refine (HX.out w).mono ?_; rintro e w1 ⟨rfl, hb1⟩)
          | (go_at_call 50; refine (Tryz.strings_TrimRight_one _ 48 (by decide) _ (by show (r.take k).length ≤ _; rw [List.length_take]; omega)).mono ?_; rintro e w2 ⟨rfl, rfl⟩)
          | fail)
        refine HK.out _ _ ?_
        obtain ⟨g1, g2, g3, g4, g5, g6⟩ := HB.out
        rw [HT.out]
        have := time_zone (z := zz) (rest := Lib.trimRightB (r.take k) 48) (HCd.out.next hb1) (HCt.out.next hb1) g1 g2 g3 g4 g5 g6 (by omega)
        apply this)
  · have hc1 : ¬ c = 46 := fun e => hc (.inl e)
    have hc2 : ¬ c = 44 := fun e => hc (.inr e)
    rw [if_neg hc] at hfr; rw [hfr] at hT
    have HT := Lib.hid hT; clear hT hfr
    clear htt tsz
    have c1 : ¬ (c.toNat : Int) = 46 := fun e => hc1 (UInt8.toNat_inj.1 (by show c.toNat = 46; omega))
    have c2 : ¬ (c.toNat : Int) = 44 := fun e => hc2 (UInt8.toNat_inj.1 (by show c.toNat = 44; omega))
    have c1 : ((c.toNat : Int) == 46) = false := beq_eq_false_iff_ne.2 c1
    have c2 : ((c.toNat : Int) == 44) = false := beq_eq_false_iff_ne.2 c2
    clear hc hc1 hc2
    go_wp2_with fail
    refine HK.out _ _ ?_
    obtain ⟨g1, g2, g3, g4, g5, g6⟩ := HB.out
    rw [HT.out]
    have e := TTT.out; subst e
    have := time_zone (rest := []) (z := c :: r) HCd.out HCt.out g1 g2 g3 g4 g5 g6 (by rw [List.length_cons]; omega)
    apply this
end Go.Proofs.YtpnnbffhdhbonaaGreatDoor
