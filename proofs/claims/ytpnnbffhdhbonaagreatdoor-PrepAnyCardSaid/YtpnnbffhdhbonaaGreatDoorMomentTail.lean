/- former.time from the date on. -/
import Derived.Test.YtpnnbffhdhbonaaGreatDoorMoment
import Derived.Test.YtpnnbffhdhbonaaGreatDoorTimeKit
import Derived.Deep.RegionHeld3
namespace Go.Proofs.YtpnnbffhdhbonaaGreatDoor
open Go Go.RowKit

noncomputable def momTail : Code := (Tryz.f68.body.bind (tailOf 7)).getD .skip

theorem civ_new (w : World) (t : TypeId) (a b c : Int) : Civ w (w.alloc (.cells #[.int .i64 a, .int .i64 b, .int .i64 c] t)) w.heap.size t a b c :=
  ⟨heap_alloc_new _ _, Nat.le_refl _, (Below.refl _ w).alloc (Nat.le_refl _) _⟩

set_option maxRecDepth 1000000 in
set_option maxHeartbeats 40000000 in
theorem mom_tail {w0 w : World} (d i : Int) (rest : ByteArray) (hr : rest.size ≤ 65536) (hB : Below w0.heap.size w0 w) (hE : Env w) (hd : -719528 ≤ d ∧ d ≤ 2932896) (hi : 0 ≤ i ∧ i < 86400)
    (u0 u1 u2 u3 u6 u8 u11 u12 u13 u14 u15 u16 u17 u18 u19 u20 u21 u22 u23 u24 u25 u26 u27 u28 u29 u30 u31 u32 u33 u34 u35 u36 u37 u38 u39 u40 u41 u42 u43 u44 u45 u46 u47 u48 u49 u50 u51 u52 u53 u54 u55 u56 u57 u58 u59 : Value) :
    Code.wp Tryz.prog momTail (bodyPost Tryz.prog Tryz.f68 fun e w' => e = .returned (.tuple #[.string ⟨(wideL (dateI d).1.toNat 4 ++ (wideL (dateI d).2.1.toNat 2 ++ (wideL (dateI d).2.2.toNat 2 ++
    (wideL (i / 3600).toNat 2 ++ (wideL (i / 60 % 60).toNat 2 ++ (wideL (i % 60).toNat 2 ++ rest.data.toList)))))).toArray⟩, .bool true]) ∧ Below w0.heap.size w0 w') { tmps := #[u0, u1, u2, u3, .string ⟨#[]⟩, .bool false, u6, .string rest, u8, .int .i64 d, .int .i64 i, u11, u12, u13, u14, u15, u16, u17, u18, u19, u20, u21, u22, u23, u24, u25, u26, u27, u28, u29, u30, u31, u32, u33, u34, u35, u36, u37, u38, u39, u40, u41, u42, u43, u44, u45, u46, u47, u48, u49, u50, u51, u52, u53, u54, u55, u56, u57, u58, u59], defers := [] } w := by
  conv => arg 2; whnf
  have HB := Lib.hid (And.intro hB hE); clear hB hE
  obtain ⟨⟨y0, y1⟩, ⟨m0, m1⟩, ⟨c0, c1⟩⟩ := dateI_range d hd.1 hd.2
  have HD := Lib.hid (fun w => date_any d w (by omega))
  obtain ⟨i0, i1⟩ := hi
  generalize (dateI d).1 = Y at *
  generalize (dateI d).2.1 = M at *
  generalize (dateI d).2.2 = D at *
  clear hd
  have q1 : IntKind.i64.wrap (i.tdiv 3600) = i / 3600 := by rw [Int.tdiv_eq_ediv_of_nonneg i0]; exact IntWalk.i64_in _ (by omega)
  have q2 : IntKind.i64.wrap (i.tdiv 60) = i / 60 := by rw [Int.tdiv_eq_ediv_of_nonneg i0]; exact IntWalk.i64_in _ (by omega)
  have q3 : (i / 60).tmod 60 = i / 60 % 60 := Int.tmod_eq_emod_of_nonneg (by omega)
  have q4 : i.tmod 60 = i % 60 := Int.tmod_eq_emod_of_nonneg i0
  have b1 : 0 ≤ i / 3600 ∧ i / 3600 < 100 := by omega
  have b2 : 0 ≤ i / 60 % 60 ∧ i / 60 % 60 < 100 := by omega
  have b3 : 0 ≤ i % 60 ∧ i % 60 < 100 := by omega
  have b4 : 0 ≤ i / 60 ∧ i / 60 < 10000 := by omega
  have q5 : i.tdiv 3600 = i / 3600 := Int.tdiv_eq_ediv_of_nonneg i0
  have q6 : i.tdiv 60 = i / 60 := Int.tdiv_eq_ediv_of_nonneg i0
  generalize i / 3600 = hh at *
  generalize i / 60 % 60 = mm at *
  generalize i / 60 = m6 at *
  generalize i % 60 = ss at *
  have sh : ∀ (x : Int) (l : List UInt8) (w : World), 0 ≤ x → x < 100 → wideL x.toNat 2 = l → Calls Tryz.prog 98 #[.int .i64 x, .int .i64 2] w fun e w' => e = .returned (.string ⟨l.toArray⟩) ∧ w' = w := fun x l w h0 h1 h2 => h2 ▸ wide_small' x 2 w (by omega) h0 h1
  have wl : ∀ (n k : Nat), n < 10000 → k ≤ 4 → (wideL n k).length ≤ 30 := by
    intro n k h1 h2
    have h3 := Lib.nDigits_le20 n (by omega)
    unfold wideL; rw [List.length_append, List.length_replicate, Lib.decDigits_length]; omega
  have nY := wl Y.toNat 4 (by omega) (by omega)
  have nM := wl M.toNat 2 (by omega) (by omega)
  have nD := wl D.toNat 2 (by omega) (by omega)
  have nh := wl hh.toNat 2 (by omega) (by omega)
  have nm := wl mm.toNat 2 (by omega) (by omega)
  have ns := wl ss.toNat 2 (by omega) (by omega)
  clear wl
  have HY0 : ∀ w, Env w → Calls Tryz.prog 98 #[.int .i64 Y, .int .i64 4] w fun e w' => e = .returned (.string ⟨(wideL Y.toNat 4).toArray⟩) ∧ Below w.heap.size w w' := fun w hE => wide_any' Y 4 w (by omega) y0 (by omega) hE
  have HM0 := fun w => sh M _ w (by omega) (by omega) rfl
  have HDD0 := fun w => sh D _ w (by omega) (by omega) rfl
  have Hh0 := fun w => sh hh _ w b1.1 b1.2 rfl
  have Hm0 := fun w => sh mm _ w b2.1 b2.2 rfl
  have Hs0 := fun w => sh ss _ w b3.1 b3.2 rfl
  generalize wideL Y.toNat 4 = lY at *
  generalize wideL M.toNat 2 = lM at *
  generalize wideL D.toNat 2 = lD at *
  generalize wideL hh.toNat 2 = lh at *
  generalize wideL mm.toNat 2 = lm at *
  generalize wideL ss.toNat 2 = ls at *
  have HY := Lib.hid HY0; have HM := Lib.hid HM0; have HDD := Lib.hid HDD0; have Hh := Lib.hid Hh0; have Hm := Lib.hid Hm0; have Hs := Lib.hid Hs0
  clear HY0 HM0 HDD0 Hh0 Hm0 Hs0 sh y0 y1 m0 m1 c0 c1 b1 b2 b3 q5 q6
  obtain ⟨m60, m61⟩ := b4
  have f2 : ¬ 9223372036854775807 < lY.length + lM.length := by omega
  have f3 : ¬ 9223372036854775807 < lY.length + lM.length + lD.length := by omega
  have f4 : ¬ 9223372036854775807 < lY.length + lM.length + lD.length + lh.length := by omega
  have f5 : ¬ 9223372036854775807 < lY.length + lM.length + lD.length + lh.length + lm.length := by omega
  have f6 : ¬ 9223372036854775807 < lY.length + lM.length + lD.length + lh.length + lm.length + ls.length := by omega
  have f7 : ¬ 9223372036854775807 < lY.length + lM.length + lD.length + lh.length + lm.length + ls.length + rest.size := by omega
  go_upto_region 9 with (first
    | (go_at_call 47; refine (HD.out _).mono ?_; rintro e w1 ⟨rfl, hb1⟩)
    | fail)
  have HB1 := Lib.hid (And.intro (bnext HB.out.1 hb1) (HB.out.2.next hb1)); clear HB hb1
  have hC := civ_new w1 45 Y M D
  generalize hgg : w1.heap.size = gd at hC
  generalize w1.alloc (.cells #[.int .i64 Y, .int .i64 M, .int .i64 D] 45) = w2 at hC ⊢
  have HB2 := Lib.hid (And.intro (bnext HB1.out.1 hC.below) (HB1.out.2.next hC.below)); clear HB1
  obtain ⟨e0, e1, e2⟩ := hC.cells
  have HC := Lib.hid hC; clear hC hgg
  apply wp_one (R := fun w' => Below w0.heap.size w0 w')
  case hw =>
    go_region_held3 (fun w' => w'.cell? ⟨gd, 0, none⟩ = some (.int .i64 Y) ∧ w'.cell? ⟨gd, 1, none⟩ = some (.int .i64 M) ∧ w'.cell? ⟨gd, 2, none⟩ = some (.int .i64 D))
      (first | exact ⟨e0, e1, e2⟩ | exact ⟨i0, i1, i2⟩)
      (first
        | (go_at_call 98; with_reducible refine (HY.out _ (HB2.out.2.next ((Below.refl _ w2).drew))).mono ?_; rintro e w5 ⟨rfl, hb5⟩; have hb5 := bnext ((Below.refl _ w2).drew) hb5; have H5 := Lib.hid (bnext HB2.out.1 hb5); obtain ⟨i0, i1, i2⟩ := (HC.out.next (w' := w5) hb5).cells; clear hb5)
        | (go_at_call 98; with_reducible refine (HM.out _).mono ?_; rintro e w6 ⟨rfl, rfl⟩)
        | (go_at_call 98; with_reducible refine (HDD.out _).mono ?_; rintro e w6 ⟨rfl, rfl⟩)
        | (go_at_call 98; with_reducible refine (Hh.out _).mono ?_; rintro e w6 ⟨rfl, rfl⟩)
        | (go_at_call 98; with_reducible refine (Hm.out _).mono ?_; rintro e w6 ⟨rfl, rfl⟩)
        | (go_at_call 98; with_reducible refine (Hs.out _).mono ?_; rintro e w6 ⟨rfl, rfl⟩)
        | fail)
    all_goals first | exact ⟨rfl, rfl, H5.out⟩ | exact ⟨rfl, rfl, bdrewN H5.out _⟩
  case hi =>
    intro w9 hb9
    have H9 := Lib.hid hb9; clear hb9
    go_wp2_with fail
    go_ret2
    refine ⟨?_, H9.out⟩
    show Ending.returned (.tuple #[.string _, .bool true]) = _
    rw [cat7]
end Go.Proofs.YtpnnbffhdhbonaaGreatDoor
