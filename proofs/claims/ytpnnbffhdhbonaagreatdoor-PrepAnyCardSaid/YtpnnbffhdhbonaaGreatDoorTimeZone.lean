/- prep.Time from the zone on. -/
import Derived.Test.YtpnnbffhdhbonaaGreatDoorTimeKit
namespace Go.Proofs.YtpnnbffhdhbonaaGreatDoor
open Go Go.RowKit

noncomputable def timeZone : Code := (Tryz.f17.body.bind (tailOf 14)).getD .skip

set_option maxRecDepth 1000000 in
set_option maxHeartbeats 40000000 in
theorem time_zone {w0 w : World} {gd gt : Nat} {Y M D h m s : Int} {rest z : List UInt8} (hd : Civ w0 w gd 45 Y M D) (ht : Civ w0 w gt 44 h m s)
    (hY : 0 ≤ Y ∧ Y ≤ 9999) (hM : 1 ≤ M ∧ M ≤ 12) (hD : 1 ≤ D ∧ D ≤ 99) (hh : 0 ≤ h ∧ h ≤ 23) (hm : 0 ≤ m ∧ m ≤ 59) (hs : 0 ≤ s ∧ s ≤ 59) (hz : z.length ≤ 65536)
    (u0 u1 u8 u9 u10 u11 u12 u13 u14 u15 u16 u17 u18 u19 u20 u21 u22 u23 u24 u25 u26 u27 u28 u29 u30 u31 u32 u33 u34 u35 u36 u37 u38 u39 u40 u41 u42 u43 u44 u45 u46 u47 u48 u49 u50 u51 u52 u53 u54 u55 u56 u57 u58 u59 u60 u61 u62 u63 u64 u65 u66 u67 u68 u69 u70 u71 u72 u73 u74 u75 u76 u77 u78 u79 u80 u81 u82 u83 u84 u85 u86 u87 u88 u89 u90 u91 u92 u93 u94 u95 u96 u97 u98 u99 u100 u101 u102 u103 u104 u105 u106 u107 u108 u109 u110 u111 u112 u113 u114 u115 u116 u117 u118 u119 u120 u121 u122 u123 u124 u125 u126 u127 u128 u129 u130 u131 u132 u133 u134 u135 u136 u137 u138 u139 u140 u141 u142 u143 u144 u145 u146 u147 : Value) :
    Code.wp Tryz.prog timeZone (bodyPost Tryz.prog Tryz.f17 fun e w' => e = .returned (ret3 (timeZ Y M D h m s rest z)) ∧ Below w0.heap.size w0 w') { tmps := #[u0, u1, .int .i64 0, .string ⟨rest.toArray⟩, .bool false, .pointer (some ⟨gd, 0, none⟩), .pointer (some ⟨gt, 0, none⟩), .string ⟨z.toArray⟩, u8, u9, u10, u11, u12, u13, u14, u15, u16, u17, u18, u19, u20, u21, u22, u23, u24, u25, u26, u27, u28, u29, u30, u31, u32, u33, u34, u35, u36, u37, u38, u39, u40, u41, u42, u43, u44, u45, u46, u47, u48, u49, u50, u51, u52, u53, u54, u55, u56, u57, u58, u59, u60, u61, u62, u63, u64, u65, u66, u67, u68, u69, u70, u71, u72, u73, u74, u75, u76, u77, u78, u79, u80, u81, u82, u83, u84, u85, u86, u87, u88, u89, u90, u91, u92, u93, u94, u95, u96, u97, u98, u99, u100, u101, u102, u103, u104, u105, u106, u107, u108, u109, u110, u111, u112, u113, u114, u115, u116, u117, u118, u119, u120, u121, u122, u123, u124, u125, u126, u127, u128, u129, u130, u131, u132, u133, u134, u135, u136, u137, u138, u139, u140, u141, u142, u143, u144, u145, u146, u147], defers := [] } w := by
  conv => arg 2; whnf
  have HCd := Lib.hid hd; have HCt := Lib.hid ht; clear hd ht
  obtain ⟨y0, y1⟩ := hY; obtain ⟨m0, m1⟩ := hM; obtain ⟨d0, d1⟩ := hD; obtain ⟨h0, h1⟩ := hh; obtain ⟨n0, n1⟩ := hm; obtain ⟨s0, s1⟩ := hs
  have hzr := zoneL_range z
  have hN := daysI_range y0 y1 m0 m1 d0 d1
  have hT : timeZ Y M D h m s rest z = if (zoneL z).2 = false ∨ daysI Y M D * 86400 + (h * 3600 + m * 60 + s - (zoneL z).1 * 60) < -62167219200 ∨ 253402300800 ≤ daysI Y M D * 86400 + (h * 3600 + m * 60 + s - (zoneL z).1 * 60) then (0, [], false)
    else (daysI Y M D * 86400 + (h * 3600 + m * 60 + s - (zoneL z).1 * 60), rest, true) := rfl
  have HZ : ∀ w, Calls Tryz.prog 51 #[.string ⟨z.toArray⟩] w fun e w' => e = .returned (.tuple #[.int .i64 (zoneL z).1, .bool (zoneL z).2]) ∧ ∃ q, w' = w.drewN q := fun w => zone_any ⟨z.toArray⟩ w (by show z.length ≤ _; omega)
  generalize (zoneL z).1 = A at hzr hT HZ
  generalize (zoneL z).2 = right at hT HZ
  obtain ⟨a0, a1⟩ := hzr
  have HND := Lib.hid (fun w => days_any Y M D w ⟨y0, by omega⟩ ⟨m0, m1⟩ ⟨by omega, d1⟩)
  generalize daysI Y M D = N at hN hT HND
  obtain ⟨k0, k1⟩ := hN
  have HZ := Lib.hid HZ
  cases right with
  | false =>
    have HT := Lib.hid (hT.trans (if_pos (.inl rfl))); clear hT
    go_wp2_with (first
      | (go_at_call 51; refine (HZ.out w).mono ?_; rintro e w1 ⟨rfl, q, rfl⟩)
      | fail)
    go_ret3
    exact ⟨by rw [HT.out]; rfl, bdrewN HCd.out.below q⟩
  | true =>
    have hT2 : timeZ Y M D h m s rest z = if N * 86400 + (h * 3600 + m * 60 + s - A * 60) < -62167219200 ∨ 253402300800 ≤ N * 86400 + (h * 3600 + m * 60 + s - A * 60) then (0, [], false)
      else (N * 86400 + (h * 3600 + m * 60 + s - A * 60), rest, true) := by rw [hT]; simp
    clear hT
    have HTb := Lib.hid (fun hb => hT2.trans (if_pos hb)); have HTg := Lib.hid (fun hb => hT2.trans (if_neg hb)); clear hT2
    go_wp2_with (first
      | (go_at_call 51; refine (HZ.out w).mono ?_; rintro e w1 ⟨rfl, q, rfl⟩)
      | fail)
    have CD := HCd.out.next (bdrewN (Below.refl _ w) q)
    have CT := HCt.out.next (bdrewN (Below.refl _ w) q)
    generalize w.drewN q = w1 at CD CT ⊢
    obtain ⟨e0, e1, e2⟩ := CD.cells
    obtain ⟨f0, f1, f2⟩ := CT.cells
    have hrow := CD.row
    have HD1 := Lib.hid CD; have HT1 := Lib.hid CT; clear CD CT HCd HCt HZ
    have v1 : IntKind.i64.wrap (N * 86400) = N * 86400 := IntWalk.i64_in _ (by omega)
    have v2 : IntKind.i64.wrap (h * 3600) = h * 3600 := IntWalk.i64_in _ (by omega)
    have v3 : IntKind.i64.wrap (m * 60) = m * 60 := IntWalk.i64_in _ (by omega)
    have v4 : IntKind.i64.wrap (h * 3600 + m * 60) = h * 3600 + m * 60 := IntWalk.i64_in _ (by omega)
    have v5 : IntKind.i64.wrap (h * 3600 + m * 60 + s) = h * 3600 + m * 60 + s := IntWalk.i64_in _ (by omega)
    have v6 : IntKind.i64.wrap (A * 60) = A * 60 := IntWalk.i64_in _ (by omega)
    have v7 : IntKind.i64.wrap (h * 3600 + m * 60 + s - A * 60) = h * 3600 + m * 60 + s - A * 60 := IntWalk.i64_in _ (by omega)
    have v8 : IntKind.i64.wrap (N * 86400 + (h * 3600 + m * 60 + s - A * 60)) = N * 86400 + (h * 3600 + m * 60 + s - A * 60) := IntWalk.i64_in _ (by omega)
    go_region_held3 (fun w' => w'.cell? ⟨gd, 0, none⟩ = some (.int .i64 Y) ∧ w'.cell? ⟨gd, 1, none⟩ = some (.int .i64 M) ∧ w'.cell? ⟨gd, 2, none⟩ = some (.int .i64 D) ∧ w'.cell? ⟨gt, 0, none⟩ = some (.int .i64 h) ∧ w'.cell? ⟨gt, 1, none⟩ = some (.int .i64 m) ∧ w'.cell? ⟨gt, 2, none⟩ = some (.int .i64 s))
      (first | exact ⟨e0, e1, e2, f0, f1, f2⟩ | exact ⟨i0, i1, i2, j0, j1, j2⟩)
      (first
        | (go_at_call 48; refine (HND.out _).mono ?_; rintro e w5 ⟨rfl, hb5⟩; have hb5 := bnext ((Below.refl _ w1).drew) hb5; have CT5 := HT1.out.next (w' := w5) hb5; obtain ⟨j0, j1, j2⟩ := CT5.cells; obtain ⟨i0, i1, i2⟩ := (HD1.out.next (w' := w5) hb5).cells; have HB5 := Lib.hid CT5.below; clear CT5 hb5)
        | fail)
    go_wp2_with fail
    all_goals first
      | (go_ret3; exact ⟨by rw [HTb.out (by omega)]; rfl, HB5.out⟩)
      | (go_ret3; exact ⟨by rw [HTg.out (by omega)]; rfl, HB5.out⟩)
      | fail
end Go.Proofs.YtpnnbffhdhbonaaGreatDoor
