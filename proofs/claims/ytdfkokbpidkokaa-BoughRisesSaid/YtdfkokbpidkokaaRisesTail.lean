/- rosterlaw12.BoughRises: what stands behind the first loop: one row, of which all calls tell. -/
import Derived.Test.YtdfkokbpidkokaaRiseSt
import Derived.Test.YtdfkokbpidkokaaKnown
import Derived.Deep.DeepCutAuto
import Derived.Deep.CutBlock
namespace Go.Proofs.Ytdfkokbpidkokaa
open Go.RowKit

def isReg (n : Nat) : Code → Bool
  | .region id _ _ => id == n
  | .seq a _ => isReg n a
  | _ => false
/-- the code from region n on -/
def tailOf (n : Nat) : Code → Option Code
  | .seq a b => if isReg n a then some (.seq a b) else match tailOf n a with
    | some x => some x
    | none => tailOf n b
  | .block _ c => tailOf n c
  | _ => none
noncomputable def risesTail : Code := (Try.f5.body.bind (tailOf 30)).getD .skip

set_option maxRecDepth 1000000 in
set_option maxHeartbeats 40000000 in
theorem rises_tail {w : World} {o pr : Int} {q h p : Nat} {l : List (Int × Int)} {gk gv : Option Nat} {ck cv : Nat} {wr : World} (hR : RS o q w h l (l.map (·.1)) (l.map (·.2)) p gk ck gv cv wr) (hso : Sorted (cmpI o) l) (hll : l.length * 8 ≤ 140737488351232) (hpp : p ≤ 70368744177664)
    (u1 u3 u4 u5 u6 u11 u12 u13 u14 u15 u16 u17 u18 u19 u20 u21 u22 u23 u24 u25 u26 u27 u28 u29 u30 u31 u32 u33 u34 u35 u36 u37 u38 u39 u40 u41 u42 u43 u44 u45 u46 u47 u48 u49 u50 u51 u52 u53 u54 u55 u56 u57 u58 u59 u60 u61 u62 u63 u64 u65 u66 u67 u68 u69 u70 u71 u72 u73 u74 u75 u76 u77 u78 u79 u80 u81 u82 u83 u84 u85 u86 u87 u88 u89 u90 u91 u92 u93 u94 u95 u96 u97 u98 u99 u100 u101 u102 u103 u104 u105 u106 u107 u108 u109 u110 u111 u112 u113 u114 u115 u116 u117 u118 u119 u120 u121 u122 u123 u124 u125 u126 u127 u128 u129 u130 u131 u132 u133 u134 u135 u136 u137 u138 u139 u140 u141 u142 u143 u144 u145 u146 u147 u148 u149 u150 u151 u152 u153 u154 u155 u156 u157 u158 u159 u160 u161 u162 u163 u164 u165 u166 u167 u168 u169 u170 u171 u172 u173 u174 u175 u176 u177 u178 u179 u180 u181 u182 u183 u184 u185 u186 u187 u188 u189 u190 u191 u192 u193 u194 u195 u196 u197 u198 u199 u200 u201 u202 u203 u204 u205 u206 u207 u208 u209 u210 u211 u212 u213 u214 u215 u216 u217 u218 u219 u220 u221 u222 u223 u224 u225 u226 u227 u228 u229 u230 u231 u232 u233 u234 u235 u236 u237 u238 u239 u240 u241 u242 u243 u244 u245 u246 u247 u248 u249 u250 u251 u252 u253 u254 u255 u256 u257 u258 u259 u260 u261 u262 u263 u264 u265 u266 u267 u268 u269 u270 u271 u272 u273 u274 u275 u276 u277 u278 u279 u280 u281 u282 u283 u284 u285 u286 u287 u288 u289 u290 u291 u292 u293 u294 u295 u296 u297 u298 u299 u300 u301 u302 u303 u304 u305 u306 u307 u308 u309 u310 u311 u312 u313 u314 u315 u316 u317 u318 u319 u320 u321 u322 u323 u324 u325 u326 u327 u328 : Value) :
    Code.wp Try.prog risesTail (bodyPost Try.prog Try.f5 fun e w' => e = .returned (.bool true) ∧ Chg (fun _ => False) w w') { tmps := #[.int .i64 o, u1, .int .i64 pr, u3, u4, u5, u6, .func (.func 51) #[] #[.pointer (some ⟨q, 0, none⟩)], .pointer (some ⟨h, 0, none⟩), .slice (gk.map fun g => (⟨g, 0, none⟩ : Addr)) l.length ck, .slice (gv.map fun g => (⟨g, 0, none⟩ : Addr)) l.length cv, u11, u12, u13, u14, u15, u16, u17, u18, u19, u20, u21, u22, u23, u24, u25, u26, u27, u28, u29, u30, u31, u32, u33, u34, u35, u36, u37, u38, u39, u40, u41, u42, u43, u44, u45, u46, u47, u48, u49, u50, u51, u52, u53, u54, u55, u56, u57, u58, u59, u60, u61, u62, u63, u64, u65, u66, u67, u68, u69, u70, u71, u72, u73, u74, u75, u76, u77, u78, u79, u80, u81, u82, u83, u84, u85, u86, u87, u88, u89, u90, u91, u92, u93, u94, u95, u96, u97, u98, u99, u100, u101, u102, u103, u104, u105, u106, u107, u108, u109, u110, u111, u112, u113, u114, u115, u116, u117, u118, u119, u120, u121, u122, u123, u124, u125, u126, u127, u128, u129, u130, u131, u132, u133, u134, u135, u136, u137, u138, u139, u140, u141, u142, u143, u144, u145, u146, u147, u148, u149, u150, u151, u152, u153, u154, u155, u156, u157, u158, u159, u160, u161, u162, u163, u164, u165, u166, u167, u168, u169, u170, u171, u172, u173, u174, u175, u176, u177, u178, u179, u180, u181, u182, u183, u184, u185, u186, u187, u188, u189, u190, u191, u192, u193, u194, u195, u196, u197, u198, u199, u200, u201, u202, u203, u204, u205, u206, u207, u208, u209, u210, u211, u212, u213, u214, u215, u216, u217, u218, u219, u220, u221, u222, u223, u224, u225, u226, u227, u228, u229, u230, u231, u232, u233, u234, u235, u236, u237, u238, u239, u240, u241, u242, u243, u244, u245, u246, u247, u248, u249, u250, u251, u252, u253, u254, u255, u256, u257, u258, u259, u260, u261, u262, u263, u264, u265, u266, u267, u268, u269, u270, u271, u272, u273, u274, u275, u276, u277, u278, u279, u280, u281, u282, u283, u284, u285, u286, u287, u288, u289, u290, u291, u292, u293, u294, u295, u296, u297, u298, u299, u300, u301, u302, u303, u304, u305, u306, u307, u308, u309, u310, u311, u312, u313, u314, u315, u316, u317, u318, u319, u320, u321, u322, u323, u324, u325, u326, u327, u328], defers := [] } wr := by
  conv => arg 2; whnf
  have HR := Lib.hid hR; clear hR
  have HSO := Lib.hid hso; clear hso
  have hby : 16 * (l.map (onV (Value.int .i64))).length ≤ 281474976710656 := by rw [List.length_map]; omega
  have HBY := Lib.hid hby; clear hby
  have hsm : Sorted (cmpI o) (l.map (onV (Value.int .i64))) := sorted_map _ _ HSO.out
  have HSM := Lib.hid hsm; clear hsm
  go_wp2_with fail
  refine (knI2 (all_Q HR.out.b HBY.out)).mono ?_
  rintro e w3 ⟨qi, gi, rfl, I3⟩
  go_wp2_with fail
  refine (knP (ps := l) I3.out.1 I3.out.2.1 I3.out.2.2.1 (by omega)).mono ?_
  rintro e w4 ⟨va, vb, rfl, P4⟩
  have hc4 := I3.out.2.2.2.2.2.trans P4.out.2.2
  have R4 := Lib.hid (HR.out.same hc4); clear hc4
  have sk := SeesI.of_own R4.out.k
  have sv' := SeesI.of_own R4.out.v
  rw [List.length_map] at sk sv'
  simp only [sv] at sk sv'
  have SK := Lib.hid (And.intro sk sv'); clear sk sv'
  go_wp2_with fail
  refine (ints_yes P4.out.1 SK.out.1 rfl (by simp; omega)).mono ?_
  rintro e w5 ⟨rfl, n5, rfl⟩
  go_wp2_with fail
  refine (ints_yes (P4.out.2.1.chg ((Chg.refl (fun _ => False) w4).drewN n5) (fun _ _ h => h)) (SK.out.2.chg ((Chg.refl (fun _ => False) w4).drewN n5) (fun _ _ h => h)) rfl (by simp; omega)).mono ?_
  rintro e w6 ⟨rfl, n6, rfl⟩
  have R6 := Lib.hid ((R4.out.drewN n5).drewN n6)
  have hc6 : Chg (fun x => w.heap.size ≤ x) w ((w4.drewN n5).drewN n6) := R6.out.b.frame
  generalize (w4.drewN n5).drewN n6 = w6 at R6 hc6 ⊢
  clear SK P4 I3 R4 hc6
  have hlq := len_Q R6.out.b
  rw [List.length_map] at hlq
  have HLQ := Lib.hid hlq; clear hlq
  have t1 : ((l.length : Int) != l.length) = false := by simp
  go_wp2_with fail
  refine HLQ.out.mono ?_
  rintro e w7 ⟨rfl, rfl⟩
  go_wp2_with fail
  have hrq := rank_Q R6.out.b pr HSM.out hpp
  rw [rk_map] at hrq
  have hrl := rk_le (cmpI o) l pr
  have hup := upL_le (cmpI o) l pr
  have HUP : Hid (upL (cmpI o) l pr = if hasL (cmpI o) l pr then rk (cmpI o) l pr + 1 else rk (cmpI o) l pr) := rfl
  refine hrq.mono ?_
  rintro e w8 ⟨rfl, n8, rfl⟩
  have R8 := Lib.hid (R6.out.drewN n8)
  generalize w6.drewN n8 = w8 at R8 ⊢
  clear R6 HLQ hrq t1
  have r0 : (0 : Int) ≤ rk (cmpI o) l pr := by omega
  have r1 : ((rk (cmpI o) l pr : Nat) : Int) ≤ l.length := by omega
  go_upto_region 37 with fail
  go_cut [197] from 149 to 197 (fun s wx => s = .bool (hasL (cmpI o) l pr) ∧ wx = w8)
  case first =>
    -- <dev f0
    have hq1 := R8.out.b.cq
    by_cases hjl : rk (cmpI o) l pr < l.length
    · obtain ⟨g, rfl⟩ := R8.out.ksome (by simp; omega)
      simp only [Option.map_some]
      have hcj := R8.out.kcell (i := rk (cmpI o) l pr) (by simp; omega)
      have j1 : ((rk (cmpI o) l pr : Nat) : Int) < l.length := by omega
      rw [List.getElem_map] at hcj
      have hh := hasL_at (cmpI o) l pr _ (List.getElem?_eq_getElem hjl)
      generalize l[rk (cmpI o) l pr] = y at hcj hh
      have HHH := Lib.hid hh; clear hh
      generalize rk (cmpI o) l pr = r at *
      go_wp2_with (go_at_call 51; refine (order_cmp q o _ _ _ hq1).mono ?_; rintro e w' ⟨rfl, rfl⟩)
      go_meet
      exact ⟨by rw [HHH.out], rfl⟩
    · have hh := hasL_end (cmpI o) l pr hjl
      have hd : decide (((rk (cmpI o) l pr : Nat) : Int) < l.length) = false := by simp; omega
      have HHH := Lib.hid hh; clear hh
      go_wp2_with fail
      go_meet
      exact ⟨by rw [HHH.out], rfl⟩
    -- dev>
  case rest =>
    obtain ⟨rfl, rfl⟩ := hcut
    go_upto_if 197 with fail
    go_cut [19] from 149 to 199 (fun s wx => s = .int .i64 (upL (cmpI o) l pr) ∧ wx = wc)
    case first =>
      -- <dev f1
      cases hz : hasL (cmpI o) l pr
      · have hm : rk (cmpI o) l pr = upL (cmpI o) l pr := by rw [HUP.out, hz]; rfl
        have HM := Lib.hid hm; clear hm hz
        go_wp2_with fail
        go_meet
        exact ⟨by rw [HM.out], rfl⟩
      · have hm : rk (cmpI o) l pr + 1 = upL (cmpI o) l pr := by rw [HUP.out, hz]; rfl
        have HM := Lib.hid hm; clear hm hz
        go_wp2_with fail
        go_meet
        exact ⟨by rw [← HM.out]; rfl, rfl⟩
      -- dev>
    case rest =>
      obtain ⟨rfl, rfl⟩ := hcut
      go_wp2_with fail
      have hfq := from_Q R8.out.b pr HSM.out HBY.out
      rw [rk_map, ← List.map_drop] at hfq
      refine (knI2 hfq).mono ?_
      rintro e w3 ⟨qi, gi, rfl, I3⟩
      go_wp2_with fail
      refine (knP (ps := l.drop (rk (cmpI o) l pr)) I3.out.1 I3.out.2.1 I3.out.2.2.1 (by simp; omega)).mono ?_
      rintro e w4 ⟨ua, ub, rfl, P4⟩
      have R9 := Lib.hid (R8.out.same (I3.out.2.2.2.2.2.trans P4.out.2.2))
      clear hfq R8 I3
      have huq := up_Q R9.out.b pr HSM.out HBY.out
      rw [show upL (cmpI o) (l.map (onV (Value.int .i64))) pr = upL (cmpI o) l pr by unfold upL; rw [hasL_map, rk_map], ← List.map_take, ← List.map_reverse] at huq
      go_wp2_with fail
      refine (knI2 huq).mono ?_
      rintro e w5 ⟨qi, gi, rfl, I5⟩
      go_wp2_with fail
      refine (knP (ps := (l.take (upL (cmpI o) l pr)).reverse) I5.out.1 I5.out.2.1 I5.out.2.2.1 (by simp; omega)).mono ?_
      rintro e w6 ⟨da, db, rfl, P6⟩
      have hc46 := I5.out.2.2.2.2.2.trans P6.out.2.2
      have R10 := Lib.hid (R9.out.same hc46)
      have hua := P4.out.1.chg hc46 (fun _ _ h => h)
      have HUA := Lib.hid hua; clear hua hc46
      clear huq R9 I5 P4
      have u0 : (0 : Int) ≤ upL (cmpI o) l pr := by omega
      have u1 : ((upL (cmpI o) l pr : Nat) : Int) ≤ l.length := by omega
      have hlk := R10.out.kle
      rw [List.length_map] at hlk
      have u2 : (l.length : Int) ≤ ck := by omega
      have u3 : ((rk (cmpI o) l pr : Nat) : Int) ≤ ck := by omega
      have u4 : ((upL (cmpI o) l pr : Nat) : Int) ≤ ck := by omega
      go_upto_region 41 with fail
      go_cut [228] from 149 to 228 (fun s wx => s = .bool false ∧ Chg (fun _ => False) w6 wx)
      case first =>
        -- <dev f2
        rcases gk with _ | g
        · have hl0 : l.length = 0 := by have := R10.out.k.2.1; simpa using this
          have hck0 : ck = 0 := R10.out.k.2.2
          subst hck0
          obtain rfl : l = [] := List.eq_nil_of_length_eq_zero hl0
          have hr0 : rk (cmpI o) ([] : List (Int × Int)) pr = 0 := rfl
          have hu0 : upL (cmpI o) ([] : List (Int × Int)) pr = 0 := rfl
          rw [hr0, hu0]
          clear hl0 r0 r1 u0 u1 u2 u3 u4 hr0 hu0
          simp only [Option.map_none, List.length_nil]
          go_wp2_with fail
          refine (ints_yes HUA.out (SeesI.empty _) (by simp) (by simp)).mono ?_
          rintro e w7 ⟨rfl, n7, rfl⟩
          go_wp2_with fail
          refine (back_sees (SeesI.empty _) (by simp)).mono ?_
          rintro e w8 ⟨vb8, rfl, hs8, c8'⟩
          have hda := P6.out.1.chg (((Chg.refl (fun _ => False) w6).drewN n7).trans c8') (fun _ _ h => h)
          have HCH := Lib.hid (((Chg.refl (fun _ => False) w6).drewN n7).trans c8')
          have H8 := Lib.hid (And.intro hs8 hda); clear hs8 hda c8'
          go_wp2_with fail
          refine (ints_yes H8.out.2 H8.out.1 (by simp) (by simp)).mono ?_
          rintro e w9 ⟨rfl, n9, rfl⟩
          go_wp2_with fail
          go_meet
          exact ⟨rfl, HCH.out.drewN n9⟩
        · simp only [Option.map_some]
          have hst : ∀ z, z = (if ck = rk (cmpI o) l pr then some (⟨g, 0, none⟩ : Addr) else some ⟨g, rk (cmpI o) l pr, none⟩) → ∀ m, SeesI w6 (.slice z (l.length - rk (cmpI o) l pr) m) ((l.map (fun x => x.1)).drop (rk (cmpI o) l pr)) := fun z hz m => by
            have := SeesI.tail R10.out.k (r := rk (cmpI o) l pr) (by simp; omega) z hz m
            rwa [List.length_map] at this
          have hsh := fun m => SeesI.head R10.out.k (r := upL (cmpI o) l pr) (by simp; omega) m
          have HST := Lib.hid hst; clear hst
          have HSH := Lib.hid hsh; clear hsh
          have HDD : Hid ((List.drop (rk (cmpI o) l pr) l).map (fun x => x.1) = (l.map (fun x => x.1)).drop (rk (cmpI o) l pr)) := by simp [Hid, List.map_drop]
          have HDT : Hid ((l.take (upL (cmpI o) l pr)).reverse.map (fun x => x.1) = ((l.map (fun x => x.1)).take (upL (cmpI o) l pr)).reverse) := by simp [Hid, List.map_take]
          generalize rk (cmpI o) l pr = r at *
          by_cases hck : ck = r
          · have HS7 := Lib.hid (HST.out (some ⟨g, 0, none⟩) (by rw [if_pos hck]) 0)
            go_wp2_with fail
            refine (ints_yes HUA.out HS7.out HDD.out (by simp; omega)).mono ?_
            rintro e w7 ⟨rfl, n7, rfl⟩
            go_wp2_with fail
            refine (back_sees ((HSH.out _).chg ((Chg.refl (fun _ => False) w6).drewN n7) (fun _ _ h => h)) (by simp; omega)).mono ?_
            rintro e w8 ⟨vb8, rfl, hs8, c8'⟩
            have hda := P6.out.1.chg (((Chg.refl (fun _ => False) w6).drewN n7).trans c8') (fun _ _ h => h)
            have HCH := Lib.hid (((Chg.refl (fun _ => False) w6).drewN n7).trans c8')
            have H8 := Lib.hid (And.intro hs8 hda); clear hs8 hda c8'
            go_wp2_with fail
            refine (ints_yes H8.out.2 H8.out.1 HDT.out (by simp; omega)).mono ?_
            rintro e w9 ⟨rfl, n9, rfl⟩
            go_wp2_with fail
            subst hck
            go_meet
            exact ⟨rfl, HCH.out.drewN n9⟩
          · have HS7 := Lib.hid (HST.out (some ⟨g, r, none⟩) (by rw [if_neg hck]) (ck - r))
            go_wp2_with fail
            refine (ints_yes HUA.out HS7.out HDD.out (by simp; omega)).mono ?_
            rintro e w7 ⟨rfl, n7, rfl⟩
            go_wp2_with fail
            refine (back_sees ((HSH.out _).chg ((Chg.refl (fun _ => False) w6).drewN n7) (fun _ _ h => h)) (by simp; omega)).mono ?_
            rintro e w8 ⟨vb8, rfl, hs8, c8'⟩
            have hda := P6.out.1.chg (((Chg.refl (fun _ => False) w6).drewN n7).trans c8') (fun _ _ h => h)
            have HCH := Lib.hid (((Chg.refl (fun _ => False) w6).drewN n7).trans c8')
            have H8 := Lib.hid (And.intro hs8 hda); clear hs8 hda c8'
            go_wp2_with fail
            refine (ints_yes H8.out.2 H8.out.1 HDT.out (by simp; omega)).mono ?_
            rintro e w9 ⟨rfl, n9, rfl⟩
            go_wp2_with fail
            go_meet
            exact ⟨rfl, HCH.out.drewN n9⟩
        -- dev>
      case rest =>
        obtain ⟨rfl, hcx⟩ := hcut
        have R11 := Lib.hid (R10.out.same hcx)
        clear R10 HUA P6 hcx
        have HUP2 := HUP
        clear HUP HUP2 HSM HBY
        go_wp2
        go_loopw [24] (fun iv' wx => ∃ i : Nat, iv' = .int .i64 i ∧ i ≤ l.length ∧ Chg (fun _ => False) wc wx) (fun iv' _ => (l.length - intOf iv').toNat)
        case atStart => exact ⟨0, rfl, Nat.zero_le _, Chg.refl _ _⟩
        case round =>
          obtain ⟨i, rfl, hi, hch⟩ := hrel
          have R12 := Lib.hid (R11.out.same hch)
          have HCH := Lib.hid hch; clear hch
          by_cases hlt : i < l.length
          · obtain ⟨g, rfl⟩ := R12.out.ksome (by simp; omega)
            obtain ⟨g2, rfl⟩ := R12.out.vsome (by simp; omega)
            simp only [Option.map_some]
            have b1 : (i : Int) < l.length := by omega
            have b0 : (0 : Int) ≤ i := by omega
            go_wp2_with fail
            refine (nth_self R12.out hpp hlt).mono ?_
            rintro e w3 ⟨rfl, c3⟩
            have R13 := Lib.hid (R12.out.same c3)
            have HC3 := Lib.hid (HCH.out.trans c3); clear c3
            have k3 := R13.out.kcell (i := i) (by simpa using hlt)
            rw [List.getElem_map] at k3
            go_wp2_with fail
            refine (get_self R13.out HSO.out hpp hlt).mono ?_
            rintro e w4 ⟨rfl, c4⟩
            clear k3
            have R14 := Lib.hid (R13.out.same c4)
            have HC4 := Lib.hid (HC3.out.trans c4); clear c4
            have k4 := R14.out.kcell (i := i) (by simpa using hlt)
            rw [List.getElem_map] at k4
            have v4 := R14.out.vcell (i := i) (by simpa using hlt)
            rw [List.getElem_map] at v4
            have hrs := fun n => rank_self (R14.out.drewN n) HSO.out hpp hlt
            have HRS := Lib.hid hrs; clear hrs
            have hq4 := R14.out.b.cq
            have e1 : ((l[i]).1 != (l[i]).1) = false := by simp
            have e2 : ((l[i]).2 != (l[i]).2) = false := by simp
            have e3 : ((i : Int) != i) = false := by simp
            go_upto_region 48 with fail
            go_cut [308] from 229 to 308 (fun s wx => s = .bool false ∧ ∃ n, wx = w4.drewN n)
            case first =>
              by_cases h0 : i = 0
              · subst h0
                have d0 : decide ((0 : Int) < ((0 : Nat) : Int)) = false := by simp
                generalize l[0] = y at *
                go_quiet (first
                  | (go_at_call 37; exact Calls.quiet_of (HRS.out _))
                  | (go_at_call 51; exact quiet_eq (order_cmp q o _ _ _ hq4)))
                go_wp2_with fail
                go_meet
                exact ⟨rfl, _, rfl⟩
              · -- <dev j
                have kj := R14.out.kcell (i := i - 1) (by simp; omega)
                rw [List.getElem_map] at kj
                have m0 : (0 : Int) ≤ (i : Int) - 1 := by omega
                have m1 : (i : Int) - 1 < l.length := by omega
                have ht : ((i : Int) - 1).toNat = i - 1 := by omega
                have m2 : IntKind.i64.wrap ((i : Int) - 1) = (i : Int) - 1 := IntWalk.i64_in _ (by omega)
                have d1 : 0 < i := by omega
                have d3 : (1 : Int) ≤ (i : Int) := by omega
                have hcm : cmpI o (l[i - 1]).1 (l[i]).1 < 0 := List.pairwise_iff_getElem.1 HSO.out (i - 1) i (by omega) hlt (by omega)
                have d2 : decide ((0 : Int) ≤ cmpI o (l[i - 1]).1 (l[i]).1) = false := by simp; omega
                generalize l[i - 1] = z at *
                generalize l[i] = y at *
                clear hcm
                go_quiet (first
                  | (go_at_call 37; exact Calls.quiet_of (HRS.out _))
                  | (go_at_call 51; exact quiet_eq (order_cmp q o _ _ _ hq4)))
                go_wp2_with fail
                go_meet
                exact ⟨rfl, _, rfl⟩
                -- dev>
            case rest =>
              obtain ⟨rfl, nq, rfl⟩ := hcut
              go_upto_if 308 with fail
              have HCN := Lib.hid (HC4.out.drewN nq)
              generalize w4.drewN nq = w9 at HCN ⊢
              clear R14 HRS HC4 R13 HC3 R12 R11 e1 e2 e3 v4 k4 hq4
              go_wp2_with fail
              go_roundw
              case rel => exact ⟨i + 1, by go_num, hlt, HCN.out⟩
              case measure => simp [intOf]; omega
          · have hd : decide ((i : Int) < l.length) = false := by simp; omega
            go_wp2_with fail
            refine (nth_none R12.out (l.length : Int) (.inr (Int.le_refl _))).mono ?_
            rintro e w3 ⟨rfl, c3⟩
            have R13 := Lib.hid (R12.out.same c3)
            have HC3 := Lib.hid (HCH.out.trans c3); clear c3
            go_wp2_with fail
            refine (nth_none R13.out (-1) (.inl (by omega))).mono ?_
            rintro e w4 ⟨rfl, c4⟩
            have R14 := Lib.hid (R13.out.same c4)
            clear c4
            go_wp2_with fail
            go_ret
            exact ⟨rfl, R14.out.b.frame.mono (T := fun _ => False) fun k hk hm => by omega⟩
end Go.Proofs.Ytdfkokbpidkokaa
