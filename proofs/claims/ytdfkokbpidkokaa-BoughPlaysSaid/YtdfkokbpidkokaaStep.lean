/- rosterlaw12.step (24): one call on both. Printed by gen_step.py. -/
import Derived.Test.YtdfkokbpidkokaaStepSt
namespace Go.Proofs.Ytdfkokbpidkokaa
open Go.RowKit

section
variable {o : Int} {h t : Nat} {l : List (Int × ByteArray)} {p : Nat} {FT : List Nat} {w : World}

set_option maxRecDepth 100000 in
set_option maxHeartbeats 2000000 in
theorem step1 (H : PS o h t l l p FT w) (hs : Sorted (cmpI o) l) (hl : (l.length + 1) * 24 ≤ 140737488355328) (hp : p ≤ 70368744177664) (K : Int) (V : ByteArray) (N : Int) :
    Calls Try.prog 24 #[.pointer (some ⟨h, 0, none⟩), .pointer (some ⟨t, 0, none⟩), .agg #[.int .i64 1, .int .i64 K, .string V, .int .i64 N]] w (StepOut w o h t l p FT) := by
  have hFT := H.lt
  have S0 := Lib.hid (SS.new H 1 K V N)
  have HF := Lib.hid hFT; clear hFT
  have HSO := Lib.hid hs; clear hs
  clear H
  go_enter Try.func24, Try.ntmps24
  go_wp2_with fail
  change Code.wp _ _ _ _ (step0 w 1 K V N)
  generalize step0 w 1 K V N = W0 at S0 ⊢
  have k2 := S0.out.sb.k2
  have k3 := S0.out.sb.k3
  have k4 := S0.out.sb.k4
  obtain ⟨c81, c82⟩ := S0.out.sb.c8
  obtain ⟨c61, c62⟩ := S0.out.sb.c6
  have f60 := S0.out.sb.f6 0
  have f61 := S0.out.sb.f6 1
  have hb := SS.call S0.out.drew HF.out (fun FT' HP => ps_bput HP K V HSO.out hp)
  have HB := Lib.hid hb; clear hb
  go_region_held3 (fun w' => w'.cell? ⟨w.heap.size, 1, none⟩ = some (.int .i64 K) ∧ w'.cell? ⟨w.heap.size, 2, none⟩ = some (.string V) ∧ w'.cell? ⟨w.heap.size, 3, none⟩ = some (.int .i64 N) ∧ w'.cell? ⟨w.heap.size + 1 + 1, 0, none⟩ = some (.nilFunc) ∧ w'.cell? ⟨w.heap.size + 1 + 1, 1, none⟩ = some (.slice none 0 0) ∧ w'.frozen? ⟨w.heap.size + 1, 0, none⟩ = false ∧ w'.frozen? ⟨w.heap.size + 1, 1, none⟩ = false ∧ w'.cell? ⟨w.heap.size + 1, 0, none⟩ = some (.nilFunc) ∧ w'.cell? ⟨w.heap.size + 1, 1, none⟩ = some (.slice none 0 0))
    (first | exact S0.out.sb.see | exact H2.out.sb.see | exact H3.out.sb.see | exact (H3.out.store6 rfl HF.out).sb.see)
    (first
      | (go_at_call 47; refine HB.out.mono ?_; rintro e w2 ⟨rfl, H2⟩)
      | (go_at_call 53; refine (SS.call H2.out HF.out (fun FT' HP => ps_rput HP K V hl)).mono ?_; rintro e w3 ⟨rfl, H3⟩)
      | fail)
  have HX := Lib.hid (SS.out (l := l) (p := p) (H3.out.store6 (a := .nilFunc) (b := .slice none 0 0) rfl HF.out) (putL_sorted (cmpI_ord o) HSO.out K V) (by rw [putL_length]; split <;> omega) (by omega))
  have H9 := Lib.hid (H3.out.store6 (a := .nilFunc) (b := .slice none 0 0) rfl HF.out)
  generalize (w3.setCell ⟨w.heap.size + 1, 0, none⟩ (.nilFunc)).setCell ⟨w.heap.size + 1, 1, none⟩ (.slice none 0 0) = w9 at H9 HX ⊢
  clear k2 k3 k4 c81 c82 c61 c62 f60 f61
  clear H3 H2 HB
  obtain ⟨c61, c62⟩ := H9.out.sb.c6
  go_wp2
  exact bodyPost_ret (v := .tuple #[.agg #[.nilFunc, .slice none 0 0], .bool true]) (by simp [results, Try.results24, go_sem, c61, c62]) rfl HX.out

set_option maxRecDepth 100000 in
set_option maxHeartbeats 2000000 in
theorem step2 (H : PS o h t l l p FT w) (hs : Sorted (cmpI o) l) (hl : (l.length + 1) * 24 ≤ 140737488355328) (hp : p ≤ 70368744177664) (K : Int) (V : ByteArray) (N : Int) :
    Calls Try.prog 24 #[.pointer (some ⟨h, 0, none⟩), .pointer (some ⟨t, 0, none⟩), .agg #[.int .i64 2, .int .i64 K, .string V, .int .i64 N]] w (StepOut w o h t l p FT) := by
  have hFT := H.lt
  have S0 := Lib.hid (SS.new H 2 K V N)
  have HF := Lib.hid hFT; clear hFT
  have HSO := Lib.hid hs; clear hs
  clear H
  go_enter Try.func24, Try.ntmps24
  go_wp2_with fail
  change Code.wp _ _ _ _ (step0 w 2 K V N)
  generalize step0 w 2 K V N = W0 at S0 ⊢
  have k2 := S0.out.sb.k2
  have k3 := S0.out.sb.k3
  have k4 := S0.out.sb.k4
  obtain ⟨c81, c82⟩ := S0.out.sb.c8
  obtain ⟨c61, c62⟩ := S0.out.sb.c6
  have f60 := S0.out.sb.f6 0
  have f61 := S0.out.sb.f6 1
  have hb := SS.call S0.out.drew HF.out (fun FT' HP => ps_bdel HP K HSO.out hp)
  have HB := Lib.hid hb; clear hb
  go_region_held3 (fun w' => w'.cell? ⟨w.heap.size, 1, none⟩ = some (.int .i64 K) ∧ w'.cell? ⟨w.heap.size, 2, none⟩ = some (.string V) ∧ w'.cell? ⟨w.heap.size, 3, none⟩ = some (.int .i64 N) ∧ w'.cell? ⟨w.heap.size + 1 + 1, 0, none⟩ = some (.nilFunc) ∧ w'.cell? ⟨w.heap.size + 1 + 1, 1, none⟩ = some (.slice none 0 0) ∧ w'.frozen? ⟨w.heap.size + 1, 0, none⟩ = false ∧ w'.frozen? ⟨w.heap.size + 1, 1, none⟩ = false ∧ w'.cell? ⟨w.heap.size + 1, 0, none⟩ = some (.nilFunc) ∧ w'.cell? ⟨w.heap.size + 1, 1, none⟩ = some (.slice none 0 0))
    (first | exact S0.out.sb.see | exact H2.out.sb.see | exact H3.out.sb.see | exact (H3.out.store6 rfl HF.out).sb.see)
    (first
      | (go_at_call 48; refine HB.out.mono ?_; rintro e w2 ⟨rfl, H2⟩)
      | (go_at_call 54; refine (SS.call H2.out HF.out (fun FT' HP => ps_rdel HP K hl)).mono ?_; rintro e w3 ⟨rfl, H3⟩)
      | fail)
  have HX := Lib.hid (SS.out (l := l) (p := p) (H3.out.store6 (a := .nilFunc) (b := .slice none 0 0) rfl HF.out) (delL_sorted HSO.out K) (by rw [delL_length]; split <;> omega) (by omega))
  have H9 := Lib.hid (H3.out.store6 (a := .nilFunc) (b := .slice none 0 0) rfl HF.out)
  generalize (w3.setCell ⟨w.heap.size + 1, 0, none⟩ (.nilFunc)).setCell ⟨w.heap.size + 1, 1, none⟩ (.slice none 0 0) = w9 at H9 HX ⊢
  clear k2 k3 k4 c81 c82 c61 c62 f60 f61
  clear H3 H2 HB
  obtain ⟨c61, c62⟩ := H9.out.sb.c6
  go_wp2
  exact bodyPost_ret (v := .tuple #[.agg #[.nilFunc, .slice none 0 0], .bool true]) (by simp [results, Try.results24, go_sem, c61, c62]) rfl HX.out

set_option maxRecDepth 100000 in
set_option maxHeartbeats 2000000 in
theorem step3 (H : PS o h t l l p FT w) (hs : Sorted (cmpI o) l) (hl : (l.length + 1) * 24 ≤ 140737488355328) (hp : p ≤ 70368744177664) (K : Int) (V : ByteArray) (N : Int) :
    Calls Try.prog 24 #[.pointer (some ⟨h, 0, none⟩), .pointer (some ⟨t, 0, none⟩), .agg #[.int .i64 3, .int .i64 K, .string V, .int .i64 N]] w (StepOut w o h t l p FT) := by
  have hFT := H.lt
  have S0 := Lib.hid (SF.new H 3 K V N)
  have HF := Lib.hid hFT; clear hFT
  have HSO := Lib.hid hs; clear hs
  clear H
  go_enter Try.func24, Try.ntmps24
  go_upto_region 2 with fail
  change Code.wp _ _ _ _ (step0 w 3 K V N)
  generalize step0 w 3 K V N = W0 at S0 ⊢
  have k1 := S0.out.sb.k1
  have k2 := S0.out.sb.k2
  have k3 := S0.out.sb.k3
  have k4 := S0.out.sb.k4
  obtain ⟨c81, c82⟩ := S0.out.sb.c8
  obtain ⟨c61, c62⟩ := S0.out.sb.c6
  have f60 := S0.out.sb.f6 0
  have f61 := S0.out.sb.f6 1
  go_wp2_with fail
  refine (SF.call S0.out (ps_bget S0.out.ps K HSO.out hp)).mono ?_
  rintro e w2 ⟨rfl, H2⟩
  clear k1
  clear k2 k3 k4 c81 c82 c61 c62 f60 f61
  have k2 := H2.out.sb.k2
  have k3 := H2.out.sb.k3
  have k4 := H2.out.sb.k4
  obtain ⟨c81, c82⟩ := H2.out.sb.c8
  obtain ⟨c61, c62⟩ := H2.out.sb.c6
  have f60 := H2.out.sb.f6 0
  have f61 := H2.out.sb.f6 1
  go_wp2_with fail
  refine (SF.call H2.out (quiet_chg (ps_rget H2.out.ps K (by omega)))).mono ?_
  rintro e w3 ⟨rfl, H3⟩
  clear k2 k3 k4 c81 c82 c61 c62 f60 f61
  have k2 := H3.out.sb.k2
  have k3 := H3.out.sb.k3
  have k4 := H3.out.sb.k4
  obtain ⟨c81, c82⟩ := H3.out.sb.c8
  obtain ⟨c61, c62⟩ := H3.out.sb.c6
  have f60 := H3.out.sb.f6 0
  have f61 := H3.out.sb.f6 1
  have HX := Lib.hid (SF.out (H3.out.store6 (a := .nilFunc) (b := .slice none 0 0) rfl HF.out) HSO.out)
  have H9 := Lib.hid (H3.out.store6 (a := .nilFunc) (b := .slice none 0 0) rfl HF.out)
  clear HSO S0 H2 H3
  obtain ⟨d61, d62⟩ := H9.out.sb.c6
  go_wp2
  exact bodyPost_ret (v := .tuple #[.agg #[.nilFunc, .slice none 0 0], .bool true]) (by simp [results, Try.results24, go_sem, d61, d62]) rfl HX.out

set_option maxRecDepth 100000 in
set_option maxHeartbeats 2000000 in
theorem step5 (H : PS o h t l l p FT w) (hs : Sorted (cmpI o) l) (hl : (l.length + 1) * 24 ≤ 140737488355328) (hp : p ≤ 70368744177664) (K : Int) (V : ByteArray) (N : Int) :
    Calls Try.prog 24 #[.pointer (some ⟨h, 0, none⟩), .pointer (some ⟨t, 0, none⟩), .agg #[.int .i64 5, .int .i64 K, .string V, .int .i64 N]] w (StepOut w o h t l p FT) := by
  have hFT := H.lt
  have S0 := Lib.hid (SF.new H 5 K V N)
  have HF := Lib.hid hFT; clear hFT
  have HSO := Lib.hid hs; clear hs
  clear H
  go_enter Try.func24, Try.ntmps24
  go_upto_region 2 with fail
  change Code.wp _ _ _ _ (step0 w 5 K V N)
  generalize step0 w 5 K V N = W0 at S0 ⊢
  have k1 := S0.out.sb.k1
  have k2 := S0.out.sb.k2
  have k3 := S0.out.sb.k3
  have k4 := S0.out.sb.k4
  obtain ⟨c81, c82⟩ := S0.out.sb.c8
  obtain ⟨c61, c62⟩ := S0.out.sb.c6
  have f60 := S0.out.sb.f6 0
  have f61 := S0.out.sb.f6 1
  go_wp2_with fail
  refine (SF.call S0.out (ps_bnth S0.out.ps N hp)).mono ?_
  rintro e w2 ⟨rfl, H2⟩
  clear k1
  clear k2 k3 k4 c81 c82 c61 c62 f60 f61
  have k2 := H2.out.sb.k2
  have k3 := H2.out.sb.k3
  have k4 := H2.out.sb.k4
  obtain ⟨c81, c82⟩ := H2.out.sb.c8
  obtain ⟨c61, c62⟩ := H2.out.sb.c6
  have f60 := H2.out.sb.f6 0
  have f61 := H2.out.sb.f6 1
  go_wp2_with fail
  refine (SF.call H2.out (quiet_chg (ps_rnth H2.out.ps N (by omega)))).mono ?_
  rintro e w3 ⟨rfl, H3⟩
  clear k2 k3 k4 c81 c82 c61 c62 f60 f61
  have k2 := H3.out.sb.k2
  have k3 := H3.out.sb.k3
  have k4 := H3.out.sb.k4
  obtain ⟨c81, c82⟩ := H3.out.sb.c8
  obtain ⟨c61, c62⟩ := H3.out.sb.c6
  have f60 := H3.out.sb.f6 0
  have f61 := H3.out.sb.f6 1
  have HX := Lib.hid (SF.out (H3.out.store6 (a := .nilFunc) (b := .slice none 0 0) rfl HF.out) HSO.out)
  have H9 := Lib.hid (H3.out.store6 (a := .nilFunc) (b := .slice none 0 0) rfl HF.out)
  clear HSO S0 H2 H3
  obtain ⟨d61, d62⟩ := H9.out.sb.c6
  go_wp2
  exact bodyPost_ret (v := .tuple #[.agg #[.nilFunc, .slice none 0 0], .bool true]) (by simp [results, Try.results24, go_sem, d61, d62]) rfl HX.out

set_option maxRecDepth 100000 in
set_option maxHeartbeats 2000000 in
theorem step4 (H : PS o h t l l p FT w) (hs : Sorted (cmpI o) l) (hl : (l.length + 1) * 24 ≤ 140737488355328) (hp : p ≤ 70368744177664) (K : Int) (V : ByteArray) (N : Int) :
    Calls Try.prog 24 #[.pointer (some ⟨h, 0, none⟩), .pointer (some ⟨t, 0, none⟩), .agg #[.int .i64 4, .int .i64 K, .string V, .int .i64 N]] w (StepOut w o h t l p FT) := by
  have hFT := H.lt
  have S0 := Lib.hid (SF.new H 4 K V N)
  have HF := Lib.hid hFT; clear hFT
  have HSO := Lib.hid hs; clear hs
  clear H
  go_enter Try.func24, Try.ntmps24
  go_wp2_with fail
  change Code.wp _ _ _ _ (step0 w 4 K V N)
  generalize step0 w 4 K V N = W0 at S0 ⊢
  have k2 := S0.out.sb.k2
  have k3 := S0.out.sb.k3
  have k4 := S0.out.sb.k4
  obtain ⟨c81, c82⟩ := S0.out.sb.c8
  obtain ⟨c61, c62⟩ := S0.out.sb.c6
  have f60 := S0.out.sb.f6 0
  have f61 := S0.out.sb.f6 1
  have hb := SF.call S0.out.drew (quiet_chg (ps_brank S0.out.drew.ps K HSO.out hp))
  have HB := Lib.hid hb; clear hb
  go_region_held3 (fun w' => w'.cell? ⟨w.heap.size, 1, none⟩ = some (.int .i64 K) ∧ w'.cell? ⟨w.heap.size, 2, none⟩ = some (.string V) ∧ w'.cell? ⟨w.heap.size, 3, none⟩ = some (.int .i64 N) ∧ w'.cell? ⟨w.heap.size + 1 + 1, 0, none⟩ = some (.nilFunc) ∧ w'.cell? ⟨w.heap.size + 1 + 1, 1, none⟩ = some (.slice none 0 0) ∧ w'.frozen? ⟨w.heap.size + 1, 0, none⟩ = false ∧ w'.frozen? ⟨w.heap.size + 1, 1, none⟩ = false ∧ w'.cell? ⟨w.heap.size + 1, 0, none⟩ = some (.nilFunc) ∧ w'.cell? ⟨w.heap.size + 1, 1, none⟩ = some (.slice none 0 0))
    (first | exact S0.out.sb.see | exact H2.out.sb.see | exact H3.out.sb.see | exact (H3.out.store6 rfl HF.out).sb.see)
    (first
      | (go_at_call 49; refine HB.out.mono ?_; rintro e w2 ⟨rfl, H2⟩)
      | (go_at_call 56; refine (SF.call H2.out (quiet_chg (ps_rrank H2.out.ps K (by omega)))).mono ?_; rintro e w3 ⟨rfl, H3⟩)
      | fail)
  have HX := Lib.hid (SF.out (H3.out.store6 (a := .nilFunc) (b := .slice none 0 0) rfl HF.out) HSO.out)
  have H9 := Lib.hid (H3.out.store6 (a := .nilFunc) (b := .slice none 0 0) rfl HF.out)
  generalize (w3.setCell ⟨w.heap.size + 1, 0, none⟩ (.nilFunc)).setCell ⟨w.heap.size + 1, 1, none⟩ (.slice none 0 0) = w9 at H9 HX ⊢
  clear k2 k3 k4 c81 c82 c61 c62 f60 f61
  clear H3 H2 HB
  obtain ⟨c61, c62⟩ := H9.out.sb.c6
  go_wp2
  exact bodyPost_ret (v := .tuple #[.agg #[.nilFunc, .slice none 0 0], .bool true]) (by simp [results, Try.results24, go_sem, c61, c62]) rfl HX.out

set_option maxRecDepth 100000 in
set_option maxHeartbeats 2000000 in
theorem step9 (H : PS o h t l l p FT w) (hs : Sorted (cmpI o) l) (_ : (l.length + 1) * 24 ≤ 140737488355328) (_ : p ≤ 70368744177664) (K : Int) (V : ByteArray) (N : Int) :
    Calls Try.prog 24 #[.pointer (some ⟨h, 0, none⟩), .pointer (some ⟨t, 0, none⟩), .agg #[.int .i64 9, .int .i64 K, .string V, .int .i64 N]] w (StepOut w o h t l p FT) := by
  have hFT := H.lt
  have S0 := Lib.hid (SF.new H 9 K V N)
  have HF := Lib.hid hFT; clear hFT
  have HSO := Lib.hid hs; clear hs
  clear H
  go_enter Try.func24, Try.ntmps24
  go_wp2_with fail
  change Code.wp _ _ _ _ (step0 w 9 K V N)
  generalize step0 w 9 K V N = W0 at S0 ⊢
  have k2 := S0.out.sb.k2
  have k3 := S0.out.sb.k3
  have k4 := S0.out.sb.k4
  obtain ⟨c81, c82⟩ := S0.out.sb.c8
  obtain ⟨c61, c62⟩ := S0.out.sb.c6
  have f60 := S0.out.sb.f6 0
  have f61 := S0.out.sb.f6 1
  have hb := SF.call S0.out.drew (same_chg (ps_blen S0.out.drew.ps))
  have HB := Lib.hid hb; clear hb
  go_region_held3 (fun w' => w'.cell? ⟨w.heap.size, 1, none⟩ = some (.int .i64 K) ∧ w'.cell? ⟨w.heap.size, 2, none⟩ = some (.string V) ∧ w'.cell? ⟨w.heap.size, 3, none⟩ = some (.int .i64 N) ∧ w'.cell? ⟨w.heap.size + 1 + 1, 0, none⟩ = some (.nilFunc) ∧ w'.cell? ⟨w.heap.size + 1 + 1, 1, none⟩ = some (.slice none 0 0) ∧ w'.frozen? ⟨w.heap.size + 1, 0, none⟩ = false ∧ w'.frozen? ⟨w.heap.size + 1, 1, none⟩ = false ∧ w'.cell? ⟨w.heap.size + 1, 0, none⟩ = some (.nilFunc) ∧ w'.cell? ⟨w.heap.size + 1, 1, none⟩ = some (.slice none 0 0))
    (first | exact S0.out.sb.see | exact H2.out.sb.see | exact H3.out.sb.see | exact (H3.out.store6 rfl HF.out).sb.see)
    (first
      | (go_at_call 28; refine HB.out.mono ?_; rintro e w2 ⟨rfl, H2⟩)
      | (go_at_call 29; refine (SF.call H2.out (same_chg (ps_rlen H2.out.ps))).mono ?_; rintro e w3 ⟨rfl, H3⟩)
      | fail)
  have HX := Lib.hid (SF.out (H3.out.store6 (a := .nilFunc) (b := .slice none 0 0) rfl HF.out) HSO.out)
  have H9 := Lib.hid (H3.out.store6 (a := .nilFunc) (b := .slice none 0 0) rfl HF.out)
  generalize (w3.setCell ⟨w.heap.size + 1, 0, none⟩ (.nilFunc)).setCell ⟨w.heap.size + 1, 1, none⟩ (.slice none 0 0) = w9 at H9 HX ⊢
  clear k2 k3 k4 c81 c82 c61 c62 f60 f61
  clear H3 H2 HB
  obtain ⟨c61, c62⟩ := H9.out.sb.c6
  go_wp2
  exact bodyPost_ret (v := .tuple #[.agg #[.nilFunc, .slice none 0 0], .bool true]) (by simp [results, Try.results24, go_sem, c61, c62]) rfl HX.out

set_option maxRecDepth 100000 in
set_option maxHeartbeats 2000000 in
theorem stepE (H : PS o h t l l p FT w) (hs : Sorted (cmpI o) l) (D : Int) (e1 : (D == 1) = false) (e2 : (D == 2) = false) (e3 : (D == 3) = false) (e4 : (D == 4) = false) (e5 : (D == 5) = false) (e6 : (D == 6) = false) (e7 : (D == 7) = false) (e8 : (D == 8) = false) (e9 : (D == 9) = false) (K : Int) (V : ByteArray) (N : Int) :
    Calls Try.prog 24 #[.pointer (some ⟨h, 0, none⟩), .pointer (some ⟨t, 0, none⟩), .agg #[.int .i64 D, .int .i64 K, .string V, .int .i64 N]] w (StepOut w o h t l p FT) := by
  have hFT := H.lt
  have S0 := Lib.hid (SF.new H D K V N)
  have HF := Lib.hid hFT; clear hFT
  have HSO := Lib.hid hs; clear hs
  clear H
  go_enter Try.func24, Try.ntmps24
  go_upto_region 2 with fail
  change Code.wp _ _ _ _ (step0 w D K V N)
  generalize step0 w D K V N = W0 at S0 ⊢
  have k1 := S0.out.sb.k1
  have k2 := S0.out.sb.k2
  have k3 := S0.out.sb.k3
  have k4 := S0.out.sb.k4
  obtain ⟨c81, c82⟩ := S0.out.sb.c8
  obtain ⟨c61, c62⟩ := S0.out.sb.c6
  have f60 := S0.out.sb.f6 0
  have f61 := S0.out.sb.f6 1
  have HX := Lib.hid (SF.out (S0.out.store6 (a := .nilFunc) (b := .slice none 0 0) rfl HF.out) HSO.out)
  have H9 := Lib.hid (S0.out.store6 (a := .nilFunc) (b := .slice none 0 0) rfl HF.out)
  clear HSO S0
  obtain ⟨d61, d62⟩ := H9.out.sb.c6
  go_wp2
  exact bodyPost_ret (v := .tuple #[.agg #[.nilFunc, .slice none 0 0], .bool true]) (by simp [results, Try.results24, go_sem, d61, d62]) rfl HX.out

set_option maxRecDepth 100000 in
set_option maxHeartbeats 2000000 in
theorem step6 (H : PS o h t l l p FT w) (hs : Sorted (cmpI o) l) (hl : (l.length + 1) * 24 ≤ 140737488355328) (_ : p ≤ 70368744177664) (K : Int) (V : ByteArray) (N : Int) :
    Calls Try.prog 24 #[.pointer (some ⟨h, 0, none⟩), .pointer (some ⟨t, 0, none⟩), .agg #[.int .i64 6, .int .i64 K, .string V, .int .i64 N]] w (StepOut w o h t l p FT) := by
  have hFT := H.lt
  have S0 := Lib.hid (SF.new H 6 K V N)
  have HF := Lib.hid hFT; clear hFT
  have HSO := Lib.hid hs; clear hs
  clear H
  go_enter Try.func24, Try.ntmps24
  go_wp2_with fail
  change Code.wp _ _ _ _ (step0 w 6 K V N)
  generalize step0 w 6 K V N = W0 at S0 ⊢
  obtain ⟨ps, hps⟩ : ∃ ps, ps = l.drop (rk (cmpI o) l K) := ⟨_, rfl⟩
  have hpl : ps.length ≤ l.length := by rw [hps]; simp
  have HB1 : Hid (∀ X, SF w 6 K V N #[.nilFunc, .slice none 0 0] #[.nilFunc, .slice none 0 0] o h t l p FT X → Calls Try.prog 45 #[.pointer (some ⟨h, 0, none⟩), .int .i64 K] X (GivesS X ps)) := fun X H => by rw [hps]; exact ps_bfrom H.ps K HSO.out (by omega)
  have HB2 : Hid (∀ X, SF w 6 K V N #[.nilFunc, .slice none 0 0] #[.nilFunc, .slice none 0 0] o h t l p FT X → Calls Try.prog 58 #[.pointer (some ⟨t, 0, none⟩), .int .i64 K] X (GivesP X ps)) := fun X H => by rw [hps]; exact ps_rfrom H.ps K (by omega)
  clear hps
  have k2 := S0.out.sb.k2
  have k3 := S0.out.sb.k3
  have k4 := S0.out.sb.k4
  obtain ⟨c81, c82⟩ := S0.out.sb.c8
  obtain ⟨c61, c62⟩ := S0.out.sb.c6
  have f60 := S0.out.sb.f6 0
  have f61 := S0.out.sb.f6 1
  have f80 := S0.out.sb.f8 0
  have f81 := S0.out.sb.f8 1
  have HB := Lib.hid (SF.iter S0.out.drew (HB1.out _ S0.out.drew))
  go_region_held3 (fun w' => w'.cell? ⟨w.heap.size, 1, none⟩ = some (.int .i64 K) ∧ w'.frozen? ⟨w.heap.size + 1 + 1, 0, none⟩ = false ∧ w'.frozen? ⟨w.heap.size + 1 + 1, 1, none⟩ = false)
    (first | exact ⟨S0.out.sb.k2, S0.out.sb.f8 0, S0.out.sb.f8 1⟩ | exact ⟨H2.out.1.sb.k2, H2.out.1.sb.f8 0, H2.out.1.sb.f8 1⟩ | exact ⟨H3.out.1.sb.k2, H3.out.1.sb.f8 0, H3.out.1.sb.f8 1⟩ | exact ⟨(H3.out.1.store8 rfl HF.out).sb.k2, (H3.out.1.store8 rfl HF.out).sb.f8 0, (H3.out.1.store8 rfl HF.out).sb.f8 1⟩)
    (first
      | (go_at_call 45; refine HB.out.mono ?_; rintro e w2 ⟨q, rfl, H2⟩)
      | (go_at_call 58; refine (SF.list H2.out.1 (HB2.out _ H2.out.1)).mono ?_; rintro e w3 ⟨wg, wc, rfl, H3⟩; obtain ⟨c83, c84⟩ := H3.out.1.sb.c8)
      | fail)
  obtain ⟨r, hrq, hrw, hrc, hrp, hok, hft⟩ := krec_get (by omega) H2.out.2 H3.out.2
  have hz0 := S0.out.sb.lt
  have hft2 : ∀ x ∈ r.foot, w.heap.size + 1 + 1 < x := fun x hx => by have := hft x hx; have e : W0.drew.heap.size = W0.heap.size := rfl; omega
  have H4 := Lib.hid (H3.out.1.store8 (a := .func (.func 68) #[] #[.pointer (some ⟨q, 0, none⟩)]) (b := .slice (wg.map fun g => (⟨g, 0, none⟩ : Addr)) ps.length wc) rfl HF.out)
  have hs4 : Chg (fun x => x = w.heap.size + 1 + 1) w3 ((w3.setCell ⟨w.heap.size + 1 + 1, 0, none⟩ (.func (.func 68) #[] #[.pointer (some ⟨q, 0, none⟩)])).setCell ⟨w.heap.size + 1 + 1, 1, none⟩ (.slice (wg.map fun g => (⟨g, 0, none⟩ : Addr)) ps.length wc)) :=
    (Chg.setCell (S := fun x => x = w.heap.size + 1 + 1) (Chg.refl _ w3) (p := ⟨_, 0, none⟩) (fun _ => rfl) _).setCell (p := ⟨_, 1, none⟩) (fun _ => rfl) _
  have hok4 := hok.chg hs4 (fun x hx e => by have := hft2 x hx; omega)
  have HOK := Lib.hid hok4; clear hok hok4 hs4 hft hz0
  have HFT := Lib.hid hft2; clear hft2
  have HT : Hid (∀ X, r.ok X → Calls Try.prog 25 #[.func (.func 68) #[] #[.pointer (some ⟨q, 0, none⟩)], .slice (wg.map fun g => (⟨g, 0, none⟩ : Addr)) ps.length wc, .int .i64 N] X fun e w' => e = .returned (.bool true) ∧ Chg (fun _ => False) X w') := fun X h => by
    have := KRec.told h N
    simp only [kf, kw, sv, hrq, hrw, hrc, hrp] at this
    exact this
  have HOUT : Hid (∀ X, SF w 6 K V N #[.func (.func 68) #[] #[.pointer (some ⟨q, 0, none⟩)], .slice (wg.map fun g => (⟨g, 0, none⟩ : Addr)) ps.length wc] #[.func (.func 68) #[] #[.pointer (some ⟨q, 0, none⟩)], .slice (wg.map fun g => (⟨g, 0, none⟩ : Addr)) ps.length wc] o h t l p FT X → r.ok X → StepOut w o h t l p FT (.returned (.tuple #[.agg #[.func (.func 68) #[] #[.pointer (some ⟨q, 0, none⟩)], .slice (wg.map fun g => (⟨g, 0, none⟩ : Addr)) ps.length wc], .bool true])) X) := fun X H h => by
    have := SF.outK H HSO.out HF.out r h (fun x hx => by have := HFT.out x hx; omega)
    simp only [kf, kw, sv, hrq, hrw, hrc, hrp] at this
    exact this
  clear hrq hrw hrc hrp
  clear k2 k3 k4 c81 c82 c61 c62 f60 f61
  clear f80 f81 c83 c84
  generalize (w3.setCell ⟨w.heap.size + 1 + 1, 0, none⟩ (.func (.func 68) #[] #[.pointer (some ⟨q, 0, none⟩)])).setCell ⟨w.heap.size + 1 + 1, 1, none⟩ (.slice (wg.map fun g => (⟨g, 0, none⟩ : Addr)) ps.length wc) = w4 at H4 HOK ⊢
  clear H2 H3 HB1 HB2 S0 HB
  have k2 := H4.out.sb.k2
  have k3 := H4.out.sb.k3
  have k4 := H4.out.sb.k4
  obtain ⟨c81, c82⟩ := H4.out.sb.c8
  obtain ⟨c61, c62⟩ := H4.out.sb.c6
  have f60 := H4.out.sb.f6 0
  have f61 := H4.out.sb.f6 1
  go_wp2_with fail
  have HC := Lib.hid (SF.call H4.out.drew (HT.out w4.drew (HOK.out.chg (Chg.refl (fun _ => False) w4).drew (fun _ _ h => h))))
  have HC2 := Lib.hid (HT.out w4.drew (HOK.out.chg (Chg.refl (fun _ => False) w4).drew (fun _ _ h => h)))
  go_region_held3 (fun w' => w'.cell? ⟨w.heap.size, 1, none⟩ = some (.int .i64 K) ∧ w'.cell? ⟨w.heap.size, 2, none⟩ = some (.string V) ∧ w'.cell? ⟨w.heap.size, 3, none⟩ = some (.int .i64 N) ∧ w'.cell? ⟨w.heap.size + 1 + 1, 0, none⟩ = some (.func (.func 68) #[] #[.pointer (some ⟨q, 0, none⟩)]) ∧ w'.cell? ⟨w.heap.size + 1 + 1, 1, none⟩ = some (.slice (wg.map fun g => (⟨g, 0, none⟩ : Addr)) ps.length wc) ∧ w'.frozen? ⟨w.heap.size + 1, 0, none⟩ = false ∧ w'.frozen? ⟨w.heap.size + 1, 1, none⟩ = false)
    (first | exact H4.out.sb.see7 | exact H5.out.sb.see7 | exact (H5.out.store6 rfl HF.out).sb.see7)
    (first
      | (go_at_call 25; refine HC2.out.mono ?_; rintro e w5 ⟨rfl, hc5⟩; have H5 := Lib.hid (H4.out.drew.same hc5); have HOK5 := Lib.hid ((HOK.out.chg (Chg.refl (fun _ => False) w4).drew (fun _ _ h => h)).chg hc5 (fun _ _ h => h)); clear hc5; obtain ⟨c65, c66⟩ := H5.out.sb.c6)
      | fail)
  have hs9 : Chg (fun x => x = w.heap.size + 1) w5 ((w5.setCell ⟨w.heap.size + 1, 0, none⟩ (.func (.func 68) #[] #[.pointer (some ⟨q, 0, none⟩)])).setCell ⟨w.heap.size + 1, 1, none⟩ (.slice (wg.map fun g => (⟨g, 0, none⟩ : Addr)) ps.length wc)) :=
    (Chg.setCell (S := fun x => x = w.heap.size + 1) (Chg.refl _ w5) (p := ⟨_, 0, none⟩) (fun _ => rfl) _).setCell (p := ⟨_, 1, none⟩) (fun _ => rfl) _
  have H9 := Lib.hid (H5.out.store6 (a := .func (.func 68) #[] #[.pointer (some ⟨q, 0, none⟩)]) (b := .slice (wg.map fun g => (⟨g, 0, none⟩ : Addr)) ps.length wc) rfl HF.out)
  have HX := Lib.hid (HOUT.out _ H9.out (HOK5.out.chg hs9 (fun x hx e => by have := HFT.out x hx; omega)))
  clear hs9
  generalize (w5.setCell ⟨w.heap.size + 1, 0, none⟩ (.func (.func 68) #[] #[.pointer (some ⟨q, 0, none⟩)])).setCell ⟨w.heap.size + 1, 1, none⟩ (.slice (wg.map fun g => (⟨g, 0, none⟩ : Addr)) ps.length wc) = w9 at H9 HX ⊢
  clear k2 k3 k4 c81 c82 c61 c62 f60 f61 c65 c66 H5 HOK5 HC HC2 H4 HOK
  obtain ⟨c61, c62⟩ := H9.out.sb.c6
  go_wp2
  exact bodyPost_ret (v := .tuple #[.agg #[.func (.func 68) #[] #[.pointer (some ⟨q, 0, none⟩)], .slice (wg.map fun g => (⟨g, 0, none⟩ : Addr)) ps.length wc], .bool true]) (by simp [results, Try.results24, go_sem, c61, c62]) rfl HX.out

set_option maxRecDepth 100000 in
set_option maxHeartbeats 2000000 in
theorem step7 (H : PS o h t l l p FT w) (hs : Sorted (cmpI o) l) (hl : (l.length + 1) * 24 ≤ 140737488355328) (_ : p ≤ 70368744177664) (K : Int) (V : ByteArray) (N : Int) :
    Calls Try.prog 24 #[.pointer (some ⟨h, 0, none⟩), .pointer (some ⟨t, 0, none⟩), .agg #[.int .i64 7, .int .i64 K, .string V, .int .i64 N]] w (StepOut w o h t l p FT) := by
  have hFT := H.lt
  have S0 := Lib.hid (SF.new H 7 K V N)
  have HF := Lib.hid hFT; clear hFT
  have HSO := Lib.hid hs; clear hs
  clear H
  go_enter Try.func24, Try.ntmps24
  go_wp2_with fail
  change Code.wp _ _ _ _ (step0 w 7 K V N)
  generalize step0 w 7 K V N = W0 at S0 ⊢
  obtain ⟨ps, hps⟩ : ∃ ps, ps = (l.take (upL (cmpI o) l K)).reverse := ⟨_, rfl⟩
  have hpl : ps.length ≤ l.length := by rw [hps]; simp; omega
  have HB1 : Hid (∀ X, SF w 7 K V N #[.nilFunc, .slice none 0 0] #[.nilFunc, .slice none 0 0] o h t l p FT X → Calls Try.prog 46 #[.pointer (some ⟨h, 0, none⟩), .int .i64 K] X (GivesS X ps)) := fun X H => by rw [hps]; exact ps_bup H.ps K HSO.out (by omega)
  have HB2 : Hid (∀ X, SF w 7 K V N #[.nilFunc, .slice none 0 0] #[.nilFunc, .slice none 0 0] o h t l p FT X → Calls Try.prog 59 #[.pointer (some ⟨t, 0, none⟩), .int .i64 K] X (GivesP X ps)) := fun X H => by rw [hps]; exact ps_rup H.ps K HSO.out (by omega)
  clear hps
  have k2 := S0.out.sb.k2
  have k3 := S0.out.sb.k3
  have k4 := S0.out.sb.k4
  obtain ⟨c81, c82⟩ := S0.out.sb.c8
  obtain ⟨c61, c62⟩ := S0.out.sb.c6
  have f60 := S0.out.sb.f6 0
  have f61 := S0.out.sb.f6 1
  have f80 := S0.out.sb.f8 0
  have f81 := S0.out.sb.f8 1
  have HB := Lib.hid (SF.iter S0.out.drew (HB1.out _ S0.out.drew))
  go_region_held3 (fun w' => w'.cell? ⟨w.heap.size, 1, none⟩ = some (.int .i64 K) ∧ w'.frozen? ⟨w.heap.size + 1 + 1, 0, none⟩ = false ∧ w'.frozen? ⟨w.heap.size + 1 + 1, 1, none⟩ = false)
    (first | exact ⟨S0.out.sb.k2, S0.out.sb.f8 0, S0.out.sb.f8 1⟩ | exact ⟨H2.out.1.sb.k2, H2.out.1.sb.f8 0, H2.out.1.sb.f8 1⟩ | exact ⟨H3.out.1.sb.k2, H3.out.1.sb.f8 0, H3.out.1.sb.f8 1⟩ | exact ⟨(H3.out.1.store8 rfl HF.out).sb.k2, (H3.out.1.store8 rfl HF.out).sb.f8 0, (H3.out.1.store8 rfl HF.out).sb.f8 1⟩)
    (first
      | (go_at_call 46; refine HB.out.mono ?_; rintro e w2 ⟨q, rfl, H2⟩)
      | (go_at_call 59; refine (SF.list H2.out.1 (HB2.out _ H2.out.1)).mono ?_; rintro e w3 ⟨wg, wc, rfl, H3⟩; obtain ⟨c83, c84⟩ := H3.out.1.sb.c8)
      | fail)
  obtain ⟨r, hrq, hrw, hrc, hrp, hok, hft⟩ := krec_get (by omega) H2.out.2 H3.out.2
  have hz0 := S0.out.sb.lt
  have hft2 : ∀ x ∈ r.foot, w.heap.size + 1 + 1 < x := fun x hx => by have := hft x hx; have e : W0.drew.heap.size = W0.heap.size := rfl; omega
  have H4 := Lib.hid (H3.out.1.store8 (a := .func (.func 68) #[] #[.pointer (some ⟨q, 0, none⟩)]) (b := .slice (wg.map fun g => (⟨g, 0, none⟩ : Addr)) ps.length wc) rfl HF.out)
  have hs4 : Chg (fun x => x = w.heap.size + 1 + 1) w3 ((w3.setCell ⟨w.heap.size + 1 + 1, 0, none⟩ (.func (.func 68) #[] #[.pointer (some ⟨q, 0, none⟩)])).setCell ⟨w.heap.size + 1 + 1, 1, none⟩ (.slice (wg.map fun g => (⟨g, 0, none⟩ : Addr)) ps.length wc)) :=
    (Chg.setCell (S := fun x => x = w.heap.size + 1 + 1) (Chg.refl _ w3) (p := ⟨_, 0, none⟩) (fun _ => rfl) _).setCell (p := ⟨_, 1, none⟩) (fun _ => rfl) _
  have hok4 := hok.chg hs4 (fun x hx e => by have := hft2 x hx; omega)
  have HOK := Lib.hid hok4; clear hok hok4 hs4 hft hz0
  have HFT := Lib.hid hft2; clear hft2
  have HT : Hid (∀ X, r.ok X → Calls Try.prog 25 #[.func (.func 68) #[] #[.pointer (some ⟨q, 0, none⟩)], .slice (wg.map fun g => (⟨g, 0, none⟩ : Addr)) ps.length wc, .int .i64 N] X fun e w' => e = .returned (.bool true) ∧ Chg (fun _ => False) X w') := fun X h => by
    have := KRec.told h N
    simp only [kf, kw, sv, hrq, hrw, hrc, hrp] at this
    exact this
  have HOUT : Hid (∀ X, SF w 7 K V N #[.func (.func 68) #[] #[.pointer (some ⟨q, 0, none⟩)], .slice (wg.map fun g => (⟨g, 0, none⟩ : Addr)) ps.length wc] #[.func (.func 68) #[] #[.pointer (some ⟨q, 0, none⟩)], .slice (wg.map fun g => (⟨g, 0, none⟩ : Addr)) ps.length wc] o h t l p FT X → r.ok X → StepOut w o h t l p FT (.returned (.tuple #[.agg #[.func (.func 68) #[] #[.pointer (some ⟨q, 0, none⟩)], .slice (wg.map fun g => (⟨g, 0, none⟩ : Addr)) ps.length wc], .bool true])) X) := fun X H h => by
    have := SF.outK H HSO.out HF.out r h (fun x hx => by have := HFT.out x hx; omega)
    simp only [kf, kw, sv, hrq, hrw, hrc, hrp] at this
    exact this
  clear hrq hrw hrc hrp
  clear k2 k3 k4 c81 c82 c61 c62 f60 f61
  clear f80 f81 c83 c84
  generalize (w3.setCell ⟨w.heap.size + 1 + 1, 0, none⟩ (.func (.func 68) #[] #[.pointer (some ⟨q, 0, none⟩)])).setCell ⟨w.heap.size + 1 + 1, 1, none⟩ (.slice (wg.map fun g => (⟨g, 0, none⟩ : Addr)) ps.length wc) = w4 at H4 HOK ⊢
  clear H2 H3 HB1 HB2 S0 HB
  have k2 := H4.out.sb.k2
  have k3 := H4.out.sb.k3
  have k4 := H4.out.sb.k4
  obtain ⟨c81, c82⟩ := H4.out.sb.c8
  obtain ⟨c61, c62⟩ := H4.out.sb.c6
  have f60 := H4.out.sb.f6 0
  have f61 := H4.out.sb.f6 1
  go_wp2_with fail
  have HC := Lib.hid (SF.call H4.out.drew (HT.out w4.drew (HOK.out.chg (Chg.refl (fun _ => False) w4).drew (fun _ _ h => h))))
  have HC2 := Lib.hid (HT.out w4.drew (HOK.out.chg (Chg.refl (fun _ => False) w4).drew (fun _ _ h => h)))
  go_region_held3 (fun w' => w'.cell? ⟨w.heap.size, 1, none⟩ = some (.int .i64 K) ∧ w'.cell? ⟨w.heap.size, 2, none⟩ = some (.string V) ∧ w'.cell? ⟨w.heap.size, 3, none⟩ = some (.int .i64 N) ∧ w'.cell? ⟨w.heap.size + 1 + 1, 0, none⟩ = some (.func (.func 68) #[] #[.pointer (some ⟨q, 0, none⟩)]) ∧ w'.cell? ⟨w.heap.size + 1 + 1, 1, none⟩ = some (.slice (wg.map fun g => (⟨g, 0, none⟩ : Addr)) ps.length wc) ∧ w'.frozen? ⟨w.heap.size + 1, 0, none⟩ = false ∧ w'.frozen? ⟨w.heap.size + 1, 1, none⟩ = false)
    (first | exact H4.out.sb.see7 | exact H5.out.sb.see7 | exact (H5.out.store6 rfl HF.out).sb.see7)
    (first
      | (go_at_call 25; refine HC2.out.mono ?_; rintro e w5 ⟨rfl, hc5⟩; have H5 := Lib.hid (H4.out.drew.same hc5); have HOK5 := Lib.hid ((HOK.out.chg (Chg.refl (fun _ => False) w4).drew (fun _ _ h => h)).chg hc5 (fun _ _ h => h)); clear hc5; obtain ⟨c65, c66⟩ := H5.out.sb.c6)
      | fail)
  have hs9 : Chg (fun x => x = w.heap.size + 1) w5 ((w5.setCell ⟨w.heap.size + 1, 0, none⟩ (.func (.func 68) #[] #[.pointer (some ⟨q, 0, none⟩)])).setCell ⟨w.heap.size + 1, 1, none⟩ (.slice (wg.map fun g => (⟨g, 0, none⟩ : Addr)) ps.length wc)) :=
    (Chg.setCell (S := fun x => x = w.heap.size + 1) (Chg.refl _ w5) (p := ⟨_, 0, none⟩) (fun _ => rfl) _).setCell (p := ⟨_, 1, none⟩) (fun _ => rfl) _
  have H9 := Lib.hid (H5.out.store6 (a := .func (.func 68) #[] #[.pointer (some ⟨q, 0, none⟩)]) (b := .slice (wg.map fun g => (⟨g, 0, none⟩ : Addr)) ps.length wc) rfl HF.out)
  have HX := Lib.hid (HOUT.out _ H9.out (HOK5.out.chg hs9 (fun x hx e => by have := HFT.out x hx; omega)))
  clear hs9
  generalize (w5.setCell ⟨w.heap.size + 1, 0, none⟩ (.func (.func 68) #[] #[.pointer (some ⟨q, 0, none⟩)])).setCell ⟨w.heap.size + 1, 1, none⟩ (.slice (wg.map fun g => (⟨g, 0, none⟩ : Addr)) ps.length wc) = w9 at H9 HX ⊢
  clear k2 k3 k4 c81 c82 c61 c62 f60 f61 c65 c66 H5 HOK5 HC HC2 H4 HOK
  obtain ⟨c61, c62⟩ := H9.out.sb.c6
  go_wp2
  exact bodyPost_ret (v := .tuple #[.agg #[.func (.func 68) #[] #[.pointer (some ⟨q, 0, none⟩)], .slice (wg.map fun g => (⟨g, 0, none⟩ : Addr)) ps.length wc], .bool true]) (by simp [results, Try.results24, go_sem, c61, c62]) rfl HX.out

set_option maxRecDepth 100000 in
set_option maxHeartbeats 2000000 in
theorem step8 (H : PS o h t l l p FT w) (hs : Sorted (cmpI o) l) (hl : (l.length + 1) * 24 ≤ 140737488355328) (_ : p ≤ 70368744177664) (K : Int) (V : ByteArray) (N : Int) :
    Calls Try.prog 24 #[.pointer (some ⟨h, 0, none⟩), .pointer (some ⟨t, 0, none⟩), .agg #[.int .i64 8, .int .i64 K, .string V, .int .i64 N]] w (StepOut w o h t l p FT) := by
  have hFT := H.lt
  have S0 := Lib.hid (SF.new H 8 K V N)
  have HF := Lib.hid hFT; clear hFT
  have HSO := Lib.hid hs; clear hs
  clear H
  go_enter Try.func24, Try.ntmps24
  go_upto_region 2 with fail
  change Code.wp _ _ _ _ (step0 w 8 K V N)
  generalize step0 w 8 K V N = W0 at S0 ⊢
  obtain ⟨ps, hps⟩ : ∃ ps, ps = l := ⟨_, rfl⟩
  have hpl : ps.length ≤ l.length := by rw [hps]; omega
  have HB1 : Hid (∀ X, SF w 8 K V N #[.nilFunc, .slice none 0 0] #[.nilFunc, .slice none 0 0] o h t l p FT X → Calls Try.prog 26 #[.pointer (some ⟨h, 0, none⟩)] X (GivesS X ps)) := fun X H => by rw [hps]; exact ps_ball H.ps (by omega)
  have HB2 : Hid (∀ X, SF w 8 K V N #[.nilFunc, .slice none 0 0] #[.nilFunc, .slice none 0 0] o h t l p FT X → Calls Try.prog 27 #[.pointer (some ⟨t, 0, none⟩)] X (GivesP X ps)) := fun X H => by rw [hps]; exact ps_rall H.ps (by omega)
  clear hps
  have k1 := S0.out.sb.k1
  have k2 := S0.out.sb.k2
  have k3 := S0.out.sb.k3
  have k4 := S0.out.sb.k4
  obtain ⟨c81, c82⟩ := S0.out.sb.c8
  obtain ⟨c61, c62⟩ := S0.out.sb.c6
  have f60 := S0.out.sb.f6 0
  have f61 := S0.out.sb.f6 1
  go_wp2_with fail
  refine (SF.iter S0.out (HB1.out _ S0.out)).mono ?_
  rintro e w2 ⟨q, rfl, H2⟩
  clear k1
  clear k2 k3 k4 c81 c82 c61 c62 f60 f61
  have k2 := H2.out.1.sb.k2
  have k3 := H2.out.1.sb.k3
  have k4 := H2.out.1.sb.k4
  obtain ⟨c81, c82⟩ := H2.out.1.sb.c8
  obtain ⟨c61, c62⟩ := H2.out.1.sb.c6
  have f60 := H2.out.1.sb.f6 0
  have f61 := H2.out.1.sb.f6 1
  go_wp2_with fail
  refine (SF.list H2.out.1 (HB2.out _ H2.out.1)).mono ?_
  rintro e w3 ⟨wg, wc, rfl, H3⟩
  clear k2 k3 k4 c81 c82 c61 c62 f60 f61
  have k2 := H3.out.1.sb.k2
  have k3 := H3.out.1.sb.k3
  have k4 := H3.out.1.sb.k4
  obtain ⟨c81, c82⟩ := H3.out.1.sb.c8
  obtain ⟨c61, c62⟩ := H3.out.1.sb.c6
  have f60 := H3.out.1.sb.f6 0
  have f61 := H3.out.1.sb.f6 1
  have f80 := H3.out.1.sb.f8 0
  have f81 := H3.out.1.sb.f8 1
  go_upto_region 26 with fail
  obtain ⟨r, hrq, hrw, hrc, hrp, hok, hft⟩ := krec_get (by omega) H2.out.2 H3.out.2
  have hz0 := S0.out.sb.lt
  have hft2 : ∀ x ∈ r.foot, w.heap.size + 1 + 1 < x := fun x hx => by have := hft x hx; have e : W0.heap.size = W0.heap.size := rfl; omega
  have H4 := Lib.hid (H3.out.1.store8 (a := .func (.func 68) #[] #[.pointer (some ⟨q, 0, none⟩)]) (b := .slice (wg.map fun g => (⟨g, 0, none⟩ : Addr)) ps.length wc) rfl HF.out)
  have hs4 : Chg (fun x => x = w.heap.size + 1 + 1) w3 ((w3.setCell ⟨w.heap.size + 1 + 1, 0, none⟩ (.func (.func 68) #[] #[.pointer (some ⟨q, 0, none⟩)])).setCell ⟨w.heap.size + 1 + 1, 1, none⟩ (.slice (wg.map fun g => (⟨g, 0, none⟩ : Addr)) ps.length wc)) :=
    (Chg.setCell (S := fun x => x = w.heap.size + 1 + 1) (Chg.refl _ w3) (p := ⟨_, 0, none⟩) (fun _ => rfl) _).setCell (p := ⟨_, 1, none⟩) (fun _ => rfl) _
  have hok4 := hok.chg hs4 (fun x hx e => by have := hft2 x hx; omega)
  have HOK := Lib.hid hok4; clear hok hok4 hs4 hft hz0
  have HFT := Lib.hid hft2; clear hft2
  have HT : Hid (∀ X, r.ok X → Calls Try.prog 25 #[.func (.func 68) #[] #[.pointer (some ⟨q, 0, none⟩)], .slice (wg.map fun g => (⟨g, 0, none⟩ : Addr)) ps.length wc, .int .i64 N] X fun e w' => e = .returned (.bool true) ∧ Chg (fun _ => False) X w') := fun X h => by
    have := KRec.told h N
    simp only [kf, kw, sv, hrq, hrw, hrc, hrp] at this
    exact this
  have HOUT : Hid (∀ X, SF w 8 K V N #[.func (.func 68) #[] #[.pointer (some ⟨q, 0, none⟩)], .slice (wg.map fun g => (⟨g, 0, none⟩ : Addr)) ps.length wc] #[.func (.func 68) #[] #[.pointer (some ⟨q, 0, none⟩)], .slice (wg.map fun g => (⟨g, 0, none⟩ : Addr)) ps.length wc] o h t l p FT X → r.ok X → StepOut w o h t l p FT (.returned (.tuple #[.agg #[.func (.func 68) #[] #[.pointer (some ⟨q, 0, none⟩)], .slice (wg.map fun g => (⟨g, 0, none⟩ : Addr)) ps.length wc], .bool true])) X) := fun X H h => by
    have := SF.outK H HSO.out HF.out r h (fun x hx => by have := HFT.out x hx; omega)
    simp only [kf, kw, sv, hrq, hrw, hrc, hrp] at this
    exact this
  clear hrq hrw hrc hrp
  clear k2 k3 k4 c81 c82 c61 c62 f60 f61
  clear f80 f81
  generalize (w3.setCell ⟨w.heap.size + 1 + 1, 0, none⟩ (.func (.func 68) #[] #[.pointer (some ⟨q, 0, none⟩)])).setCell ⟨w.heap.size + 1 + 1, 1, none⟩ (.slice (wg.map fun g => (⟨g, 0, none⟩ : Addr)) ps.length wc) = w4 at H4 HOK ⊢
  clear H2 H3 HB1 HB2 S0 
  have k2 := H4.out.sb.k2
  have k3 := H4.out.sb.k3
  have k4 := H4.out.sb.k4
  obtain ⟨c81, c82⟩ := H4.out.sb.c8
  obtain ⟨c61, c62⟩ := H4.out.sb.c6
  have f60 := H4.out.sb.f6 0
  have f61 := H4.out.sb.f6 1
  have HC := Lib.hid (SF.call H4.out.drew (HT.out w4.drew (HOK.out.chg (Chg.refl (fun _ => False) w4).drew (fun _ _ h => h))))
  have HC2 := Lib.hid (HT.out w4.drew (HOK.out.chg (Chg.refl (fun _ => False) w4).drew (fun _ _ h => h)))
  go_region_held3 (fun w' => w'.cell? ⟨w.heap.size, 1, none⟩ = some (.int .i64 K) ∧ w'.cell? ⟨w.heap.size, 2, none⟩ = some (.string V) ∧ w'.cell? ⟨w.heap.size, 3, none⟩ = some (.int .i64 N) ∧ w'.cell? ⟨w.heap.size + 1 + 1, 0, none⟩ = some (.func (.func 68) #[] #[.pointer (some ⟨q, 0, none⟩)]) ∧ w'.cell? ⟨w.heap.size + 1 + 1, 1, none⟩ = some (.slice (wg.map fun g => (⟨g, 0, none⟩ : Addr)) ps.length wc) ∧ w'.frozen? ⟨w.heap.size + 1, 0, none⟩ = false ∧ w'.frozen? ⟨w.heap.size + 1, 1, none⟩ = false)
    (first | exact H4.out.sb.see7 | exact H5.out.sb.see7 | exact (H5.out.store6 rfl HF.out).sb.see7)
    (first
      | (go_at_call 25; refine HC2.out.mono ?_; rintro e w5 ⟨rfl, hc5⟩; have H5 := Lib.hid (H4.out.drew.same hc5); have HOK5 := Lib.hid ((HOK.out.chg (Chg.refl (fun _ => False) w4).drew (fun _ _ h => h)).chg hc5 (fun _ _ h => h)); clear hc5; obtain ⟨c65, c66⟩ := H5.out.sb.c6)
      | fail)
  have hs9 : Chg (fun x => x = w.heap.size + 1) w5 ((w5.setCell ⟨w.heap.size + 1, 0, none⟩ (.func (.func 68) #[] #[.pointer (some ⟨q, 0, none⟩)])).setCell ⟨w.heap.size + 1, 1, none⟩ (.slice (wg.map fun g => (⟨g, 0, none⟩ : Addr)) ps.length wc)) :=
    (Chg.setCell (S := fun x => x = w.heap.size + 1) (Chg.refl _ w5) (p := ⟨_, 0, none⟩) (fun _ => rfl) _).setCell (p := ⟨_, 1, none⟩) (fun _ => rfl) _
  have H9 := Lib.hid (H5.out.store6 (a := .func (.func 68) #[] #[.pointer (some ⟨q, 0, none⟩)]) (b := .slice (wg.map fun g => (⟨g, 0, none⟩ : Addr)) ps.length wc) rfl HF.out)
  have HX := Lib.hid (HOUT.out _ H9.out (HOK5.out.chg hs9 (fun x hx e => by have := HFT.out x hx; omega)))
  clear hs9
  generalize (w5.setCell ⟨w.heap.size + 1, 0, none⟩ (.func (.func 68) #[] #[.pointer (some ⟨q, 0, none⟩)])).setCell ⟨w.heap.size + 1, 1, none⟩ (.slice (wg.map fun g => (⟨g, 0, none⟩ : Addr)) ps.length wc) = w9 at H9 HX ⊢
  clear k2 k3 k4 c81 c82 c61 c62 f60 f61 c65 c66 H5 HOK5 HC HC2 H4 HOK
  obtain ⟨c61, c62⟩ := H9.out.sb.c6
  go_wp2
  exact bodyPost_ret (v := .tuple #[.agg #[.func (.func 68) #[] #[.pointer (some ⟨q, 0, none⟩)], .slice (wg.map fun g => (⟨g, 0, none⟩ : Addr)) ps.length wc], .bool true]) (by simp [results, Try.results24, go_sem, c61, c62]) rfl HX.out

theorem step_any (H : PS o h t l l p FT w) (hs : Sorted (cmpI o) l) (hl : (l.length + 1) * 24 ≤ 140737488355328) (hp : p ≤ 70368744177664) (D K : Int) (V : ByteArray) (N : Int) :
    Calls Try.prog 24 #[.pointer (some ⟨h, 0, none⟩), .pointer (some ⟨t, 0, none⟩), .agg #[.int .i64 D, .int .i64 K, .string V, .int .i64 N]] w (StepOut w o h t l p FT) := by
  by_cases d1 : D = 1
  · subst d1; exact step1 H hs hl hp K V N
  by_cases d2 : D = 2
  · subst d2; exact step2 H hs hl hp K V N
  by_cases d3 : D = 3
  · subst d3; exact step3 H hs hl hp K V N
  by_cases d4 : D = 4
  · subst d4; exact step4 H hs hl hp K V N
  by_cases d5 : D = 5
  · subst d5; exact step5 H hs hl hp K V N
  by_cases d6 : D = 6
  · subst d6; exact step6 H hs hl hp K V N
  by_cases d7 : D = 7
  · subst d7; exact step7 H hs hl hp K V N
  by_cases d8 : D = 8
  · subst d8; exact step8 H hs hl hp K V N
  by_cases d9 : D = 9
  · subst d9; exact step9 H hs hl hp K V N
  exact stepE H hs D (by simpa using d1) (by simpa using d2) (by simpa using d3) (by simpa using d4) (by simpa using d5) (by simpa using d6) (by simpa using d7) (by simpa using d8) (by simpa using d9) K V N
end
end Go.Proofs.Ytdfkokbpidkokaa
