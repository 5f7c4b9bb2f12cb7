/- Part 8 of the walks and plain laws, joined: Word, SchMap, First, NameV, DescV, ShwM. -/
import Derived.Test.YtifgmnafjihlkaaGreatDoorMV01
import Derived.Test.YtifgmnafjihlkaaGreatDoorMV06
import Derived.Test.YtifgmnafjihlkaaGreatDoorMV07
import Derived.Test.YtifgmnafjihlkaaGreatDoorProg
import Derived.Maps.OwnSet
import Derived.Maps.OwnOps
import Derived.Maps.Views
import Derived.Below
import Derived.WalkArith
import Derived.WalkKit
import Derived.Lib.ValidLaws
import Derived.Lib.SlicesCompact
import Derived.Lib.SlicesS
/- schema.small, letter, digit, tail, isWord. -/
namespace Go.Proofs.YtifgmnafjihlkaaGreatDoor
open Go Go.RowKit

theorem small_any (s : ByteArray) (w : World) (hs : s.size ≤ 140737488355328) :
    Calls Tryz.prog 133 #[.string s] w fun e w' => e = .returned (.string ⟨(low (toL s)).toArray⟩) ∧ Below w.heap.size w w' := by
  go_enter Tryz.func133, Tryz.ntmps133
  have hc := Lib.run_convert_string_bytes (P := Tryz.prog) w 9 144 5 s Tryz.underlying9 Tryz.underlying144 Tryz.underlying5
  have B0 := below_bytes w 5 s
  have T0 := Bts.conv w s
  generalize Lib.bytesWorld w 5 s = w1 at hc B0 T0
  generalize grownCap w s.size 0 5 = cap at hc
  go_wp2_with fail
  clear hc
  have HB0 := Lib.hid B0; clear B0
  have HT0 := Lib.hid T0; clear T0
  go_loopw [10] (fun iv wr => ∃ i : Nat, iv = .int .i64 i ∧ i ≤ s.size ∧ Below w.heap.size w wr ∧ Bts wr w.heap.size (low (s.data.toList.take i) ++ s.data.toList.drop i)) (fun iv _ => s.size - (intOf iv).toNat)
  case atStart => exact ⟨0, rfl, Nat.zero_le _, HB0.out, by simpa [low] using HT0.out⟩
  case round =>
    clear HB0 HT0
    obtain ⟨i, rfl, hi, hb, ht⟩ := hrel
    have HB := Lib.hid hb; clear hb
    have HT := Lib.hid ht; clear ht
    have hl0 : s.data.toList.length = s.size := by simp
    have hlen : (low (s.data.toList.take i) ++ s.data.toList.drop i).length = s.size := by simp [low]; omega
    by_cases hlt : i < s.size
    · have hget : (low (s.data.toList.take i) ++ s.data.toList.drop i)[i]? = some s[i] := by
        rw [List.getElem?_append_right (by rw [low, List.length_map, List.length_take]; omega), show i - (low (s.data.toList.take i)).length = 0 by rw [low, List.length_map, List.length_take]; omega, drop_at s hlt]; rfl
      have hcell := HT.out.cell i _ hget
      have hfr := HT.out.fr i (by omega)
      have hst := low_step s.data.toList (by omega : i < s.data.toList.length)
      have hsi : s.data.toList[i]'(by omega) = s[i] := rfl
      rw [hsi] at hst
      have HS := Lib.hid hst; clear hst
      have HN := Lib.hid (low_keep s.data.toList (by omega : i < s.data.toList.length))
      rw [hsi] at HN
      have hset := HT.out.set (i := i) (by omega) (lowB s[i])
      rw [HS.out] at hset
      have HQ := Lib.hid hset; clear hset HS
      clear hget hsi hlen
      generalize s[i] = b at *
      go_wp2_with fail
      · have e1 := lowB_nat (b := b) (by omega)
        have hq := HQ.out
        rw [show ((lowB b).toNat : Int) = (b.toNat : Int) + 32 by omega] at hq
        exact ⟨⟨i + 1, by simp, by omega, HB.out.setCell (Nat.le_refl _) _, hq⟩, by simp [intOf]; omega⟩
      all_goals exact ⟨⟨i + 1, by simp, by omega, HB.out, by rw [HN.out (lowB_same (by omega))]; exact HT.out⟩, by simp [intOf]; omega⟩
    · have hie : i = s.size := by omega
      subst hie
      have hfin := HT.out
      rw [List.take_of_length_le (by omega), List.drop_eq_nil_of_le (by omega), List.append_nil] at hfin
      have hbk := hfin.back (P := Tryz.prog) (src := 144) (dst := 9) (e := 5) (n := s.size) (by simp [low]) cap Tryz.underlying144 Tryz.underlying5 Tryz.underlying9
      clear hfin hlen
      go_wp2_with fail
      go_ret
      exact ⟨rfl, HB.out⟩

theorem let_fin : ∀ n : Fin 256, (decide (97 ≤ bits BinOp.or IntKind.u8 (n.val : Int) 32) && decide (bits BinOp.or IntKind.u8 (n.val : Int) 32 ≤ 122)) = (decide (97 ≤ n.val ∧ n.val ≤ 122) || decide (65 ≤ n.val ∧ n.val ≤ 90)) := by decide +kernel
theorem let_eq (b : UInt8) : (decide (97 ≤ bits BinOp.or IntKind.u8 (b.toNat : Int) 32) && decide (bits BinOp.or IntKind.u8 (b.toNat : Int) 32 ≤ 122)) = isLet b := let_fin ⟨b.toNat, b.toNat_lt⟩
theorem letter_any (b : UInt8) (w : World) : Calls Tryz.prog 193 #[.int .u8 (b.toNat : Int)] w fun e w' => e = .returned (.bool (isLet b)) ∧ w = w' := by
  have he := let_eq b
  generalize isLet b = x at he
  have HE := Lib.hid he; clear he
  go_enter Tryz.func193, Tryz.ntmps193
  go_wp2_with fail
  all_goals
    rename_i h
    go_ret
    refine ⟨?_, rfl⟩
    rw [← HE.out]
    simp [h]
  omega
theorem dig_eq (b : UInt8) : (decide (48 ≤ (b.toNat : Int)) && decide ((b.toNat : Int) ≤ 57)) = dig b := by
  unfold dig; rw [Bool.eq_iff_iff]; simp; omega
theorem digit_any (b : UInt8) (w : World) : Calls Tryz.prog 195 #[.int .u8 (b.toNat : Int)] w fun e w' => e = .returned (.bool (dig b)) ∧ w = w' := by
  have he := dig_eq b
  generalize dig b = x at he
  have HE := Lib.hid he; clear he
  go_enter Tryz.func195, Tryz.ntmps195
  go_wp2_with fail
  all_goals
    rename_i h
    go_ret
    refine ⟨?_, rfl⟩
    rw [← HE.out]
    simp [h]
  omega

theorem tailC_45 (b : UInt8) : (b == 45) = decide ((b.toNat : Int) = 45) := by
  rw [Bool.eq_iff_iff]; simp only [beq_iff_eq, decide_eq_true_eq]
  exact ⟨fun h => by subst h; rfl, fun h => UInt8.toNat_inj.1 (by show b.toNat = 45; omega)⟩
theorem tail_any (s : ByteArray) (w : World) (hs : s.size ≤ 140737488355328) : Calls Tryz.prog 147 #[.string s] w fun e w' => e = .returned (.bool (tailB (toL s))) ∧ w = w' := by
  go_enter Tryz.func147, Tryz.ntmps147
  go_wp2_with fail
  go_loop [6] (fun iv => ∃ i : Nat, iv = .int .i64 i ∧ i ≤ s.size ∧ tailB (toL s) = tailB ((toL s).drop i)) (fun iv => s.size - (intOf iv).toNat)
  case atStart => exact ⟨0, rfl, Nat.zero_le _, rfl⟩
  case round =>
    obtain ⟨i, rfl, hi, ht⟩ := hrel
    have HT := Lib.hid ht; clear ht
    by_cases hlt : i < s.size
    · have hd : tailB ((toL s).drop i) = (tailC s[i] && tailB ((toL s).drop (i + 1))) := by
        unfold toL; rw [drop_at s hlt]; rfl
      have HD := Lib.hid (HT.out.trans hd); clear hd HT
      have h45 := tailC_45 s[i]
      unfold tailC at HD
      have cl := letter_any s[i]
      have cd := digit_any s[i]
      cases hL : isLet s[i] with
      | true =>
        rw [hL] at cl HD
        have CL := Lib.hid cl; clear cl cd h45 hL
        go_wp2_with (first | (go_at_call 193; with_reducible refine (CL.out _).mono ?_; rintro e w1 ⟨rfl, rfl⟩) | fail)
        exact ⟨⟨i + 1, by simp, by omega, by rw [HD.out]; simp⟩, by simp [intOf]; omega⟩
      | false =>
        rw [hL] at cl HD
        have CL := Lib.hid cl; clear cl hL
        cases hD : dig s[i] with
        | true =>
          rw [hD] at cd HD
          have CD := Lib.hid cd; clear cd h45 hD
          go_wp2_with (first | (go_at_call 193; with_reducible refine (CL.out _).mono ?_; rintro e w1 ⟨rfl, rfl⟩) | (go_at_call 195; with_reducible refine (CD.out _).mono ?_; rintro e w1 ⟨rfl, rfl⟩) | fail)
          exact ⟨⟨i + 1, by simp, by omega, by rw [HD.out]; simp⟩, by simp [intOf]; omega⟩
        | false =>
          rw [hD] at cd HD
          rw [h45] at HD
          have CD := Lib.hid cd; clear cd h45 hD
          by_cases h5 : (s[i].toNat : Int) = 45
          · rw [decide_eq_true h5] at HD
            have hB : ((s[i].toNat : Int) == 45) = true := by rw [h5]; rfl
            have hN : ((s[i].toNat : Int) != 45) = false := by rw [h5]; rfl
            clear h5
            go_wp2_with (first | (go_at_call 193; with_reducible refine (CL.out _).mono ?_; rintro e w1 ⟨rfl, rfl⟩) | (go_at_call 195; with_reducible refine (CD.out _).mono ?_; rintro e w1 ⟨rfl, rfl⟩) | fail)
            exact ⟨⟨i + 1, by simp, by omega, by rw [HD.out]; simp⟩, by simp [intOf]; omega⟩
          · rw [decide_eq_false h5] at HD
            go_wp2_with (first | (go_at_call 193; with_reducible refine (CL.out _).mono ?_; rintro e w1 ⟨rfl, rfl⟩) | (go_at_call 195; with_reducible refine (CD.out _).mono ?_; rintro e w1 ⟨rfl, rfl⟩) | fail)
            go_ret
            exact ⟨by rw [HD.out]; rfl, rfl⟩
    · have hfin : tailB ((toL s).drop i) = true := by unfold toL; rw [drop_end s hlt]; rfl
      have HF := Lib.hid (HT.out.trans hfin); clear hfin HT
      go_wp2_with fail
      go_ret
      exact ⟨by rw [HF.out]; rfl, rfl⟩
end Go.Proofs.YtifgmnafjihlkaaGreatDoor
/- A map from texts to places: what it holds, look-ups, stores. -/
namespace Go.Proofs.YtifgmnafjihlkaaGreatDoor
open Go Go.RowKit Go.Maps

theorem kStr : Keyed Tryz.prog 9 := string_keyed Tryz.underlying9
theorem zeroInt (w : World) : (zeroValue 3).run Tryz.prog w = .ok (.int .i64 0) w := by kernel_rfl
theorem keyStr {s : ByteArray} (hs : s.size ≤ maxLen) : keyOf Tryz.prog 9 (.string s) = some (.string (toL s)) := Go.WideMaps.keyOf_string_mk Tryz.underlying9 hs

/-- block b is a map of at most n entries that gives the places of f -/
structure MapIs (w : World) (b n : Nat) (f : Str → Option Nat) : Prop where
  own : ∃ D : DataW Unit, w.ownsMap Tryz.prog 9 (plainElem Tryz.prog 3) b n D ∧
    ∀ k : Str, Maps.has D (.string k) = (f k).isSome ∧ D.atKey (.string k) (.lit (.int .i64 0)) = .lit (.int .i64 ((f k).getD 0 : Nat))

theorem MapIs.lt {w : World} {b n : Nat} {f : Str → Option Nat} (h : MapIs w b n f) : b < w.heap.size := by obtain ⟨D, h1, _⟩ := h.own; exact h1.lt
theorem MapIs.of_block {w w' : World} {b n : Nat} {f : Str → Option Nat} (h : MapIs w b n f) (k : w'.heap[b]? = w.heap[b]?) : MapIs w' b n f := by
  obtain ⟨D, ⟨es, clock, hb, r⟩, h2⟩ := h.own
  exact ⟨D, ⟨es, clock, by rw [k]; exact hb, r⟩, h2⟩
theorem MapIs.keep {w w' : World} {b n B : Nat} {f : Str → Option Nat} (h : MapIs w b n f) (k : Below B w w') (hb : b < B) : MapIs w' b n f := h.of_block (k.block b hb)
theorem MapIs.mono {w : World} {b n n' : Nat} {f : Str → Option Nat} (h : MapIs w b n f) (hn : n ≤ n') : MapIs w b n' f := by
  obtain ⟨D, h1, h2⟩ := h.own; exact ⟨D, h1.mono hn, h2⟩
theorem MapIs.made (w : World) : MapIs (w.alloc (.map #[] 0)) w.heap.size 0 (fun _ => none) :=
  ⟨.map [], World.ownsMap_made _ _ _ _, fun _ => ⟨rfl, rfl⟩⟩

theorem MapIs.look {w : World} {b n : Nat} {f : Str → Option Nat} (h : MapIs w b n f) {s : ByteArray} (hs : s.size ≤ maxLen) :
    (Instr.lookup 125 (.map (some b)) (.string s) false).run Tryz.prog w = .ok (.int .i64 ((f (toL s)).getD 0 : Nat)) w := by
  obtain ⟨D, h1, h2⟩ := h.own
  obtain ⟨c, hr, hc, _⟩ := h1.lookup_int kStr Tryz.underlying125 Tryz.underlying3 (zeroInt w) (keyStr hs)
  rw [(h2 (toL s)).2] at hc
  cases hc; exact hr
theorem MapIs.look_ok {w : World} {b n : Nat} {f : Str → Option Nat} (h : MapIs w b n f) {s : ByteArray} (hs : s.size ≤ maxLen) :
    (Instr.lookup 125 (.map (some b)) (.string s) true).run Tryz.prog w = .ok (.tuple #[.int .i64 ((f (toL s)).getD 0 : Nat), .bool (f (toL s)).isSome]) w := by
  obtain ⟨D, h1, h2⟩ := h.own
  obtain ⟨v, ps, hr, hv⟩ := h1.look_ok kStr Tryz.underlying125 (zeroInt w) (plainElem_int Tryz.underlying3 (by decide)) (keyStr hs)
  obtain ⟨c, rfl, hc, _⟩ := plainElem_int_inv Tryz.underlying3 hv
  rw [(h2 (toL s)).2] at hc
  rw [(h2 (toL s)).1] at hr
  cases hc; exact hr

theorem MapIs.put {w : World} {b n : Nat} {f : Str → Option Nat} (h : MapIs w b n f) (hn : n < maxLen) {s : ByteArray} (hs : s.size ≤ maxLen) {v : Nat} (hv : v ≤ maxLen) :
    ∃ w', (Instr.mapUpdate 125 (.map (some b)) (.string s) (.int .i64 (v : Int))).run Tryz.prog w = .ok () w' ∧ MapIs w' b (n + 1) (fun x => if x = toL s then some v else f x) ∧ w.grownBy w' (some b) := by
  obtain ⟨D, h1, h2⟩ := h.own
  obtain ⟨w', hr, ho, hg⟩ := h1.update kStr Tryz.underlying125 hn (keyStr hs) (plainElem_int (H := Unit) Tryz.underlying3 (a := (v : Int)) (WalkArith.wf_i64 (by unfold maxLen at hv; omega)))
  refine ⟨w', hr, ⟨_, ho, fun k => ?_⟩, hg⟩
  by_cases e : k = toL s
  · subst e
    rw [has_put_same h1.isMap (k := .string (toL s)) trivial, atKey_put_same h1.isMap (k := .string (toL s)) trivial]
    simp
  · have hne : (Lit.string k) ≠ Lit.string (toL s) := fun e2 => e (by cases e2; rfl)
    rw [has_put_other hne, atKey_put_other hne, (h2 k).1, (h2 k).2]
    simp [e]

/-- 'm[k] = v' at the operation -/
theorem MapIs.wp_put {w : World} {b n : Nat} {f : Str → Option Nat} (h : MapIs w b n f) {ops : Array Oper} {rest : List Oper} {o : Oper} {a : Act} {Q : Exit → Act → World → Prop} (hg : o.guard = none) (m x v : Operand) (hop : o.op = Op.mapUpdate 125 m x v)
    (hm : a.eval m = .map (some b)) (s : ByteArray) (hx : a.eval x = .string s) (p : Nat) (hv : a.eval v = .int .i64 (p : Int)) (hn : n < maxLen) (hs : s.size ≤ maxLen) (hp : p ≤ maxLen)
    (hK : ∀ w', MapIs w' b (n + 1) (fun x => if x = toL s then some p else f x) → w.grownBy w' (some b) → wpList Tryz.prog ops Q rest (a.put o.dst undef) w') :
    wpList Tryz.prog ops Q (o :: rest) a w := by
  refine wpList_plain hg fun K' hK' => ?_
  obtain ⟨w', hrun, r1, r2⟩ := h.put hn hs hp
  unfold Oper.wp
  simp [execOp, hop, hm, hx, hv, hrun, Result.andThen]
  exact hK' _ _ (hK w' r1 r2)
end Go.Proofs.YtifgmnafjihlkaaGreatDoor
/- schema.first, schema.taken. -/
namespace Go.Proofs.YtifgmnafjihlkaaGreatDoor
open Go Go.RowKit Go.Maps

theorem eiStr : EI Tryz.prog 46 9 (.string ByteArray.empty) 1 16 := EI.of Tryz.underlying46 (by kernel_rfl) rfl (by decide) (by decide)
def strV (l : List ByteArray) : List Value := l.map .string
theorem strV_one (l : List ByteArray) : ∀ u ∈ strV l, u.oneCell' = true := fun u hu => by
  obtain ⟨s, _, rfl⟩ := List.mem_map.1 hu; rfl
theorem strV_get {l : List ByteArray} {i : Nat} (h : i < l.length) : (strV l)[i]? = some (.string l[i]) := by
  simp [strV, h]
theorem Texts.news {B : Nat} {w : World} {a : Option Addr} {n c : Nat} {l : List ByteArray} (h : Texts B w a n c l) : ∀ ad, a = some ad → ∀ (j : Nat) (u : Value), (strV l)[j]? = some u → ad.block < B ∧ w.cell? (ad.add j) = some u := by
  intro ad e j u hu
  simp only [strV, List.getElem?_map, Option.map_eq_some_iff] at hu
  obtain ⟨s, hs, rfl⟩ := hu
  have hn : 0 < n := by have := (List.getElem?_eq_some_iff.1 hs).1; have := h.len; omega
  obtain ⟨b, o, e2, hb⟩ := h.lies.ptr hn
  rw [e] at e2; cases e2
  rw [Addr.add_lit]
  exact ⟨hb, h.cell b o e j s hs⟩
theorem Texts.len0 {B : Nat} {w : World} {a : Option Addr} {n c : Nat} {l : List ByteArray} (h : Texts B w a n c l) : a = none → n = 0 ∧ c = 0 := h.lies.len0

theorem Chg.of_below {S : Nat → Prop} {w w' : World} (h : Below w.heap.size w w') : Chg S w w' := ⟨h.os, h.tape, h.output, h.size, fun k hk _ => h.block k hk⟩
def keysN (oid : ByteArray) (names : List ByteArray) : List Str := (oid :: names).map fun s => low (toL s)

theorem keys_take {oid : ByteArray} {names : List ByteArray} {i : Nat} (h : i < (oid :: names).length) : (keysN oid names).take (i + 1) = (keysN oid names).take i ++ [low (toL (oid :: names)[i])] := by
  have h2 : i < (keysN oid names).length := by simpa [keysN] using h
  rw [List.take_succ_eq_append_getElem h2]
  have : (keysN oid names)[i] = low (toL (oid :: names)[i]) := by simp only [keysN, List.getElem_map]
  rw [this]

set_option maxHeartbeats 1000000 in
theorem first_any (B N mb place : Nat) (f : Str → Option Nat) (oid : ByteArray) (a : Option Addr) (n c : Nat) (names : List ByteArray) (w : World) (h : Texts B w a n c names) (ho : oid.size ≤ 4294967280)
    (hm : MapIs w mb N f) (hB : B ≤ w.heap.size) (hN : N + n + 1 < maxLen) (hp : place ≤ maxLen) :
    Calls Tryz.prog 78 #[.map (some mb), .int .i64 (place : Int), .string oid, .slice a n c] w fun e w' => e = .returned (.tuple #[]) ∧ MapIs w' mb (N + n + 1) (addKeys f place (keysN oid names)) ∧ Chg (· = mb) w w' := by
  have hnl := h.len
  have hsm := h.small
  have hlt := hm.lt
  obtain ⟨L, hL⟩ : ∃ L, 1 + n = L := ⟨_, rfl⟩
  have hLp : 0 < L := by omega
  have hLs : L ≤ 4294967281 := by omega
  have hV := Vec.made w (Below.refl _ w) 9 1 1 #[.string oid] rfl (by unfold maxLen; omega)
  have hal : Below w.heap.size w (w.alloc (.cells #[.string oid] 9)) := (Below.refl _ w).alloc (Nat.le_refl _) _
  have hnews : ∀ ad, a = some ad → ∀ (j : Nat) (u : Value), (strV names)[j]? = some u → (w.alloc (.cells #[.string oid] 9)).cell? (ad.add j) = some u := fun ad e j u hu => by
    have := h.news ad e j u hu; rw [hal.cell (p := ad.add j) (by rw [block_add]; exact Nat.lt_of_lt_of_le this.1 hB)]; exact this.2
  have hbt : L * 16 ≤ 140737488355328 := by omega
  have hsl : (strV names).length = n * 1 := by simp [strV, hnl]
  have hl0 := h.len0
  have hLn : L = names.length + 1 ∧ L = n + 1 := by omega
  have hsz : ∀ x ∈ oid :: names, x.size ≤ 4294967280 := fun x hx => by
    rcases List.mem_cons.1 hx with e | e
    · rw [e]; exact ho
    · exact h.size _ e
  have HV := Lib.hid hV; have HN := Lib.hid hnews; have HS := Lib.hid (And.intro hbt hsl); have HM := Lib.hid hm; have HL0 := Lib.hid hl0; have HL := Lib.hid hL; have HZ := Lib.hid hsz; have HC := Lib.hid (And.intro hLn (And.intro hN hp)); have HAL := Lib.hid hal
  clear h hV hal hm hl0 hnl hsm hnews hbt hsl hL hsz hLn hN hp ho hB
  go_enter Tryz.func78, Tryz.ntmps78
  go_wp2_with (at_builtin; refine HV.out.app1 eiStr rfl _ _ rfl rfl a n c (strV names) rfl HL0.out HS.out.2 HN.out (strV_one _) L HL.out HS.out.1 hLp ?_; intro g' cap' w1 hV1 hG1; have HV1 := Lib.hid (And.intro hV1 hG1); clear hV1 hG1)
  have hgf : w.heap.size ≤ g' := HV1.out.1.fresh g' rfl
  have HO1 : Hid (Own w1 9 1 (some g') L cap' (strV (oid :: names))) := Lib.hid HV1.out.1.own
  have HB1 := Lib.hid HV1.out.1.below
  clear HV1 HV HN HS HL0 HL HAL
  go_loopw [17] (fun iv wr => ∃ i : Nat, iv = .int .i64 i ∧ i ≤ L ∧ MapIs wr mb (N + i) (addKeys f place ((keysN oid names).take i)) ∧ Own wr 9 1 (some g') L cap' (strV (oid :: names)) ∧ Chg (· = mb) w wr) (fun iv _ => L - (intOf iv).toNat)
  case atStart => exact ⟨0, rfl, Nat.zero_le _, by simpa [addKeys_nil] using HM.out.keep HB1.out hlt, HO1.out, Chg.of_below HB1.out⟩
  case round =>
    clear HO1 HB1
    obtain ⟨i, rfl, hi, hmi, hown, hchg⟩ := hrel
    have hgne : g' ≠ mb := by omega
    by_cases hlt2 : i < L
    · have hli : i < (oid :: names).length := by simp only [List.length_cons]; have := HC.out.1.1; omega
      have hc := hown.row.cell (strV_get hli)
      have hsz := HZ.out _ (List.getElem_mem hli)
      have htk := keys_take hli
      have hNi : N + i + 1 < maxLen := by have := HC.out; omega
      generalize (oid :: names)[i] = s at hc hsz htk
      have HR := Lib.hid (And.intro hmi (And.intro hown (And.intro hchg (And.intro htk hNi)))); clear hmi hown hchg htk hNi
      have HLK := Lib.hid (fun w2 hb => (HR.out.1.keep (B := wr.heap.size) (w' := w2) hb HR.out.1.lt))
      have ho2 : ∀ w2, Below wr.heap.size wr w2 → Own w2 9 1 (some g') L cap' (strV (oid :: names)) := fun w2 hb => HR.out.2.1.keep fun k hk => by cases hk; exact hb.block _ HR.out.2.1.row.lt
      have HO2 := Lib.hid ho2; clear ho2
      have hls : (ByteArray.mk (low (toL s)).toArray).size ≤ maxLen := by rw [low_size]; unfold maxLen; omega
      have hlk : ∀ w2, Below wr.heap.size wr w2 → (Instr.lookup 125 (.map (some mb)) (.string ⟨(low (toL s)).toArray⟩) true).run Tryz.prog w2 = .ok (.tuple #[.int .i64 (((addKeys f place ((keysN oid names).take i)) (low (toL s))).getD 0 : Nat), .bool ((addKeys f place ((keysN oid names).take i)) (low (toL s))).isSome]) w2 :=
        fun w2 hb => (HLK.out w2 hb).look_ok hls
      have HK2 := Lib.hid hlk; clear hlk
      have HLS := Lib.hid hls; clear hls
      cases hq : (addKeys f place ((keysN oid names).take i)) (low (toL s)) with
      | some q =>
        have hk2 : ∀ w2, Below wr.heap.size wr w2 → (Instr.lookup 125 (.map (some mb)) (.string ⟨(low (toL s)).toArray⟩) true).run Tryz.prog w2 = .ok (.tuple #[.int .i64 (q : Int), .bool true]) w2 := fun w2 hb => by
          have := HK2.out w2 hb; rw [hq] at this; exact this
        have HK3 := Lib.hid hk2; have HQ := Lib.hid hq; clear hk2 hq HK2
        go_wp2_with (first
          | (go_at_call 133; refine (small_any s _ (by omega)).mono ?_; rintro e w2 ⟨rfl, hb2⟩
             have hk3 := HK3.out w2 hb2
             have HB2 := Lib.hid hb2; clear hb2)
          | fail)
        refine ⟨⟨i + 1, by simp, by omega, ?_, HO2.out _ HB2.out, HR.out.2.2.1.trans (Chg.of_below HB2.out)⟩, by simp [intOf]; omega⟩
        rw [HR.out.2.2.2.1, addKeys_snoc, addKeys_one_some (by rw [HQ.out]; rfl)]
        exact (HLK.out _ HB2.out).mono (by omega)
      | none =>
        have hk2 : ∀ w2, Below wr.heap.size wr w2 → (Instr.lookup 125 (.map (some mb)) (.string ⟨(low (toL s)).toArray⟩) true).run Tryz.prog w2 = .ok (.tuple #[.int .i64 0, .bool false]) w2 := fun w2 hb => by
          have := HK2.out w2 hb; rw [hq] at this; exact this
        have HK3 := Lib.hid hk2; have HQ := Lib.hid hq; clear hk2 hq HK2
        go_wp2_with (first
          | (go_at_call 133; refine (small_any s _ (by omega)).mono ?_; rintro e w2 ⟨rfl, hb2⟩
             have hk3 := HK3.out w2 hb2
             have HB2 := Lib.hid hb2; clear hb2 HK3)
          | (go_at_call 133; refine (small_any s _ (by omega)).mono ?_; rintro e w3 ⟨rfl, hb3⟩
             have HB3 := Lib.hid (bnext HB2.out hb3); clear hb3)
          | (at_mapUpdate; refine (HLK.out _ HB3.out).wp_put rfl _ _ _ rfl rfl ⟨(low (toL s)).toArray⟩ rfl place rfl (by have := HR.out.2.2.2.2; omega) HLS.out HC.out.2.2 ?_; intro w4 hm4 hg4; have H4 := Lib.hid (And.intro hm4 hg4); clear hm4 hg4)
          | fail)
        refine ⟨⟨i + 1, by simp, by omega, ?_, ?_, ?_⟩, by simp [intOf]; omega⟩
        · rw [HR.out.2.2.2.1, addKeys_snoc, addKeys_one_none (by rw [HQ.out]; rfl)]
          exact H4.out.1
        · exact (HO2.out _ HB3.out).keep fun k hk => by cases hk; exact H4.out.2.block _ (HO2.out _ HB3.out).row.lt (by simpa using hgne)
        · exact (HR.out.2.2.1.trans (Chg.of_below HB3.out)).grown H4.out.2 (fun k hk _ => by cases hk; rfl)
    · have hie : i = L := by omega
      subst hie
      have htk : (keysN oid names).take i = keysN oid names := List.take_of_length_le (by simp [keysN, HC.out.1.1])
      rw [htk] at hmi
      rw [show N + i = N + n + 1 by have := HC.out.1.2; omega] at hmi
      have HR := Lib.hid (And.intro hmi hchg); clear hmi hchg hown htk
      go_wp2_with fail
      go_end0
      exact ⟨rfl, HR.out⟩
end Go.Proofs.YtifgmnafjihlkaaGreatDoor
/- Names plainly: reading a text, writing a name. No program. -/
namespace Go.Proofs.YtifgmnafjihlkaaGreatDoor
open Go

abbrev PAva := ByteArray × ByteArray
abbrev PRdn := List PAva
abbrev PName := List PRdn
/-- a fault: its code, its place, the word there -/
abbrev PFault := Int × Nat × Str

/-! ### reading -/
/-- what a run of numbers between dots takes; off: how much of it lies behind; one: is it the first? -/
def oidN : Nat → Str → Nat → Bool → Nat × Bool
  | 0, _, off, _ => (off, false)
  | f + 1, l, off, one =>
    let d := if l.head? = some 48 then 1 else (l.takeWhile dig).length
    if d = 0 then (off, false)
    else if l[d]? = some 46 then oidN f (l.drop (d + 1)) (off + d + 1) false
    else if one then (off + d, false)
    else (off + d, l[d]? == some 61)
/-- a type's word: how long it is, or where it gets stuck -/
def kindN (l : Str) : Nat × Bool := match l with
  | [] => (0, false)
  | c :: _ => if isLet c then ((l.takeWhile tailC).length, l[(l.takeWhile tailC).length]? == some 61) else oidN (l.length + 1) l 0 true
def hexd (c : UInt8) : Bool := dig c || decide (97 ≤ c.toNat ∧ c.toNat ≤ 102) || decide (65 ≤ c.toNat ∧ c.toNat ≤ 70)
def hexv (c : UInt8) : Nat := if c.toNat ≤ 57 then c.toNat - 48 else if c.toNat ≤ 70 then c.toNat - 55 else c.toNat - 87
def escs : Str := [34, 43, 44, 59, 60, 62, 61, 35, 32, 92]
def bads : Str := [0, 34, 59, 60, 62]
/-- a value: what it means, where it ends, what is wrong with it; st: where it began; bare: where a bare blank stood last -/
def valR (st : Nat) : Str → Nat → Str → Option Nat → Str × Nat × Option (Int × Nat)
  | [], off, b, bare => (b, off, bare.map fun p => (50, p))
  | c :: l, off, b, bare =>
    if c = 44 ∨ c = 43 then (b, off, bare.map fun p => (50, p))
    else if c = 92 then match l with
      | [] => ([], off, some (11, off))
      | x :: l2 => if escs.contains x then valR st l2 (off + 2) (b ++ [x]) none else match l2 with
        | [] => ([], off, some (11, off))
        | y :: l3 => if hexd x && hexd y then valR st l3 (off + 3) (b ++ [UInt8.ofNat (hexv x * 16 + hexv y)]) none else ([], off, some (11, off))
    else if bads.contains c ∨ (off = st ∧ (c = 32 ∨ c = 35)) then ([], off, some (50, off))
    else valR st l (off + 1) (b ++ [c]) (if c = 32 then some off else none)
def faultAt (s : Str) (code : Int) (p : Nat) : PFault := (code, p, (s.drop p).take 1)
def stuckAt (s : Str) (p : Nat) : PFault := faultAt s (if p < s.length then 50 else 5) p
def baOf (l : Str) : ByteArray := ⟨l.toArray⟩
def parseR (s : Str) : Nat → Nat → PName → PRdn → Except PFault PName
  | 0, _, _, _ => .error (0, 0, [])
  | f + 1, p, done, part =>
    let k := kindN (s.drop p)
    if k.2 = false then .error (stuckAt s (p + k.1))
    else
      let v := valR (p + k.1 + 1) (s.drop (p + k.1 + 1)) (p + k.1 + 1) [] none
      match v.2.2 with
      | some (c, q) => .error (faultAt s c q)
      | none =>
        let part2 := part ++ [(baOf ((s.drop p).take k.1), baOf v.1)]
        if s.length ≤ v.2.1 then .ok (done ++ [part2])
        else if s[v.2.1]? = some 44 then
          if 64 ≤ done.length + 1 then .error (faultAt s 3 v.2.1) else parseR s f (v.2.1 + 1) (done ++ [part2]) []
        else if 64 ≤ done.length ∨ 8 ≤ part2.length then .error (faultAt s 3 v.2.1) else parseR s f (v.2.1 + 1) done part2
def parseV (s : Str) : Except PFault PName :=
  if 65536 < s.length then .error (3, 0, []) else if s = [] then .ok [] else parseR s (s.length + 1) 0 [] []

/-! ### writing -/
def wordOk (s : Str) : Bool := (keyL 8 s).2
def typedV (s : Str) : Bool := if s.length ≤ 65536 then wordOk s else kindN (s ++ [61]) == (s.length, true)
def hexC (n : Nat) : UInt8 := if n < 10 then UInt8.ofNat (48 + n) else UInt8.ofNat (87 + n)
def hexB (c : UInt8) : Str := [92, hexC (c.toNat / 16), hexC (c.toNat % 16)]
/-- how many bytes the letter at the head takes; 0: there is none -/
def chN (l : Str) : Nat := (([1, 2, 3, 4].find? fun n => decide (n ≤ l.length) && Lib.validD (l.take n))).getD 0
/-- what is written of a value: fst: nothing stands ahead; k: so many bytes more of a letter -/
def showK : Bool → Str → Nat → Str
  | _, [], _ => []
  | _, c :: l, k + 1 => c :: showK false l k
  | fst, c :: l, 0 =>
    if chN (c :: l) = 0 then hexB c ++ showK false l 0
    else if c.toNat < 32 ∨ c = 127 then hexB c ++ showK false l (chN (c :: l) - 1)
    else if [34, 43, 44, 59, 60, 62, 92].contains c ∨ (c = 32 ∧ (fst = true ∨ l = [])) ∨ (c = 35 ∧ fst = true) then [92, c] ++ showK false l (chN (c :: l) - 1)
    else c :: showK false l (chN (c :: l) - 1)
def showV (v : Str) : Str := showK true v 0
def avaP (a : PAva) : Str := toL a.1 ++ 61 :: showV (toL a.2)
def joinP (c : UInt8) : List Str → Str
  | [] => []
  | [x] => x
  | x :: y :: l => x ++ c :: joinP c (y :: l)
def rdnP (r : PRdn) : Str := joinP 43 (r.map avaP)
def nameP (n : PName) : Str := joinP 44 (n.map rdnP)
def printV (n : PName) : Str × Int :=
  if 64 < n.length ∨ n.any (fun r => decide (8 < r.length)) then ([], 3)
  else if n.any (fun r => r.isEmpty || r.any fun a => !typedV (toL a.1)) then ([], 60)
  else if n.any (fun r => r.any fun a => decide (65536 < a.1.size) || decide (65536 < a.2.size)) ∨ 65536 < (nameP n).length then ([], 3)
  else (nameP n, 0)
end Go.Proofs.YtifgmnafjihlkaaGreatDoor
/- Descriptions plainly. No program. -/
namespace Go.Proofs.YtifgmnafjihlkaaGreatDoor
open Go

def optsOf (l : List Str) : List Str := Lib.compact ((l.map low).mergeSort fun x y => decide (x ≤ y))
def nameOf (S : PSchema) (t : Nat) : ByteArray := (tyAt S t).names.headD ⟨#[]⟩
/-- a description: its type's place, its options, the error -/
def descV (S : PSchema) (d : Str) : Nat × List Str × Int :=
  if 65536 < d.length then (0, [], 3)
  else if (!wordB ((cutAt 59 d).headD []) && !oidB ((cutAt 59 d).headD [])) = true then (0, [], 60)
  else if ((cutAt 59 d).drop 1).all (fun o => !o.isEmpty && tailB o) = false then (0, [], 60)
  else if 8 < (optsOf ((cutAt 59 d).drop 1)).length then (0, [], 3)
  else match typeAt S ((cutAt 59 d).headD []) with
    | none => (0, [], 80)
    | some t => if 65536 < (nameOf S t).size + (optsOf ((cutAt 59 d).drop 1)).length + (optsOf ((cutAt 59 d).drop 1)).flatten.length then (0, [], 3) else (t, optsOf ((cutAt 59 d).drop 1), 0)
def coversV (S : PSchema) (d e : Str) : Bool :=
  if (descV S d).2.2 ≠ 0 ∨ (descV S e).2.2 ≠ 0 then false
  else (belowOf S (descV S d).1).contains (descV S e).1 && (descV S d).2.1.all fun o => (descV S e).2.1.contains o
def wantsV (S : PSchema) (wanted : List Str) (desc : Str) : Bool := wanted.isEmpty || wanted.any fun w => w == [42] || coversV S w desc
end Go.Proofs.YtifgmnafjihlkaaGreatDoor
/- How attributes lie in memory; what is told of a record. No walk. -/
namespace Go.Proofs.YtifgmnafjihlkaaGreatDoor
open Go Go.RowKit

abbrev PAttr := ByteArray × List ByteArray
/-- a slice reads as attributes -/
structure AttrsM (B : Nat) (w : World) (a : Option Addr) (n c : Nat) (l : List PAttr) : Prop where
  len : n = l.length
  lies : LiesW B a n c
  small : n ≤ 4294967280
  cell : ∀ b o, a = some ⟨b, o, none⟩ → ∀ i x, l[i]? = some x → w.cell? ⟨b, o + i * 2, none⟩ = some (.string x.1) ∧ ∃ a' n' c', w.cell? ⟨b, o + i * 2 + 1, none⟩ = some (.slice a' n' c') ∧ Texts B w a' n' c' x.2
  size : ∀ x ∈ l, x.1.size ≤ 4294967280
theorem AttrsM.keep {B B' : Nat} {w w' : World} {a : Option Addr} {n c : Nat} {l : List PAttr} (h : AttrsM B w a n c l) (k : Below B w w') (hb : B ≤ B') : AttrsM B' w' a n c l :=
  ⟨h.len, h.lies.mono hb, h.small, fun b o e i x hx => by
    have hlt : b < B := h.lies.lt ⟨b, o, none⟩ e (by have h1 := h.len; have h2 := (List.getElem?_eq_some_iff.1 hx).1; omega)
    obtain ⟨h1, a', n', c', h2, h3⟩ := h.cell b o e i x hx
    exact ⟨by rw [k.cell (p := ⟨b, o + i * 2, none⟩) hlt]; exact h1, a', n', c', by rw [k.cell (p := ⟨b, o + i * 2 + 1, none⟩) hlt]; exact h2, h3.keep k hb⟩, h.size⟩
theorem AttrsM.nil (B : Nat) (w : World) : AttrsM B w none 0 0 [] := ⟨rfl, ⟨Nat.le_refl _, Nat.zero_le _, fun _ => rfl, (fun ad h _ => by cases h), (fun ad h _ => by cases h)⟩, Nat.zero_le _, (fun b o h => by cases h), (fun s h => by cases h)⟩

/-- texts in a block of strings -/
def TextsS (w : World) (a : Option Addr) (n c : Nat) (l : List ByteArray) : Prop :=
  Texts w.heap.size w a n c l ∧ ∀ b o, a = some ⟨b, o, none⟩ → 0 < n → ∃ cs fz, w.heap[b]? = some (.cells cs 9 fz)
def KeepS (w w' : World) : Prop := w.heap.size ≤ w'.heap.size ∧ ∀ (k : Nat) (cs : Array Value) (fz : Nat × Nat), w.heap[k]? = some (Obj.cells cs 9 fz) → w'.heap[k]? = some (Obj.cells cs 9 fz)
theorem KeepS.trans {a b c : World} (h : KeepS a b) (k : KeepS b c) : KeepS a c := ⟨Nat.le_trans h.1 k.1, fun i cs fz e => k.2 i cs fz (h.2 i cs fz e)⟩
theorem KeepS.of {w w' : World} (h : Below w.heap.size w w') : KeepS w w' := ⟨h.size, fun k cs fz e => by rw [h.block k (Array.getElem?_eq_some_iff.1 e).1]; exact e⟩
theorem TextsS.move {w w' : World} {a : Option Addr} {n c : Nat} {l : List ByteArray} (h : TextsS w a n c l) (k : KeepS w w') : TextsS w' a n c l := by
  obtain ⟨h1, h2⟩ := h
  refine ⟨⟨h1.len, h1.lies.mono k.1, h1.small, fun b o e i x hx => ?_, h1.size⟩, fun b o e hn => ?_⟩
  · have hn : 0 < n := by have h3 := h1.len; have h4 := (List.getElem?_eq_some_iff.1 hx).1; omega
    obtain ⟨cs, fz, hh⟩ := h2 b o e hn
    have hc := h1.cell b o e i x hx
    have h2 := k.2 b cs fz hh
    unfold World.cell? at hc ⊢
    simp only [h2]
    simp only [hh] at hc
    exact hc
  · obtain ⟨cs, fz, hh⟩ := h2 b o e hn
    exact ⟨cs, fz, k.2 b cs fz hh⟩
theorem TextsS.nil (w : World) : TextsS w none 0 0 [] := ⟨⟨rfl, ⟨Nat.le_refl _, Nat.zero_le _, fun _ => rfl, (fun ad h _ => by cases h), (fun ad h _ => by cases h)⟩, Nat.zero_le _, (fun b o h => by cases h), (fun s h => by cases h)⟩, fun b o h => by cases h⟩
/-- the cells of attributes -/
def FC (w : World) (vs : List Value) (found : List PAttr) : Prop :=
  vs.length = found.length * 2 ∧ ∀ j x, found[j]? = some x → vs[j * 2]? = some (.string x.1) ∧ ∃ a n c, vs[j * 2 + 1]? = some (.slice a n c) ∧ TextsS w a n c x.2
theorem FC.nil (w : World) : FC w [] [] := ⟨rfl, fun j x h => by simp at h⟩
theorem FC.move {w w' : World} {vs : List Value} {found : List PAttr} (h : FC w vs found) (k : KeepS w w') : FC w' vs found :=
  ⟨h.1, fun j x hx => by
    obtain ⟨h1, a, n, c, h2, h3⟩ := h.2 j x hx
    exact ⟨h1, a, n, c, h2, h3.move k⟩⟩
theorem FC.snoc {w : World} {vs : List Value} {found : List PAttr} (h : FC w vs found) {d : ByteArray} {a : Option Addr} {n c : Nat} {l : List ByteArray} (ht : TextsS w a n c l) : FC w (vs ++ [.string d, .slice a n c]) (found ++ [(d, l)]) := by
  refine ⟨by simp [h.1]; omega, fun j x hx => ?_⟩
  by_cases hj : j < found.length
  · rw [List.getElem?_append_left hj] at hx
    obtain ⟨h1, a', n', c', h2, h3⟩ := h.2 j x hx
    have hl := h.1
    exact ⟨by rw [List.getElem?_append_left (by omega)]; exact h1, a', n', c', by rw [List.getElem?_append_left (by omega)]; exact h2, h3⟩
  · have hj2 : j = found.length := by
      have := (List.getElem?_eq_some_iff.1 hx).1
      simp at this; omega
    subst hj2
    rw [List.getElem?_append_right (Nat.le_refl _), Nat.sub_self] at hx
    simp at hx
    subst hx
    have hl := h.1
    refine ⟨by rw [List.getElem?_append_right (by omega), ← hl, Nat.sub_self]; rfl, a, n, c, by rw [List.getElem?_append_right (by omega), show found.length * 2 + 1 - vs.length = 1 by omega]; rfl, ht⟩
theorem FC.attrs {w0 w : World} {vs : List Value} {found : List PAttr} {go : Option Nat} {n cap : Nat} (h : FC w vs found) (hv : Vec 80 2 w0 w go n cap vs) (hn : n = found.length) (hs : n ≤ 4294967280) (hz : ∀ x ∈ found, x.1.size ≤ 4294967280) :
    AttrsM w.heap.size w (go.map fun g => ⟨g, 0, none⟩) n cap found := by
  cases go with
  | none =>
    have h0 := hv.own.2
    simp only at h0
    obtain ⟨h1, h2⟩ := h0
    subst h1
    have hf : found = [] := List.eq_nil_of_length_eq_zero hn.symm
    subst hf
    subst h2
    exact AttrsM.nil _ _
  | some g =>
    refine ⟨hn, ?_, hs, fun b o e i x hx => ?_, hz⟩
    · have h0 := hv.own.2
      simp only at h0
      refine ⟨h0.1, ?_, (fun h => by cases h), fun ad e _ => ?_, fun ad e _ => ?_⟩
      · obtain ⟨sp, _, _, h3⟩ := h0.2; exact h3
      · cases e; exact hv.lt
      · cases e; rfl
    · cases e
      obtain ⟨h1, a', n', c', h2, h3⟩ := h.2 i x hx
      rw [Nat.zero_add]
      exact ⟨hv.cell h1, a', n', c', hv.cell h2, h3.1⟩

theorem text1 {w : World} {b : Nat} {s : ByteArray} (hc : w.cell? ⟨b, 0, none⟩ = some (.string s)) (hs : s.size ≤ 4294967280) : Texts w.heap.size w (some ⟨b, 0, none⟩) 1 1 [s] :=
  ⟨rfl, ⟨Nat.le_refl _, by unfold maxLen; omega, (fun h => by cases h), (fun ad h _ => by cases h; exact World.block_lt_of_cell? w _ hc), (fun ad h _ => by cases h; rfl)⟩, by omega, (fun b' o h i x hx => by
    cases h
    cases i with
    | zero => simp at hx; subst hx; exact hc
    | succ i => simp at hx), (fun x hx => by simp at hx; subst hx; exact hs)⟩

/-! ### plain -/
def foundV (S : PSchema) (wanted : List Str) (only : Bool) (l : List PAttr) : List PAttr := (l.filter fun x => wantsV S wanted (toL x.1)).map fun x => (x.1, if only then [] else x.2)
theorem foundV_snoc (S : PSchema) (wanted : List Str) (only : Bool) {l : List PAttr} {i : Nat} {x : PAttr} (h : l[i]? = some x) :
    foundV S wanted only (l.take (i + 1)) = foundV S wanted only (l.take i) ++ (if wantsV S wanted (toL x.1) then [(x.1, if only then [] else x.2)] else []) := by
  unfold foundV
  rw [List.take_add_one, h, List.filter_append, List.map_append]
  congr 1
  cases hw : wantsV S wanted (toL x.1) <;> simp [hw]
theorem foundV_len (S : PSchema) (wanted : List Str) (only : Bool) (l : List PAttr) : (foundV S wanted only l).length ≤ l.length := by
  unfold foundV; rw [List.length_map]; exact List.length_filter_le _ _
theorem foundV_mem {S : PSchema} {wanted : List Str} {only : Bool} {l : List PAttr} {x : PAttr} (h : x ∈ foundV S wanted only l) : ∃ y ∈ l, x.1 = y.1 := by
  unfold foundV at h
  obtain ⟨y, hy, rfl⟩ := List.mem_map.1 h
  exact ⟨y, (List.mem_filter.1 hy).1, rfl⟩
def showR (S : PSchema) (nm : PName) (l : List PAttr) (wanted : List Str) (only : Bool) : Str × List PAttr × Int :=
  if (printV nm).2 = 0 then ((printV nm).1, foundV S wanted only l, 0) else ([], [], (printV nm).2)
end Go.Proofs.YtifgmnafjihlkaaGreatDoor
