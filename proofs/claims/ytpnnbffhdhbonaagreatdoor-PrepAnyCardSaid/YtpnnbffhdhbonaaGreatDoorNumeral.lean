/- prep.numeral and prep.number: a number's text and its key. -/
import Derived.Test.YtpnnbffhdhbonaaGreatDoorForms
namespace Go.Proofs.YtpnnbffhdhbonaaGreatDoor
open Go Go.RowKit

/-- without a sign -/
def bare (v : List UInt8) : List UInt8 := match v with | 45 :: l => l | l => l
/-- digits, the first one not nought -/
def digits1 (v : List UInt8) : Bool := match v with | [] => false | b :: l => b != 48 && (b :: l).all dig
def numeralL (v : List UInt8) : Bool := v == [48] || digits1 (bare v)

theorem trimPrefix_bare (v : List UInt8) : Lib.trimPrefix v [45] = bare v := by
  cases v with
  | nil => rfl
  | cons b l =>
    by_cases h : b = 45
    · subst h; rfl
    · unfold Lib.trimPrefix Lib.hasPrefix
      rw [if_neg (by rw [List.isPrefixOf_cons_cons]; simp; exact fun e => h e.symm)]
      unfold bare
      split
      · rename_i e; injection e with e1 e2; exact absurd e1 h
      · rfl

theorem onlyL_nil (l : List UInt8) : onlyL [] l = l.all dig := by
  unfold onlyL; congr 1; funext b; simp

theorem numeral_any (v : ByteArray) (w : World) (hs : v.size ≤ 140737488355327) :
    Calls Tryz.prog 40 #[.string v] w fun e w' => e = .returned (.bool (numeralL v.data.toList)) ∧ w' = w := by
  have hle : (bare v.data.toList).length ≤ v.size := by
    rw [Lib.size_eq]; unfold bare; split
    · rename_i e; rw [e]; simp
    · exact Nat.le_refl _
  have HLE := Lib.hid hle; clear hle
  go_enter Tryz.func40, Tryz.ntmps40
  cases h : (v.toList == [48]) with
  | true =>
    have h' := h
    rw [Lib.toList_data] at h'
    have H := Lib.hid h'; clear h'
    go_wp2_with fail
    go_ret
    exact ⟨by rw [numeralL, H.out]; rfl, rfl⟩
  | false =>
    have h' := h
    rw [Lib.toList_data] at h'
    have H := Lib.hid h'; clear h'
    go_wp2_with fail
    go_at_call 35
    refine (Tryz.strings_TrimPrefix _ _ _).mono ?_
    rintro e w1 ⟨rfl, rfl⟩
    rw [show Lib.trimPrefix v.data.toList (ByteArray.mk #[45]).data.toList = bare v.data.toList from trimPrefix_bare _]
    generalize hz : bare v.data.toList = z at HLE
    have HZ := Lib.hid hz; clear hz
    cases z with
    | nil =>
      go_wp2_with fail
      go_ret
      exact ⟨by rw [numeralL, H.out, HZ.out]; rfl, rfl⟩
    | cons b l =>
      have hb : ∀ h, (ByteArray.mk (b :: l).toArray)[0]'h = b := fun _ => rfl
      have ho : onlyL (ByteArray.mk #[]).data.toList (ByteArray.mk (b :: l).toArray).data.toList = (b :: l).all dig := onlyL_nil _
      have hb2 : b = 48 ↔ (b.toNat : Int) = 48 := ⟨fun e => by rw [e]; rfl, fun e => UInt8.toNat_inj.1 (by show b.toNat = 48; omega)⟩
      have HB := Lib.hid hb2; clear hb2
      go_wp2_with (first
        | (go_at_call 37; refine (only_any _ _ _ (by have := HLE.out; show (b :: l).length ≤ _; omega)).mono ?_; rintro e w2 ⟨rfl, rfl⟩; rw [ho])
        | fail)
      · rename_i h48
        have e := HB.out.2 h48
        go_ret
        refine ⟨?_, rfl⟩
        rw [numeralL, H.out, HZ.out, e]; rfl
      · rename_i h48
        go_ret
        refine ⟨?_, rfl⟩
        have e : (b != 48) = true := by simpa using fun e => h48 (HB.out.1 e)
        have e2 : ((b.toNat : Int) != 48) = true := by simpa using h48
        rw [numeralL, H.out, HZ.out]
        show Ending.returned (.bool (((b.toNat : Int) != 48) && (dig b && l.all dig))) = Ending.returned (.bool (false || ((b != 48) && (b :: l).all dig)))
        rw [e, e2]; rfl

/-- three bytes of a number -/
def n3 (n : Nat) : List UInt8 := [(n / 65536 % 256).toUInt8, (n / 256 % 256).toUInt8, (n % 256).toUInt8]
/-- nine less a digit -/
def nine (b : UInt8) : UInt8 := 105 - b
def numberL (v : List UInt8) : List UInt8 × Bool :=
  if numeralL v = false then ([], false)
  else match v with
    | 45 :: l => (110 :: n3 (16777215 - l.length) ++ l.map nine, true)
    | l => (112 :: n3 l.length ++ l, true)

theorem conv3 (w : World) {x y z : Int} {a b c : UInt8} (hx : x = (a.toNat : Int)) (hy : y = (b.toNat : Int)) (hz : z = (c.toNat : Int)) (g : Nat) (hg : g = w.heap.size) :
    (convert 58 9 (.slice (some ⟨g, 0, none⟩) 3 3)).run Tryz.prog (w.alloc (.cells #[.int .u8 x, .int .u8 y, .int .u8 z] 5)) = .ok (.string ⟨#[a, b, c]⟩) (w.alloc (.cells #[.int .u8 x, .int .u8 y, .int .u8 z] 5)) := by
  subst hx hy hz hg
  refine run_convert_bytes_back _ 58 9 5 ⟨w.heap.size, 0, none⟩ 3 [a, b, c] Tryz.underlying58 Tryz.underlying5 Tryz.underlying9 ?_
  intro j hj
  have h := news_new w [.int .u8 (a.toNat : Int), .int .u8 (b.toNat : Int), .int .u8 (c.toNat : Int)] #[.int .u8 (a.toNat : Int), .int .u8 (b.toNat : Int), .int .u8 (c.toNat : Int)] 5 rfl ⟨w.heap.size, 0, none⟩ rfl j (.int .u8 ([a, b, c][j].toNat : Int))
  refine h ?_
  simp only [List.length_cons, List.length_nil] at hj
  rcases (by omega : j = 0 ∨ j = 1 ∨ j = 2) with rfl | rfl | rfl <;> rfl

theorem u8_mod (n : Nat) : ((n % 256).toUInt8.toNat : Int) = (n : Int) % 256 := by
  rw [Nat.toUInt8_eq, UInt8.toNat_ofNat']; omega

theorem bapp (a b : List UInt8) : (⟨a.toArray⟩ : ByteArray) ++ ⟨b.toArray⟩ = ⟨(a ++ b).toArray⟩ := by
  apply ByteArray.ext; simp

/-- a text of which the first i bytes are turned -/
def mapAt (f : UInt8 → UInt8) (l : List UInt8) (i : Nat) : List UInt8 := (l.take i).map f ++ l.drop i
@[simp] theorem mapAt_length (f : UInt8 → UInt8) (l : List UInt8) (i : Nat) : (mapAt f l i).length = l.length := by simp [mapAt]; omega
theorem mapAt_get (f : UInt8 → UInt8) (l : List UInt8) {i : Nat} (h : i < l.length) : (mapAt f l i)[i]? = some l[i] := by
  unfold mapAt
  rw [List.getElem?_append_right (by rw [List.length_map, List.length_take]; omega), show i - ((l.take i).map f).length = 0 by rw [List.length_map, List.length_take]; omega, List.drop_eq_getElem_cons h]; rfl
theorem mapAt_step (f : UInt8 → UInt8) (l : List UInt8) {i : Nat} (h : i < l.length) : (mapAt f l i).set i (f l[i]) = mapAt f l (i + 1) := by
  have h1 : ((l.take i).map f).length = i := by rw [List.length_map, List.length_take]; omega
  unfold mapAt
  rw [List.set_append_right _ _ (by omega), h1, Nat.sub_self, List.drop_eq_getElem_cons h, List.set_cons_zero, List.take_succ_eq_append_getElem h]
  simp only [List.map_append, List.map_cons, List.map_nil, List.append_assoc, List.cons_append, List.nil_append]
theorem mapAt_zero (f : UInt8 → UInt8) (l : List UInt8) : mapAt f l 0 = l := by simp [mapAt]
theorem mapAt_all (f : UInt8 → UInt8) (l : List UInt8) {i : Nat} (h : l.length ≤ i) : mapAt f l i = l.map f := by
  unfold mapAt; rw [List.take_of_length_le h, List.drop_eq_nil_of_le h, List.append_nil]

theorem nine_nat {b : UInt8} (h : 48 ≤ b.toNat ∧ b.toNat ≤ 57) : ((nine b).toNat : Int) = 105 - (b.toNat : Int) := by
  unfold nine; rw [UInt8.toNat_sub]; simp; omega

set_option maxRecDepth 20000 in
theorem number_any (v : ByteArray) (w : World) (hs : v.size ≤ 65536) :
    Calls Tryz.prog 66 #[.agg #[], .string v] w fun e w' => e = .returned (ret2 (numberL v.data.toList)) ∧ Below w.heap.size w w' := by
  have b0 : Below w.heap.size w (w.alloc (.cells #[] 61)) := (Below.refl _ w).alloc (Nat.le_refl _) _
  have HB0 := Lib.hid b0; clear b0
  cases hn : numeralL v.data.toList with
  | false =>
    go_enter Tryz.func66, Tryz.ntmps66
    go_wp2_with (first
      | (go_at_call 40; refine (numeral_any _ _ (by omega)).mono ?_; rintro e w1 ⟨rfl, rfl⟩; rw [hn])
      | fail)
    go_ret2
    exact ⟨by unfold numberL; rw [if_pos hn]; rfl, HB0.out⟩
  | true =>
    obtain ⟨b, l, hv⟩ : ∃ b l, v.data.toList = b :: l := by
      cases hl : v.data.toList with
      | nil => rw [hl] at hn; cases hn
      | cons b l => exact ⟨b, l, rfl⟩
    obtain rfl : v = ⟨(b :: l).toArray⟩ := by rw [← bmk v, hv]
    clear hv
    have hb : ∀ h, (ByteArray.mk (b :: l).toArray)[0]'h = b := fun _ => rfl
    have hsz : (ByteArray.mk (b :: l).toArray).size = l.length + 1 := rfl
    by_cases h45 : b = 45
    · subst h45
      have hd : ∀ (i : Nat) (h : i < l.length), 48 ≤ l[i].toNat ∧ l[i].toNat ≤ 57 := by
        have h1 : numeralL (45 :: l) = true := hn
        unfold numeralL at h1
        rw [show ((45 :: l : List UInt8) == [48]) = false from by simp, Bool.false_or] at h1
        have h2 : l.all dig = true := by
          cases l with
          | nil => rfl
          | cons c m => exact (Bool.and_eq_true _ _ ▸ h1 : _ ∧ _).2
        intro i h
        have := List.all_eq_true.1 h2 l[i] (List.getElem_mem h)
        simpa [dig] using this
      have hx : (ByteArray.mk (45 :: l).toArray).extract 1 (l.length + 1) = ⟨l.toArray⟩ := by
        rw [Lib.extract_eq]; simp
      have hn2 : l.length ≤ 65535 := by have : l.length + 1 ≤ 65536 := by rw [← hsz]; exact hs
                                        omega
      have hz : (ByteArray.mk l.toArray).size = l.length := rfl
      have hcv := Lib.run_convert_string_bytes (P := Tryz.prog) (w.alloc (.cells #[] 61)) 9 58 5 ⟨l.toArray⟩ Tryz.underlying9 Tryz.underlying58 Tryz.underlying5
      rw [hz] at hcv
      have B1 := bnext HB0.out (below_bytes (w.alloc (.cells #[] 61)) 5 ⟨l.toArray⟩)
      have T1 := Bts.conv (w.alloc (.cells #[] 61)) ⟨l.toArray⟩
      generalize Lib.bytesWorld (w.alloc (.cells #[] 61)) 5 ⟨l.toArray⟩ = w1 at hcv B1 T1
      generalize grownCap _ _ _ _ = cap at hcv
      have H1 := Lib.hid (And.intro B1 T1); clear B1 T1
      have HN := Lib.hid hn
      have HD := Lib.hid hd; clear hd
      go_enter Tryz.func66, Tryz.ntmps66
      go_wp2_with (first
        | (go_at_call 40; refine (numeral_any _ _ (by omega)).mono ?_; rintro e w1 ⟨rfl, rfl⟩; rw [hn])
        | fail)
      clear hcv hx hz hsz hb hn hs
      generalize hg : (w.alloc (.cells #[] 61)).heap.size = g at H1
      have hg2 : w.heap.size + 1 = g := by rw [← hg]; simp
      try rw [hg2]
      have HG := Lib.hid hg2; clear hg hg2
      go_loopw [39] (fun iv wr => ∃ i : Nat, iv = .int .i64 i ∧ i ≤ l.length ∧ Below w.heap.size w wr ∧ Bts wr g (mapAt nine l i)) (fun iv _ => l.length - (intOf iv).toNat)
      case atStart => exact ⟨0, rfl, Nat.zero_le _, H1.out.1, by rw [mapAt_zero]; exact H1.out.2⟩
      case round =>
        clear H1
        obtain ⟨i, rfl, hi, hb, ht⟩ := hrel
        have HB := Lib.hid hb; clear hb
        have HT := Lib.hid ht; clear ht
        by_cases hlt : i < l.length
        · have hcell := HT.out.cell i _ (mapAt_get nine l hlt)
          have hfr := HT.out.fr i (by simpa using hlt)
          have hset := HT.out.set (i := i) (by simpa using hlt) (nine l[i])
          rw [mapAt_step nine l hlt] at hset
          have hd := HD.out i hlt
          have hni := nine_nat hd
          have HS := Lib.hid (And.intro hset hni); clear hset hni
          generalize l[i] = b at hcell hd HS
          have hd1 : (48 : Int) ≤ b.toNat := by omega
          have hd2 : (b.toNat : Int) ≤ 57 := by omega
          go_wp2_with fail
          have h1 := HS.out.1
          rw [HS.out.2, show (105 : Int) - b.toNat = 57 - (b.toNat - 48) by omega] at h1
          exact ⟨⟨i + 1, by simp, by omega, HB.out.setCell (by have := HG.out; show w.heap.size ≤ g; omega) _, h1⟩, by simp [intOf]; omega⟩
        · have hfin := HT.out
          rw [mapAt_all nine l (by omega)] at hfin
          have kc := conv3 wr (x := (16777215 - (l.length : Int)) / 65536) (y := (16777215 - (l.length : Int)) / 256 % 256) (z := (16777215 - (l.length : Int)) % 256) (a := ((16777215 - l.length) / 65536 % 256).toUInt8) (b := ((16777215 - l.length) / 256 % 256).toUInt8) (c := ((16777215 - l.length) % 256).toUInt8) (by rw [u8_mod]; omega) (by rw [u8_mod]; omega) (by rw [u8_mod]; omega) wr.heap.size rfl
          have hbk : ∀ o : Obj, (convert 58 9 (.slice (some ⟨g, 0, none⟩) l.length cap)).run Tryz.prog (wr.alloc o) = .ok (.string ⟨(l.map nine).toArray⟩) (wr.alloc o) := fun o =>
            (hfin.alloc o).back (by simp) cap Tryz.underlying58 Tryz.underlying5 Tryz.underlying9
          clear hfin
          go_wp2_with fail
          go_ret2
          refine ⟨?_, HB.out.alloc HB.out.size _⟩
          rw [show numberL (45 :: l) = (110 :: n3 (16777215 - l.length) ++ l.map nine, true) by
            unfold numberL; rw [if_neg (by rw [HN.out]; simp)]; rfl]
          show Ending.returned (.tuple #[.string ((⟨[110].toArray⟩ : ByteArray) ++ ⟨(n3 (16777215 - l.length)).toArray⟩ ++ ⟨(l.map nine).toArray⟩), .bool true]) = _
          rw [bapp, bapp]; rfl
    · have hb2 : ¬ (b.toNat : Int) = 45 := fun e => h45 (UInt8.toNat_inj.1 (by show b.toNat = 45; omega))
      obtain ⟨n, hnn⟩ : ∃ n, n = l.length + 1 := ⟨_, rfl⟩
      have hn2 : n ≤ 65536 := by rw [hnn, ← hsz]; exact hs
      have hn0 : 0 < n := by omega
      rw [← hnn] at hsz
      have kc := conv3 (w.alloc (.cells #[] 61)) (x := (n : Int) / 65536) (y := (n : Int) / 256 % 256) (z := (n : Int) % 256) (a := (n / 65536 % 256).toUInt8) (b := (n / 256 % 256).toUInt8) (c := (n % 256).toUInt8) (by rw [u8_mod]; omega) (by rw [u8_mod]; omega) (by rw [u8_mod]) (w.heap.size + 1) (by simp)
      have HN := Lib.hid (And.intro hnn hn); clear hnn
      go_enter Tryz.func66, Tryz.ntmps66
      go_wp2_with (first
        | (go_at_call 40; refine (numeral_any _ _ (by omega)).mono ?_; rintro e w1 ⟨rfl, rfl⟩; rw [hn])
        | fail)
      go_ret2
      refine ⟨?_, HB0.out.alloc (by simp) _⟩
      rw [show numberL (b :: l) = (112 :: n3 n ++ (b :: l), true) by
        unfold numberL; rw [if_neg (by rw [HN.out.2]; simp)]
        split
        · rename_i e; injection e with e1 e2; exact absurd e1 h45
        · rw [HN.out.1]; rfl]
      show Ending.returned (.tuple #[.string ((⟨[112].toArray⟩ : ByteArray) ++ ⟨(n3 n).toArray⟩ ++ ⟨(b :: l).toArray⟩), .bool true]) = _
      rw [bapp, bapp]; rfl
end Go.Proofs.YtpnnbffhdhbonaaGreatDoor
