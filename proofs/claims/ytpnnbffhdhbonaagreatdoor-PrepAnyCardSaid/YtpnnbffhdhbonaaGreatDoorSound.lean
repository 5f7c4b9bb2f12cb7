/- prep.Sound: the codes of a text's words. -/
import Derived.Test.YtpnnbffhdhbonaaGreatDoorCode
import Derived.Test.YtpnnbffhdhbonaaGreatDoorWords
import Derived.Test.YtpnnbffhdhbonaaGreatDoorLower
namespace Go.Proofs.YtpnnbffhdhbonaaGreatDoor
open Go Go.RowKit

def soundL (s : List UInt8) : List UInt8 := Lib.join ((runsOf [] (low s)).map codeL) [32]

def strs (l : List (List UInt8)) : List Value := l.map fun x => .string ⟨x.toArray⟩
@[simp] theorem strs_length (l : List (List UInt8)) : (strs l).length = l.length := by simp [strs]
theorem strs_set (l : List (List UInt8)) (i : Nat) (x : List UInt8) : (strs l).set i (.string ⟨x.toArray⟩) = strs (l.set i x) := by simp [strs, List.map_set]
/-- words of which the first i are coded -/
def codedAt (l : List (List UInt8)) (i : Nat) : List (List UInt8) := (l.take i).map codeL ++ l.drop i
@[simp] theorem codedAt_length (l : List (List UInt8)) (i : Nat) : (codedAt l i).length = l.length := by simp [codedAt]; omega
theorem codedAt_get (l : List (List UInt8)) {i : Nat} (h : i < l.length) : (strs (codedAt l i))[i]? = some (.string ⟨(l[i]).toArray⟩) := by
  unfold codedAt strs
  rw [List.map_append, List.getElem?_append_right (by rw [List.length_map, List.length_map, List.length_take]; omega), List.length_map, List.length_map, List.length_take, show i - min i l.length = 0 by omega, List.drop_eq_getElem_cons h]; rfl
theorem codedAt_step (l : List (List UInt8)) {i : Nat} (h : i < l.length) : (codedAt l i).set i (codeL l[i]) = codedAt l (i + 1) := by
  have h1 : ((l.take i).map codeL).length = i := by rw [List.length_map, List.length_take]; omega
  unfold codedAt
  rw [List.set_append_right _ _ (by omega), h1, Nat.sub_self, List.drop_eq_getElem_cons h, List.set_cons_zero, List.take_succ_eq_append_getElem h]
  simp only [List.map_append, List.map_cons, List.map_nil, List.append_assoc, List.cons_append, List.nil_append]
theorem codedAt_zero (l : List (List UInt8)) : codedAt l 0 = l := by simp [codedAt]
theorem codedAt_all (l : List (List UInt8)) : codedAt l l.length = l.map codeL := by simp [codedAt]

theorem stepC_len (st : List UInt8 × Int) (b : UInt8) (h : st.1.length ≤ 4) : (stepC st b).1.length ≤ 4 := by
  unfold stepC
  split
  · exact h
  · split
    · rw [List.length_append]; simp; omega
    · exact h
theorem foldC_len : ∀ (l : List UInt8) (st : List UInt8 × Int), st.1.length ≤ 4 → (l.foldl stepC st).1.length ≤ 4
  | [], _, h => h
  | b :: l, st, h => foldC_len l _ (stepC_len st b h)
theorem codeL_len (l : List UInt8) : (codeL l).length ≤ 4 := by
  cases l with
  | nil => simp [codeL]
  | cons b l =>
    have := foldC_len l ([b - 32], voiceI b.toNat) (by simp)
    unfold codeL padC
    rw [List.length_append, List.length_replicate]; omega
theorem join_len (l : List (List UInt8)) (h : ∀ x ∈ l, x.length ≤ 4) : (Lib.join l [32]).length ≤ 5 * l.length := by
  cases l with
  | nil => simp [Lib.join_nil]
  | cons x r =>
    have hx := h x (by simp)
    have ht : ∀ r : List (List UInt8), (∀ y ∈ r, y.length ≤ 4) → (Lib.joinTail [32] r).length ≤ 5 * r.length := by
      intro r
      induction r with
      | nil => intro _; simp [Lib.joinTail]
      | cons y r ih =>
        intro h
        have hy := h y (by simp)
        have := ih fun z hz => h z (List.mem_cons_of_mem _ hz)
        simp only [Lib.joinTail, List.map_cons, List.flatten_cons, List.length_append, List.length_cons, List.length_nil] at this ⊢
        omega
    have := ht r fun z hz => h z (List.mem_cons_of_mem _ hz)
    rw [Lib.join_cons, List.length_append, List.length_cons]; omega

theorem Row.of_ownsB {w : World} {B e sz g k cap : Nat} {xs : List Value} (h : w.ownsRow B e sz (.slice (some ⟨g, 0, none⟩) k cap) k xs) : Row w g e sz cap xs := by
  obtain ⟨hl, h2⟩ := h
  rcases h2 with ⟨h3, _⟩ | ⟨g', cap', cur, h3, _, hh, hn, hm, hs, ht⟩
  · cases h3
  · simp only [Value.slice.injEq, Option.some.injEq, Addr.mk.injEq, and_true, true_and] at h3
    obtain ⟨rfl, rfl⟩ := h3
    refine ⟨cur.toList.drop (k * sz), ?_, ?_, hm⟩
    · rw [← ht, List.take_append_drop]; simpa using hh
    · have h1 : k * sz ≤ cap * sz := Nat.mul_le_mul_right _ hn
      rw [hl]; simp [hs]; omega

set_option maxRecDepth 20000 in
theorem sound_any (s : ByteArray) (w : World) (hs : s.size ≤ 4294967296) :
    Calls Tryz.prog 19 #[.string s] w fun e w' => e = .returned (.string ⟨(soundL s.data.toList).toArray⟩) ∧ Below w.heap.size w w' := by
  have hll : (ByteArray.mk (low s.data.toList).toArray).size ≤ 4294967296 := by
    show (low s.data.toList).length ≤ _
    rw [low, List.length_map, ← Lib.size_eq]; exact hs
  have hen : ∀ args w, (callFunc 57 args).run Tryz.prog w = .ok (.enter 57 args) w := fun _ _ => by kernel_rfl
  have hff : ∀ w1, Calls Tryz.prog 56 #[.string ⟨(low s.data.toList).toArray⟩, .func (.func 57) #[] #[]] w1 fun e w' =>
      ∃ A, e = .returned (.slice (some ⟨A, 0, none⟩) (runsOf [] (low s.data.toList)).length (runsOf [] (low s.data.toList)).length) ∧ w1.heap.size ≤ A ∧
      Row w' A 9 1 (runsOf [] (low s.data.toList)).length (strs (runsOf [] (low s.data.toList))) ∧ Below w1.heap.size w1 w' := by
    intro w1
    have h := Tryz.strings_FieldsFunc_runes 57 #[] hen parts ⟨(low s.data.toList).toArray⟩ w1 hll (parts_runes w1)
    rw [words_eq] at h
    simp only [List.length_map, List.map_map] at h
    exact h.mono fun e w' ⟨A, h1, h2, h3, h4⟩ => ⟨A, h1, h2, Row.of_ownsB h3, h4⟩
  have hcnt := runsOf_count (low s.data.toList) []
  have hmem := runsOf_mem (low s.data.toList) [] (by simp)
  have hlen := runsOf_len (low s.data.toList) []
  have hsl : (low s.data.toList).length = s.size := by rw [low, List.length_map, ← Lib.size_eq]
  have hso : soundL s.data.toList = Lib.join ((runsOf [] (low s.data.toList)).map codeL) [32] := rfl
  have hlow := fun w => lower_any s w (by omega)
  generalize low s.data.toList = ls at *
  generalize runsOf [] ls = ws at *
  rw [hsl] at hcnt
  rw [hsl] at hlen
  simp only [List.length_nil, Nat.zero_add] at hcnt hlen
  have HFF := Lib.hid hff; have HM := Lib.hid (fun x hx => And.intro (hmem x hx) (hlen x hx)); have HSO := Lib.hid hso; have HLO := Lib.hid hlow
  clear hff hlen hmem hso hsl hlow hen
  go_enter Tryz.func19, Tryz.ntmps19
  go_wp2_with (first
    | (go_at_call 33; refine (HLO.out _).mono ?_; rintro e w1 ⟨rfl, hb1⟩; have HB1 := Lib.hid hb1; clear hb1)
    | (go_at_call 56; refine (HFF.out _).mono ?_; rintro e w2 ⟨A, rfl, hA, hrow, hb2⟩; have HB2 := Lib.hid (And.intro (Nat.le_trans HB1.out.size hA) (And.intro hrow (bnext HB1.out hb2))); clear hA hrow hb2)
    | fail)
  clear HB1 HFF HLO
  go_loopw [11] (fun iv wr => ∃ i : Nat, iv = .int .i64 i ∧ i ≤ ws.length ∧ Below w.heap.size w wr ∧ Row wr A 9 1 ws.length (strs (codedAt ws i))) (fun iv _ => ws.length - (intOf iv).toNat)
  case atStart => exact ⟨0, rfl, Nat.zero_le _, HB2.out.2.2, by rw [codedAt_zero]; exact HB2.out.2.1⟩
  case round =>
    obtain ⟨i, rfl, hi, hb, hrow⟩ := hrel
    have HR := Lib.hid (And.intro hb hrow); clear hb
    by_cases hlt : i < ws.length
    · have hcg := codedAt_get ws hlt
      have hx := HM.out ws[i] (List.getElem_mem hlt)
      have hst := codedAt_step ws hlt
      generalize ws[i] = x at hcg hx hst
      have hcell := hrow.cell hcg
      have hfr := hrow.frozen i
      have HX := Lib.hid (And.intro hx (And.intro hst hcg)); clear hx hst hcg
      have i1 : (i : Int) < ws.length := by omega
      clear hrow
      go_wp2_with (first
        | (go_at_call 58; refine (code_any ⟨x.toArray⟩ _ (by have := HX.out.1.1.1; cases x with | nil => exact absurd rfl this | cons a b => exact Nat.zero_lt_succ _) (by have := HX.out.1.2; show x.length ≤ _; omega) (fun b hb => (isL_iff b).1 (HX.out.1.1.2 b hb))).mono ?_; rintro e w3 ⟨rfl, hb3⟩
           have hrow3 := HR.out.2.keep (hb3.block A HR.out.2.lt); have hcell3 := hrow3.cell HX.out.2.2; have hfr3 := hrow3.frozen i; have HR3 := Lib.hid (And.intro (bnext HR.out.1 hb3) hrow3); clear hb3 hrow3)
        | fail)
      refine ⟨⟨i + 1, by simp, by omega, HR3.out.1.setCell HB2.out.1 _, ?_⟩, ?_⟩
      · have h := HR3.out.2.set (j := i) (by simp; omega) (.string ⟨(codeL x).toArray⟩)
        rw [strs_set, HX.out.2.1] at h
        exact h
      · simp [intOf]; omega
    · obtain rfl : i = ws.length := by omega
      have hj := Tryz.strings_Join A 0 ws.length ((codedAt ws ws.length).map fun l => ⟨l.toArray⟩) ⟨#[32]⟩ wr (by
        intro j x hx
        rw [Nat.zero_add]
        refine hrow.cell ?_
        rw [List.getElem?_map] at hx
        unfold strs
        rw [List.getElem?_map]
        cases h : (codedAt ws ws.length)[j]? with
        | none => rw [h] at hx; cases hx
        | some y => rw [h] at hx; injection hx with hx; subst hx; rfl) hrow.lt (by simp; omega) (by simp) (by
        rw [List.map_map]
        refine Nat.le_trans (join_len _ (fun y hy => ?_)) ?_
        · obtain ⟨z, hz, rfl⟩ := List.mem_map.1 hy
          rw [codedAt_all] at hz
          obtain ⟨u, _, rfl⟩ := List.mem_map.1 hz
          exact codeL_len u
        · simp; omega)
      rw [codedAt_all] at hj
      simp only [List.length_map, List.map_map] at hj
      have hj2 : Calls Tryz.prog 59 #[.slice (some ⟨A, 0, none⟩) ws.length ws.length, .string ⟨#[32]⟩] wr fun e w' => e = .returned (.string ⟨(soundL s.data.toList).toArray⟩) ∧ Below wr.heap.size wr w' := by
        rw [HSO.out]; exact hj
      have HJ := Lib.hid hj2; clear hj hj2 hrow
      go_wp2_with (first
        | (go_at_call 59; refine HJ.out.mono ?_; rintro e w3 ⟨rfl, hb3⟩)
        | fail)
      go_ret
      exact ⟨rfl, bnext HR.out.1 hb3⟩
end Go.Proofs.YtpnnbffhdhbonaaGreatDoor
