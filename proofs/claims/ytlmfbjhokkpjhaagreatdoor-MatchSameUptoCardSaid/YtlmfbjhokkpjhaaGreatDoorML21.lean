/- Part 21 of the walks and plain laws, joined: Code, Words, Sound, MatSame. -/
import Derived.Test.YtlmfbjhokkpjhaaGreatDoorML20
import Derived.Test.YtlmfbjhokkpjhaaGreatDoorML01
import Derived.Test.YtlmfbjhokkpjhaaGreatDoorML02
import Derived.Test.YtlmfbjhokkpjhaaGreatDoorML00
import Derived.Lib.OthersKept
import Derived.Laws.RangeString
import Derived.WalkSmall
import Derived.Lib.FieldsP
import Derived.Lib.MapLaws
import Derived.Lib.TrimAscii
set_option linter.unusedVariables false
set_option linter.unusedSimpArgs false
namespace Go.Proofs.YtlmfbjhokkpjhaaGreatDoor
open Go Go.RowKit
def stepC (st : List UInt8 × Int) (b : UInt8) : List UInt8 × Int :=
 if b = 104 ∨ b = 119 then st
 else (if voiceI b.toNat ≠ 0 ∧ voiceI b.toNat ≠ st.2 ∧ st.1.length < 4 then st.1 ++ [UInt8.ofNat (voiceI b.toNat).toNat] else st.1, voiceI b.toNat)
def padC (o : List UInt8) : List UInt8 := o ++ List.replicate (4 - o.length) 48
def codeL : List UInt8 → List UInt8
 | [] => []
 | b :: l => padC (l.foldl stepC ([b - 32], voiceI b.toNat)).1
theorem voiceI_range (r : Int) : 0 ≤ voiceI r ∧ voiceI r ≤ 54 := by
 unfold voiceI
 repeat' split
 all_goals omega
theorem Buf.push2 {w0 w : World} {go : Option Nat} {cap : Nat} {l : List UInt8} (hB : Buf w0 w go cap l) {ops : Array Oper} {rest : List Oper} {o : Oper} {a : Act} {Q : Exit → Act → World → Prop} (hgd : o.guard = none) (s x : Operand)
  (ho : o.op = .call { callee := .builtin .append, args := #[s, x], argTypes := #[115, 115] })
  (hs : a.eval s = sv go l.length cap) (b : UInt8) {v : Value} (hv : v = .int .u8 (b.toNat : Int)) (hx : a.eval x = .slice (some ⟨w.heap.size, 0, none⟩) 1 1) (hb : l.length + 1 ≤ 140737488355328)
  (h : ∀ g cap' w', Buf w0 w' (some g) cap' (l ++ [b]) → (∀ k, k < w.heap.size → go ≠ some k → w'.heap[k]? = w.heap[k]?) → (go = some g ∨ w.heap.size ≤ g) → wpList Tryz.prog ops Q rest (a.put o.dst (.slice (some ⟨g, 0, none⟩) (l.length + 1) cap')) w') :
  wpList Tryz.prog ops Q (o :: rest) a (w.alloc (.cells #[v] 5)) := by
 subst hv
 obtain ⟨i, h1, h2, h3, h4⟩ := infoU8
 have hA := hB.alloc (.cells #[.int .u8 (b.toNat : Int)] 5)
 refine wpList_app hgd s x 115 ho 5 i (.int .u8 0) 1 1 Tryz.underlying115 h1 h2 h3 h4 rfl (by decide) (by decide) go l.length cap (bv l) hs hA.own
  (some ⟨w.heap.size, 0, none⟩) 1 1 [.int .u8 (b.toNat : Int)] hx (fun h => by cases h) rfl (news_new w [.int .u8 (b.toNat : Int)] #[.int .u8 (b.toNat : Int)] 5 rfl) (fun u hu => by simp at hu; subst hu; rfl) (by omega) (by omega) ?_
 intro g' cap' w' hO hG hat
 refine h g' cap' w' ⟨?_, ?_, ?_⟩ ?_ ?_
 ·rw [bv_append]; simpa [bv] using hO
 ·intro k hk; cases hk
  rcases hat with e | e
  ·exact hB.fresh _ e
  ·rw [e]; have := hA.size; simpa using this
 ·refine hA.below.grown hG hA.size fun k hk => hB.fresh k hk
 ·intro k hk hne
  rw [hG.block k (by simp; omega) (Ne.symm hne), Below.heap_alloc _ _ _ hk]
 ·rcases hat with e | e
  ·exact .inl e
  ·right; rw [e]; simp
theorem padC_step (o : List UInt8) (h : o.length < 4) : padC (o ++ [48]) = padC o := by
 have e : (o ++ [48]).length = o.length + 1 := by simp
 unfold padC
 rw [e, show 4 - o.length = 4 - (o.length + 1) + 1 by omega, List.replicate_succ]
 simp
def slLen : Value → Nat
 | .slice _ n _ => n
 | _ => 0
set_option maxRecDepth 20000 in
theorem code_any (s : ByteArray) (w : World) (h0 : 0 < s.size) (hs : s.size ≤ 140737488355327) (hl : ∀ b ∈ s.data.toList, 97 ≤ b.toNat ∧ b.toNat ≤ 122) :
  Calls Tryz.prog 106 #[.string s] w fun e w' => e = .returned (.string ⟨(codeL s.data.toList).toArray⟩) ∧ Below w.heap.size w w' := by
 have HL := Zh hl; clear hl
 have hd := drop_at s h0
 rw [List.drop_zero] at hd
 have hb0 := HL.out (s[0]'h0) (by rw [hd]; simp)
 generalize hsb : s[0]'h0 = b at hd hb0
 generalize htl : List.drop (0 + 1) s.data.toList = l at hd
 have hC : codeL s.data.toList = padC (l.foldl stepC ([b - 32], voiceI b.toNat)).1 := by rw [hd]; rfl
 have hb1 : ((b - 32).toNat : Int) = b.toNat - 32 := by rw [UInt8.toNat_sub]; simp; omega
 have v1 : IntKind.u8.wrap ((b.toNat : Int) - 97) = b.toNat - 97 := IntWalk.u8_in _ (by omega)
 have v2 : IntKind.u8.wrap ((b.toNat : Int) - 97 + 65) = ((b - 32).toNat : Int) := by rw [IntWalk.u8_in _ (by omega)]; omega
 have i0 : (0 : Int) < s.size := by omega
 go_enter Tryz.func106, Tryz.ntmps106
 go_wp2_with fail
 have hW : ((w.alloc (.cells #[.int .u8 ((b.toNat : Int) - 32)] 5)).iter s 0).heap[w.heap.size + 1]? = some (.stringIter s 0) := by
  have := World.iter_heap (w.alloc (.cells #[.int .u8 ((b.toNat : Int) - 32)] 5)) s 0
  simpa using this
 have hB : Buf w ((w.alloc (.cells #[.int .u8 ((b.toNat : Int) - 32)] 5)).iter s 0) (some w.heap.size) 1 [b - 32] := by
  have h1 : Row (w.alloc (.cells #[.int .u8 ((b.toNat : Int) - 32)] 5)) w.heap.size 5 1 1 (bv [b - 32]) :=
   ⟨[], by rw [heap_alloc_new]; simp [bv, hb1], by simp, by decide⟩
  exact (Buf.mk (w0 := w) (Own.mk h1 rfl (Zr _)) (fun g h => by cases h; exact Zr _) ((Zl _ w).alloc (Zr _) _)).alloc (.stringIter s 0)
 have hne : w.heap.size ≠ w.heap.size + 1 := by omega
 generalize hgi : w.heap.size + 1 = gi at hW hne
 have hgi2 : w.heap.size ≤ gi := by omega
 generalize hgg : w.heap.size = g0 at hB hne
 have hB : Buf w ((w.alloc (.cells #[.int .u8 ((b.toNat : Int) - 32)] 5)).iter s 0) (some g0) 1 [b - 32] := hB
 generalize (w.alloc (.cells #[.int .u8 ((b.toNat : Int) - 32)] 5)).iter s 0 = W0 at hW hB ⊢
 have HGI := Zh hgi2; clear hgi hgg hgi2
 have HS0 := Zh (Zi hW (Zi hB hne)); clear hW hB hne
 have HC := Zh hC; have HSB := Zh hsb; have HDL := Zh (Zi hd htl); clear hC hsb hd htl hb0 hb1 v1 v2
 go_loopw [3, 4] (fun sl la wr => ∃ (pos cap g : Nat) (out : List UInt8) (last : Int), sl = .slice (some ⟨g, 0, none⟩) out.length cap ∧ la = .int .u8 last ∧ wr.heap[gi]? = some (.stringIter s pos) ∧ g ≠ gi ∧
   Buf w wr (some g) cap out ∧ 1 ≤ out.length ∧ out.length ≤ 4 ∧ ((pos = 0 ∧ out = [b - 32] ∧ last = 0) ∨ (1 ≤ pos ∧ (s.data.toList.drop pos).foldl stepC (out, last) = l.foldl stepC ([b - 32], voiceI b.toNat)))) (fun _ _ wr => s.size - wr.iterPos gi)
 case atStart => exact ⟨0, 1, g0, [b - 32], 0, rfl, rfl, HS0.out.1, HS0.out.2.2, HS0.out.2.1, by simp, by simp, .inl ⟨rfl, rfl, rfl⟩⟩
 case round =>
  obtain ⟨pos, cap, g, out, last, rfl, rfl, hit, hgne, hB, ho1, ho4, hst⟩ := hrel
  by_cases hp : pos < s.size
  ·have hdp := drop_at s hp
   have hc0 := HL.out (s[pos]'hp) (List.mem_of_mem_drop (i := pos) (by rw [hdp]; simp))
   have hnx : ∀ ty, (Instr.next (.pointer (some ⟨gi, 0, none⟩)) true ty).run Tryz.prog wr = _ := fun ty => Lib.run_next_ascii_at wr gi s pos ty hit hp (by omega)
   have hit1 := Lib.iterAt_heap wr gi s pos (pos + 1) hit
   have hB1 : Buf w (wr.iterAt gi s (pos + 1)) (some g) cap out :=
    ⟨hB.own.keep fun g' e => by cases e; exact Lib.iterAt_other wr gi g s (pos + 1) hgne, hB.fresh, Lib.below_iterAt hB.below HGI.out s (pos + 1)⟩
   have hip := iterPos_of hit
   clear hit hB
   have hip1 := iterPos_of hit1
   generalize wr.iterAt gi s (pos + 1) = W1 at hnx hit1 hB1 hip1
   have HIP := Zh (Zi hip hip1); clear hip hip1
   have HB1 := Zh (Zi hB1 hit1); clear hB1 hit1
   have HV := Zh (fun w => voice_any (s[pos]'hp).toNat w)
   have hd0 := voiceI_range (s[pos]'hp).toNat
   rcases hst with ⟨rfl, rfl, rfl⟩ | ⟨hp1, hst⟩
   ·rw [HSB.out] at *
    generalize hdd : voiceI b.toNat = d at *
    go_wp2_with (first
     | (go_at_call 154; refine (HV.out _).mono ?_; rintro e w2 ⟨rfl, rfl⟩)
     | fail)
    refine ⟨⟨1, cap, g, [b - 32], d, rfl, rfl, HB1.out.2, hgne, HB1.out.1, by simp, by simp, .inr ⟨Zr _, ?_⟩⟩, ?_⟩
    ·rw [show List.drop 1 s.data.toList = l from HDL.out.2]
    ·first | (rw [HIP.out.1, HIP.out.2]; omega) | (rw [HIP.out.2]; omega)
   ·rw [hdp, List.foldl_cons] at hst
    generalize s[pos]'hp = c at *
    have hi1 : (0 : Int) < pos := by omega
    by_cases hhw : c = 104 ∨ c = 119
    ·have hsc : stepC (out, last) c = (out, last) := if_pos hhw
     rw [hsc] at hst
     have HST := Zh hst; clear hst
     rcases hhw with hhw | hhw <;> subst hhw <;> (
      go_wp2_with fail
      refine ⟨⟨pos + 1, cap, g, out, last, rfl, rfl, HB1.out.2, hgne, HB1.out.1, ho1, ho4, .inr ⟨by omega, HST.out⟩⟩, ?_⟩
      first | (rw [HIP.out.1, HIP.out.2]; omega) | (rw [HIP.out.2]; omega))
    ·have c1 : ¬ c = 104 := fun e => hhw (.inl e)
     have c2 : ¬ c = 119 := fun e => hhw (.inr e)
     have hsc : stepC (out, last) c = (if voiceI c.toNat ≠ 0 ∧ voiceI c.toNat ≠ last ∧ out.length < 4 then out ++ [UInt8.ofNat (voiceI c.toNat).toNat] else out, voiceI c.toNat) := if_neg hhw
     have c1 : ((c.toNat : Int) == 104) = false := beq_eq_false_iff_ne.2 fun e => c1 (UInt8.toNat_inj.1 (by show c.toNat = 104; omega))
     have c2 : ((c.toNat : Int) == 119) = false := beq_eq_false_iff_ne.2 fun e => c2 (UInt8.toNat_inj.1 (by show c.toNat = 119; omega))
     generalize voiceI c.toNat = d at *
     by_cases hps : d ≠ 0 ∧ d ≠ last ∧ out.length < 4
     ·rw [if_pos hps] at hsc
      rw [hsc] at hst
      have HST := Zh hst; clear hst
      obtain ⟨k1, k2, k3⟩ := hps
      have b1 : (d != 0) = true := by simpa using k1
      have b2 : (d != last) = true := by simpa using k2
      have hdv : (Value.int .u8 d) = .int .u8 ((UInt8.ofNat d.toNat).toNat : Int) := by
       have : ((UInt8.ofNat d.toNat).toNat : Int) = d := by simp; omega
       rw [this]
      have HDV := Zh hdv; clear hdv
      go_wp2_with (first
       | (go_at_call 154; refine (HV.out _).mono ?_; rintro e w2 ⟨rfl, rfl⟩)
       | (at_builtin; refine HB1.out.1.push2 rfl (.tmp 47) (.tmp 49) rfl rfl (UInt8.ofNat d.toNat) HDV.out rfl (by omega) ?_; intro g' cap' w' hB' hkk hgg)
       | fail)
      have hlt : gi < _ := (Array.getElem?_eq_some_iff.1 HB1.out.2).1
      have hk := hkk gi hlt (fun e => hgne (by injection e))
      rw [HB1.out.2] at hk
      have hg2 : g' ≠ gi := by
       rcases hgg with e | e
       ·injection e with e; rw [← e]; exact hgne
       ·omega
      refine ⟨⟨pos + 1, cap', g', out ++ [UInt8.ofNat d.toNat], d, by simp, rfl, hk, hg2, hB', by simp, by simp; omega, .inr ⟨by omega, HST.out⟩⟩, ?_⟩
      rw [iterPos_of hk]; first | (rw [HIP.out.1]; omega) | omega
     ·rw [if_neg hps] at hsc
      rw [hsc] at hst
      have HST := Zh hst; clear hst
      by_cases k1 : d = 0
      ·subst k1
       go_wp2_with (first
        | (go_at_call 154; refine (HV.out _).mono ?_; rintro e w2 ⟨rfl, rfl⟩)
        | fail)
       refine ⟨⟨pos + 1, cap, g, out, _, rfl, rfl, HB1.out.2, hgne, HB1.out.1, ho1, ho4, .inr ⟨by omega, HST.out⟩⟩, ?_⟩
       first | (rw [HIP.out.1, HIP.out.2]; omega) | (rw [HIP.out.2]; omega)
      ·have b1 : (d != 0) = true := by simpa using k1
       by_cases k2 : d = last
       ·subst k2
        go_wp2_with (first
         | (go_at_call 154; refine (HV.out _).mono ?_; rintro e w2 ⟨rfl, rfl⟩)
         | fail)
        refine ⟨⟨pos + 1, cap, g, out, _, rfl, rfl, HB1.out.2, hgne, HB1.out.1, ho1, ho4, .inr ⟨by omega, HST.out⟩⟩, ?_⟩
        first | (rw [HIP.out.1, HIP.out.2]; omega) | (rw [HIP.out.2]; omega)
       ·have b2 : (d != last) = true := by simpa using k2
        have k3 : ¬ (out.length : Int) < 4 := by omega
        go_wp2_with (first
         | (go_at_call 154; refine (HV.out _).mono ?_; rintro e w2 ⟨rfl, rfl⟩)
         | fail)
        refine ⟨⟨pos + 1, cap, g, out, _, rfl, rfl, HB1.out.2, hgne, HB1.out.1, ho1, ho4, .inr ⟨by omega, HST.out⟩⟩, ?_⟩
        first | (rw [HIP.out.1, HIP.out.2]; omega) | (rw [HIP.out.2]; omega)
  ·have hnx : ∀ ty, (Instr.next (.pointer (some ⟨gi, 0, none⟩)) true ty).run Tryz.prog wr = _ := fun ty => Lib.run_next_end_at wr gi s pos ty hit hp
   have hF : codeL s.data.toList = padC out := by
    rcases hst with ⟨rfl, _, _⟩ | ⟨_, h⟩
    ·omega
    ·rw [HC.out, ← h, drop_end s hp]; rfl
   have HF := Zh hF; clear hF hst
   go_wp2_with fail
   go_loopw [3] (fun sl wr => ∃ (cap g : Nat) (o : List UInt8), sl = .slice (some ⟨g, 0, none⟩) o.length cap ∧ Buf w wr (some g) cap o ∧ 1 ≤ o.length ∧ o.length ≤ 4 ∧ padC o = padC out) (fun sl _ => 4 - slLen sl)
   case atStart => exact ⟨cap, g, out, rfl, hB, ho1, ho4, rfl⟩
   case round =>
    obtain ⟨cap2, g2, o, rfl, hB2, hn1, hn4, hpd⟩ := hrel
    have HB2 := Zh hB2; clear hB2
    have HPD := Zh hpd; clear hpd
    by_cases h4 : o.length < 4
    ·have h5 : (o.length : Int) < 4 := by omega
     go_wp2_with (first
      | (at_builtin; refine HB2.out.push rfl (.tmp 55) (.tmp 56) rfl rfl 48 rfl rfl (by omega) ?_; intro g' cap' w' hB')
      | fail)
     refine ⟨⟨cap', g', o ++ [48], by simp, hB', by simp, by simp; omega, ?_⟩, ?_⟩
     ·rw [padC_step o h4]; exact HPD.out
     ·show 4 - (o.length + 1) < 4 - o.length
      omega
    ·have h5 : ¬ (o.length : Int) < 4 := by omega
     have hbk := HB2.out.back rfl cap2
     go_wp2_with fail
     go_ret
     refine ⟨?_, HB2.out.below⟩
     rw [HF.out, ← HPD.out, show padC o = o from by unfold padC; rw [show 4 - o.length = 0 by omega]; simp]
     rfl
end Go.Proofs.YtlmfbjhokkpjhaaGreatDoor
namespace Go.Proofs.YtlmfbjhokkpjhaaGreatDoor
open Go Go.RowKit
def isL (b : UInt8) : Bool := decide (97 ≤ b.toNat) && decide (b.toNat ≤ 122)
def runsOf : List UInt8 → List UInt8 → List (List UInt8)
 | cur, [] => if cur.isEmpty then [] else [cur]
 | cur, b :: l => if isL b then runsOf (cur ++ [b]) l else if cur.isEmpty then runsOf [] l else cur :: runsOf [] l
theorem runsOf_high (cur rest : List UInt8) : ∀ xs : List UInt8, xs ≠ [] → (∀ x ∈ xs, isL x = false) → runsOf cur (xs ++ rest) = (if cur.isEmpty then [] else [cur]) ++ runsOf [] rest
 | [], h, _ => absurd rfl h
 | [x], _, h => by
  have hx := h x (by simp)
  show runsOf cur (x :: rest) = _
  rw [runsOf, hx]
  cases hc : cur.isEmpty <;> simp
 | x :: y :: xs, _, h => by
  have hx := h x (by simp)
  show runsOf cur (x :: ((y :: xs) ++ rest)) = _
  rw [runsOf, hx]
  have ih := runsOf_high [] rest (y :: xs) (by simp) (fun z hz => h z (List.mem_cons_of_mem _ hz))
  simp only [List.cons_append, List.isEmpty_nil, if_true, List.nil_append] at ih
  cases hc : cur.isEmpty <;> simp [ih]
theorem encodeRuneZ_high {r : Int} (h : 128 ≤ r) : ∀ z ∈ Lib.encodeRuneZ r, 128 ≤ z ∧ z < 256 := by
 intro z hz
 refine ⟨?_, (Lib.encodeRuneZ_byte r z hz).2⟩
 rcases (by omega : r ≤ 2047 ∨ ((2048 ≤ r ∧ r < 55296) ∨ (57343 < r ∧ r ≤ 65535)) ∨ (65536 ≤ r ∧ r ≤ 1114111) ∨ (r < 0 ∨ (55296 ≤ r ∧ r ≤ 57343) ∨ 1114111 < r)) with h1 | h1 | h1 | h1
 ·rw [Lib.encodeRuneZ_two h h1] at hz; simp only [List.mem_cons, List.not_mem_nil, or_false] at hz; omega
 ·rw [Lib.encodeRuneZ_three h1] at hz; simp only [List.mem_cons, List.not_mem_nil, or_false] at hz; omega
 ·rw [Lib.encodeRuneZ_four h1.1 h1.2] at hz; simp only [List.mem_cons, List.not_mem_nil, or_false] at hz; omega
 ·rw [Lib.encodeRuneZ_bad h1] at hz; simp only [List.mem_cons, List.not_mem_nil, or_false] at hz; omega
theorem not_isL {b : UInt8} (h : 128 ≤ b.toNat) : isL b = false := by
 unfold isL; rw [decide_eq_false (by omega : ¬ b.toNat ≤ 122)]; simp
theorem high_step (b : UInt8) (t : List UInt8) (hb : 128 ≤ b.toNat) : parts (Lib.decodeL (b :: t)).1 = true ∧ ∀ x ∈ (b :: t).take (Lib.decodeL (b :: t)).2, isL x = false := by
 have hw := Lib.decodeL_width (b :: t)
 by_cases hv : (Lib.decodeL (b :: t)).1 = 65533 ∧ (Lib.decodeL (b :: t)).2 = 1
 ·rw [hv.1, hv.2]
  refine ⟨rfl, fun x hx => ?_⟩
  simp at hx; subst hx; exact not_isL hb
 ·have he := Lib.encode_decode (b :: t) (by simp) hv
  have hr : 128 ≤ (Lib.decodeL (b :: t)).1 := by
   rcases Nat.lt_or_ge (Lib.decodeL (b :: t)).1 128 with h | h
   ·exfalso
    obtain ⟨k, hk⟩ : ∃ k, (Lib.decodeL (b :: t)).2 = k + 1 := ⟨(Lib.decodeL (b :: t)).2 - 1, by omega⟩
    rw [hk, List.take_succ_cons, Lib.encodeRune, Lib.encodeRuneZ_one (by omega) (by omega)] at he
    simp only [List.map_cons, List.cons.injEq] at he
    have := congrArg UInt8.toNat he.1
    rw [Nat.toUInt8_eq, UInt8.toNat_ofNat'] at this
    omega
   ·exact h
  refine ⟨?_, fun x hx => ?_⟩
  ·unfold parts; rw [decide_eq_true (by omega : 122 < (Lib.decodeL (b :: t)).1)]; simp
  ·rw [← he, Lib.encodeRune, List.mem_map] at hx
   obtain ⟨z, hz, rfl⟩ := hx
   have h1 := encodeRuneZ_high (by omega) z hz
   apply not_isL
   rw [Nat.toUInt8_eq, UInt8.toNat_ofNat']; omega
theorem parts_ascii (b : UInt8) : parts b.toNat = !isL b := by
 unfold parts isL
 by_cases h1 : b.toNat < 97
 ·simp [h1]
 ·by_cases h2 : 122 < b.toNat
  ·simp [h2]
  ·simp [h1, h2, Nat.not_lt.1 h1, Nat.not_lt.1 h2]
def curOf (s : ByteArray) (st : Option Nat) (pos : Nat) : List UInt8 := match st with
 | some a => (s.data.toList.drop a).take (pos - a)
 | none => []
def exL (s : ByteArray) (x : Nat × Nat) : List UInt8 := (s.data.toList.drop x.1).take (x.2 - x.1)
theorem curOf_next (s : ByteArray) (st : Option Nat) (pos : Nat) (hp : pos < s.size) (hst : ∀ a, st = some a → a < pos) :
  curOf s (some (st.getD pos)) (pos + 1) = curOf s st pos ++ [s[pos]] := by
 have hs := Lib.size_eq s
 cases st with
 | none =>
  show (s.data.toList.drop pos).take (pos + 1 - pos) = _
  rw [drop_at s hp, show pos + 1 - pos = 1 by omega]; rfl
 | some a =>
  have ha := hst a rfl
  show (s.data.toList.drop a).take (pos + 1 - a) = (s.data.toList.drop a).take (pos - a) ++ [s[pos]]
  rw [show pos + 1 - a = (pos - a) + 1 by omega, List.take_succ_eq_append_getElem (by rw [List.length_drop]; omega)]
  congr 2
  rw [List.getElem_drop]
  simp only [show a + (pos - a) = pos by omega]
  rfl
theorem sp_step (p : Nat → Bool) (s : ByteArray) (f pos : Nat) (st : Option Nat) (acc : List (Nat × Nat)) (hp : pos < s.size) :
  Lib.spansFromP p s (f + 1) pos st acc = if p (Utf8.decode s pos).1 = true then Lib.spansFromP p s f (pos + (Utf8.decode s pos).2) none (match st with | some a => acc ++ [(a, pos)] | none => acc)
   else Lib.spansFromP p s f (pos + (Utf8.decode s pos).2) (some (st.getD pos)) acc := by
 cases st <;> simp [Lib.spansFromP, hp]
theorem spans_runs (s : ByteArray) : ∀ (f pos : Nat) (st : Option Nat) (acc : List (Nat × Nat)), s.size ≤ pos + f → pos ≤ s.size → (∀ a, st = some a → a < pos) →
  (Lib.closeSpans s (Lib.spansFromP parts s f pos st acc)).map (exL s) = acc.map (exL s) ++ runsOf (curOf s st pos) (s.data.toList.drop pos) := by
 have hs := Lib.size_eq s
 have fin : ∀ (st : Option Nat) (acc : List (Nat × Nat)), (∀ a, st = some a → a < s.size) → (Lib.closeSpans s (acc, st)).map (exL s) = acc.map (exL s) ++ runsOf (curOf s st s.size) [] := by
  intro st acc hst
  cases st with
  | none => simp [Lib.closeSpans, curOf, runsOf]
  | some a =>
   have ha := hst a rfl
   have hne : ((s.data.toList.drop a).take (s.size - a)).isEmpty = false := by
    cases hh : (s.data.toList.drop a).take (s.size - a) with
    | nil => have := congrArg List.length hh; rw [List.length_take, List.length_drop] at this; simp at this; omega
    | cons x l => rfl
   show List.map (exL s) (acc ++ [(a, s.size)]) = _
   rw [List.map_append]
   congr 1
   show [(s.data.toList.drop a).take (s.size - a)] = runsOf ((s.data.toList.drop a).take (s.size - a)) []
   rw [runsOf, hne]; simp
 intro f
 induction f with
 | zero =>
  intro pos st acc h1 h2 hst
  obtain rfl : pos = s.size := by omega
  rw [List.drop_of_length_le (by omega)]
  exact fin st acc hst
 | succ f ih =>
  intro pos st acc h1 h2 hst
  by_cases hp : pos < s.size
  ·have hd := drop_at s hp
   have hdl := Lib.decodeL_drop s pos
   rw [hd] at hdl
   rw [sp_step _ _ _ _ _ _ hp, ← hdl]
   have stx : ∀ a, (some (st.getD pos) : Option Nat) = some a → a < pos + 1 := by
    intro a h; injection h with h; cases st with
    | none => simp at h; omega
    | some c => have := hst c rfl; simp at h; omega
   by_cases hb : s[pos].toNat < 128
   ·rw [Lib.decodeL_ascii _ _ hb, parts_ascii]
    cases hl : isL s[pos] with
    | true =>
     have h3 := ih (pos + 1) (some (st.getD pos)) acc (by omega) (by omega) stx
     rw [curOf_next s st pos hp hst] at h3
     rw [hd, runsOf, hl, if_pos rfl, ← h3]
     cases st <;> rfl
    | false =>
     rw [hd, runsOf, hl]
     simp only [Bool.not_false, if_true, Bool.false_eq_true, if_false]
     cases st with
     | none =>
      have h3 := ih (pos + 1) none acc (by omega) (by omega) (fun a h => by cases h)
      simpa [curOf] using h3
     | some a =>
      have ha := hst a rfl
      have h3 := ih (pos + 1) none (acc ++ [(a, pos)]) (by omega) (by omega) (fun a h => by cases h)
      have hne : (curOf s (some a) pos).isEmpty = false := by
       cases hh : curOf s (some a) pos with
       | nil => have := congrArg List.length hh; simp only [curOf] at this; rw [List.length_take, List.length_drop] at this; simp at this; omega
       | cons x l => rfl
      rw [hne]
      simp only [Bool.false_eq_true, if_false]
      rw [h3]
      simp [exL, curOf]
   ·obtain ⟨k1, k2⟩ := high_step s[pos] (List.drop (pos + 1) s.data.toList) (by omega)
    have kw := Lib.decodeL_width (s[pos] :: List.drop (pos + 1) s.data.toList)
    have kl := Lib.decodeL_le (s[pos] :: List.drop (pos + 1) s.data.toList) (by simp)
    have klen : (s[pos] :: List.drop (pos + 1) s.data.toList).length = s.size - pos := by rw [← hd, List.length_drop]; omega
    rw [k1, if_pos rfl]
    rw [hd]
    generalize hW : (Lib.decodeL (s[pos] :: List.drop (pos + 1) s.data.toList)).2 = W at *
    have hr := runsOf_high (curOf s st pos) ((s[pos] :: List.drop (pos + 1) s.data.toList).drop W) ((s[pos] :: List.drop (pos + 1) s.data.toList).take W) (by
     obtain ⟨k, hk⟩ : ∃ k, W = k + 1 := ⟨W - 1, by omega⟩
     rw [hk]; simp) k2
    rw [List.take_append_drop] at hr
    rw [hr, ← hd, List.drop_drop]
    cases st with
    | none =>
     have h3 := ih (pos + W) none acc (by omega) (by omega) (fun a h => by cases h)
     simpa [curOf] using h3
    | some a =>
     have ha := hst a rfl
     have h3 := ih (pos + W) none (acc ++ [(a, pos)]) (by omega) (by omega) (fun a h => by cases h)
     have hne : (curOf s (some a) pos).isEmpty = false := by
      cases hh : curOf s (some a) pos with
      | nil => have := congrArg List.length hh; simp only [curOf] at this; rw [List.length_take, List.length_drop] at this; simp at this; omega
      | cons x l => rfl
     rw [hne]
     simp only []
     rw [h3]
     simp [exL, curOf]
  ·obtain rfl : pos = s.size := by omega
   rw [Lib.spansFromP_end _ _ _ _ _ _ hp, List.drop_of_length_le (by omega)]
   exact fin st acc hst
theorem words_eq (s : ByteArray) : Lib.goFieldsP parts s = (runsOf [] s.data.toList).map fun l => ⟨l.toArray⟩ := by
 have h := spans_runs s s.size 0 none [] (by omega) (Nat.zero_le _) (fun a h => by cases h)
 have h2 : Lib.goFieldsP parts s = ((Lib.spansOfP parts s).map (exL s)).map fun l => ⟨l.toArray⟩ := by
  unfold Lib.goFieldsP
  rw [List.map_map]
  apply List.map_congr_left
  intro x _
  show s.extract x.1 x.2 = _
  rw [Lib.extract_eq]; rfl
 rw [h2]
 unfold Lib.spansOfP
 rw [h]; simp [curOf]
theorem runsOf_mem : ∀ (l cur : List UInt8), (∀ b ∈ cur, isL b = true) → ∀ x ∈ runsOf cur l, x ≠ [] ∧ ∀ b ∈ x, isL b = true
  | [], cur, hc, x, hx => by
    unfold runsOf at hx
    cases he : cur.isEmpty with
    | true => rw [he] at hx; simp at hx
    | false => rw [he] at hx; simp at hx; subst hx; exact ⟨fun e => by rw [e] at he; simp at he, hc⟩
  | b :: l, cur, hc, x, hx => by
    unfold runsOf at hx
    cases hb : isL b with
    | true =>
      rw [hb, if_pos rfl] at hx
      exact runsOf_mem l (cur ++ [b]) (fun y hy => by rcases List.mem_append.1 hy with h | h; · exact hc y h
                                                      · simp at h; subst h; exact hb) x hx
    | false =>
      rw [hb, if_neg (by simp)] at hx
      cases he : cur.isEmpty with
      | true => rw [he, if_pos rfl] at hx; exact runsOf_mem l [] (by simp) x hx
      | false =>
        rw [he, if_neg (by simp)] at hx
        rcases List.mem_cons.1 hx with h | h
        · subst h; exact ⟨fun e => by rw [e] at he; simp at he, hc⟩
        · exact runsOf_mem l [] (by simp) x h
theorem runsOf_count : ∀ (l cur : List UInt8), (runsOf cur l).length ≤ cur.length + l.length
 | [], cur => by
  unfold runsOf
  cases cur <;> simp
 | b :: l, cur => by
  unfold runsOf
  cases hb : isL b with
  | true =>
   have := runsOf_count l (cur ++ [b])
   rw [if_pos rfl]; simp at this ⊢; omega
  | false =>
   have := runsOf_count l []
   rw [if_neg (by simp)]
   cases cur with
   | nil => simp at this ⊢; omega
   | cons x c => simp at this ⊢; omega
theorem runsOf_len : ∀ (l cur : List UInt8), ∀ x ∈ runsOf cur l, x.length ≤ cur.length + l.length
 | [], cur, x, hx => by
  unfold runsOf at hx
  cases cur with
  | nil => simp at hx
  | cons a c => simp at hx; subst hx; simp
 | b :: l, cur, x, hx => by
  unfold runsOf at hx
  cases hb : isL b with
  | true =>
   rw [hb, if_pos rfl] at hx
   have := runsOf_len l (cur ++ [b]) x hx
   simp at this ⊢; omega
  | false =>
   rw [hb, if_neg (by simp)] at hx
   cases cur with
   | nil =>
    have := runsOf_len l [] x (by simpa using hx)
    simp at this ⊢; omega
   | cons a c =>
    simp only [List.isEmpty_cons, Bool.false_eq_true, if_false, List.mem_cons] at hx
    rcases hx with h | h
    ·subst h; simp
    ·have := runsOf_len l [] x h
     simp at this ⊢; omega
theorem isL_iff (b : UInt8) : isL b = true ↔ 97 ≤ b.toNat ∧ b.toNat ≤ 122 := by
 unfold isL; rw [Bool.and_eq_true, decide_eq_true_eq, decide_eq_true_eq]
end Go.Proofs.YtlmfbjhokkpjhaaGreatDoor
namespace Go.Proofs.YtlmfbjhokkpjhaaGreatDoor
open Go Go.RowKit
def soundL (s : List UInt8) : List UInt8 := Lib.join ((runsOf [] (low s)).map codeL) [32]
def strs (l : List (List UInt8)) : List Value := l.map fun x => .string ⟨x.toArray⟩
@[simp] theorem strs_length (l : List (List UInt8)) : (strs l).length = l.length := by simp [strs]
theorem strs_set (l : List (List UInt8)) (i : Nat) (x : List UInt8) : (strs l).set i (.string ⟨x.toArray⟩) = strs (l.set i x) := by simp [strs, List.map_set]
def codedAt (l : List (List UInt8)) (i : Nat) : List (List UInt8) := (l.take i).map codeL ++ l.drop i
@[simp] theorem codedAt_length (l : List (List UInt8)) (i : Nat) : (codedAt l i).length = l.length := by simp [codedAt]; omega
theorem codedAt_get (l : List (List UInt8)) {i : Nat} (h : i < l.length) : (strs (codedAt l i))[i]? = some (.string ⟨(l[i]).toArray⟩) := by
 unfold codedAt strs
 rw [List.map_append, List.getElem?_append_right (by rw [List.length_map, List.length_map, List.length_take]; omega), List.length_map, List.length_map, List.length_take, show i - min i l.length = 0 by omega, List.drop_eq_getElem_cons h]; rfl
theorem codedAt_step (l : List (List UInt8)) {i : Nat} (h : i < l.length) : (codedAt l i).set i (codeL l[i]) = codedAt l (i + 1) := by
 have h1 : ((l.take i).map codeL).length = i := by rw [List.length_map, List.length_take]; omega
 unfold codedAt
 rw [List.set_append_right _ _ (by omega), h1, Nat.sub_self, List.drop_eq_getElem_cons h, Z2, List.take_succ_eq_append_getElem h]
 simp only [List.map_append, List.map_cons, List.map_nil, List.append_assoc, List.cons_append, List.nil_append]
theorem codedAt_zero (l : List (List UInt8)) : codedAt l 0 = l := by simp [codedAt]
theorem codedAt_all (l : List (List UInt8)) : codedAt l l.length = l.map codeL := by simp [codedAt]
theorem stepC_len (st : List UInt8 × Int) (b : UInt8) (h : st.1.length ≤ 4) : (stepC st b).1.length ≤ 4 := by
 unfold stepC
 split
 ·exact h
 ·split
  ·rw [List.length_append]; simp; omega
  ·exact h
theorem foldC_len : ∀ (l : List UInt8) (st : List UInt8 × Int), st.1.length ≤ 4 → (l.foldl stepC st).1.length ≤ 4
 | [], _, h => h
 | b :: l, st, h => foldC_len l _ (stepC_len st b h)
theorem codeL_len (l : List UInt8) : (codeL l).length ≤ 4 := by
 cases l with
 | nil => simp [codeL]
 | cons b l =>
  have := foldC_len l ([b - 32], voiceI b.toNat) (by simp)
  unfold codeL padC
  rw [List.length_append, List.length_replicate]; omega
theorem join_len (l : List (List UInt8)) (h : ∀ x ∈ l, x.length ≤ 4) : (Lib.join l [32]).length ≤ 5 * l.length := by
 cases l with
 | nil => simp [Lib.join_nil]
 | cons x r =>
  have hx := h x (by simp)
  have ht : ∀ r : List (List UInt8), (∀ y ∈ r, y.length ≤ 4) → (Lib.joinTail [32] r).length ≤ 5 * r.length := by
   intro r
   induction r with
   | nil => intro _; simp [Lib.joinTail]
   | cons y r ih =>
    intro h
    have hy := h y (by simp)
    have := ih fun z hz => h z (List.mem_cons_of_mem _ hz)
    simp only [Lib.joinTail, List.map_cons, List.flatten_cons, List.length_append, List.length_cons, List.length_nil] at this ⊢
    omega
  have := ht r fun z hz => h z (List.mem_cons_of_mem _ hz)
  rw [Lib.join_cons, List.length_append, List.length_cons]; omega
theorem Row.of_ownsB {w : World} {B e sz g k cap : Nat} {xs : List Value} (h : w.ownsRow B e sz (.slice (some ⟨g, 0, none⟩) k cap) k xs) : Row w g e sz cap xs := by
 obtain ⟨hl, h2⟩ := h
 rcases h2 with ⟨h3, _⟩ | ⟨g', cap', cur, h3, _, hh, hn, hm, hs, ht⟩
 ·cases h3
 ·simp only [Value.slice.injEq, Option.some.injEq, Addr.mk.injEq, and_true, true_and] at h3
  obtain ⟨rfl, rfl⟩ := h3
  refine ⟨cur.toList.drop (k * sz), ?_, ?_, hm⟩
  ·rw [← ht, List.take_append_drop]; simpa using hh
  ·have h1 : k * sz ≤ cap * sz := Nat.mul_le_mul_right _ hn
   rw [hl]; simp [hs]; omega
set_option maxRecDepth 20000 in
theorem sound_any (s : ByteArray) (w : World) (hs : s.size ≤ 4294967296) :
    Calls Tryz.prog 61 #[.string s] w fun e w' => e = .returned (.string ⟨(soundL s.data.toList).toArray⟩) ∧ Below w.heap.size w w' := by
  have hll : (ByteArray.mk (low s.data.toList).toArray).size ≤ 4294967296 := by
    show (low s.data.toList).length ≤ _
    rw [low, List.length_map, ← Lib.size_eq]; exact hs
  have hen : ∀ args w, (callFunc 105 args).run Tryz.prog w = .ok (.enter 105 args) w := fun _ _ => by kernel_rfl
  have hff : ∀ w1, Calls Tryz.prog 103 #[.string ⟨(low s.data.toList).toArray⟩, .func (.func 105) #[] #[]] w1 fun e w' =>
      ∃ A, e = .returned (.slice (some ⟨A, 0, none⟩) (runsOf [] (low s.data.toList)).length (runsOf [] (low s.data.toList)).length) ∧ w1.heap.size ≤ A ∧
      Row w' A 9 1 (runsOf [] (low s.data.toList)).length (strs (runsOf [] (low s.data.toList))) ∧ Below w1.heap.size w1 w' := by
    intro w1
    have h := Tryz.strings_FieldsFunc_runes 105 #[] hen parts ⟨(low s.data.toList).toArray⟩ w1 hll (parts_runes w1)
    rw [words_eq] at h
    simp only [List.length_map, List.map_map] at h
    exact h.mono fun e w' ⟨A, h1, h2, h3, h4⟩ => ⟨A, h1, h2, Row.of_ownsB h3, h4⟩
  have hcnt := runsOf_count (low s.data.toList) []
  have hmem := runsOf_mem (low s.data.toList) [] (by simp)
  have hlen := runsOf_len (low s.data.toList) []
  have hsl : (low s.data.toList).length = s.size := by rw [low, List.length_map, ← Lib.size_eq]
  have hso : soundL s.data.toList = Lib.join ((runsOf [] (low s.data.toList)).map codeL) [32] := rfl
  have hlow := fun w => lower_any s w (by omega)
  generalize low s.data.toList = ls at *
  generalize runsOf [] ls = ws at *
  rw [hsl] at hcnt
  rw [hsl] at hlen
  simp only [List.length_nil, Nat.zero_add] at hcnt hlen
  have HFF := Zh hff; have HM := Zh (fun x hx => Zi (hmem x hx) (hlen x hx)); have HSO := Zh hso; have HLO := Zh hlow
  clear hff hlen hmem hso hsl hlow hen
  go_enter Tryz.func61, Tryz.ntmps61
  go_wp2_with (first
    | (go_at_call 104; refine (HLO.out _).mono ?_; rintro e w1 ⟨rfl, hb1⟩; have HB1 := Zh hb1; clear hb1)
    | (go_at_call 103; refine (HFF.out _).mono ?_; rintro e w2 ⟨A, rfl, hA, hrow, hb2⟩; have HB2 := Zh (Zi (Nat.le_trans HB1.out.size hA) (Zi hrow (bnext HB1.out hb2))); clear hA hrow hb2)
    | fail)
  clear HB1 HFF HLO
  go_loopw [11] (fun iv wr => ∃ i : Nat, iv = .int .i64 i ∧ i ≤ ws.length ∧ Below w.heap.size w wr ∧ Row wr A 9 1 ws.length (strs (codedAt ws i))) (fun iv _ => ws.length - (intOf iv).toNat)
  case atStart => exact ⟨0, rfl, Nat.zero_le _, HB2.out.2.2, by rw [codedAt_zero]; exact HB2.out.2.1⟩
  case round =>
    obtain ⟨i, rfl, hi, hb, hrow⟩ := hrel
    have HR := Zh (Zi hb hrow); clear hb
    by_cases hlt : i < ws.length
    · have hcg := codedAt_get ws hlt
      have hx := HM.out ws[i] (List.getElem_mem hlt)
      have hst := codedAt_step ws hlt
      generalize ws[i] = x at hcg hx hst
      have hcell := hrow.cell hcg
      have hfr := hrow.frozen i
      have HX := Zh (Zi hx (Zi hst hcg)); clear hx hst hcg
      have i1 : (i : Int) < ws.length := by omega
      clear hrow
      go_wp2_with (first
        | (go_at_call 106; refine (code_any ⟨x.toArray⟩ _ (by have := HX.out.1.1.1; cases x with | nil => exact absurd rfl this | cons a b => exact Nat.zero_lt_succ _) (by have := HX.out.1.2; show x.length ≤ _; omega) (fun b hb => (isL_iff b).1 (HX.out.1.1.2 b hb))).mono ?_; rintro e w3 ⟨rfl, hb3⟩
           have hrow3 := HR.out.2.keep (hb3.block A HR.out.2.lt); have hcell3 := hrow3.cell HX.out.2.2; have hfr3 := hrow3.frozen i; have HR3 := Zh (Zi (bnext HR.out.1 hb3) hrow3); clear hb3 hrow3)
        | fail)
      refine ⟨⟨i + 1, by simp, by omega, HR3.out.1.setCell HB2.out.1 _, ?_⟩, ?_⟩
      · have h := HR3.out.2.set (j := i) (by simp; omega) (.string ⟨(codeL x).toArray⟩)
        rw [strs_set, HX.out.2.1] at h
        exact h
      · simp [intOf]; omega
    · obtain rfl : i = ws.length := by omega
      have hj := Tryz.strings_Join A 0 ws.length ((codedAt ws ws.length).map fun l => ⟨l.toArray⟩) ⟨#[32]⟩ wr (by
        intro j x hx
        rw [Nat.zero_add]
        refine hrow.cell ?_
        rw [List.getElem?_map] at hx
        unfold strs
        rw [List.getElem?_map]
        cases h : (codedAt ws ws.length)[j]? with
        | none => rw [h] at hx; cases hx
        | some y => rw [h] at hx; injection hx with hx; subst hx; rfl) hrow.lt (by simp; omega) (by simp) (by
        rw [List.map_map]
        refine Nat.le_trans (join_len _ (fun y hy => ?_)) ?_
        · obtain ⟨z, hz, rfl⟩ := List.mem_map.1 hy
          rw [codedAt_all] at hz
          obtain ⟨u, _, rfl⟩ := List.mem_map.1 hz
          exact codeL_len u
        · simp; omega)
      rw [codedAt_all] at hj
      simp only [List.length_map, List.map_map] at hj
      have hj2 : Calls Tryz.prog 81 #[.slice (some ⟨A, 0, none⟩) ws.length ws.length, .string ⟨#[32]⟩] wr fun e w' => e = .returned (.string ⟨(soundL s.data.toList).toArray⟩) ∧ Below wr.heap.size wr w' := by
        rw [HSO.out]; exact hj
      have HJ := Zh hj2; clear hj hj2 hrow
      go_wp2_with (first
        | (go_at_call 81; refine HJ.out.mono ?_; rintro e w3 ⟨rfl, hb3⟩)
        | fail)
      go_ret
      exact ⟨rfl, bnext HR.out.1 hb3⟩
end Go.Proofs.YtlmfbjhokkpjhaaGreatDoor
namespace Go.Proofs.YtlmfbjhokkpjhaaGreatDoor
open Go Go.RowKit Go.Maps
def sameV (S : PSchema) (t : Int) (K : Str → Str × Bool) (a b : Str) : Bool := hasT S t && (if (K a).2 && (K b).2 then (K a).1 == (K b).1 else a == b)
set_option maxRecDepth 20000 in
set_option maxHeartbeats 1000000 in
theorem same_any (S : PSchema) (g : Nat) (t : Int) (K : Str → Str × Bool) (va vb : ByteArray) (w : World) (h : Sch w g S) (hK : hasT S t = true → KeyAt w (some ⟨g, 0, none⟩) (typeI S t).eq K) :
  Calls Tryz.prog 19 #[.pointer (some ⟨g, 0, none⟩), .int .i64 t, .string va, .string vb] w fun e w' => e = .returned (.bool (sameV S t K (toL va) (toL vb))) ∧ Below w.heap.size w w' := by
 have hm := mfull_any S g t w h
 unfold MFullPost at hm
 obtain ⟨fv, hfv⟩ : ∃ fv, sameV S t K (toL va) (toL vb) = fv := ⟨_, rfl⟩
 have hfv2 := hfv
 unfold sameV at hfv2
 rw [hfv]
 generalize typeI S t = x at hm hK
 unfold tyAgg at hm
 cases hh : hasT S t with
 | false =>
  rw [hh] at hm hfv2
  have HM := Zh hm; have HF := Zh hfv2; clear hm hfv2 hfv hK hh h
  go_enter Tryz.func19, Tryz.ntmps19
  go_wp2_with (first | (go_at_call 60; refine (HM.out).mono ?_; rintro e w1 ⟨hb1, a, n, c, rfl⟩; have HB1 := Zh hb1; clear hb1) | fail)
  go_ret
  exact ⟨by rw [← HF.out]; rfl, HB1.out.alloc HB1.out.size _⟩
 | true =>
  rw [hh] at hm hfv2
  have hka := fun w' (hb : Below w.heap.size w w') => hK hh w' va hb
  have hkb := fun w' (hb : Below w.heap.size w w') => hK hh w' vb hb
  generalize K (toL va) = k at hka hfv2
  generalize K (toL vb) = k2 at hkb hfv2
  obtain ⟨kl, kb⟩ := k
  obtain ⟨ll, lb⟩ := k2
  unfold ret2 at hka hkb
  have HM := Zh hm; have HF := Zh hfv2; have HKA := Zh hka; have HKB := Zh hkb; clear hm hfv2 hfv hK hh h hka hkb
  go_enter Tryz.func19, Tryz.ntmps19
  go_upto_region 4 with (first | (go_at_call 60; refine (HM.out).mono ?_; rintro e w1 ⟨hb1, a, n, c, rfl⟩; have HB1 := Zh hb1; clear hb1) | fail)
  have hx3 : TyBlk (w1.alloc (.cells #[.string x.oid, .slice a n c, .string x.sup, .int .i8 x.syn, .int .i8 x.eq, .int .i8 x.ord, .int .i8 x.part, .bool x.single, .int .u8 x.index] 46)) w1.heap.size x (.slice a n c) := TyBlk.made w1 x (.slice a n c) 46
  have hb3 : Below w.heap.size w (w1.alloc (.cells #[.string x.oid, .slice a n c, .string x.sup, .int .i8 x.syn, .int .i8 x.eq, .int .i8 x.ord, .int .i8 x.part, .bool x.single, .int .u8 x.index] 46)) := HB1.out.alloc HB1.out.size _
  generalize w1.alloc (.cells #[.string x.oid, .slice a n c, .string x.sup, .int .i8 x.syn, .int .i8 x.eq, .int .i8 x.ord, .int .i8 x.part, .bool x.single, .int .u8 x.index] 46) = w3 at hb3 hx3 ⊢
  have c4 := hx3.c4
  have HB3 := Zh (Zi hb3 hx3); clear hb3 hx3
  cases kb with
  | false =>
   have hfin : fv = (va.toList == vb.toList) := by rw [← HF.out]; simp [Lib.toList_data, toL]
   have HFIN := Zh hfin; clear hfin
   go_wp2_with (first
     | (go_at_call 11; (with_reducible refine (HKA.out _ HB3.out.1).mono ?_); rintro e w4 ⟨rfl, hb4⟩; have HB4 := Zh (bnext HB3.out.1 hb4); clear hb4 c4)
     | fail)
   go_ret
   exact ⟨by rw [HFIN.out]; simp, HB4.out⟩
  | true =>
   cases lb with
   | false =>
    have hfin : fv = (va.toList == vb.toList) := by rw [← HF.out]; simp [Lib.toList_data, toL]
    have HFIN := Zh hfin; clear hfin
    go_wp2_with (first
     | (go_at_call 11; (with_reducible refine (HKA.out _ HB3.out.1).mono ?_); rintro e w4 ⟨rfl, hb4⟩; have c5 := (HB3.out.2.keep hb4).c4; have HB4 := Zh (bnext HB3.out.1 hb4); clear hb4 c4)
     | (go_at_call 11; (with_reducible refine (HKB.out _ HB4.out).mono ?_); rintro e w5 ⟨rfl, hb5⟩; have HB5 := Zh (bnext HB4.out hb5); clear hb5 c5)
     | fail)
    go_ret
    exact ⟨by rw [HFIN.out]; simp, HB5.out⟩
   | true =>
    have hfin : fv = (kl == ll) := by rw [← HF.out]; simp
    have HFIN := Zh hfin; clear hfin
    go_wp2_with (first
     | (go_at_call 11; (with_reducible refine (HKA.out _ HB3.out.1).mono ?_); rintro e w4 ⟨rfl, hb4⟩; have c5 := (HB3.out.2.keep hb4).c4; have HB4 := Zh (bnext HB3.out.1 hb4); clear hb4 c4)
     | (go_at_call 11; (with_reducible refine (HKB.out _ HB4.out).mono ?_); rintro e w5 ⟨rfl, hb5⟩; have HB5 := Zh (bnext HB4.out hb5); clear hb5 c5)
     | fail)
    go_ret
    exact ⟨by rw [HFIN.out]; simp, HB5.out⟩
end Go.Proofs.YtlmfbjhokkpjhaaGreatDoor
