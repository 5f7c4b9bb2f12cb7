/- prep.code: the code of a word of small letters. -/
import Derived.Test.YtpnnbffhdhbonaaGreatDoorVoice
import Derived.Test.YtpnnbffhdhbonaaGreatDoorBuf
import Derived.Test.YtpnnbffhdhbonaaGreatDoorNumeral
import Derived.Lib.OthersKept
import Derived.Laws.RangeString
import Derived.WalkSmall
namespace Go.Proofs.YtpnnbffhdhbonaaGreatDoor
open Go Go.RowKit

def stepC (st : List UInt8 × Int) (b : UInt8) : List UInt8 × Int :=
  if b = 104 ∨ b = 119 then st
  else (if voiceI b.toNat ≠ 0 ∧ voiceI b.toNat ≠ st.2 ∧ st.1.length < 4 then st.1 ++ [UInt8.ofNat (voiceI b.toNat).toNat] else st.1, voiceI b.toNat)
def padC (o : List UInt8) : List UInt8 := o ++ List.replicate (4 - o.length) 48
def codeL : List UInt8 → List UInt8
  | [] => []
  | b :: l => padC (l.foldl stepC ([b - 32], voiceI b.toNat)).1

theorem voiceI_range (r : Int) : 0 ≤ voiceI r ∧ voiceI r ≤ 54 := by
  unfold voiceI
  repeat' split
  all_goals omega

theorem Buf.push2 {w0 w : World} {go : Option Nat} {cap : Nat} {l : List UInt8} (hB : Buf w0 w go cap l) {ops : Array Oper} {rest : List Oper} {o : Oper} {a : Act} {Q : Exit → Act → World → Prop} (hgd : o.guard = none) (s x : Operand)
    (ho : o.op = .call { callee := .builtin .append, args := #[s, x], argTypes := #[58, 58] })
    (hs : a.eval s = sv go l.length cap) (b : UInt8) {v : Value} (hv : v = .int .u8 (b.toNat : Int)) (hx : a.eval x = .slice (some ⟨w.heap.size, 0, none⟩) 1 1) (hb : l.length + 1 ≤ 140737488355328)
    (h : ∀ g cap' w', Buf w0 w' (some g) cap' (l ++ [b]) → (∀ k, k < w.heap.size → go ≠ some k → w'.heap[k]? = w.heap[k]?) → (go = some g ∨ w.heap.size ≤ g) → wpList Tryz.prog ops Q rest (a.put o.dst (.slice (some ⟨g, 0, none⟩) (l.length + 1) cap')) w') :
    wpList Tryz.prog ops Q (o :: rest) a (w.alloc (.cells #[v] 5)) := by
  subst hv
  obtain ⟨i, h1, h2, h3, h4⟩ := infoU8
  have hA := hB.alloc (.cells #[.int .u8 (b.toNat : Int)] 5)
  refine wpList_app hgd s x 58 ho 5 i (.int .u8 0) 1 1 Tryz.underlying58 h1 h2 h3 h4 rfl (by decide) (by decide) go l.length cap (bv l) hs hA.own
    (some ⟨w.heap.size, 0, none⟩) 1 1 [.int .u8 (b.toNat : Int)] hx (fun h => by cases h) rfl (news_new w [.int .u8 (b.toNat : Int)] #[.int .u8 (b.toNat : Int)] 5 rfl) (fun u hu => by simp at hu; subst hu; rfl) (by omega) (by omega) ?_
  intro g' cap' w' hO hG hat
  refine h g' cap' w' ⟨?_, ?_, ?_⟩ ?_ ?_
  · rw [bv_append]; simpa [bv] using hO
  · intro k hk; cases hk
    rcases hat with e | e
    · exact hB.fresh _ e
    · rw [e]; have := hA.size; simpa using this
  · refine hA.below.grown hG hA.size fun k hk => hB.fresh k hk
  · intro k hk hne
    rw [hG.block k (by simp; omega) (Ne.symm hne), Below.heap_alloc _ _ _ hk]
  · rcases hat with e | e
    · exact .inl e
    · right; rw [e]; simp

theorem padC_step (o : List UInt8) (h : o.length < 4) : padC (o ++ [48]) = padC o := by
  have e : (o ++ [48]).length = o.length + 1 := by simp
  unfold padC
  rw [e, show 4 - o.length = 4 - (o.length + 1) + 1 by omega, List.replicate_succ]
  simp
def slLen : Value → Nat
  | .slice _ n _ => n
  | _ => 0

set_option maxRecDepth 20000 in
theorem code_any (s : ByteArray) (w : World) (h0 : 0 < s.size) (hs : s.size ≤ 140737488355327) (hl : ∀ b ∈ s.data.toList, 97 ≤ b.toNat ∧ b.toNat ≤ 122) :
    Calls Tryz.prog 58 #[.string s] w fun e w' => e = .returned (.string ⟨(codeL s.data.toList).toArray⟩) ∧ Below w.heap.size w w' := by
  have HL := Lib.hid hl; clear hl
  have hd := drop_at s h0
  rw [List.drop_zero] at hd
  have hb0 := HL.out (s[0]'h0) (by rw [hd]; simp)
  generalize hsb : s[0]'h0 = b at hd hb0
  generalize htl : List.drop (0 + 1) s.data.toList = l at hd
  have hC : codeL s.data.toList = padC (l.foldl stepC ([b - 32], voiceI b.toNat)).1 := by rw [hd]; rfl
  have hb1 : ((b - 32).toNat : Int) = b.toNat - 32 := by rw [UInt8.toNat_sub]; simp; omega
  have v1 : IntKind.u8.wrap ((b.toNat : Int) - 97) = b.toNat - 97 := IntWalk.u8_in _ (by omega)
  have v2 : IntKind.u8.wrap ((b.toNat : Int) - 97 + 65) = ((b - 32).toNat : Int) := by rw [IntWalk.u8_in _ (by omega)]; omega
  have i0 : (0 : Int) < s.size := by omega
  go_enter Tryz.func58, Tryz.ntmps58
  go_wp2_with fail
  have hW : ((w.alloc (.cells #[.int .u8 ((b.toNat : Int) - 32)] 5)).iter s 0).heap[w.heap.size + 1]? = some (.stringIter s 0) := by
    have := World.iter_heap (w.alloc (.cells #[.int .u8 ((b.toNat : Int) - 32)] 5)) s 0
    simpa using this
  have hB : Buf w ((w.alloc (.cells #[.int .u8 ((b.toNat : Int) - 32)] 5)).iter s 0) (some w.heap.size) 1 [b - 32] := by
    have h1 : Row (w.alloc (.cells #[.int .u8 ((b.toNat : Int) - 32)] 5)) w.heap.size 5 1 1 (bv [b - 32]) :=
      ⟨[], by rw [heap_alloc_new]; simp [bv, hb1], by simp, by decide⟩
    exact (Buf.mk (w0 := w) (Own.mk h1 rfl (Nat.le_refl _)) (fun g h => by cases h; exact Nat.le_refl _) ((Below.refl _ w).alloc (Nat.le_refl _) _)).alloc (.stringIter s 0)
  have hne : w.heap.size ≠ w.heap.size + 1 := by omega
  generalize hgi : w.heap.size + 1 = gi at hW hne
  have hgi2 : w.heap.size ≤ gi := by omega
  generalize hgg : w.heap.size = g0 at hB hne
  have hB : Buf w ((w.alloc (.cells #[.int .u8 ((b.toNat : Int) - 32)] 5)).iter s 0) (some g0) 1 [b - 32] := hB
  generalize (w.alloc (.cells #[.int .u8 ((b.toNat : Int) - 32)] 5)).iter s 0 = W0 at hW hB ⊢
  have HGI := Lib.hid hgi2; clear hgi hgg hgi2
  have HS0 := Lib.hid (And.intro hW (And.intro hB hne)); clear hW hB hne
  have HC := Lib.hid hC; have HSB := Lib.hid hsb; have HDL := Lib.hid (And.intro hd htl); clear hC hsb hd htl hb0 hb1 v1 v2
  go_loopw [3, 4] (fun sl la wr => ∃ (pos cap g : Nat) (out : List UInt8) (last : Int), sl = .slice (some ⟨g, 0, none⟩) out.length cap ∧ la = .int .u8 last ∧ wr.heap[gi]? = some (.stringIter s pos) ∧ g ≠ gi ∧
      Buf w wr (some g) cap out ∧ 1 ≤ out.length ∧ out.length ≤ 4 ∧ ((pos = 0 ∧ out = [b - 32] ∧ last = 0) ∨ (1 ≤ pos ∧ (s.data.toList.drop pos).foldl stepC (out, last) = l.foldl stepC ([b - 32], voiceI b.toNat)))) (fun _ _ wr => s.size - wr.iterPos gi)
  case atStart => exact ⟨0, 1, g0, [b - 32], 0, rfl, rfl, HS0.out.1, HS0.out.2.2, HS0.out.2.1, by simp, by simp, .inl ⟨rfl, rfl, rfl⟩⟩
  case round =>
    obtain ⟨pos, cap, g, out, last, rfl, rfl, hit, hgne, hB, ho1, ho4, hst⟩ := hrel
    by_cases hp : pos < s.size
    · have hdp := drop_at s hp
      have hc0 := HL.out (s[pos]'hp) (List.mem_of_mem_drop (i := pos) (by rw [hdp]; simp))
      have hnx : ∀ ty, (Instr.next (.pointer (some ⟨gi, 0, none⟩)) true ty).run Tryz.prog wr = _ := fun ty => Lib.run_next_ascii_at wr gi s pos ty hit hp (by omega)
      have hit1 := Lib.iterAt_heap wr gi s pos (pos + 1) hit
      have hB1 : Buf w (wr.iterAt gi s (pos + 1)) (some g) cap out :=
        ⟨hB.own.keep fun g' e => by cases e; exact Lib.iterAt_other wr gi g s (pos + 1) hgne, hB.fresh, Lib.below_iterAt hB.below HGI.out s (pos + 1)⟩
      have hip := iterPos_of hit
      clear hit hB
      have hip1 := iterPos_of hit1
      generalize wr.iterAt gi s (pos + 1) = W1 at hnx hit1 hB1 hip1
      have HIP := Lib.hid (And.intro hip hip1); clear hip hip1
      have HB1 := Lib.hid (And.intro hB1 hit1); clear hB1 hit1
      have HV := Lib.hid (fun w => voice_any (s[pos]'hp).toNat w)
      have hd0 := voiceI_range (s[pos]'hp).toNat
      rcases hst with ⟨rfl, rfl, rfl⟩ | ⟨hp1, hst⟩
      · rw [HSB.out] at *
        generalize hdd : voiceI b.toNat = d at *
        go_wp2_with (first
          | (go_at_call 92; refine (HV.out _).mono ?_; rintro e w2 ⟨rfl, rfl⟩)
          | fail)
        refine ⟨⟨1, cap, g, [b - 32], d, rfl, rfl, HB1.out.2, hgne, HB1.out.1, by simp, by simp, .inr ⟨Nat.le_refl _, ?_⟩⟩, ?_⟩
        · rw [show List.drop 1 s.data.toList = l from HDL.out.2]
        · first | (rw [HIP.out.1, HIP.out.2]; omega) | (rw [HIP.out.2]; omega)
      · rw [hdp, List.foldl_cons] at hst
        generalize s[pos]'hp = c at *
        have hi1 : (0 : Int) < pos := by omega
        by_cases hhw : c = 104 ∨ c = 119
        · have hsc : stepC (out, last) c = (out, last) := if_pos hhw
          rw [hsc] at hst
          have HST := Lib.hid hst; clear hst
          rcases hhw with hhw | hhw <;> subst hhw <;> (
            go_wp2_with fail
            refine ⟨⟨pos + 1, cap, g, out, last, rfl, rfl, HB1.out.2, hgne, HB1.out.1, ho1, ho4, .inr ⟨by omega, HST.out⟩⟩, ?_⟩
            first | (rw [HIP.out.1, HIP.out.2]; omega) | (rw [HIP.out.2]; omega))
        · have c1 : ¬ c = 104 := fun e => hhw (.inl e)
          have c2 : ¬ c = 119 := fun e => hhw (.inr e)
          have hsc : stepC (out, last) c = (if voiceI c.toNat ≠ 0 ∧ voiceI c.toNat ≠ last ∧ out.length < 4 then out ++ [UInt8.ofNat (voiceI c.toNat).toNat] else out, voiceI c.toNat) := if_neg hhw
          have c1 : ((c.toNat : Int) == 104) = false := beq_eq_false_iff_ne.2 fun e => c1 (UInt8.toNat_inj.1 (by show c.toNat = 104; omega))
          have c2 : ((c.toNat : Int) == 119) = false := beq_eq_false_iff_ne.2 fun e => c2 (UInt8.toNat_inj.1 (by show c.toNat = 119; omega))
          generalize voiceI c.toNat = d at *
          by_cases hps : d ≠ 0 ∧ d ≠ last ∧ out.length < 4
          · rw [if_pos hps] at hsc
            rw [hsc] at hst
            have HST := Lib.hid hst; clear hst
            obtain ⟨k1, k2, k3⟩ := hps
            have b1 : (d != 0) = true := by simpa using k1
            have b2 : (d != last) = true := by simpa using k2
            have hdv : (Value.int .u8 d) = .int .u8 ((UInt8.ofNat d.toNat).toNat : Int) := by
              have : ((UInt8.ofNat d.toNat).toNat : Int) = d := by simp; omega
              rw [this]
            have HDV := Lib.hid hdv; clear hdv
            go_wp2_with (first
              | (go_at_call 92; refine (HV.out _).mono ?_; rintro e w2 ⟨rfl, rfl⟩)
              | (at_builtin; refine HB1.out.1.push2 rfl (.tmp 47) (.tmp 49) rfl rfl (UInt8.ofNat d.toNat) HDV.out rfl (by omega) ?_; intro g' cap' w' hB' hkk hgg)
              | fail)
            have hlt : gi < _ := (Array.getElem?_eq_some_iff.1 HB1.out.2).1
            have hk := hkk gi hlt (fun e => hgne (by injection e))
            rw [HB1.out.2] at hk
            have hg2 : g' ≠ gi := by
              rcases hgg with e | e
              · injection e with e; rw [← e]; exact hgne
              · omega
            refine ⟨⟨pos + 1, cap', g', out ++ [UInt8.ofNat d.toNat], d, by simp, rfl, hk, hg2, hB', by simp, by simp; omega, .inr ⟨by omega, HST.out⟩⟩, ?_⟩
            rw [iterPos_of hk]; first | (rw [HIP.out.1]; omega) | omega
          · rw [if_neg hps] at hsc
            rw [hsc] at hst
            have HST := Lib.hid hst; clear hst
            by_cases k1 : d = 0
            · subst k1
              go_wp2_with (first
                | (go_at_call 92; refine (HV.out _).mono ?_; rintro e w2 ⟨rfl, rfl⟩)
                | fail)
              refine ⟨⟨pos + 1, cap, g, out, _, rfl, rfl, HB1.out.2, hgne, HB1.out.1, ho1, ho4, .inr ⟨by omega, HST.out⟩⟩, ?_⟩
              first | (rw [HIP.out.1, HIP.out.2]; omega) | (rw [HIP.out.2]; omega)
            · have b1 : (d != 0) = true := by simpa using k1
              by_cases k2 : d = last
              · subst k2
                go_wp2_with (first
                  | (go_at_call 92; refine (HV.out _).mono ?_; rintro e w2 ⟨rfl, rfl⟩)
                  | fail)
                refine ⟨⟨pos + 1, cap, g, out, _, rfl, rfl, HB1.out.2, hgne, HB1.out.1, ho1, ho4, .inr ⟨by omega, HST.out⟩⟩, ?_⟩
                first | (rw [HIP.out.1, HIP.out.2]; omega) | (rw [HIP.out.2]; omega)
              · have b2 : (d != last) = true := by simpa using k2
                have k3 : ¬ (out.length : Int) < 4 := by omega
                go_wp2_with (first
                  | (go_at_call 92; refine (HV.out _).mono ?_; rintro e w2 ⟨rfl, rfl⟩)
                  | fail)
                refine ⟨⟨pos + 1, cap, g, out, _, rfl, rfl, HB1.out.2, hgne, HB1.out.1, ho1, ho4, .inr ⟨by omega, HST.out⟩⟩, ?_⟩
                first | (rw [HIP.out.1, HIP.out.2]; omega) | (rw [HIP.out.2]; omega)
    · have hnx : ∀ ty, (Instr.next (.pointer (some ⟨gi, 0, none⟩)) true ty).run Tryz.prog wr = _ := fun ty => Lib.run_next_end_at wr gi s pos ty hit hp
      have hF : codeL s.data.toList = padC out := by
        rcases hst with ⟨rfl, _, _⟩ | ⟨_, h⟩
        · omega
        · rw [HC.out, ← h, drop_end s hp]; rfl
      have HF := Lib.hid hF; clear hF hst
      go_wp2_with fail
      go_loopw [3] (fun sl wr => ∃ (cap g : Nat) (o : List UInt8), sl = .slice (some ⟨g, 0, none⟩) o.length cap ∧ Buf w wr (some g) cap o ∧ 1 ≤ o.length ∧ o.length ≤ 4 ∧ padC o = padC out) (fun sl _ => 4 - slLen sl)
      case atStart => exact ⟨cap, g, out, rfl, hB, ho1, ho4, rfl⟩
      case round =>
        obtain ⟨cap2, g2, o, rfl, hB2, hn1, hn4, hpd⟩ := hrel
        have HB2 := Lib.hid hB2; clear hB2
        have HPD := Lib.hid hpd; clear hpd
        by_cases h4 : o.length < 4
        · have h5 : (o.length : Int) < 4 := by omega
          go_wp2_with (first
            | (at_builtin; refine HB2.out.push rfl (.tmp 55) (.tmp 56) rfl rfl 48 rfl rfl (by omega) ?_; intro g' cap' w' hB')
            | fail)
          refine ⟨⟨cap', g', o ++ [48], by simp, hB', by simp, by simp; omega, ?_⟩, ?_⟩
          · rw [padC_step o h4]; exact HPD.out
          · show 4 - (o.length + 1) < 4 - o.length
            omega
        · have h5 : ¬ (o.length : Int) < 4 := by omega
          have hbk := HB2.out.back rfl cap2
          go_wp2_with fail
          go_ret
          refine ⟨?_, HB2.out.below⟩
          rw [HF.out, ← HPD.out, show padC o = o from by unfold padC; rw [show 4 - o.length = 0 by omega]; simp]
          rfl
end Go.Proofs.YtpnnbffhdhbonaaGreatDoor
