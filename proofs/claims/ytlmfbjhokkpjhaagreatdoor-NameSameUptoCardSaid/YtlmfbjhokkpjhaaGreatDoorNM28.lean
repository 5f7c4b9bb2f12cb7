/- Part 28 of the walks and plain laws, joined: LoopF, ValV, ParM, ValM. -/
import Derived.Test.YtlmfbjhokkpjhaaGreatDoorNM00
import Derived.Test.YtlmfbjhokkpjhaaGreatDoorProg
import Derived.Test.YtlmfbjhokkpjhaaGreatDoorNM09
import Derived.Test.YtlmfbjhokkpjhaaGreatDoorNM24
import Derived.Test.YtlmfbjhokkpjhaaGreatDoorNM27
import Derived.Test.YtlmfbjhokkpjhaaGreatDoorNM23
import Derived.Test.YtlmfbjhokkpjhaaGreatDoorNM25
import Derived.Test.YtlmfbjhokkpjhaaGreatDoorNM15
import Derived.Test.YtlmfbjhokkpjhaaGreatDoorNM13
import Derived.WalkKit
set_option linter.unusedVariables false
set_option linter.unusedSimpArgs false
namespace Go.Proofs.YtlmfbjhokkpjhaaGreatDoor
open Go
def fr (a : Act) (k : Nat) : Value := (a.tmps.toList[k]?).getD undef
def frame (n : Nat) (f : Nat → Value) : Array Value := ((List.range n).map f).toArray
theorem frame_of {a : Act} {n : Nat} (h : a.tmps.size = n) (hd : a.defers = []) : a = ⟨frame n (fr a), []⟩ := by
 cases a with
 | mk t d =>
  simp only at h hd
  subst hd
  congr 1
  apply Array.ext
  ·simp [frame, h]
  ·intro i h1 h2
   simp [frame, fr, h1]
structure InvF (n : Nat) (rel : (Nat → Value) → World → Prop) (a : Act) (w : World) : Prop where
 size : a.tmps.size = n
 defers : a.defers = []
 rel : rel (fr a) w
def EndG (n : Nat) (rel : (Nat → Value) → World → Prop) (mu : (Nat → Value) → World → Nat) (m : Nat) (a : Act) (w : World) : Prop := InvF n rel a w ∧ mu (fr a) w < m
theorem wp_loopG {P : Program} {c : Code} {Q : Exit → Act → World → Prop} {a0 : Act} {w0 : World} (n : Nat) (rel : (Nat → Value) → World → Prop) (mu : (Nat → Value) → World → Nat) (h0 : InvF n rel a0 w0)
  (hr : ∀ f w, rel f w → c.wp P (Exit.then (EndG n rel mu (mu f w)) Q) ⟨frame n f, []⟩ w) : (Code.loop c).wp P Q a0 w0 :=
 wp_loop (InvF n rel) (fun a w => mu (fr a) w) h0 fun a w h => by
  have h1 := hr (fr a) w h.rel
  rw [← frame_of h.size h.defers] at h1
  exact h1
end Go.Proofs.YtlmfbjhokkpjhaaGreatDoor
namespace Go.Proofs.YtlmfbjhokkpjhaaGreatDoor
open Go Go.RowKit
theorem va_esc0 (st off : Nat) (b : Str) (bare : Option Nat) : valR st [92] off b bare = ([], off, some (11, off)) := by rw [valR]; simp
theorem va_esc1 {x : UInt8} (h : escs.contains x = false) (st off : Nat) (b : Str) (bare : Option Nat) : valR st [92, x] off b bare = ([], off, some (11, off)) := by
 rw [valR]
 have h' : ¬ x ∈ escs := by simpa using h
 simp [h']
theorem va_esc2 {x y : UInt8} (h : escs.contains x = false) (h2 : (hexd x && hexd y) = false) (st : Nat) (l : Str) (off : Nat) (b : Str) (bare : Option Nat) : valR st (92 :: x :: y :: l) off b bare = ([], off, some (11, off)) := by
 rw [valR]
 have h' : ¬ x ∈ escs := by simpa using h
 simp [h', h2]
theorem va_bad {c : UInt8} {st off : Nat} (h1 : c ≠ 44) (h2 : c ≠ 43) (h3 : c ≠ 92) (h4 : bads.contains c = true ∨ (off = st ∧ (c = 32 ∨ c = 35))) (l : Str) (b : Str) (bare : Option Nat) : valR st (c :: l) off b bare = ([], off, some (50, off)) := by
 rw [valR.eq_def]; simp only [h1, h2, h3, or_self, if_false]; rw [if_pos h4]
theorem index_esc (c : UInt8) : decide (0 ≤ Lib.indexByte (⟨#[34, 43, 44, 59, 60, 62, 61, 35, 32, 92]⟩ : ByteArray).data.toList ((c.toNat : Nat) : Int).toNat.toUInt8) = escs.contains c := by
 have key : ∀ n : Fin 256, decide (0 ≤ Lib.indexByte (⟨#[34, 43, 44, 59, 60, 62, 61, 35, 32, 92]⟩ : ByteArray).data.toList ((n.val : Nat) : Int).toNat.toUInt8) = escs.contains (UInt8.ofNat n.val) := by decide +kernel
 have := key ⟨c.toNat, c.toNat_lt⟩
 simp only [UInt8.ofNat_toNat] at this
 exact this
theorem index_bads (c : UInt8) : decide (0 ≤ Lib.indexByte (⟨#[0, 34, 59, 60, 62]⟩ : ByteArray).data.toList ((c.toNat : Nat) : Int).toNat.toUInt8) = bads.contains c := by
 have key : ∀ n : Fin 256, decide (0 ≤ Lib.indexByte (⟨#[0, 34, 59, 60, 62]⟩ : ByteArray).data.toList ((n.val : Nat) : Int).toNat.toUInt8) = bads.contains (UInt8.ofNat n.val) := by decide +kernel
 have := key ⟨c.toNat, c.toNat_lt⟩
 simp only [UInt8.ofNat_toNat] at this
 exact this
theorem pu_two (x y : UInt8) : puV 0 [x, y] = if hexd x && hexd y then some (hexv x * 16 + hexv y) else none := by
 simp only [puV, Nat.zero_mul, Nat.zero_add]
 cases hexd x <;> cases hexd y <;> simp
theorem hexd_ne {x : UInt8} (h : hexd x = true) : x ≠ 43 ∧ x ≠ 45 ∧ x ≠ 95 := by
 have := all_bytesN (p := fun x => !hexd x || (decide (x ≠ 43) && decide (x ≠ 45) && decide (x ≠ 95))) (by decide +kernel) x
 simp only [Bool.or_eq_true, Bool.not_eq_true', Bool.and_eq_true, decide_eq_true_eq, h] at this
 rcases this with h | ⟨⟨a, b⟩, c⟩
 ·cases h
 ·exact ⟨a, b, c⟩
def bareI : Option Nat → Int
 | none => -1
 | some x => (x : Nat)
def bvs (b : Str) : List Value := b.map fun x => .int .u8 (x.toNat : Nat)
def ValPost (w : World) (g : Nat) (s : ByteArray) (bad : Option Addr) (R : Str × Nat × Option (Int × Nat)) (e : Ending) (w' : World) : Prop :=
 (R.2.2 = none → e = .returned (.string (baOf R.1)) ∧ Rd w' g s R.2.1 bad ∧ Chg (· = g) w w') ∧ (∀ c q, R.2.2 = some (c, q) → (∃ str, e = .returned (.string str)) ∧ RdBad w g s (faultAt (toL s) c q) w')
structure RelVa (g : Nat) (s : ByteArray) (p : Nat) (bad : Option Addr) (R : Str × Nat × Option (Int × Nat)) (w : World) (f : Nat → Value) (wr : World) : Prop where
 s0 : f 0 = .pointer (some ⟨g, 0, none⟩)
 s4 : f 4 = .int .i64 (p : Nat)
 ex : ∃ (q : Nat) (b : Str) (bare : Option Nat) (go : Option Nat) (cap : Nat), f 3 = sv go b.length cap ∧ f 5 = .int .i64 (bareI bare) ∧ p ≤ q ∧ Rd wr g s q bad ∧ Own wr 5 1 go b.length cap (bvs b) ∧ (∀ g', go = some g' → w.heap.size ≤ g') ∧ Chg (· = g) w wr ∧
  valR p ((toL s).drop q) q b bare = R ∧ (∀ x, bare = some x → x ≤ s.size) ∧ b.length ≤ q
set_option maxRecDepth 100000 in
theorem frame_va {f : Nat → Value} {x0 x3 x4 x5 : Value} (h0 : f 0 = x0) (h3 : f 3 = x3) (h4 : f 4 = x4) (h5 : f 5 = x5) : frame 256 f = [x0, f 1, f 2, x3, x4, x5, f 6, f 7, f 8, f 9, f 10, f 11, f 12, f 13, f 14, f 15, f 16, f 17, f 18, f 19, f 20, f 21, f 22, f 23, f 24, f 25, f 26, f 27, f 28, f 29, f 30, f 31, f 32, f 33, f 34, f 35, f 36, f 37, f 38, f 39, f 40, f 41, f 42, f 43, f 44, f 45, f 46, f 47, f 48, f 49, f 50, f 51, f 52, f 53, f 54, f 55, f 56, f 57, f 58, f 59, f 60, f 61, f 62, f 63, f 64, f 65, f 66, f 67, f 68, f 69, f 70, f 71, f 72, f 73, f 74, f 75, f 76, f 77, f 78, f 79, f 80, f 81, f 82, f 83, f 84, f 85, f 86, f 87, f 88, f 89, f 90, f 91, f 92, f 93, f 94, f 95, f 96, f 97, f 98, f 99, f 100, f 101, f 102, f 103, f 104, f 105, f 106, f 107, f 108, f 109, f 110, f 111, f 112, f 113, f 114, f 115, f 116, f 117, f 118, f 119, f 120, f 121, f 122, f 123, f 124, f 125, f 126, f 127, f 128, f 129, f 130, f 131, f 132, f 133, f 134, f 135, f 136, f 137, f 138, f 139, f 140, f 141, f 142, f 143, f 144, f 145, f 146, f 147, f 148, f 149, f 150, f 151, f 152, f 153, f 154, f 155, f 156, f 157, f 158, f 159, f 160, f 161, f 162, f 163, f 164, f 165, f 166, f 167, f 168, f 169, f 170, f 171, f 172, f 173, f 174, f 175, f 176, f 177, f 178, f 179, f 180, f 181, f 182, f 183, f 184, f 185, f 186, f 187, f 188, f 189, f 190, f 191, f 192, f 193, f 194, f 195, f 196, f 197, f 198, f 199, f 200, f 201, f 202, f 203, f 204, f 205, f 206, f 207, f 208, f 209, f 210, f 211, f 212, f 213, f 214, f 215, f 216, f 217, f 218, f 219, f 220, f 221, f 222, f 223, f 224, f 225, f 226, f 227, f 228, f 229, f 230, f 231, f 232, f 233, f 234, f 235, f 236, f 237, f 238, f 239, f 240, f 241, f 242, f 243, f 244, f 245, f 246, f 247, f 248, f 249, f 250, f 251, f 252, f 253, f 254, f 255].toArray := by
 subst h0 h3 h4 h5
 rfl
theorem conv_nil (w : World) : (convert 115 9 (.slice none 0 0)).run Tryz.prog w = .ok (.string ⟨#[]⟩) w := by kernel_rfl
theorem own_back {w : World} {go : Option Nat} {cap : Nat} {b : Str} (h : Own w 5 1 go b.length cap (bvs b)) : (convert 115 9 (sv go b.length cap)).run Tryz.prog w = .ok (.string (baOf b)) w := by
 cases go with
 | none =>
  have h0 : b.length = 0 := h.2.1
  have hb : b = [] := List.eq_nil_of_length_eq_zero h0
  subst hb
  have hc : cap = 0 := h.2.2
  subst hc
  exact conv_nil w
 | some g =>
  exact run_convert_bytes_back w 115 9 5 ⟨g, 0, none⟩ cap b Tryz.underlying115 Tryz.underlying5 Tryz.underlying9 fun j hj => by
   have h1 := h.row.cell (j := j) (v := .int .u8 ((b[j]'hj).toNat : Nat)) (by simp [bvs, hj])
   rw [← h1]; congr 1; simp [Addr.add]; intro h0; rw [h0]
def endR (s : Str) (f q : Nat) (done : PName) (part2 : PRdn) : Except PFault PName :=
 if s.length ≤ q then .ok (done ++ [part2])
 else if s[q]? = some 44 then
  if 64 ≤ done.length + 1 then .error (faultAt s 3 q) else parseR s f (q + 1) (done ++ [part2]) []
 else if 64 ≤ done.length ∨ 8 ≤ part2.length then .error (faultAt s 3 q) else parseR s f (q + 1) done part2
def valE (s : Str) (f p : Nat) (done : PName) (part : PRdn) (word : ByteArray) : Except PFault PName :=
 match (valR p (s.drop p) p [] none).2.2 with
 | some (c, q) => .error (faultAt s c q)
 | none => endR s f (valR p (s.drop p) p [] none).2.1 done (part ++ [(word, baOf (valR p (s.drop p) p [] none).1)])
theorem parseR_eq (s : Str) (f p : Nat) (done : PName) (part : PRdn) : parseR s (f + 1) p done part =
  if (kindN (s.drop p)).2 = false then .error (stuckAt s (p + (kindN (s.drop p)).1))
  else valE s f (p + (kindN (s.drop p)).1 + 1) done part (baOf ((s.drop p).take (kindN (s.drop p)).1)) := by
 rw [parseR]; rfl
theorem own_push {P : Program} {T e : TypeId} {z : Value} {sz bytes : Nat} (I : EI P T e z sz bytes) {w : World} {go : Option Nat} {n cap : Nat} {vs : List Value} (h : Own w e sz go n cap vs) {ops : Array Oper} {rest : List Oper} {o : Oper} {a : Act} {Q : Exit → Act → World → Prop} (hgd : o.guard = none) (s x : Operand)
  (ho : o.op = .call { callee := .builtin .append, args := #[s, x], argTypes := #[T, T] })
  (hs : a.eval s = sv go n cap) (news : List Value) (cs : Array Value) (hcs : cs.toList = news) (hx : a.eval x = .slice (some ⟨w.heap.size, 0, none⟩) 1 1) (hl : news.length = 1 * sz) (h1 : ∀ u ∈ news, u.oneCell' = true) (hb : (n + 1) * bytes ≤ 140737488355328)
  (hk : ∀ g' cap' w', Own w' e sz (some g') (n + 1) cap' (vs ++ news) → (w.alloc (.cells cs e)).grownBy w' go → (go = some g' ∨ w.heap.size + 1 ≤ g') → wpList P ops Q rest (a.put o.dst (.slice (some ⟨g', 0, none⟩) (n + 1) cap')) w') :
  wpList P ops Q (o :: rest) a (w.alloc (.cells cs e)) := by
 obtain ⟨i, h2, h3, h4, h5⟩ := I.info
 have hA : Own (w.alloc (.cells cs e)) e sz go n cap vs := h.keep fun g e2 => by subst e2; exact ((Zl w.heap.size w).alloc (Zr _) _).block g h.row.lt
 refine wpList_app0 hgd s x T ho e i z sz bytes I.und h2 h3 h4 h5 I.zs I.sz0 I.b0 go n cap vs hs hA (some ⟨w.heap.size, 0, none⟩) 1 1 news hx (fun h => by cases h) hl (news_new w news cs e hcs) h1 hb fun go' cap' w' hO hG hat => ?_
 cases go' with
 | none => have := hO.2.1; omega
 | some g' =>
  refine hk g' cap' w' hO hG ?_
  rcases hat with e | e
  ·exact .inl e.symm
  ·exact .inr (by have := Option.some.inj e; simp at this; omega)
structure PX where
 p : Nat
 gs : List PartO
 gn : Option Nat
 cn : Nat
 part : PRdn
 gp : Option Nat
 cp : Nat
 B : Nat
structure PB (w : World) (bR u g b6 L : Nat) : Prop where
 r : w.heap.size ≤ bR
 ru : bR < u
 ug : u < g
 gb : g < b6
 bl : b6 < L
structure ParM (s : ByteArray) (w : World) (bR u g b6 L : Nat) (bad : Option Addr) (wr : World) (x : PX) : Prop where
 bb : PB w bR u g b6 L
 rd : Rd wr g s x.p bad
 up : UpO L x.B w wr u x.gn x.gs.length x.cn x.gs
 ph : wr.heap[b6]? = some (.cells #[sv x.gp x.part.length x.cp] 65 (0, 0))
 po : Own wr 70 2 x.gp x.part.length x.cp (avaV x.part)
 pf : ∀ k, x.gp = some k → x.B ≤ k
 pz : ∀ a ∈ x.part, a.1.size ≤ 65536 ∧ a.2.size ≤ 65536
 rh : wr.heap[bR]? = some (.cells #[.slice none 0 0] 53 (0, 0))
theorem ParM.below {s : ByteArray} {w wr : World} {bR u g b6 L : Nat} {bad : Option Addr} {x : PX} (h : ParM s w bR u g b6 L bad wr x) : Below w.heap.size w wr := h.up.vec.below
theorem ParM.lt6 {s : ByteArray} {w wr : World} {bR u g b6 L : Nat} {bad : Option Addr} {x : PX} (h : ParM s w bR u g b6 L bad wr x) : L ≤ wr.heap.size ∧ b6 < wr.heap.size := by
 have := h.up.lb; have := h.up.le; have := h.bb.bl
 omega
theorem ParM.drewN {s : ByteArray} {w wr : World} {bR u g b6 L : Nat} {bad : Option Addr} {x : PX} (h : ParM s w bR u g b6 L bad wr x) (q : Nat) : ParM s w bR u g b6 L bad (wr.drewN q) x :=
 ⟨h.bb, h.rd.drewN q, h.up.drewN q, h.ph, h.po, h.pf, h.pz, h.rh⟩
theorem ParM.rdr {s : ByteArray} {w wr w1 : World} {bR u g b6 L : Nat} {bad bad' : Option Addr} {x : PX} (h : ParM s w bR u g b6 L bad wr x) (k : Chg (· = g) wr w1) {p : Nat} (hr : Rd w1 g s p bad') : ParM s w bR u g b6 L bad' w1 { x with p := p } := by
 have b1 := h.bb.r; have b2 := h.bb.ru; have b3 := h.bb.ug; have b4 := h.bb.gb; have b5 := h.bb.bl
 have hl := h.lt6
 refine ⟨h.bb, hr, h.up.chg k (by omega) (by omega) (by omega), ?_, ?_, h.pf, h.pz, ?_⟩
 ·rw [k.block b6 hl.2 (fun e => by have e : b6 = g := e; omega)]; exact h.ph
 ·exact h.po.keep fun b e => by
   have h1 := h.po
   have h2 := h.pf b e
   have h3 := h.up.lb
   rw [e] at h1
   exact k.block b h1.row.lt (fun e => by have e : b = g := e; omega)
 ·rw [k.block bR (by omega) (fun e => by have e : bR = g := e; omega)]; exact h.rh
theorem ParM.gpl {s : ByteArray} {w wr : World} {bR u g b6 L fb : Nat} {bad : Option Addr} {x : PX} (h : ParM s w bR u g b6 L bad wr x) (hf : wr.heap.size ≤ fb) : L ≤ fb ∧ x.gp ≠ some fb := by
 refine ⟨Nat.le_trans h.lt6.1 hf, fun e => ?_⟩
 have h1 := h.po
 rw [e] at h1
 have := h1.row.lt
 omega
theorem own_ne {w : World} {a b sz sz' n cap n' cap' : Nat} {vs vs' : List Value} {ga gb : Option Nat} (h : Own w a sz ga n cap vs) (k : Own w b sz' gb n' cap' vs') (hab : a ≠ b) : ∀ q, ga = some q → gb ≠ some q := fun q e1 e2 => by
 subst e1; subst e2
 obtain ⟨s1, h1, _⟩ := h.row
 obtain ⟨s2, h2, _⟩ := k.row
 rw [h1] at h2
 injection h2 with h2
 injection h2 with _ h2
 exact hab h2
theorem cell_grown {w w' : World} {b j : Nat} {row : Option Nat} (hg : w.grownBy w' row) (hb : b < w.heap.size) (hr : row ≠ some b) : w'.cell? ⟨b, j, none⟩ = w.cell? ⟨b, j, none⟩ ∧ w'.frozen? ⟨b, j, none⟩ = w.frozen? ⟨b, j, none⟩ := by
 have h := hg.block b hb (fun e => hr e.symm)
 constructor
 ·unfold World.cell?; simp only [h]
 ·unfold World.frozen?; simp only [h]
theorem Rd.grown {w w' : World} {g : Nat} {s : ByteArray} {p : Nat} {bad : Option Addr} {row : Option Nat} (h : Rd w g s p bad) (hg : w.grownBy w' row) (hr : row ≠ some g) : Rd w' g s p bad :=
 ⟨by rw [(cell_grown hg h.lt hr).1]; exact h.c0, by rw [(cell_grown hg h.lt hr).1]; exact h.c1, by rw [(cell_grown hg h.lt hr).1]; exact h.c2, fun j => by rw [(cell_grown hg h.lt hr).2]; exact h.fr j, h.le, h.small⟩
theorem Rd.setNe {w : World} {g : Nat} {s : ByteArray} {p : Nat} {bad : Option Addr} (h : Rd w g s p bad) {b j : Nat} (hb : g ≠ b) (v : Value) : Rd (w.setCell ⟨b, j, none⟩ v) g s p bad :=
 ⟨by rw [World.cell?_setCell_other _ _ _ _ (fun e => by injection e with e _ _; exact hb e.symm)]; exact h.c0, by rw [World.cell?_setCell_other _ _ _ _ (fun e => by injection e with e _ _; exact hb e.symm)]; exact h.c1, by rw [World.cell?_setCell_other _ _ _ _ (fun e => by injection e with e _ _; exact hb e.symm)]; exact h.c2, fun j' => by rw [World.frozen?_setCell]; exact h.fr j', h.le, h.small⟩
theorem FaultAt.grown {w w' : World} {fb : Nat} {f : PFault} {row : Option Nat} (h : FaultAt w fb f) (hg : w.grownBy w' row) (hr : row ≠ some fb) : FaultAt w' fb f :=
 have hb := Zb w _ h.c0
 ⟨by rw [(cell_grown hg hb hr).1]; exact h.c0, by rw [(cell_grown hg hb hr).1]; exact h.c1, by rw [(cell_grown hg hb hr).1]; exact h.c2⟩
theorem FaultAt.setNe {w : World} {fb : Nat} {f : PFault} (h : FaultAt w fb f) {b j : Nat} (hb : fb ≠ b) (v : Value) : FaultAt (w.setCell ⟨b, j, none⟩ v) fb f :=
 ⟨by rw [World.cell?_setCell_other _ _ _ _ (fun e => by injection e with e _ _; exact hb e.symm)]; exact h.c0, by rw [World.cell?_setCell_other _ _ _ _ (fun e => by injection e with e _ _; exact hb e.symm)]; exact h.c1, by rw [World.cell?_setCell_other _ _ _ _ (fun e => by injection e with e _ _; exact hb e.symm)]; exact h.c2⟩
theorem set_block (w : World) {b c j : Nat} (v : Value) (h : c ≠ b) : (w.setCell ⟨b, j, none⟩ v).heap[c]? = w.heap[c]? := Below.heap_setCell w ⟨b, j, none⟩ v c (fun e => h e)
theorem ParM.app {s : ByteArray} {w wr : World} {bR u g b6 L : Nat} {bad : Option Addr} {x : PX} (h : ParM s w bR u g b6 L bad wr x) {o : Obj} {w9 : World} {g9 cap9 : Nat} {a : PAva} (ha : a.1.size ≤ 65536 ∧ a.2.size ≤ 65536)
  (own9 : Own w9 70 2 (some g9) (x.part.length + 1) cap9 (avaV x.part ++ [.string a.1, .string a.2])) (gr9 : (wr.alloc o).grownBy w9 x.gp) (at9 : x.gp = some g9 ∨ wr.heap.size + 1 ≤ g9) :
  w9.heap[b6]? = some (.cells #[sv x.gp x.part.length x.cp] 65 (0, 0)) ∧ ParM s w bR u g b6 L bad (w9.setCell ⟨b6, 0, none⟩ (.slice (some ⟨g9, 0, none⟩) (x.part.length + 1) cap9)) { x with part := x.part ++ [a], gp := some g9, cp := cap9 } ∧
   ∀ fb f, FaultAt wr fb f → L ≤ fb → x.gp ≠ some fb → FaultAt (w9.setCell ⟨b6, 0, none⟩ (.slice (some ⟨g9, 0, none⟩) (x.part.length + 1) cap9)) fb f := by
 have b1 := h.bb.r; have b2 := h.bb.ru; have b3 := h.bb.ug; have b4 := h.bb.gb; have b5 := h.bb.bl
 have hl := h.lt6
 have hA : Below wr.heap.size wr (wr.alloc o) := (Zl _ _).alloc (Zr _) _
 have hp0 : ∀ k, x.gp = some k → L ≤ k ∧ k < wr.heap.size := fun k e => by
  have h1 := h.po
  have h2 := h.pf k e
  have h3 := h.up.lb
  rw [e] at h1
  have := h1.row.lt
  omega
 have hne : ∀ b, b < L → x.gp ≠ some b := fun b hb e => by have := hp0 b e; omega
 have hk : ∀ b, b < wr.heap.size → x.gp ≠ some b → w9.heap[b]? = wr.heap[b]? := fun b hb hn => by
  rw [gr9.block b (by simp; omega) (fun e => hn e.symm), hA.block b hb]
 have h6 : w9.heap[b6]? = some (.cells #[sv x.gp x.part.length x.cp] 65 (0, 0)) := by rw [hk b6 hl.2 (hne b6 b5)]; exact h.ph
 have hg9 : x.B ≤ g9 := by
  rcases at9 with e | e
  ·exact h.pf _ e
  ·have := h.up.le; omega
 have hgl : L ≤ g9 := by have := h.up.lb; omega
 have hnn : ∀ k, x.gn = some k → x.gp ≠ some k := own_ne h.up.vec.own h.po (by decide)
 refine ⟨h6, ⟨h.bb, ((h.rd.keep hA).grown gr9 (hne g (by omega))).setNe (by omega) _, ?_, ?_, ?_, fun k e => by cases e; exact hg9, fun y hy => ?_, ?_⟩, fun fb f hf h1 h2 => ?_⟩
 ·refine ⟨?_, h.up.new, ?_, ?_, ?_, h.up.lo, h.up.lb, h.up.lv⟩
  ·rw [set_block _ _ (by omega), hk u (by omega) (hne u (by omega))]; exact h.up.head
  ·refine ⟨h.up.vec.own.keep fun k e => ?_, h.up.vec.fresh, ?_⟩
   ·have h1 := h.up.vec.own
    have h2 := h.up.lv k e
    rw [e] at h1
    rw [set_block _ _ (by omega), hk k h1.row.lt (hnn k e)]
   ·exact ((h.up.vec.below.trans (hA.mono h.up.vec.size)).grown gr9 (by have := h.up.vec.size; simp; omega) fun k e => by have := (hp0 k e).1; omega).setCell (p := ⟨b6, 0, none⟩) (by show w.heap.size ≤ b6; omega) _
  ·refine ⟨fun y hy => (h.up.rows.own y hy).keep fun k e => ?_, h.up.rows.bnd, h.up.rows.sep, h.up.rows.size⟩
   have h2 := h.up.rows.bnd y hy k e
   have h3 := h.up.le
   rw [set_block _ _ (by omega), hk k (by omega) (fun e2 => by have := h.pf k e2; omega)]
  ·have := h.up.le; have h3 := gr9.size; simp [World.setCell] at h3 ⊢; omega
 ·rw [heap_setCell_same w9 b6 0 _ _ _ h6]
  simp [sv]
 ·have e : (x.part ++ [a]).length = x.part.length + 1 := by simp
  show Own _ _ 2 (some g9) (x.part ++ [a]).length cap9 (avaV (x.part ++ [a]))
  rw [e, avaV_app, avaV_one]
  exact own9.keep fun k e => by cases e; exact set_block _ _ (by omega)
 ·rcases List.mem_append.1 hy with hy | hy
  ·exact h.pz y hy
  ·simp at hy; subst hy; exact ha
 ·rw [set_block _ _ (by omega), hk bR (by omega) (hne bR (by omega))]; exact h.rh
 ·have hb := Zb _ _ hf.c0
  exact ((hf.keep hA).grown gr9 h2).setNe (by omega) _
theorem ParM.app0 {s : ByteArray} {w wr : World} {bR u g b6 L : Nat} {bad : Option Addr} {x : PX} (h : ParM s w bR u g b6 L bad wr x) {o : Obj} {w9 : World} {g9 cap9 : Nat} {vs : List Value}
  (own9 : Own w9 70 2 (some g9) (x.part.length + 1) cap9 vs) (gr9 : (wr.alloc o).grownBy w9 x.gp) (v : Value) :
  w9.heap[b6]? = some (.cells #[sv x.gp x.part.length x.cp] 65 (0, 0)) ∧ Rd (w9.setCell ⟨b6, 0, none⟩ v) g s x.p bad ∧ (w9.setCell ⟨b6, 0, none⟩ v).heap[bR]? = some (.cells #[.slice none 0 0] 53 (0, 0)) ∧ Below w.heap.size w (w9.setCell ⟨b6, 0, none⟩ v) ∧
   ∀ fb f, FaultAt wr fb f → wr.heap.size ≤ fb ∨ (L ≤ fb ∧ x.gp ≠ some fb) → FaultAt (w9.setCell ⟨b6, 0, none⟩ v) fb f := by
 have b1 := h.bb.r; have b2 := h.bb.ru; have b3 := h.bb.ug; have b4 := h.bb.gb; have b5 := h.bb.bl
 have hl := h.lt6
 have hA : Below wr.heap.size wr (wr.alloc o) := (Zl _ _).alloc (Zr _) _
 have hp0 : ∀ k, x.gp = some k → L ≤ k ∧ k < wr.heap.size := fun k e => by
  have h1 := h.po
  have h2 := h.pf k e
  have h3 := h.up.lb
  rw [e] at h1
  have := h1.row.lt
  omega
 have hne : ∀ b, b < L → x.gp ≠ some b := fun b hb e => by have := hp0 b e; omega
 have hk : ∀ b, b < wr.heap.size → x.gp ≠ some b → w9.heap[b]? = wr.heap[b]? := fun b hb hn => by
  rw [gr9.block b (by simp; omega) (fun e => hn e.symm), hA.block b hb]
 refine ⟨by rw [hk b6 hl.2 (hne b6 b5)]; exact h.ph, ((h.rd.keep hA).grown gr9 (hne g (by omega))).setNe (by omega) _, by rw [set_block _ _ (by omega), hk bR (by omega) (hne bR (by omega))]; exact h.rh, ?_, fun fb f hf h1 => ?_⟩
 ·exact ((h.up.vec.below.trans (hA.mono h.up.vec.size)).grown gr9 (by have := h.up.vec.size; simp; omega) fun k e => by have := (hp0 k e).1; omega).setCell (p := ⟨b6, 0, none⟩) (by show w.heap.size ≤ b6; omega) _
 ·refine ((hf.keep hA).grown gr9 ?_).setNe (by omega) _
  intro e
  have := hp0 fb e
  rcases h1 with h1 | h1
  ·omega
  ·exact h1.2 e
theorem ParM.done {s : ByteArray} {w wr : World} {bR u g b6 L : Nat} {bad : Option Addr} {x : PX} (h : ParM s w bR u g b6 L bad wr x) (h8 : x.part.length ≤ 8) {o : Obj} {w9 : World} {g9 cap9 : Nat}
  (own9 : Own w9 65 1 (some g9) (x.gs.length + 1) cap9 (x.gs.map rowV ++ [rowV ((x.gp, x.cp), x.part)])) (gr9 : (wr.alloc o).grownBy w9 x.gn) (at9 : x.gn = some g9 ∨ wr.heap.size + 1 ≤ g9) :
  w9.heap[u]? = some (.cells #[sv x.gn x.gs.length x.cn] 53 (0, 0)) ∧ UpO L (wr.heap.size + 1) w (w9.setCell ⟨u, 0, none⟩ (.slice (some ⟨g9, 0, none⟩) (x.gs.length + 1) cap9)) u (some g9) (x.gs.length + 1) cap9 (x.gs ++ [((x.gp, x.cp), x.part)]) ∧
   Rd (w9.setCell ⟨u, 0, none⟩ (.slice (some ⟨g9, 0, none⟩) (x.gs.length + 1) cap9)) g s x.p bad ∧ (w9.setCell ⟨u, 0, none⟩ (.slice (some ⟨g9, 0, none⟩) (x.gs.length + 1) cap9)).heap[b6]? = some (.cells #[sv x.gp x.part.length x.cp] 65 (0, 0)) ∧
   (w9.setCell ⟨u, 0, none⟩ (.slice (some ⟨g9, 0, none⟩) (x.gs.length + 1) cap9)).heap[bR]? = some (.cells #[.slice none 0 0] 53 (0, 0)) := by
 have b1 := h.bb.r; have b2 := h.bb.ru; have b3 := h.bb.ug; have b4 := h.bb.gb; have b5 := h.bb.bl
 have hl := h.lt6
 have hA : Below wr.heap.size wr (wr.alloc o) := (Zl _ _).alloc (Zr _) _
 have hne : ∀ b, b < L → x.gn ≠ some b := fun b hb e => by have := h.up.lv b e; omega
 have hk : ∀ b, b < wr.heap.size → x.gn ≠ some b → w9.heap[b]? = wr.heap[b]? := fun b hb hn => by
  rw [gr9.block b (by simp; omega) (fun e => hn e.symm), hA.block b hb]
 have hP := (h.up.keep hA).push own9 gr9 (by simpa using at9) (h.po.keep fun k e => hA.block k (by have h1 := h.po; rw [e] at h1; exact h1.row.lt)) h.pf ⟨by omega, fun a ha => by have := h.pz a ha; omega⟩
 rw [World.size_alloc] at hP
 refine ⟨hP.1, hP.2, ((h.rd.keep hA).grown gr9 (hne g (by omega))).setNe (by omega) _, ?_, ?_⟩
 ·rw [set_block _ _ (by omega), hk b6 hl.2 (hne b6 b5)]; exact h.ph
 ·rw [set_block _ _ (by omega), hk bR (by omega) (hne bR (by omega))]; exact h.rh
theorem ParM.fresh {s : ByteArray} {w w1 : World} {bR u g b6 L B g9 cap9 m : Nat} {bad : Option Addr} {gs : List PartO} {v : Value} {p : Nat} (bb : PB w bR u g b6 L) (up : UpO L B w w1 u (some g9) m cap9 gs) (rd : Rd w1 g s p bad) (h6 : w1.heap[b6]? = some (.cells #[v] 65 (0, 0)))
  (rh : w1.heap[bR]? = some (.cells #[.slice none 0 0] 53 (0, 0))) : ParM s w bR u g b6 L bad (w1.setCell ⟨b6, 0, none⟩ (.slice none 0 0)) ⟨p, gs, some g9, cap9, [], none, 0, B⟩ := by
 have b1 := bb.r; have b2 := bb.ru; have b3 := bb.ug; have b4 := bb.gb; have b5 := bb.bl
 have hc : Chg (· = b6) w1 (w1.setCell ⟨b6, 0, none⟩ (.slice none 0 0)) := (Chg.refl (· = b6) w1).setCell (p := ⟨b6, 0, none⟩) (fun _ => rfl) _
 have hm := up.len
 subst hm
 refine ⟨bb, rd.setNe (by omega) _, up.chg hc (by omega) b5 (by omega), ?_, Own.nil _ _ _, (fun k e => by cases e), (fun a ha => by cases ha), ?_⟩
 ·rw [heap_setCell_same w1 b6 0 _ _ _ h6]; rfl
 ·rw [set_block _ _ (by omega)]; exact rh
theorem ParM.put {s : ByteArray} {w wr : World} {bR u g b6 L : Nat} {bad : Option Addr} {x : PX} (h : ParM s w bR u g b6 L bad wr x) {q : Nat} (hq : q ≤ s.size) {y : Int} (hy : y = (q : Nat)) : ParM s w bR u g b6 L bad (wr.setCell ⟨g, 1, none⟩ (.int .i64 y)) { x with p := q } := by
 subst hy
 exact h.rdr ((Chg.refl (· = g) wr).setCell (p := ⟨g, 1, none⟩) (fun _ => rfl) _) (h.rd.put hq)
theorem ParM.cells {s : ByteArray} {w wr : World} {bR u g b6 L : Nat} {bad : Option Addr} {x : PX} (h : ParM s w bR u g b6 L bad wr x) {pa na : Option Addr} (hpa : pa = x.gp.map (fun k => (⟨k, 0, none⟩ : Addr))) (hna : na = x.gn.map (fun k => (⟨k, 0, none⟩ : Addr))) :
  (wr.cell? ⟨b6, 0, none⟩ = some (.slice pa x.part.length x.cp) ∧ wr.frozen? ⟨b6, 0, none⟩ = false) ∧ (wr.cell? ⟨u, 0, none⟩ = some (.slice na x.gs.length x.cn) ∧ wr.frozen? ⟨u, 0, none⟩ = false) ∧
   (wr.cell? ⟨g, 1, none⟩ = some (.int .i64 (x.p : Nat)) ∧ wr.frozen? ⟨g, 1, none⟩ = false) ∧ wr.cell? ⟨g, 2, none⟩ = some (.pointer bad) ∧ (wr.cell? ⟨bR, 0, none⟩ = some (.slice none 0 0) ∧ wr.frozen? ⟨bR, 0, none⟩ = false) := by
 subst hpa hna
 exact ⟨⟨by rw [Lib.cell_of_heap h.ph]; rfl, Lib.frozen_of_heap h.ph 0⟩, ⟨by rw [Lib.cell_of_heap h.up.head]; rfl, Lib.frozen_of_heap h.up.head 0⟩, ⟨h.rd.c1, h.rd.fr 1⟩, h.rd.c2, by rw [Lib.cell_of_heap h.rh]; rfl, Lib.frozen_of_heap h.rh 0⟩
def ParsePost (s : ByteArray) (w : World) (e : Ending) (w' : World) : Prop :=
 Below w.heap.size w w' ∧ (∀ n, parseV (toL s) = .ok n → ∃ na k c, e = .returned (.tuple #[.agg #[.slice na k c], .nilIface]) ∧ NewName w w' na k c n) ∧
 (∀ f, parseV (toL s) = .error f → ∃ fb, e = .returned (.tuple #[.agg #[.slice none 0 0], .iface 123 (.pointer (some ⟨fb, 0, none⟩))]) ∧ FaultAt w' fb f ∧ w.heap.size ≤ fb)
theorem ParsePost.ok {s : ByteArray} {w w' : World} {e : Ending} {n : PName} (h : parseV (toL s) = .ok n) (hb : Below w.heap.size w w') (h2 : ∃ na k c, e = .returned (.tuple #[.agg #[.slice na k c], .nilIface]) ∧ NewName w w' na k c n) : ParsePost s w e w' :=
 ⟨hb, fun m hm => by rw [h] at hm; cases hm; exact h2, fun f hf => by rw [h] at hf; cases hf⟩
theorem ParsePost.no {s : ByteArray} {w w' : World} {e : Ending} {f : PFault} (h : parseV (toL s) = .error f) (hb : Below w.heap.size w w') (h2 : ∃ fb, e = .returned (.tuple #[.agg #[.slice none 0 0], .iface 123 (.pointer (some ⟨fb, 0, none⟩))]) ∧ FaultAt w' fb f ∧ w.heap.size ≤ fb) : ParsePost s w e w' :=
 ⟨hb, (fun m hm => by rw [h] at hm; cases hm), fun g hg => by rw [h] at hg; cases hg; exact h2⟩
theorem par_ok {s : ByteArray} {w w1 : World} {bR u g b6 L B : Nat} {g9 m cap9 : Nat} {gs : List PartO} (bb : PB w bR u g b6 L) (up : UpO L B w w1 u (some g9) m cap9 gs) (hm : m ≤ 4294967280) (hr : parseV (toL s) = .ok (gs.map (·.2))) (v : Value) :
  ParsePost s w (.returned (.tuple #[.agg #[.slice (some ⟨g9, 0, none⟩) m cap9], .nilIface])) (w1.setCell ⟨bR, 0, none⟩ v) := by
 have b1 := bb.r; have b2 := bb.ru; have b3 := bb.ug; have b4 := bb.gb; have b5 := bb.bl
 have h := up.chg ((Chg.refl (· = bR) w1).setCell (p := ⟨bR, 0, none⟩) (fun _ => rfl) v) b1 (by omega) (by omega)
 exact ParsePost.ok hr h.vec.below ⟨_, m, cap9, rfl, h.new_name hm⟩
theorem eiU8 : EI Tryz.prog 115 5 (.int .u8 0) 1 1 := EI.of Tryz.underlying115 (by kernel_rfl) rfl (by decide) (by decide)
theorem push8 {w : World} {go : Option Nat} {n cap : Nat} {vs : List Value} (h : Own w 5 1 go n cap vs) {ops : Array Oper} {rest : List Oper} {o : Oper} {a : Act} {Q : Exit → Act → World → Prop} (hgd : o.guard = none) (s x : Operand)
  (ho : o.op = .call { callee := .builtin .append, args := #[s, x], argTypes := #[115, 115] })
  (hs : a.eval s = sv go n cap) (v : Int) (hx : a.eval x = .slice (some ⟨w.heap.size, 0, none⟩) 1 1) (hb : n ≤ 1099511627776)
  (hk : ∀ g' cap' w', Own w' 5 1 (some g') (n + 1) cap' (vs ++ [.int .u8 v]) → (w.alloc (.cells #[.int .u8 v] 5)).grownBy w' go → (go = some g' ∨ g' = w.heap.size + 1) → wpList Tryz.prog ops Q rest (a.put o.dst (.slice (some ⟨g', 0, none⟩) (n + 1) cap')) w') :
  wpList Tryz.prog ops Q (o :: rest) a (w.alloc (.cells #[.int .u8 v] 5)) := by
 obtain ⟨i, h2, h3, h4, h5⟩ := eiU8.info
 have hA : Own (w.alloc (.cells #[.int .u8 v] 5)) 5 1 go n cap vs := h.keep fun g e => by subst e; exact ((Zl w.heap.size w).alloc (Zr _) _).block g h.row.lt
 refine wpList_app0 hgd s x 115 ho 5 i (.int .u8 0) 1 1 eiU8.und h2 h3 h4 h5 eiU8.zs eiU8.sz0 eiU8.b0 go n cap vs hs hA (some ⟨w.heap.size, 0, none⟩) 1 1 [.int .u8 v] hx (fun h => by cases h) rfl (news_new w [.int .u8 v] #[.int .u8 v] 5 rfl) (fun u hu => by simp at hu; subst hu; rfl) (by omega) fun go' cap' w' hO hG hat => ?_
 cases go' with
 | none => have := hO.2.1; omega
 | some g' =>
  refine hk g' cap' w' hO hG ?_
  rcases hat with e | e
  ·exact .inl e.symm
  ·exact .inr (by have := Option.some.inj e; simpa using this)
theorem va_next {w wr w' : World} {g g' : Nat} {s : ByteArray} {q q' : Nat} {x : Int} {bad : Option Addr} {go : Option Nat} {n cap cap' : Nat} {vs vs' : List Value} {o : Obj}
  (hg : g < w.heap.size) (rd : Rd wr g s q bad) (own : Own wr 5 1 go n cap vs) (fr : ∀ k, go = some k → w.heap.size ≤ k) (ch : Chg (· = g) w wr)
  (hO : Own w' 5 1 (some g') (n + 1) cap' vs') (hG : (wr.alloc o).grownBy w' go) (hat : go = some g' ∨ g' = wr.heap.size + 1) (hq : q' ≤ s.size) (hx : x = (q' : Nat)) :
  Rd w' g s q bad ∧ Rd (w'.setCell ⟨g, 1, none⟩ (.int .i64 x)) g s q' bad ∧ Own (w'.setCell ⟨g, 1, none⟩ (.int .i64 x)) 5 1 (some g') (n + 1) cap' vs' ∧ (∀ k, some g' = some k → w.heap.size ≤ k) ∧ Chg (· = g) w (w'.setCell ⟨g, 1, none⟩ (.int .i64 x)) := by
 have hgl : ∀ k, go = some k → k ≠ g := fun k e h => by have := fr k e; omega
 have hA : Chg (· = g) w (wr.alloc o) := ch.alloc o
 have hW : Chg (· = g) w w' := hA.grown hG fun k e hk => by have := fr k e; omega
 have hrA := rd.keep ((Zl wr.heap.size wr).alloc (Zr _) o)
 have hbg : w'.heap[g]? = (wr.alloc o).heap[g]? := hG.block g hrA.lt (fun e => hgl g e.symm rfl)
 have hcell : ∀ j, w'.cell? ⟨g, j, none⟩ = (wr.alloc o).cell? ⟨g, j, none⟩ := fun j => by unfold World.cell?; rw [hbg]
 have hfz : ∀ j, w'.frozen? ⟨g, j, none⟩ = (wr.alloc o).frozen? ⟨g, j, none⟩ := fun j => by unfold World.frozen?; simp only [hbg]
 have hr' : Rd w' g s q bad := ⟨by rw [hcell]; exact hrA.c0, by rw [hcell]; exact hrA.c1, by rw [hcell]; exact hrA.c2, fun j => by rw [hfz]; exact hrA.fr j, rd.le, rd.small⟩
 have hg' : w.heap.size ≤ g' := by
  rcases hat with e | e
  ·exact fr g' e
  ·have := ch.size; omega
 refine ⟨hr', hr'.putN hq hx, ?_, fun k e => by cases e; exact hg', hW.setCell (p := ⟨g, 1, none⟩) (fun _ => rfl) _⟩
 exact hO.keep fun k e => by
  cases e
  exact ((Chg.refl (· = g) w').setCell (p := ⟨g, 1, none⟩) (fun _ => rfl) _).block g' hO.row.lt (by show ¬ g' = g; omega)
structure VaI (g : Nat) (s : ByteArray) (q : Nat) (bad : Option Addr) (w wr : World) (go : Option Nat) (b : Str) (cap : Nat) (bare : Option Nat) : Prop where
 rd : Rd wr g s q bad
 own : Own wr 5 1 go b.length cap (bvs b)
 fr : ∀ g', go = some g' → w.heap.size ≤ g'
 ch : Chg (· = g) w wr
 bar : ∀ x, bare = some x → x ≤ s.size
 bl : b.length ≤ q
theorem VaI.drewN {g : Nat} {s : ByteArray} {q : Nat} {bad : Option Addr} {w wr : World} {go : Option Nat} {b : Str} {cap : Nat} {bare : Option Nat} (h : VaI g s q bad w wr go b cap bare) (k : Nat) : VaI g s q bad w (wr.drewN k) go b cap bare := ⟨h.rd.drewN k, h.own, h.fr, h.ch.drewN k, h.bar, h.bl⟩
theorem VaI.next {w wr w' : World} {g g' : Nat} {s : ByteArray} {q q' : Nat} {x : Int} {bad : Option Addr} {go : Option Nat} {cap cap' : Nat} {b : Str} {bare bare' : Option Nat} {o : Obj} {y : UInt8} (h : VaI g s q bad w wr go b cap bare) (hg : g < w.heap.size)
  (hO : Own w' 5 1 (some g') (b.length + 1) cap' (bvs b ++ [.int .u8 (y.toNat : Nat)])) (hG : (wr.alloc o).grownBy w' go) (hat : go = some g' ∨ g' = wr.heap.size + 1) (hq : q < q') (hq2 : q' ≤ s.size) (hx : x = (q' : Nat)) (hb : ∀ x, bare' = some x → x ≤ s.size) :
  Rd w' g s q bad ∧ VaI g s q' bad w (w'.setCell ⟨g, 1, none⟩ (.int .i64 x)) (some g') (b ++ [y]) cap' bare' := by
 obtain ⟨h1, h2, h3, h4, h5⟩ := va_next hg h.rd h.own h.fr h.ch hO hG hat hq2 hx
 exact ⟨h1, h2, by rw [List.length_append]; simpa [bvs] using h3, h4, h5, hb, by have := h.bl; simp; omega⟩
theorem VaI.keep {g : Nat} {s : ByteArray} {q : Nat} {bad : Option Addr} {w wr wa : World} {go : Option Nat} {b : Str} {cap : Nat} {bare : Option Nat} (h : VaI g s q bad w wr go b cap bare) (k : Below wr.heap.size wr wa) : VaI g s q bad w wa go b cap bare :=
 ⟨h.rd.keep k, h.own.keep fun g e => by subst e; exact k.block g h.own.row.lt, h.fr, h.ch.trans ⟨k.os, k.tape, k.output, k.size, fun j hj _ => k.block j hj⟩, h.bar, h.bl⟩
theorem VaI.nextW {w wa w' : World} {g g' : Nat} {s : ByteArray} {q q' : Nat} {x : Int} {bad : Option Addr} {go : Option Nat} {cap cap' : Nat} {b : Str} {bare bare' : Option Nat} {y : UInt8} (h : VaI g s q bad w wa go b cap bare) (hg : g < w.heap.size)
  (hO : Own w' 5 1 (some g') (b.length + 1) cap' (bvs b ++ [.int .u8 (y.toNat : Nat)])) (hG : wa.grownBy w' go) (hat : go = some g' ∨ g' = wa.heap.size) (hq : q < q') (hq2 : q' ≤ s.size) (hx : x = (q' : Nat)) (hb : ∀ x, bare' = some x → x ≤ s.size) :
  Rd w' g s q bad ∧ VaI g s q' bad w (w'.setCell ⟨g, 1, none⟩ (.int .i64 x)) (some g') (b ++ [y]) cap' bare' := by
 have hgl : ∀ k, go = some k → k ≠ g := fun k e h2 => by have := h.fr k e; omega
 have hW : Chg (· = g) w w' := h.ch.grown hG fun k e hk => by have := h.fr k e; omega
 have hbg : w'.heap[g]? = wa.heap[g]? := hG.block g h.rd.lt (fun e => hgl g e.symm rfl)
 have hcell : ∀ j, w'.cell? ⟨g, j, none⟩ = wa.cell? ⟨g, j, none⟩ := fun j => by unfold World.cell?; rw [hbg]
 have hfz : ∀ j, w'.frozen? ⟨g, j, none⟩ = wa.frozen? ⟨g, j, none⟩ := fun j => by unfold World.frozen?; simp only [hbg]
 have hr' : Rd w' g s q bad := ⟨by rw [hcell]; exact h.rd.c0, by rw [hcell]; exact h.rd.c1, by rw [hcell]; exact h.rd.c2, fun j => by rw [hfz]; exact h.rd.fr j, h.rd.le, h.rd.small⟩
 have hg' : w.heap.size ≤ g' := by
  rcases hat with e | e
  ·exact h.fr g' e
  ·have := h.ch.size; omega
 refine ⟨hr', hr'.putN hq2 hx, ?_, fun k e => by cases e; exact hg', hW.setCell (p := ⟨g, 1, none⟩) (fun _ => rfl) _, hb, by have := h.bl; simp; omega⟩
 rw [List.length_append]
 have hO2 : Own (w'.setCell ⟨g, 1, none⟩ (.int .i64 x)) 5 1 (some g') (b.length + 1) cap' (bvs b ++ [.int .u8 (y.toNat : Nat)]) := hO.keep fun k e => by
  cases e
  exact ((Chg.refl (· = g) w').setCell (p := ⟨g, 1, none⟩) (fun _ => rfl) _).block g' hO.row.lt (by show ¬ g' = g; have := h.rd; omega)
 simpa [bvs] using hO2
end Go.Proofs.YtlmfbjhokkpjhaaGreatDoor
