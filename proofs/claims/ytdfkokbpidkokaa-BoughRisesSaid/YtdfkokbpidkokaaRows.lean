/-
  No cell of these rows narrows 'for every input' (looked for: loops, veiled, ifaces, maps, wideKeys, modest, calm, conditions, laid).
  DERIVED. THE GIVEN ROWS OF THIS SEAT. 5 by the template 'for every input the law returns true; each argument reads behind the call as it read before'; 0 by the template 'total and deterministic' (their statements: YtdfkokbpidkokaaTotals.lean).
  GIVEN WITH THE SEED: the statements are not yours to turn. If you find one false, say at which input.
  Laid BY PROGRAM, IN A SANDBOX (cutbox-rows.mjs): the forced cells as the released guide's own fill.sh prints them over the translation 57fdb8ac19c94a28… (all of the seat's roots in one cut). By AI agents, Wed Nov 11 2026. No macro, syntax, notation, axiom, sorry.
-/
import Derived.Test.YtdfkokbpidkokaaChecked
import GoSem.Claim
import GoSem.ClaimJoined
import GoSem.ClaimMapViews
import Derived.JoinedTies
import Derived.KernelRfl
namespace Go.Proofs.Ytdfkokbpidkokaa
/- THE CELL 'sum', in the pinned program and in every row, IS THE sha256 OF THE DUMP (.gsa) THAT YtdfkokbpidkokaaProg.lean LOADS. Nothing in Lean hashes anything: it is a label: what it is worth is what the hold of that sum in a sandbox is worth. -/
noncomputable def Try.pinned : Pinned := { name := "ytdfkokbpidkokaa", sum := "57fdb8ac19c94a281fa3c846f4ba8aadea964c69c01ab3d5a2b4e28fb1b6e67d", checked := Try.checked }
namespace Rows
def none {H : Type} : Left H := { results := [], args := [] }

/-- 'rosterlaw12.BoughTexts': WHATEVER THE INPUT: true; the input reads as it did. -/
def boughTextsSpec : ChangeSpec := { name := "boughTexts", fn := fun _ => fun
  | [d] => { results := [.lit (.bool true)], args := [d] }
  | _ => none }
def boughTextsRow : OpenClaim := { program := "ytdfkokbpidkokaa", sum := "57fdb8ac19c94a281fa3c846f4ba8aadea964c69c01ab3d5a2b4e28fb1b6e67d", func := "roster/rosterlaw12.BoughTexts", spec := "boughTexts", unfollowed := true, recurses := true, apart := false }
def BoughTextsSaid : Prop := boughTextsRow.holds Try.pinned (OpenSpec.ofChange boughTextsSpec)

/-- ITS FALSE NEIGHBOUR: 'it returns false'. Refute it at one input. -/
def boughTextsWrong : ChangeSpec := { name := "boughTexts", fn := fun _ => fun
  | [d] => { results := [.lit (.bool false)], args := [d] }
  | _ => none }
def BoughTextsWrongFalsely : Prop := boughTextsRow.holds Try.pinned (OpenSpec.ofChange boughTextsWrong)

/-- 'rosterlaw12.BoughPlays': WHATEVER THE INPUT: true; the input reads as it did. -/
def boughPlaysSpec : ChangeSpec := { name := "boughPlays", fn := fun _ => fun
  | [d1, d2, d3, d4] => { results := [.lit (.bool true)], args := [d1, d2, d3, d4] }
  | _ => none }
def boughPlaysRow : OpenClaim := { program := "ytdfkokbpidkokaa", sum := "57fdb8ac19c94a281fa3c846f4ba8aadea964c69c01ab3d5a2b4e28fb1b6e67d", func := "roster/rosterlaw12.BoughPlays", spec := "boughPlays", unfollowed := true, recurses := true, apart := false }
def BoughPlaysSaid : Prop := boughPlaysRow.holds Try.pinned (OpenSpec.ofChange boughPlaysSpec)

/-- ITS FALSE NEIGHBOUR: 'it returns false'. Refute it at one input. -/
def boughPlaysWrong : ChangeSpec := { name := "boughPlays", fn := fun _ => fun
  | [d1, d2, d3, d4] => { results := [.lit (.bool false)], args := [d1, d2, d3, d4] }
  | _ => none }
def BoughPlaysWrongFalsely : Prop := boughPlaysRow.holds Try.pinned (OpenSpec.ofChange boughPlaysWrong)

/-- 'rosterlaw12.BoughRises': WHATEVER THE INPUT: true; the input reads as it did. -/
def boughRisesSpec : ChangeSpec := { name := "boughRises", fn := fun _ => fun
  | [d1, d2, d3] => { results := [.lit (.bool true)], args := [d1, d2, d3] }
  | _ => none }
def boughRisesRow : OpenClaim := { program := "ytdfkokbpidkokaa", sum := "57fdb8ac19c94a281fa3c846f4ba8aadea964c69c01ab3d5a2b4e28fb1b6e67d", func := "roster/rosterlaw12.BoughRises", spec := "boughRises", unfollowed := true, recurses := true, apart := false }
def BoughRisesSaid : Prop := boughRisesRow.holds Try.pinned (OpenSpec.ofChange boughRisesSpec)

/-- ITS FALSE NEIGHBOUR: 'it returns false'. Refute it at one input. -/
def boughRisesWrong : ChangeSpec := { name := "boughRises", fn := fun _ => fun
  | [d1, d2, d3] => { results := [.lit (.bool false)], args := [d1, d2, d3] }
  | _ => none }
def BoughRisesWrongFalsely : Prop := boughRisesRow.holds Try.pinned (OpenSpec.ofChange boughRisesWrong)

/-- 'rosterlaw12.BoughNone': WHATEVER THE INPUT: true; the input reads as it did. -/
def boughNoneSpec : ChangeSpec := { name := "boughNone", fn := fun _ => fun
  | [d1, d2] => { results := [.lit (.bool true)], args := [d1, d2] }
  | _ => none }
def boughNoneRow : OpenClaim := { program := "ytdfkokbpidkokaa", sum := "57fdb8ac19c94a281fa3c846f4ba8aadea964c69c01ab3d5a2b4e28fb1b6e67d", func := "roster/rosterlaw12.BoughNone", spec := "boughNone", unfollowed := true, recurses := true, apart := false }
def BoughNoneSaid : Prop := boughNoneRow.holds Try.pinned (OpenSpec.ofChange boughNoneSpec)

/-- ITS FALSE NEIGHBOUR: 'it returns false'. Refute it at one input. -/
def boughNoneWrong : ChangeSpec := { name := "boughNone", fn := fun _ => fun
  | [d1, d2] => { results := [.lit (.bool false)], args := [d1, d2] }
  | _ => none }
def BoughNoneWrongFalsely : Prop := boughNoneRow.holds Try.pinned (OpenSpec.ofChange boughNoneWrong)

/-- 'rosterlaw12.BoughKnown': WHATEVER THE INPUT: true; the input reads as it did. -/
def boughKnownSpec : ChangeSpec := { name := "boughKnown", fn := fun _ => fun
  | [] => { results := [.lit (.bool true)], args := [] }
  | _ => none }
def boughKnownRow : OpenClaim := { program := "ytdfkokbpidkokaa", sum := "57fdb8ac19c94a281fa3c846f4ba8aadea964c69c01ab3d5a2b4e28fb1b6e67d", func := "roster/rosterlaw12.BoughKnown", spec := "boughKnown", unfollowed := true, recurses := true, apart := false }
def BoughKnownSaid : Prop := boughKnownRow.holds Try.pinned (OpenSpec.ofChange boughKnownSpec)

/-- ITS FALSE NEIGHBOUR: 'it returns false'. Refute it at one input. -/
def boughKnownWrong : ChangeSpec := { name := "boughKnown", fn := fun _ => fun
  | [] => { results := [.lit (.bool false)], args := [] }
  | _ => none }
def BoughKnownWrongFalsely : Prop := boughKnownRow.holds Try.pinned (OpenSpec.ofChange boughKnownWrong)

/- THE SECOND FORM. 'bulk': how many values and letters a reading holds, each counted each time it is reached (what is shared counts as often as it is met; a slice's spare places count too). A statement '..UptoSaid' is the law's where the arguments, and the package variables that the reading takes, are together of bulk at most 1048576: NARROWER than '..Said'. Prove '..Said' where nothing that the law and all that it calls make is longer than what came in: it says more and counts as full. Else prove '..UptoSaid'. A law counts once. -/
mutual
def uptoBulk {H : Type} : DataW H → Nat
  | .lit (.string bytes) => bytes.length + 1
  | .lit _ => 1
  | .nil => 1
  | .ptr d => uptoBulk d + 1
  | .slice elems spare => uptoBulkAll elems + uptoBulkAll spare + 1
  | .agg parts => uptoBulkAll parts + 1
  | .iface _ d => uptoBulk d + 1
  | .map entries => uptoBulkEntries entries + 1
  | .held _ => 1
def uptoBulkAll {H : Type} : List (DataW H) → Nat
  | [] => 0
  | d :: r => uptoBulk d + uptoBulkAll r
def uptoBulkEntries {H : Type} : List (Lit × DataW H) → Nat
  | [] => 0
  | x :: r => uptoBulkEntry x + uptoBulkEntries r
def uptoBulkEntry {H : Type} : Lit × DataW H → Nat
  | (.string bytes, d) => bytes.length + uptoBulk d + 1
  | (_, d) => uptoBulk d + 1
 end
def uptoSmall : (H : Type) → List (DataW H) → Bool := fun _ ds => decide (uptoBulkAll ds ≤ 1048576)
def OpenSpec.upto (s : _root_.Go.ChangeSpec) : _root_.Go.OpenSpec := { _root_.Go.OpenSpec.ofChange s with cond := some uptoSmall }

/-- 'rosterlaw12.BoughTexts', WHERE WHAT IT READS IS OF BULK AT MOST 1048576: true; the input reads as it did. -/
def boughTextsUptoRow : OpenClaim := { program := "ytdfkokbpidkokaa", sum := "57fdb8ac19c94a281fa3c846f4ba8aadea964c69c01ab3d5a2b4e28fb1b6e67d", func := "roster/rosterlaw12.BoughTexts", spec := "boughTexts", unfollowed := true, recurses := true, apart := false, narrowed := true }
def BoughTextsUptoSaid : Prop := boughTextsUptoRow.holds Try.pinned (OpenSpec.upto boughTextsSpec)

/-- 'rosterlaw12.BoughPlays', WHERE WHAT IT READS IS OF BULK AT MOST 1048576: true; the input reads as it did. -/
def boughPlaysUptoRow : OpenClaim := { program := "ytdfkokbpidkokaa", sum := "57fdb8ac19c94a281fa3c846f4ba8aadea964c69c01ab3d5a2b4e28fb1b6e67d", func := "roster/rosterlaw12.BoughPlays", spec := "boughPlays", unfollowed := true, recurses := true, apart := false, narrowed := true }
def BoughPlaysUptoSaid : Prop := boughPlaysUptoRow.holds Try.pinned (OpenSpec.upto boughPlaysSpec)

/-- 'rosterlaw12.BoughRises', WHERE WHAT IT READS IS OF BULK AT MOST 1048576: true; the input reads as it did. -/
def boughRisesUptoRow : OpenClaim := { program := "ytdfkokbpidkokaa", sum := "57fdb8ac19c94a281fa3c846f4ba8aadea964c69c01ab3d5a2b4e28fb1b6e67d", func := "roster/rosterlaw12.BoughRises", spec := "boughRises", unfollowed := true, recurses := true, apart := false, narrowed := true }
def BoughRisesUptoSaid : Prop := boughRisesUptoRow.holds Try.pinned (OpenSpec.upto boughRisesSpec)

/-- 'rosterlaw12.BoughNone', WHERE WHAT IT READS IS OF BULK AT MOST 1048576: true; the input reads as it did. -/
def boughNoneUptoRow : OpenClaim := { program := "ytdfkokbpidkokaa", sum := "57fdb8ac19c94a281fa3c846f4ba8aadea964c69c01ab3d5a2b4e28fb1b6e67d", func := "roster/rosterlaw12.BoughNone", spec := "boughNone", unfollowed := true, recurses := true, apart := false, narrowed := true }
def BoughNoneUptoSaid : Prop := boughNoneUptoRow.holds Try.pinned (OpenSpec.upto boughNoneSpec)

/-- 'rosterlaw12.BoughKnown', WHERE WHAT IT READS IS OF BULK AT MOST 1048576: true; the input reads as it did. -/
def boughKnownUptoRow : OpenClaim := { program := "ytdfkokbpidkokaa", sum := "57fdb8ac19c94a281fa3c846f4ba8aadea964c69c01ab3d5a2b4e28fb1b6e67d", func := "roster/rosterlaw12.BoughKnown", spec := "boughKnown", unfollowed := true, recurses := true, apart := false, narrowed := true }
def BoughKnownUptoSaid : Prop := boughKnownUptoRow.holds Try.pinned (OpenSpec.upto boughKnownSpec)

end Rows
end Go.Proofs.Ytdfkokbpidkokaa
