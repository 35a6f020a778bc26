/-
  No cell of these rows narrows 'for every input' (looked for: loops, veiled, ifaces, maps, wideKeys, modest, calm, conditions, laid).
  DERIVED. THE GIVEN ROWS OF THIS SEAT. 6 by the template 'for every input the law returns true; each argument reads behind the call as it read before'; 0 by the template 'total and deterministic' (their statements: YtekcokbpgpeepaaTotals.lean).
  GIVEN WITH THE SEED: the statements are not yours to turn. If you find one false, say at which input.
  Laid BY PROGRAM, IN A SANDBOX (cutbox-rows.mjs): the forced cells as the released guide's own fill.sh prints them over the translation bb67eb7a3c7ca37f… (all of the seat's roots in one cut). By AI agents, Wed Nov 11 2026. No macro, syntax, notation, axiom, sorry.
-/
import Derived.Test.YtekcokbpgpeepaaChecked
import GoSem.Claim
import GoSem.ClaimJoined
import GoSem.ClaimMapViews
import Derived.JoinedTies
import Derived.KernelRfl
namespace Go.Proofs.Ytekcokbpgpeepaa
/- THE CELL 'sum', in the pinned program and in every row, IS THE sha256 OF THE DUMP (.gsa) THAT YtekcokbpgpeepaaProg.lean LOADS. Nothing in Lean hashes anything: it is a label: what it is worth is what the hold of that sum in a sandbox is worth. -/
noncomputable def Try.pinned : Pinned := { name := "ytekcokbpgpeepaa", sum := "bb67eb7a3c7ca37f37331f88778f2abb3906d85269559136d3ad27f5cbf641c9", checked := Try.checked }
namespace Rows
def none {H : Type} : Left H := { results := [], args := [] }

/-- 'escapementlaw05.ConfBytes': WHATEVER THE INPUT: true; the input reads as it did. -/
def confBytesSpec : ChangeSpec := { name := "confBytes", fn := fun _ => fun
  | [d] => { results := [.lit (.bool true)], args := [d] }
  | _ => none }
def confBytesRow : OpenClaim := { program := "ytekcokbpgpeepaa", sum := "bb67eb7a3c7ca37f37331f88778f2abb3906d85269559136d3ad27f5cbf641c9", func := "escapement/escapementlaw05.ConfBytes", spec := "confBytes", unfollowed := true, recurses := true, apart := false }
def ConfBytesSaid : Prop := confBytesRow.holds Try.pinned (OpenSpec.ofChange confBytesSpec)

/-- ITS FALSE NEIGHBOUR: 'it returns false'. Refute it at one input. -/
def confBytesWrong : ChangeSpec := { name := "confBytes", fn := fun _ => fun
  | [d] => { results := [.lit (.bool false)], args := [d] }
  | _ => none }
def ConfBytesWrongFalsely : Prop := confBytesRow.holds Try.pinned (OpenSpec.ofChange confBytesWrong)

/-- 'escapementlaw05.ConfParses': WHATEVER THE INPUT: true; the input reads as it did. -/
def confParsesSpec : ChangeSpec := { name := "confParses", fn := fun _ => fun
  | [d] => { results := [.lit (.bool true)], args := [d] }
  | _ => none }
def confParsesRow : OpenClaim := { program := "ytekcokbpgpeepaa", sum := "bb67eb7a3c7ca37f37331f88778f2abb3906d85269559136d3ad27f5cbf641c9", func := "escapement/escapementlaw05.ConfParses", spec := "confParses", unfollowed := true, recurses := true, apart := false }
def ConfParsesSaid : Prop := confParsesRow.holds Try.pinned (OpenSpec.ofChange confParsesSpec)

/-- ITS FALSE NEIGHBOUR: 'it returns false'. Refute it at one input. -/
def confParsesWrong : ChangeSpec := { name := "confParses", fn := fun _ => fun
  | [d] => { results := [.lit (.bool false)], args := [d] }
  | _ => none }
def ConfParsesWrongFalsely : Prop := confParsesRow.holds Try.pinned (OpenSpec.ofChange confParsesWrong)

/-- 'escapementlaw05.ConfBack': WHATEVER THE INPUT: true; the input reads as it did. -/
def confBackSpec : ChangeSpec := { name := "confBack", fn := fun _ => fun
  | [d] => { results := [.lit (.bool true)], args := [d] }
  | _ => none }
def confBackRow : OpenClaim := { program := "ytekcokbpgpeepaa", sum := "bb67eb7a3c7ca37f37331f88778f2abb3906d85269559136d3ad27f5cbf641c9", func := "escapement/escapementlaw05.ConfBack", spec := "confBack", unfollowed := true, recurses := true, apart := false }
def ConfBackSaid : Prop := confBackRow.holds Try.pinned (OpenSpec.ofChange confBackSpec)

/-- ITS FALSE NEIGHBOUR: 'it returns false'. Refute it at one input. -/
def confBackWrong : ChangeSpec := { name := "confBack", fn := fun _ => fun
  | [d] => { results := [.lit (.bool false)], args := [d] }
  | _ => none }
def ConfBackWrongFalsely : Prop := confBackRow.holds Try.pinned (OpenSpec.ofChange confBackWrong)

/-- 'escapementlaw05.ConfAgain': WHATEVER THE INPUT: true; the input reads as it did. -/
def confAgainSpec : ChangeSpec := { name := "confAgain", fn := fun _ => fun
  | [d] => { results := [.lit (.bool true)], args := [d] }
  | _ => none }
def confAgainRow : OpenClaim := { program := "ytekcokbpgpeepaa", sum := "bb67eb7a3c7ca37f37331f88778f2abb3906d85269559136d3ad27f5cbf641c9", func := "escapement/escapementlaw05.ConfAgain", spec := "confAgain", unfollowed := true, recurses := true, apart := false }
def ConfAgainSaid : Prop := confAgainRow.holds Try.pinned (OpenSpec.ofChange confAgainSpec)

/-- ITS FALSE NEIGHBOUR: 'it returns false'. Refute it at one input. -/
def confAgainWrong : ChangeSpec := { name := "confAgain", fn := fun _ => fun
  | [d] => { results := [.lit (.bool false)], args := [d] }
  | _ => none }
def ConfAgainWrongFalsely : Prop := confAgainRow.holds Try.pinned (OpenSpec.ofChange confAgainWrong)

/-- 'escapementlaw05.ConfCut': WHATEVER THE INPUT: true; the input reads as it did. -/
def confCutSpec : ChangeSpec := { name := "confCut", fn := fun _ => fun
  | [d1, d2, d3] => { results := [.lit (.bool true)], args := [d1, d2, d3] }
  | _ => none }
def confCutRow : OpenClaim := { program := "ytekcokbpgpeepaa", sum := "bb67eb7a3c7ca37f37331f88778f2abb3906d85269559136d3ad27f5cbf641c9", func := "escapement/escapementlaw05.ConfCut", spec := "confCut", unfollowed := true, recurses := true, apart := false }
def ConfCutSaid : Prop := confCutRow.holds Try.pinned (OpenSpec.ofChange confCutSpec)

/-- ITS FALSE NEIGHBOUR: 'it returns false'. Refute it at one input. -/
def confCutWrong : ChangeSpec := { name := "confCut", fn := fun _ => fun
  | [d1, d2, d3] => { results := [.lit (.bool false)], args := [d1, d2, d3] }
  | _ => none }
def ConfCutWrongFalsely : Prop := confCutRow.holds Try.pinned (OpenSpec.ofChange confCutWrong)

/-- 'escapementlaw05.ConfKnown': WHATEVER THE INPUT: true; the input reads as it did. -/
def confKnownSpec : ChangeSpec := { name := "confKnown", fn := fun _ => fun
  | [] => { results := [.lit (.bool true)], args := [] }
  | _ => none }
def confKnownRow : OpenClaim := { program := "ytekcokbpgpeepaa", sum := "bb67eb7a3c7ca37f37331f88778f2abb3906d85269559136d3ad27f5cbf641c9", func := "escapement/escapementlaw05.ConfKnown", spec := "confKnown", unfollowed := true, recurses := true, apart := false }
def ConfKnownSaid : Prop := confKnownRow.holds Try.pinned (OpenSpec.ofChange confKnownSpec)

/-- ITS FALSE NEIGHBOUR: 'it returns false'. Refute it at one input. -/
def confKnownWrong : ChangeSpec := { name := "confKnown", fn := fun _ => fun
  | [] => { results := [.lit (.bool false)], args := [] }
  | _ => none }
def ConfKnownWrongFalsely : Prop := confKnownRow.holds Try.pinned (OpenSpec.ofChange confKnownWrong)

/- THE SECOND FORM. 'bulk': how many values and letters a reading holds, each counted each time it is reached (what is shared counts as often as it is met; a slice's spare places count too). A statement '..UptoSaid' is the law's where the arguments, and the package variables that the reading takes, are together of bulk at most 1048576: NARROWER than '..Said'. Prove '..Said' where nothing that the law and all that it calls make is longer than what came in: it says more and counts as full. Else prove '..UptoSaid'. A law counts once. -/
mutual
def uptoBulk {H : Type} : DataW H → Nat
  | .lit (.string bytes) => bytes.length + 1
  | .lit _ => 1
  | .nil => 1
  | .ptr d => uptoBulk d + 1
  | .slice elems spare => uptoBulkAll elems + uptoBulkAll spare + 1
  | .agg parts => uptoBulkAll parts + 1
  | .iface _ d => uptoBulk d + 1
  | .map entries => uptoBulkEntries entries + 1
  | .held _ => 1
def uptoBulkAll {H : Type} : List (DataW H) → Nat
  | [] => 0
  | d :: r => uptoBulk d + uptoBulkAll r
def uptoBulkEntries {H : Type} : List (Lit × DataW H) → Nat
  | [] => 0
  | x :: r => uptoBulkEntry x + uptoBulkEntries r
def uptoBulkEntry {H : Type} : Lit × DataW H → Nat
  | (.string bytes, d) => bytes.length + uptoBulk d + 1
  | (_, d) => uptoBulk d + 1
 end
def uptoSmall : (H : Type) → List (DataW H) → Bool := fun _ ds => decide (uptoBulkAll ds ≤ 1048576)
def OpenSpec.upto (s : _root_.Go.ChangeSpec) : _root_.Go.OpenSpec := { _root_.Go.OpenSpec.ofChange s with cond := some uptoSmall }

/-- 'escapementlaw05.ConfBytes', WHERE WHAT IT READS IS OF BULK AT MOST 1048576: true; the input reads as it did. -/
def confBytesUptoRow : OpenClaim := { program := "ytekcokbpgpeepaa", sum := "bb67eb7a3c7ca37f37331f88778f2abb3906d85269559136d3ad27f5cbf641c9", func := "escapement/escapementlaw05.ConfBytes", spec := "confBytes", unfollowed := true, recurses := true, apart := false, narrowed := true }
def ConfBytesUptoSaid : Prop := confBytesUptoRow.holds Try.pinned (OpenSpec.upto confBytesSpec)

/-- 'escapementlaw05.ConfParses', WHERE WHAT IT READS IS OF BULK AT MOST 1048576: true; the input reads as it did. -/
def confParsesUptoRow : OpenClaim := { program := "ytekcokbpgpeepaa", sum := "bb67eb7a3c7ca37f37331f88778f2abb3906d85269559136d3ad27f5cbf641c9", func := "escapement/escapementlaw05.ConfParses", spec := "confParses", unfollowed := true, recurses := true, apart := false, narrowed := true }
def ConfParsesUptoSaid : Prop := confParsesUptoRow.holds Try.pinned (OpenSpec.upto confParsesSpec)

/-- 'escapementlaw05.ConfBack', WHERE WHAT IT READS IS OF BULK AT MOST 1048576: true; the input reads as it did. -/
def confBackUptoRow : OpenClaim := { program := "ytekcokbpgpeepaa", sum := "bb67eb7a3c7ca37f37331f88778f2abb3906d85269559136d3ad27f5cbf641c9", func := "escapement/escapementlaw05.ConfBack", spec := "confBack", unfollowed := true, recurses := true, apart := false, narrowed := true }
def ConfBackUptoSaid : Prop := confBackUptoRow.holds Try.pinned (OpenSpec.upto confBackSpec)

/-- 'escapementlaw05.ConfAgain', WHERE WHAT IT READS IS OF BULK AT MOST 1048576: true; the input reads as it did. -/
def confAgainUptoRow : OpenClaim := { program := "ytekcokbpgpeepaa", sum := "bb67eb7a3c7ca37f37331f88778f2abb3906d85269559136d3ad27f5cbf641c9", func := "escapement/escapementlaw05.ConfAgain", spec := "confAgain", unfollowed := true, recurses := true, apart := false, narrowed := true }
def ConfAgainUptoSaid : Prop := confAgainUptoRow.holds Try.pinned (OpenSpec.upto confAgainSpec)

/-- 'escapementlaw05.ConfCut', WHERE WHAT IT READS IS OF BULK AT MOST 1048576: true; the input reads as it did. -/
def confCutUptoRow : OpenClaim := { program := "ytekcokbpgpeepaa", sum := "bb67eb7a3c7ca37f37331f88778f2abb3906d85269559136d3ad27f5cbf641c9", func := "escapement/escapementlaw05.ConfCut", spec := "confCut", unfollowed := true, recurses := true, apart := false, narrowed := true }
def ConfCutUptoSaid : Prop := confCutUptoRow.holds Try.pinned (OpenSpec.upto confCutSpec)

/-- 'escapementlaw05.ConfKnown', WHERE WHAT IT READS IS OF BULK AT MOST 1048576: true; the input reads as it did. -/
def confKnownUptoRow : OpenClaim := { program := "ytekcokbpgpeepaa", sum := "bb67eb7a3c7ca37f37331f88778f2abb3906d85269559136d3ad27f5cbf641c9", func := "escapement/escapementlaw05.ConfKnown", spec := "confKnown", unfollowed := true, recurses := true, apart := false, narrowed := true }
def ConfKnownUptoSaid : Prop := confKnownUptoRow.holds Try.pinned (OpenSpec.upto confKnownSpec)

end Rows
end Go.Proofs.Ytekcokbpgpeepaa
