/-
  No cell of these rows narrows 'for every input' (looked for: loops, veiled, ifaces, maps, wideKeys, modest, calm, conditions, laid).
  DERIVED. THE GIVEN ROWS OF THIS SEAT. 5 by the template 'for every input the law returns true; each argument reads behind the call as it read before'; 0 by the template 'total and deterministic' (their statements: YtamhpmlfgmmbiaaTotals.lean).
  GIVEN WITH THE SEED: the statements are not yours to turn. If you find one false, say at which input.
  Laid BY PROGRAM, IN A SANDBOX (cutbox-rows.mjs): the forced cells as the released guide's own fill.sh prints them over the translation 0c51fe64b8b5595b… (all of the seat's roots in one cut). By AI agents, Wed Nov 11 2026. No macro, syntax, notation, axiom, sorry.
-/
import Derived.Test.YtamhpmlfgmmbiaaChecked
import GoSem.Claim
import GoSem.ClaimJoined
import GoSem.ClaimMapViews
import Derived.JoinedTies
import Derived.KernelRfl
namespace Go.Proofs.Ytamhpmlfgmmbiaa
/- THE CELL 'sum', in the pinned program and in every row, IS THE sha256 OF THE DUMP (.gsa) THAT YtamhpmlfgmmbiaaProg.lean LOADS. Nothing in Lean hashes anything: it is a label: what it is worth is what the hold of that sum in a sandbox is worth. -/
noncomputable def Try.pinned : Pinned := { name := "ytamhpmlfgmmbiaa", sum := "0c51fe64b8b5595b66f95e67ebe6c64084fe28a7a7161d0f6eb3699a439926c5", checked := Try.checked }
namespace Rows
def none {H : Type} : Left H := { results := [], args := [] }

/-- 'escapementlaw06.LevelTells': WHATEVER THE INPUT: true; the input reads as it did. -/
def levelTellsSpec : ChangeSpec := { name := "levelTells", fn := fun _ => fun
  | [d1, d2, d3] => { results := [.lit (.bool true)], args := [d1, d2, d3] }
  | _ => none }
def levelTellsRow : OpenClaim := { program := "ytamhpmlfgmmbiaa", sum := "0c51fe64b8b5595b66f95e67ebe6c64084fe28a7a7161d0f6eb3699a439926c5", func := "escapement/escapementlaw06.LevelTells", spec := "levelTells", unfollowed := true, recurses := true, apart := false }
def LevelTellsSaid : Prop := levelTellsRow.holds Try.pinned (OpenSpec.ofChange levelTellsSpec)

/-- ITS FALSE NEIGHBOUR: 'it returns false'. Refute it at one input. -/
def levelTellsWrong : ChangeSpec := { name := "levelTells", fn := fun _ => fun
  | [d1, d2, d3] => { results := [.lit (.bool false)], args := [d1, d2, d3] }
  | _ => none }
def LevelTellsWrongFalsely : Prop := levelTellsRow.holds Try.pinned (OpenSpec.ofChange levelTellsWrong)

/-- 'escapementlaw06.LevelHighest': WHATEVER THE INPUT: true; the input reads as it did. -/
def levelHighestSpec : ChangeSpec := { name := "levelHighest", fn := fun _ => fun
  | [d1, d2] => { results := [.lit (.bool true)], args := [d1, d2] }
  | _ => none }
def levelHighestRow : OpenClaim := { program := "ytamhpmlfgmmbiaa", sum := "0c51fe64b8b5595b66f95e67ebe6c64084fe28a7a7161d0f6eb3699a439926c5", func := "escapement/escapementlaw06.LevelHighest", spec := "levelHighest", unfollowed := true, recurses := true, apart := false }
def LevelHighestSaid : Prop := levelHighestRow.holds Try.pinned (OpenSpec.ofChange levelHighestSpec)

/-- ITS FALSE NEIGHBOUR: 'it returns false'. Refute it at one input. -/
def levelHighestWrong : ChangeSpec := { name := "levelHighest", fn := fun _ => fun
  | [d1, d2] => { results := [.lit (.bool false)], args := [d1, d2] }
  | _ => none }
def LevelHighestWrongFalsely : Prop := levelHighestRow.holds Try.pinned (OpenSpec.ofChange levelHighestWrong)

/-- 'escapementlaw06.LevelOrder': WHATEVER THE INPUT: true; the input reads as it did. -/
def levelOrderSpec : ChangeSpec := { name := "levelOrder", fn := fun _ => fun
  | [d1, d2, d3] => { results := [.lit (.bool true)], args := [d1, d2, d3] }
  | _ => none }
def levelOrderRow : OpenClaim := { program := "ytamhpmlfgmmbiaa", sum := "0c51fe64b8b5595b66f95e67ebe6c64084fe28a7a7161d0f6eb3699a439926c5", func := "escapement/escapementlaw06.LevelOrder", spec := "levelOrder", unfollowed := true, recurses := true, apart := false }
def LevelOrderSaid : Prop := levelOrderRow.holds Try.pinned (OpenSpec.ofChange levelOrderSpec)

/-- ITS FALSE NEIGHBOUR: 'it returns false'. Refute it at one input. -/
def levelOrderWrong : ChangeSpec := { name := "levelOrder", fn := fun _ => fun
  | [d1, d2, d3] => { results := [.lit (.bool false)], args := [d1, d2, d3] }
  | _ => none }
def LevelOrderWrongFalsely : Prop := levelOrderRow.holds Try.pinned (OpenSpec.ofChange levelOrderWrong)

/-- 'escapementlaw06.LevelCeilings': WHATEVER THE INPUT: true; the input reads as it did. -/
def levelCeilingsSpec : ChangeSpec := { name := "levelCeilings", fn := fun _ => fun
  | [d1, d2] => { results := [.lit (.bool true)], args := [d1, d2] }
  | _ => none }
def levelCeilingsRow : OpenClaim := { program := "ytamhpmlfgmmbiaa", sum := "0c51fe64b8b5595b66f95e67ebe6c64084fe28a7a7161d0f6eb3699a439926c5", func := "escapement/escapementlaw06.LevelCeilings", spec := "levelCeilings", unfollowed := true, recurses := true, apart := false }
def LevelCeilingsSaid : Prop := levelCeilingsRow.holds Try.pinned (OpenSpec.ofChange levelCeilingsSpec)

/-- ITS FALSE NEIGHBOUR: 'it returns false'. Refute it at one input. -/
def levelCeilingsWrong : ChangeSpec := { name := "levelCeilings", fn := fun _ => fun
  | [d1, d2] => { results := [.lit (.bool false)], args := [d1, d2] }
  | _ => none }
def LevelCeilingsWrongFalsely : Prop := levelCeilingsRow.holds Try.pinned (OpenSpec.ofChange levelCeilingsWrong)

/-- 'escapementlaw06.LevelKnown': WHATEVER THE INPUT: true; the input reads as it did. -/
def levelKnownSpec : ChangeSpec := { name := "levelKnown", fn := fun _ => fun
  | [] => { results := [.lit (.bool true)], args := [] }
  | _ => none }
def levelKnownRow : OpenClaim := { program := "ytamhpmlfgmmbiaa", sum := "0c51fe64b8b5595b66f95e67ebe6c64084fe28a7a7161d0f6eb3699a439926c5", func := "escapement/escapementlaw06.LevelKnown", spec := "levelKnown", unfollowed := true, recurses := true, apart := false }
def LevelKnownSaid : Prop := levelKnownRow.holds Try.pinned (OpenSpec.ofChange levelKnownSpec)

/-- ITS FALSE NEIGHBOUR: 'it returns false'. Refute it at one input. -/
def levelKnownWrong : ChangeSpec := { name := "levelKnown", fn := fun _ => fun
  | [] => { results := [.lit (.bool false)], args := [] }
  | _ => none }
def LevelKnownWrongFalsely : Prop := levelKnownRow.holds Try.pinned (OpenSpec.ofChange levelKnownWrong)

/- THE SECOND FORM. 'bulk': how many values and letters a reading holds, each counted each time it is reached (what is shared counts as often as it is met; a slice's spare places count too). A statement '..UptoSaid' is the law's where the arguments, and the package variables that the reading takes, are together of bulk at most 1048576: NARROWER than '..Said'. Prove '..Said' where nothing that the law and all that it calls make is longer than what came in: it says more and counts as full. Else prove '..UptoSaid'. A law counts once. -/
mutual
def uptoBulk {H : Type} : DataW H → Nat
  | .lit (.string bytes) => bytes.length + 1
  | .lit _ => 1
  | .nil => 1
  | .ptr d => uptoBulk d + 1
  | .slice elems spare => uptoBulkAll elems + uptoBulkAll spare + 1
  | .agg parts => uptoBulkAll parts + 1
  | .iface _ d => uptoBulk d + 1
  | .map entries => uptoBulkEntries entries + 1
  | .held _ => 1
def uptoBulkAll {H : Type} : List (DataW H) → Nat
  | [] => 0
  | d :: r => uptoBulk d + uptoBulkAll r
def uptoBulkEntries {H : Type} : List (Lit × DataW H) → Nat
  | [] => 0
  | x :: r => uptoBulkEntry x + uptoBulkEntries r
def uptoBulkEntry {H : Type} : Lit × DataW H → Nat
  | (.string bytes, d) => bytes.length + uptoBulk d + 1
  | (_, d) => uptoBulk d + 1
 end
def uptoSmall : (H : Type) → List (DataW H) → Bool := fun _ ds => decide (uptoBulkAll ds ≤ 1048576)
def OpenSpec.upto (s : _root_.Go.ChangeSpec) : _root_.Go.OpenSpec := { _root_.Go.OpenSpec.ofChange s with cond := some uptoSmall }

/-- 'escapementlaw06.LevelTells', WHERE WHAT IT READS IS OF BULK AT MOST 1048576: true; the input reads as it did. -/
def levelTellsUptoRow : OpenClaim := { program := "ytamhpmlfgmmbiaa", sum := "0c51fe64b8b5595b66f95e67ebe6c64084fe28a7a7161d0f6eb3699a439926c5", func := "escapement/escapementlaw06.LevelTells", spec := "levelTells", unfollowed := true, recurses := true, apart := false, narrowed := true }
def LevelTellsUptoSaid : Prop := levelTellsUptoRow.holds Try.pinned (OpenSpec.upto levelTellsSpec)

/-- 'escapementlaw06.LevelHighest', WHERE WHAT IT READS IS OF BULK AT MOST 1048576: true; the input reads as it did. -/
def levelHighestUptoRow : OpenClaim := { program := "ytamhpmlfgmmbiaa", sum := "0c51fe64b8b5595b66f95e67ebe6c64084fe28a7a7161d0f6eb3699a439926c5", func := "escapement/escapementlaw06.LevelHighest", spec := "levelHighest", unfollowed := true, recurses := true, apart := false, narrowed := true }
def LevelHighestUptoSaid : Prop := levelHighestUptoRow.holds Try.pinned (OpenSpec.upto levelHighestSpec)

/-- 'escapementlaw06.LevelOrder', WHERE WHAT IT READS IS OF BULK AT MOST 1048576: true; the input reads as it did. -/
def levelOrderUptoRow : OpenClaim := { program := "ytamhpmlfgmmbiaa", sum := "0c51fe64b8b5595b66f95e67ebe6c64084fe28a7a7161d0f6eb3699a439926c5", func := "escapement/escapementlaw06.LevelOrder", spec := "levelOrder", unfollowed := true, recurses := true, apart := false, narrowed := true }
def LevelOrderUptoSaid : Prop := levelOrderUptoRow.holds Try.pinned (OpenSpec.upto levelOrderSpec)

/-- 'escapementlaw06.LevelCeilings', WHERE WHAT IT READS IS OF BULK AT MOST 1048576: true; the input reads as it did. -/
def levelCeilingsUptoRow : OpenClaim := { program := "ytamhpmlfgmmbiaa", sum := "0c51fe64b8b5595b66f95e67ebe6c64084fe28a7a7161d0f6eb3699a439926c5", func := "escapement/escapementlaw06.LevelCeilings", spec := "levelCeilings", unfollowed := true, recurses := true, apart := false, narrowed := true }
def LevelCeilingsUptoSaid : Prop := levelCeilingsUptoRow.holds Try.pinned (OpenSpec.upto levelCeilingsSpec)

/-- 'escapementlaw06.LevelKnown', WHERE WHAT IT READS IS OF BULK AT MOST 1048576: true; the input reads as it did. -/
def levelKnownUptoRow : OpenClaim := { program := "ytamhpmlfgmmbiaa", sum := "0c51fe64b8b5595b66f95e67ebe6c64084fe28a7a7161d0f6eb3699a439926c5", func := "escapement/escapementlaw06.LevelKnown", spec := "levelKnown", unfollowed := true, recurses := true, apart := false, narrowed := true }
def LevelKnownUptoSaid : Prop := levelKnownUptoRow.holds Try.pinned (OpenSpec.upto levelKnownSpec)

end Rows
end Go.Proofs.Ytamhpmlfgmmbiaa
