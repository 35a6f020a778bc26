/-
  No cell of these rows narrows 'for every input' (looked for: loops, veiled, ifaces, maps, wideKeys, modest, calm, conditions, laid).
  DERIVED. THE GIVEN ROWS OF THIS SEAT. 3 by the template 'for every input the law returns true; each argument reads behind the call as it read before'; 0 by the template 'total and deterministic' (their statements: YtomadlopljfcmaaTotals.lean).
  GIVEN WITH THE SEED: the statements are not yours to turn. If you find one false, say at which input.
  Laid BY PROGRAM, IN A SANDBOX (cutbox-rows.mjs): the forced cells as the released guide's own fill.sh prints them over the translation a3bda8d1339131b0… (all of the seat's roots in one cut). By AI agents, Wed Nov 11 2026. No macro, syntax, notation, axiom, sorry.
-/
import Derived.Test.YtomadlopljfcmaaChecked
import GoSem.Claim
import GoSem.ClaimJoined
import GoSem.ClaimMapViews
import Derived.JoinedTies
import Derived.KernelRfl
namespace Go.Proofs.Ytomadlopljfcmaa
/- THE CELL 'sum', in the pinned program and in every row, IS THE sha256 OF THE DUMP (.gsa) THAT YtomadlopljfcmaaProg.lean LOADS. Nothing in Lean hashes anything: it is a label: what it is worth is what the hold of that sum in a sandbox is worth. -/
noncomputable def Try.pinned : Pinned := { name := "ytomadlopljfcmaa", sum := "a3bda8d1339131b0472f173fea530d12fce03cb14c83cf25d7c00cd6b4f70f16", checked := Try.checked }
namespace Rows
def none {H : Type} : Left H := { results := [], args := [] }

/-- 'escapementlaw17.JobNames': WHATEVER THE INPUT: true; the input reads as it did. -/
def jobNamesSpec : ChangeSpec := { name := "jobNames", fn := fun _ => fun
  | [] => { results := [.lit (.bool true)], args := [] }
  | _ => none }
def jobNamesRow : OpenClaim := { program := "ytomadlopljfcmaa", sum := "a3bda8d1339131b0472f173fea530d12fce03cb14c83cf25d7c00cd6b4f70f16", func := "escapement/escapementlaw17.JobNames", spec := "jobNames", unfollowed := true, recurses := true, apart := false }
def JobNamesSaid : Prop := jobNamesRow.holds Try.pinned (OpenSpec.ofChange jobNamesSpec)

/-- ITS FALSE NEIGHBOUR: 'it returns false'. Refute it at one input. -/
def jobNamesWrong : ChangeSpec := { name := "jobNames", fn := fun _ => fun
  | [] => { results := [.lit (.bool false)], args := [] }
  | _ => none }
def JobNamesWrongFalsely : Prop := jobNamesRow.holds Try.pinned (OpenSpec.ofChange jobNamesWrong)

/-- 'escapementlaw17.JobBound': WHATEVER THE INPUT: true; the input reads as it did. -/
def jobBoundSpec : ChangeSpec := { name := "jobBound", fn := fun _ => fun
  | [d1, d2, d3] => { results := [.lit (.bool true)], args := [d1, d2, d3] }
  | _ => none }
def jobBoundRow : OpenClaim := { program := "ytomadlopljfcmaa", sum := "a3bda8d1339131b0472f173fea530d12fce03cb14c83cf25d7c00cd6b4f70f16", func := "escapement/escapementlaw17.JobBound", spec := "jobBound", unfollowed := true, recurses := true, apart := false }
def JobBoundSaid : Prop := jobBoundRow.holds Try.pinned (OpenSpec.ofChange jobBoundSpec)

/-- ITS FALSE NEIGHBOUR: 'it returns false'. Refute it at one input. -/
def jobBoundWrong : ChangeSpec := { name := "jobBound", fn := fun _ => fun
  | [d1, d2, d3] => { results := [.lit (.bool false)], args := [d1, d2, d3] }
  | _ => none }
def JobBoundWrongFalsely : Prop := jobBoundRow.holds Try.pinned (OpenSpec.ofChange jobBoundWrong)

/-- 'escapementlaw17.JobPlays': WHATEVER THE INPUT: true; the input reads as it did. -/
def jobPlaysSpec : ChangeSpec := { name := "jobPlays", fn := fun _ => fun
  | [d1, d2, d3] => { results := [.lit (.bool true)], args := [d1, d2, d3] }
  | _ => none }
def jobPlaysRow : OpenClaim := { program := "ytomadlopljfcmaa", sum := "a3bda8d1339131b0472f173fea530d12fce03cb14c83cf25d7c00cd6b4f70f16", func := "escapement/escapementlaw17.JobPlays", spec := "jobPlays", unfollowed := true, recurses := true, apart := false }
def JobPlaysSaid : Prop := jobPlaysRow.holds Try.pinned (OpenSpec.ofChange jobPlaysSpec)

/-- ITS FALSE NEIGHBOUR: 'it returns false'. Refute it at one input. -/
def jobPlaysWrong : ChangeSpec := { name := "jobPlays", fn := fun _ => fun
  | [d1, d2, d3] => { results := [.lit (.bool false)], args := [d1, d2, d3] }
  | _ => none }
def JobPlaysWrongFalsely : Prop := jobPlaysRow.holds Try.pinned (OpenSpec.ofChange jobPlaysWrong)

/- THE SECOND FORM. 'bulk': how many values and letters a reading holds, each counted each time it is reached (what is shared counts as often as it is met; a slice's spare places count too). A statement '..UptoSaid' is the law's where the arguments, and the package variables that the reading takes, are together of bulk at most 1048576: NARROWER than '..Said'. Prove '..Said' where nothing that the law and all that it calls make is longer than what came in: it says more and counts as full. Else prove '..UptoSaid'. A law counts once. -/
mutual
def uptoBulk {H : Type} : DataW H → Nat
  | .lit (.string bytes) => bytes.length + 1
  | .lit _ => 1
  | .nil => 1
  | .ptr d => uptoBulk d + 1
  | .slice elems spare => uptoBulkAll elems + uptoBulkAll spare + 1
  | .agg parts => uptoBulkAll parts + 1
  | .iface _ d => uptoBulk d + 1
  | .map entries => uptoBulkEntries entries + 1
  | .held _ => 1
def uptoBulkAll {H : Type} : List (DataW H) → Nat
  | [] => 0
  | d :: r => uptoBulk d + uptoBulkAll r
def uptoBulkEntries {H : Type} : List (Lit × DataW H) → Nat
  | [] => 0
  | x :: r => uptoBulkEntry x + uptoBulkEntries r
def uptoBulkEntry {H : Type} : Lit × DataW H → Nat
  | (.string bytes, d) => bytes.length + uptoBulk d + 1
  | (_, d) => uptoBulk d + 1
 end
def uptoSmall : (H : Type) → List (DataW H) → Bool := fun _ ds => decide (uptoBulkAll ds ≤ 1048576)
def OpenSpec.upto (s : _root_.Go.ChangeSpec) : _root_.Go.OpenSpec := { _root_.Go.OpenSpec.ofChange s with cond := some uptoSmall }

/-- 'escapementlaw17.JobNames', WHERE WHAT IT READS IS OF BULK AT MOST 1048576: true; the input reads as it did. -/
def jobNamesUptoRow : OpenClaim := { program := "ytomadlopljfcmaa", sum := "a3bda8d1339131b0472f173fea530d12fce03cb14c83cf25d7c00cd6b4f70f16", func := "escapement/escapementlaw17.JobNames", spec := "jobNames", unfollowed := true, recurses := true, apart := false, narrowed := true }
def JobNamesUptoSaid : Prop := jobNamesUptoRow.holds Try.pinned (OpenSpec.upto jobNamesSpec)

/-- 'escapementlaw17.JobBound', WHERE WHAT IT READS IS OF BULK AT MOST 1048576: true; the input reads as it did. -/
def jobBoundUptoRow : OpenClaim := { program := "ytomadlopljfcmaa", sum := "a3bda8d1339131b0472f173fea530d12fce03cb14c83cf25d7c00cd6b4f70f16", func := "escapement/escapementlaw17.JobBound", spec := "jobBound", unfollowed := true, recurses := true, apart := false, narrowed := true }
def JobBoundUptoSaid : Prop := jobBoundUptoRow.holds Try.pinned (OpenSpec.upto jobBoundSpec)

/-- 'escapementlaw17.JobPlays', WHERE WHAT IT READS IS OF BULK AT MOST 1048576: true; the input reads as it did. -/
def jobPlaysUptoRow : OpenClaim := { program := "ytomadlopljfcmaa", sum := "a3bda8d1339131b0472f173fea530d12fce03cb14c83cf25d7c00cd6b4f70f16", func := "escapement/escapementlaw17.JobPlays", spec := "jobPlays", unfollowed := true, recurses := true, apart := false, narrowed := true }
def JobPlaysUptoSaid : Prop := jobPlaysUptoRow.holds Try.pinned (OpenSpec.upto jobPlaysSpec)

end Rows
end Go.Proofs.Ytomadlopljfcmaa
