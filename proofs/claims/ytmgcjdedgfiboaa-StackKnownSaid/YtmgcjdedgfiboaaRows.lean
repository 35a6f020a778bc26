/-
  No cell of these rows narrows 'for every input' (looked for: loops, veiled, ifaces, maps, wideKeys, modest, calm, conditions, laid).
  DERIVED. THE GIVEN ROWS OF THIS SEAT. 4 by the template 'for every input the law returns true; each argument reads behind the call as it read before'; 0 by the template 'total and deterministic' (their statements: YtmgcjdedgfiboaaTotals.lean).
  GIVEN WITH THE SEED: the statements are not yours to turn. If you find one false, say at which input.
  Laid BY PROGRAM, IN A SANDBOX (cutbox-rows.mjs): the forced cells as the released guide's own fill.sh prints them over the translation 4ee14adae12700b9… (all of the seat's roots in one cut). By AI agents, Wed Nov 11 2026. No macro, syntax, notation, axiom, sorry.
-/
import Derived.Test.YtmgcjdedgfiboaaChecked
import GoSem.Claim
import GoSem.ClaimJoined
import GoSem.ClaimMapViews
import Derived.JoinedTies
import Derived.KernelRfl
namespace Go.Proofs.Ytmgcjdedgfiboaa
/- THE CELL 'sum', in the pinned program and in every row, IS THE sha256 OF THE DUMP (.gsa) THAT YtmgcjdedgfiboaaProg.lean LOADS. Nothing in Lean hashes anything: it is a label: what it is worth is what the hold of that sum in a sandbox is worth. -/
noncomputable def Try.pinned : Pinned := { name := "ytmgcjdedgfiboaa", sum := "4ee14adae12700b9c8479e08fec59e26bdfc8be01ce0957a9b76ba04f034e6b5", checked := Try.checked }
namespace Rows
def none {H : Type} : Left H := { results := [], args := [] }

/-- 'escapementlaw13.StackCeiling': WHATEVER THE INPUT: true; the input reads as it did. -/
def stackCeilingSpec : ChangeSpec := { name := "stackCeiling", fn := fun _ => fun
  | [d1, d2] => { results := [.lit (.bool true)], args := [d1, d2] }
  | _ => none }
def stackCeilingRow : OpenClaim := { program := "ytmgcjdedgfiboaa", sum := "4ee14adae12700b9c8479e08fec59e26bdfc8be01ce0957a9b76ba04f034e6b5", func := "escapement/escapementlaw13.StackCeiling", spec := "stackCeiling", unfollowed := true, recurses := true, apart := false }
def StackCeilingSaid : Prop := stackCeilingRow.holds Try.pinned (OpenSpec.ofChange stackCeilingSpec)

/-- ITS FALSE NEIGHBOUR: 'it returns false'. Refute it at one input. -/
def stackCeilingWrong : ChangeSpec := { name := "stackCeiling", fn := fun _ => fun
  | [d1, d2] => { results := [.lit (.bool false)], args := [d1, d2] }
  | _ => none }
def StackCeilingWrongFalsely : Prop := stackCeilingRow.holds Try.pinned (OpenSpec.ofChange stackCeilingWrong)

/-- 'escapementlaw13.StackPlays': WHATEVER THE INPUT: true; the input reads as it did. -/
def stackPlaysSpec : ChangeSpec := { name := "stackPlays", fn := fun _ => fun
  | [d1, d2] => { results := [.lit (.bool true)], args := [d1, d2] }
  | _ => none }
def stackPlaysRow : OpenClaim := { program := "ytmgcjdedgfiboaa", sum := "4ee14adae12700b9c8479e08fec59e26bdfc8be01ce0957a9b76ba04f034e6b5", func := "escapement/escapementlaw13.StackPlays", spec := "stackPlays", unfollowed := true, recurses := true, apart := false }
def StackPlaysSaid : Prop := stackPlaysRow.holds Try.pinned (OpenSpec.ofChange stackPlaysSpec)

/-- ITS FALSE NEIGHBOUR: 'it returns false'. Refute it at one input. -/
def stackPlaysWrong : ChangeSpec := { name := "stackPlays", fn := fun _ => fun
  | [d1, d2] => { results := [.lit (.bool false)], args := [d1, d2] }
  | _ => none }
def StackPlaysWrongFalsely : Prop := stackPlaysRow.holds Try.pinned (OpenSpec.ofChange stackPlaysWrong)

/-- 'escapementlaw13.StackOnce': WHATEVER THE INPUT: true; the input reads as it did. -/
def stackOnceSpec : ChangeSpec := { name := "stackOnce", fn := fun _ => fun
  | [d1, d2] => { results := [.lit (.bool true)], args := [d1, d2] }
  | _ => none }
def stackOnceRow : OpenClaim := { program := "ytmgcjdedgfiboaa", sum := "4ee14adae12700b9c8479e08fec59e26bdfc8be01ce0957a9b76ba04f034e6b5", func := "escapement/escapementlaw13.StackOnce", spec := "stackOnce", unfollowed := true, recurses := true, apart := false }
def StackOnceSaid : Prop := stackOnceRow.holds Try.pinned (OpenSpec.ofChange stackOnceSpec)

/-- ITS FALSE NEIGHBOUR: 'it returns false'. Refute it at one input. -/
def stackOnceWrong : ChangeSpec := { name := "stackOnce", fn := fun _ => fun
  | [d1, d2] => { results := [.lit (.bool false)], args := [d1, d2] }
  | _ => none }
def StackOnceWrongFalsely : Prop := stackOnceRow.holds Try.pinned (OpenSpec.ofChange stackOnceWrong)

/-- 'escapementlaw13.StackKnown': WHATEVER THE INPUT: true; the input reads as it did. -/
def stackKnownSpec : ChangeSpec := { name := "stackKnown", fn := fun _ => fun
  | [] => { results := [.lit (.bool true)], args := [] }
  | _ => none }
def stackKnownRow : OpenClaim := { program := "ytmgcjdedgfiboaa", sum := "4ee14adae12700b9c8479e08fec59e26bdfc8be01ce0957a9b76ba04f034e6b5", func := "escapement/escapementlaw13.StackKnown", spec := "stackKnown", unfollowed := true, recurses := true, apart := false }
def StackKnownSaid : Prop := stackKnownRow.holds Try.pinned (OpenSpec.ofChange stackKnownSpec)

/-- ITS FALSE NEIGHBOUR: 'it returns false'. Refute it at one input. -/
def stackKnownWrong : ChangeSpec := { name := "stackKnown", fn := fun _ => fun
  | [] => { results := [.lit (.bool false)], args := [] }
  | _ => none }
def StackKnownWrongFalsely : Prop := stackKnownRow.holds Try.pinned (OpenSpec.ofChange stackKnownWrong)

/- THE SECOND FORM. 'bulk': how many values and letters a reading holds, each counted each time it is reached (what is shared counts as often as it is met; a slice's spare places count too). A statement '..UptoSaid' is the law's where the arguments, and the package variables that the reading takes, are together of bulk at most 1048576: NARROWER than '..Said'. Prove '..Said' where nothing that the law and all that it calls make is longer than what came in: it says more and counts as full. Else prove '..UptoSaid'. A law counts once. -/
mutual
def uptoBulk {H : Type} : DataW H → Nat
  | .lit (.string bytes) => bytes.length + 1
  | .lit _ => 1
  | .nil => 1
  | .ptr d => uptoBulk d + 1
  | .slice elems spare => uptoBulkAll elems + uptoBulkAll spare + 1
  | .agg parts => uptoBulkAll parts + 1
  | .iface _ d => uptoBulk d + 1
  | .map entries => uptoBulkEntries entries + 1
  | .held _ => 1
def uptoBulkAll {H : Type} : List (DataW H) → Nat
  | [] => 0
  | d :: r => uptoBulk d + uptoBulkAll r
def uptoBulkEntries {H : Type} : List (Lit × DataW H) → Nat
  | [] => 0
  | x :: r => uptoBulkEntry x + uptoBulkEntries r
def uptoBulkEntry {H : Type} : Lit × DataW H → Nat
  | (.string bytes, d) => bytes.length + uptoBulk d + 1
  | (_, d) => uptoBulk d + 1
 end
def uptoSmall : (H : Type) → List (DataW H) → Bool := fun _ ds => decide (uptoBulkAll ds ≤ 1048576)
def OpenSpec.upto (s : _root_.Go.ChangeSpec) : _root_.Go.OpenSpec := { _root_.Go.OpenSpec.ofChange s with cond := some uptoSmall }

/-- 'escapementlaw13.StackCeiling', WHERE WHAT IT READS IS OF BULK AT MOST 1048576: true; the input reads as it did. -/
def stackCeilingUptoRow : OpenClaim := { program := "ytmgcjdedgfiboaa", sum := "4ee14adae12700b9c8479e08fec59e26bdfc8be01ce0957a9b76ba04f034e6b5", func := "escapement/escapementlaw13.StackCeiling", spec := "stackCeiling", unfollowed := true, recurses := true, apart := false, narrowed := true }
def StackCeilingUptoSaid : Prop := stackCeilingUptoRow.holds Try.pinned (OpenSpec.upto stackCeilingSpec)

/-- 'escapementlaw13.StackPlays', WHERE WHAT IT READS IS OF BULK AT MOST 1048576: true; the input reads as it did. -/
def stackPlaysUptoRow : OpenClaim := { program := "ytmgcjdedgfiboaa", sum := "4ee14adae12700b9c8479e08fec59e26bdfc8be01ce0957a9b76ba04f034e6b5", func := "escapement/escapementlaw13.StackPlays", spec := "stackPlays", unfollowed := true, recurses := true, apart := false, narrowed := true }
def StackPlaysUptoSaid : Prop := stackPlaysUptoRow.holds Try.pinned (OpenSpec.upto stackPlaysSpec)

/-- 'escapementlaw13.StackOnce', WHERE WHAT IT READS IS OF BULK AT MOST 1048576: true; the input reads as it did. -/
def stackOnceUptoRow : OpenClaim := { program := "ytmgcjdedgfiboaa", sum := "4ee14adae12700b9c8479e08fec59e26bdfc8be01ce0957a9b76ba04f034e6b5", func := "escapement/escapementlaw13.StackOnce", spec := "stackOnce", unfollowed := true, recurses := true, apart := false, narrowed := true }
def StackOnceUptoSaid : Prop := stackOnceUptoRow.holds Try.pinned (OpenSpec.upto stackOnceSpec)

/-- 'escapementlaw13.StackKnown', WHERE WHAT IT READS IS OF BULK AT MOST 1048576: true; the input reads as it did. -/
def stackKnownUptoRow : OpenClaim := { program := "ytmgcjdedgfiboaa", sum := "4ee14adae12700b9c8479e08fec59e26bdfc8be01ce0957a9b76ba04f034e6b5", func := "escapement/escapementlaw13.StackKnown", spec := "stackKnown", unfollowed := true, recurses := true, apart := false, narrowed := true }
def StackKnownUptoSaid : Prop := stackKnownUptoRow.holds Try.pinned (OpenSpec.upto stackKnownSpec)

end Rows
end Go.Proofs.Ytmgcjdedgfiboaa
