/-
  No cell of these rows narrows 'for every input' (looked for: loops, veiled, ifaces, maps, wideKeys, modest, calm, conditions, laid).
  DERIVED. THE GIVEN ROWS OF THIS SEAT. 4 by the template 'for every input the law returns true; each argument reads behind the call as it read before'; 0 by the template 'total and deterministic' (their statements: YtligkfaldaoocaaTotals.lean).
  GIVEN WITH THE SEED: the statements are not yours to turn. If you find one false, say at which input.
  Laid BY PROGRAM, IN A SANDBOX (cutbox-rows.mjs): the forced cells as the released guide's own fill.sh prints them over the translation b49c77d7c3d175ae… (all of the seat's roots in one cut). By AI agents, Wed Nov 11 2026. No macro, syntax, notation, axiom, sorry.
-/
import Derived.Test.YtligkfaldaoocaaChecked
import GoSem.Claim
import GoSem.ClaimJoined
import GoSem.ClaimMapViews
import Derived.JoinedTies
import Derived.KernelRfl
namespace Go.Proofs.Ytligkfaldaoocaa
/- THE CELL 'sum', in the pinned program and in every row, IS THE sha256 OF THE DUMP (.gsa) THAT YtligkfaldaoocaaProg.lean LOADS. Nothing in Lean hashes anything: it is a label: what it is worth is what the hold of that sum in a sandbox is worth. -/
noncomputable def Try.pinned : Pinned := { name := "ytligkfaldaoocaa", sum := "b49c77d7c3d175aeb28563aca456258f1b68ec156b26223eea940ed4fb898c93", checked := Try.checked }
namespace Rows
def none {H : Type} : Left H := { results := [], args := [] }

/-- 'escapementlaw21.ClaimPlays': WHATEVER THE INPUT: true; the input reads as it did. -/
def claimPlaysSpec : ChangeSpec := { name := "claimPlays", fn := fun _ => fun
  | [d] => { results := [.lit (.bool true)], args := [d] }
  | _ => none }
def claimPlaysRow : OpenClaim := { program := "ytligkfaldaoocaa", sum := "b49c77d7c3d175aeb28563aca456258f1b68ec156b26223eea940ed4fb898c93", func := "escapement/escapementlaw21.ClaimPlays", spec := "claimPlays", unfollowed := true, recurses := true, apart := false }
def ClaimPlaysSaid : Prop := claimPlaysRow.holds Try.pinned (OpenSpec.ofChange claimPlaysSpec)

/-- ITS FALSE NEIGHBOUR: 'it returns false'. Refute it at one input. -/
def claimPlaysWrong : ChangeSpec := { name := "claimPlays", fn := fun _ => fun
  | [d] => { results := [.lit (.bool false)], args := [d] }
  | _ => none }
def ClaimPlaysWrongFalsely : Prop := claimPlaysRow.holds Try.pinned (OpenSpec.ofChange claimPlaysWrong)

/-- 'escapementlaw21.ClaimOne': WHATEVER THE INPUT: true; the input reads as it did. -/
def claimOneSpec : ChangeSpec := { name := "claimOne", fn := fun _ => fun
  | [d] => { results := [.lit (.bool true)], args := [d] }
  | _ => none }
def claimOneRow : OpenClaim := { program := "ytligkfaldaoocaa", sum := "b49c77d7c3d175aeb28563aca456258f1b68ec156b26223eea940ed4fb898c93", func := "escapement/escapementlaw21.ClaimOne", spec := "claimOne", unfollowed := true, recurses := true, apart := false }
def ClaimOneSaid : Prop := claimOneRow.holds Try.pinned (OpenSpec.ofChange claimOneSpec)

/-- ITS FALSE NEIGHBOUR: 'it returns false'. Refute it at one input. -/
def claimOneWrong : ChangeSpec := { name := "claimOne", fn := fun _ => fun
  | [d] => { results := [.lit (.bool false)], args := [d] }
  | _ => none }
def ClaimOneWrongFalsely : Prop := claimOneRow.holds Try.pinned (OpenSpec.ofChange claimOneWrong)

/-- 'escapementlaw21.ClaimTurns': WHATEVER THE INPUT: true; the input reads as it did. -/
def claimTurnsSpec : ChangeSpec := { name := "claimTurns", fn := fun _ => fun
  | [d1, d2] => { results := [.lit (.bool true)], args := [d1, d2] }
  | _ => none }
def claimTurnsRow : OpenClaim := { program := "ytligkfaldaoocaa", sum := "b49c77d7c3d175aeb28563aca456258f1b68ec156b26223eea940ed4fb898c93", func := "escapement/escapementlaw21.ClaimTurns", spec := "claimTurns", unfollowed := true, recurses := true, apart := false }
def ClaimTurnsSaid : Prop := claimTurnsRow.holds Try.pinned (OpenSpec.ofChange claimTurnsSpec)

/-- ITS FALSE NEIGHBOUR: 'it returns false'. Refute it at one input. -/
def claimTurnsWrong : ChangeSpec := { name := "claimTurns", fn := fun _ => fun
  | [d1, d2] => { results := [.lit (.bool false)], args := [d1, d2] }
  | _ => none }
def ClaimTurnsWrongFalsely : Prop := claimTurnsRow.holds Try.pinned (OpenSpec.ofChange claimTurnsWrong)

/-- 'escapementlaw21.ClaimNames': WHATEVER THE INPUT: true; the input reads as it did. -/
def claimNamesSpec : ChangeSpec := { name := "claimNames", fn := fun _ => fun
  | [] => { results := [.lit (.bool true)], args := [] }
  | _ => none }
def claimNamesRow : OpenClaim := { program := "ytligkfaldaoocaa", sum := "b49c77d7c3d175aeb28563aca456258f1b68ec156b26223eea940ed4fb898c93", func := "escapement/escapementlaw21.ClaimNames", spec := "claimNames", unfollowed := true, recurses := true, apart := false }
def ClaimNamesSaid : Prop := claimNamesRow.holds Try.pinned (OpenSpec.ofChange claimNamesSpec)

/-- ITS FALSE NEIGHBOUR: 'it returns false'. Refute it at one input. -/
def claimNamesWrong : ChangeSpec := { name := "claimNames", fn := fun _ => fun
  | [] => { results := [.lit (.bool false)], args := [] }
  | _ => none }
def ClaimNamesWrongFalsely : Prop := claimNamesRow.holds Try.pinned (OpenSpec.ofChange claimNamesWrong)

/- THE SECOND FORM. 'bulk': how many values and letters a reading holds, each counted each time it is reached (what is shared counts as often as it is met; a slice's spare places count too). A statement '..UptoSaid' is the law's where the arguments, and the package variables that the reading takes, are together of bulk at most 1048576: NARROWER than '..Said'. Prove '..Said' where nothing that the law and all that it calls make is longer than what came in: it says more and counts as full. Else prove '..UptoSaid'. A law counts once. -/
mutual
def uptoBulk {H : Type} : DataW H → Nat
  | .lit (.string bytes) => bytes.length + 1
  | .lit _ => 1
  | .nil => 1
  | .ptr d => uptoBulk d + 1
  | .slice elems spare => uptoBulkAll elems + uptoBulkAll spare + 1
  | .agg parts => uptoBulkAll parts + 1
  | .iface _ d => uptoBulk d + 1
  | .map entries => uptoBulkEntries entries + 1
  | .held _ => 1
def uptoBulkAll {H : Type} : List (DataW H) → Nat
  | [] => 0
  | d :: r => uptoBulk d + uptoBulkAll r
def uptoBulkEntries {H : Type} : List (Lit × DataW H) → Nat
  | [] => 0
  | x :: r => uptoBulkEntry x + uptoBulkEntries r
def uptoBulkEntry {H : Type} : Lit × DataW H → Nat
  | (.string bytes, d) => bytes.length + uptoBulk d + 1
  | (_, d) => uptoBulk d + 1
 end
def uptoSmall : (H : Type) → List (DataW H) → Bool := fun _ ds => decide (uptoBulkAll ds ≤ 1048576)
def OpenSpec.upto (s : _root_.Go.ChangeSpec) : _root_.Go.OpenSpec := { _root_.Go.OpenSpec.ofChange s with cond := some uptoSmall }

/-- 'escapementlaw21.ClaimPlays', WHERE WHAT IT READS IS OF BULK AT MOST 1048576: true; the input reads as it did. -/
def claimPlaysUptoRow : OpenClaim := { program := "ytligkfaldaoocaa", sum := "b49c77d7c3d175aeb28563aca456258f1b68ec156b26223eea940ed4fb898c93", func := "escapement/escapementlaw21.ClaimPlays", spec := "claimPlays", unfollowed := true, recurses := true, apart := false, narrowed := true }
def ClaimPlaysUptoSaid : Prop := claimPlaysUptoRow.holds Try.pinned (OpenSpec.upto claimPlaysSpec)

/-- 'escapementlaw21.ClaimOne', WHERE WHAT IT READS IS OF BULK AT MOST 1048576: true; the input reads as it did. -/
def claimOneUptoRow : OpenClaim := { program := "ytligkfaldaoocaa", sum := "b49c77d7c3d175aeb28563aca456258f1b68ec156b26223eea940ed4fb898c93", func := "escapement/escapementlaw21.ClaimOne", spec := "claimOne", unfollowed := true, recurses := true, apart := false, narrowed := true }
def ClaimOneUptoSaid : Prop := claimOneUptoRow.holds Try.pinned (OpenSpec.upto claimOneSpec)

/-- 'escapementlaw21.ClaimTurns', WHERE WHAT IT READS IS OF BULK AT MOST 1048576: true; the input reads as it did. -/
def claimTurnsUptoRow : OpenClaim := { program := "ytligkfaldaoocaa", sum := "b49c77d7c3d175aeb28563aca456258f1b68ec156b26223eea940ed4fb898c93", func := "escapement/escapementlaw21.ClaimTurns", spec := "claimTurns", unfollowed := true, recurses := true, apart := false, narrowed := true }
def ClaimTurnsUptoSaid : Prop := claimTurnsUptoRow.holds Try.pinned (OpenSpec.upto claimTurnsSpec)

/-- 'escapementlaw21.ClaimNames', WHERE WHAT IT READS IS OF BULK AT MOST 1048576: true; the input reads as it did. -/
def claimNamesUptoRow : OpenClaim := { program := "ytligkfaldaoocaa", sum := "b49c77d7c3d175aeb28563aca456258f1b68ec156b26223eea940ed4fb898c93", func := "escapement/escapementlaw21.ClaimNames", spec := "claimNames", unfollowed := true, recurses := true, apart := false, narrowed := true }
def ClaimNamesUptoSaid : Prop := claimNamesUptoRow.holds Try.pinned (OpenSpec.upto claimNamesSpec)

end Rows
end Go.Proofs.Ytligkfaldaoocaa
