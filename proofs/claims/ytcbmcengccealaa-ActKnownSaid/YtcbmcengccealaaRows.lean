/-
  No cell of these rows narrows 'for every input' (looked for: loops, veiled, ifaces, maps, wideKeys, modest, calm, conditions, laid).
  DERIVED. THE GIVEN ROWS OF THIS SEAT. 5 by the template 'for every input the law returns true; each argument reads behind the call as it read before'; 0 by the template 'total and deterministic' (their statements: YtcbmcengccealaaTotals.lean).
  GIVEN WITH THE SEED: the statements are not yours to turn. If you find one false, say at which input.
  Laid BY PROGRAM, IN A SANDBOX (cutbox-rows.mjs): the forced cells as the released guide's own fill.sh prints them over the translation 2d0143ba702e1e2b… (all of the seat's roots in one cut). By AI agents, Wed Nov 11 2026. No macro, syntax, notation, axiom, sorry.
-/
import Derived.Test.YtcbmcengccealaaChecked
import GoSem.Claim
import GoSem.ClaimJoined
import GoSem.ClaimMapViews
import Derived.JoinedTies
import Derived.KernelRfl
namespace Go.Proofs.Ytcbmcengccealaa
/- THE CELL 'sum', in the pinned program and in every row, IS THE sha256 OF THE DUMP (.gsa) THAT YtcbmcengccealaaProg.lean LOADS. Nothing in Lean hashes anything: it is a label: what it is worth is what the hold of that sum in a sandbox is worth. -/
noncomputable def Try.pinned : Pinned := { name := "ytcbmcengccealaa", sum := "2d0143ba702e1e2b205cb757307135b118bfd8336e400b1f3c8be6ccb446fe31", checked := Try.checked }
namespace Rows
def none {H : Type} : Left H := { results := [], args := [] }

/-- 'escapementlaw16.ActChecks': WHATEVER THE INPUT: true; the input reads as it did. -/
def actChecksSpec : ChangeSpec := { name := "actChecks", fn := fun _ => fun
  | [d] => { results := [.lit (.bool true)], args := [d] }
  | _ => none }
def actChecksRow : OpenClaim := { program := "ytcbmcengccealaa", sum := "2d0143ba702e1e2b205cb757307135b118bfd8336e400b1f3c8be6ccb446fe31", func := "escapement/escapementlaw16.ActChecks", spec := "actChecks", unfollowed := true, recurses := true, apart := false }
def ActChecksSaid : Prop := actChecksRow.holds Try.pinned (OpenSpec.ofChange actChecksSpec)

/-- ITS FALSE NEIGHBOUR: 'it returns false'. Refute it at one input. -/
def actChecksWrong : ChangeSpec := { name := "actChecks", fn := fun _ => fun
  | [d] => { results := [.lit (.bool false)], args := [d] }
  | _ => none }
def ActChecksWrongFalsely : Prop := actChecksRow.holds Try.pinned (OpenSpec.ofChange actChecksWrong)

/-- 'escapementlaw16.ActPlays': WHATEVER THE INPUT: true; the input reads as it did. -/
def actPlaysSpec : ChangeSpec := { name := "actPlays", fn := fun _ => fun
  | [d1, d2] => { results := [.lit (.bool true)], args := [d1, d2] }
  | _ => none }
def actPlaysRow : OpenClaim := { program := "ytcbmcengccealaa", sum := "2d0143ba702e1e2b205cb757307135b118bfd8336e400b1f3c8be6ccb446fe31", func := "escapement/escapementlaw16.ActPlays", spec := "actPlays", unfollowed := true, recurses := true, apart := false }
def ActPlaysSaid : Prop := actPlaysRow.holds Try.pinned (OpenSpec.ofChange actPlaysSpec)

/-- ITS FALSE NEIGHBOUR: 'it returns false'. Refute it at one input. -/
def actPlaysWrong : ChangeSpec := { name := "actPlays", fn := fun _ => fun
  | [d1, d2] => { results := [.lit (.bool false)], args := [d1, d2] }
  | _ => none }
def ActPlaysWrongFalsely : Prop := actPlaysRow.holds Try.pinned (OpenSpec.ofChange actPlaysWrong)

/-- 'escapementlaw16.ActThrough': WHATEVER THE INPUT: true; the input reads as it did. -/
def actThroughSpec : ChangeSpec := { name := "actThrough", fn := fun _ => fun
  | [d] => { results := [.lit (.bool true)], args := [d] }
  | _ => none }
def actThroughRow : OpenClaim := { program := "ytcbmcengccealaa", sum := "2d0143ba702e1e2b205cb757307135b118bfd8336e400b1f3c8be6ccb446fe31", func := "escapement/escapementlaw16.ActThrough", spec := "actThrough", unfollowed := true, recurses := true, apart := false }
def ActThroughSaid : Prop := actThroughRow.holds Try.pinned (OpenSpec.ofChange actThroughSpec)

/-- ITS FALSE NEIGHBOUR: 'it returns false'. Refute it at one input. -/
def actThroughWrong : ChangeSpec := { name := "actThrough", fn := fun _ => fun
  | [d] => { results := [.lit (.bool false)], args := [d] }
  | _ => none }
def ActThroughWrongFalsely : Prop := actThroughRow.holds Try.pinned (OpenSpec.ofChange actThroughWrong)

/-- 'escapementlaw16.ActRest': WHATEVER THE INPUT: true; the input reads as it did. -/
def actRestSpec : ChangeSpec := { name := "actRest", fn := fun _ => fun
  | [d1, d2] => { results := [.lit (.bool true)], args := [d1, d2] }
  | _ => none }
def actRestRow : OpenClaim := { program := "ytcbmcengccealaa", sum := "2d0143ba702e1e2b205cb757307135b118bfd8336e400b1f3c8be6ccb446fe31", func := "escapement/escapementlaw16.ActRest", spec := "actRest", unfollowed := true, recurses := true, apart := false }
def ActRestSaid : Prop := actRestRow.holds Try.pinned (OpenSpec.ofChange actRestSpec)

/-- ITS FALSE NEIGHBOUR: 'it returns false'. Refute it at one input. -/
def actRestWrong : ChangeSpec := { name := "actRest", fn := fun _ => fun
  | [d1, d2] => { results := [.lit (.bool false)], args := [d1, d2] }
  | _ => none }
def ActRestWrongFalsely : Prop := actRestRow.holds Try.pinned (OpenSpec.ofChange actRestWrong)

/-- 'escapementlaw16.ActKnown': WHATEVER THE INPUT: true; the input reads as it did. -/
def actKnownSpec : ChangeSpec := { name := "actKnown", fn := fun _ => fun
  | [] => { results := [.lit (.bool true)], args := [] }
  | _ => none }
def actKnownRow : OpenClaim := { program := "ytcbmcengccealaa", sum := "2d0143ba702e1e2b205cb757307135b118bfd8336e400b1f3c8be6ccb446fe31", func := "escapement/escapementlaw16.ActKnown", spec := "actKnown", unfollowed := true, recurses := true, apart := false }
def ActKnownSaid : Prop := actKnownRow.holds Try.pinned (OpenSpec.ofChange actKnownSpec)

/-- ITS FALSE NEIGHBOUR: 'it returns false'. Refute it at one input. -/
def actKnownWrong : ChangeSpec := { name := "actKnown", fn := fun _ => fun
  | [] => { results := [.lit (.bool false)], args := [] }
  | _ => none }
def ActKnownWrongFalsely : Prop := actKnownRow.holds Try.pinned (OpenSpec.ofChange actKnownWrong)

/- THE SECOND FORM. 'bulk': how many values and letters a reading holds, each counted each time it is reached (what is shared counts as often as it is met; a slice's spare places count too). A statement '..UptoSaid' is the law's where the arguments, and the package variables that the reading takes, are together of bulk at most 1048576: NARROWER than '..Said'. Prove '..Said' where nothing that the law and all that it calls make is longer than what came in: it says more and counts as full. Else prove '..UptoSaid'. A law counts once. -/
mutual
def uptoBulk {H : Type} : DataW H → Nat
  | .lit (.string bytes) => bytes.length + 1
  | .lit _ => 1
  | .nil => 1
  | .ptr d => uptoBulk d + 1
  | .slice elems spare => uptoBulkAll elems + uptoBulkAll spare + 1
  | .agg parts => uptoBulkAll parts + 1
  | .iface _ d => uptoBulk d + 1
  | .map entries => uptoBulkEntries entries + 1
  | .held _ => 1
def uptoBulkAll {H : Type} : List (DataW H) → Nat
  | [] => 0
  | d :: r => uptoBulk d + uptoBulkAll r
def uptoBulkEntries {H : Type} : List (Lit × DataW H) → Nat
  | [] => 0
  | x :: r => uptoBulkEntry x + uptoBulkEntries r
def uptoBulkEntry {H : Type} : Lit × DataW H → Nat
  | (.string bytes, d) => bytes.length + uptoBulk d + 1
  | (_, d) => uptoBulk d + 1
 end
def uptoSmall : (H : Type) → List (DataW H) → Bool := fun _ ds => decide (uptoBulkAll ds ≤ 1048576)
def OpenSpec.upto (s : _root_.Go.ChangeSpec) : _root_.Go.OpenSpec := { _root_.Go.OpenSpec.ofChange s with cond := some uptoSmall }

/-- 'escapementlaw16.ActChecks', WHERE WHAT IT READS IS OF BULK AT MOST 1048576: true; the input reads as it did. -/
def actChecksUptoRow : OpenClaim := { program := "ytcbmcengccealaa", sum := "2d0143ba702e1e2b205cb757307135b118bfd8336e400b1f3c8be6ccb446fe31", func := "escapement/escapementlaw16.ActChecks", spec := "actChecks", unfollowed := true, recurses := true, apart := false, narrowed := true }
def ActChecksUptoSaid : Prop := actChecksUptoRow.holds Try.pinned (OpenSpec.upto actChecksSpec)

/-- 'escapementlaw16.ActPlays', WHERE WHAT IT READS IS OF BULK AT MOST 1048576: true; the input reads as it did. -/
def actPlaysUptoRow : OpenClaim := { program := "ytcbmcengccealaa", sum := "2d0143ba702e1e2b205cb757307135b118bfd8336e400b1f3c8be6ccb446fe31", func := "escapement/escapementlaw16.ActPlays", spec := "actPlays", unfollowed := true, recurses := true, apart := false, narrowed := true }
def ActPlaysUptoSaid : Prop := actPlaysUptoRow.holds Try.pinned (OpenSpec.upto actPlaysSpec)

/-- 'escapementlaw16.ActThrough', WHERE WHAT IT READS IS OF BULK AT MOST 1048576: true; the input reads as it did. -/
def actThroughUptoRow : OpenClaim := { program := "ytcbmcengccealaa", sum := "2d0143ba702e1e2b205cb757307135b118bfd8336e400b1f3c8be6ccb446fe31", func := "escapement/escapementlaw16.ActThrough", spec := "actThrough", unfollowed := true, recurses := true, apart := false, narrowed := true }
def ActThroughUptoSaid : Prop := actThroughUptoRow.holds Try.pinned (OpenSpec.upto actThroughSpec)

/-- 'escapementlaw16.ActRest', WHERE WHAT IT READS IS OF BULK AT MOST 1048576: true; the input reads as it did. -/
def actRestUptoRow : OpenClaim := { program := "ytcbmcengccealaa", sum := "2d0143ba702e1e2b205cb757307135b118bfd8336e400b1f3c8be6ccb446fe31", func := "escapement/escapementlaw16.ActRest", spec := "actRest", unfollowed := true, recurses := true, apart := false, narrowed := true }
def ActRestUptoSaid : Prop := actRestUptoRow.holds Try.pinned (OpenSpec.upto actRestSpec)

/-- 'escapementlaw16.ActKnown', WHERE WHAT IT READS IS OF BULK AT MOST 1048576: true; the input reads as it did. -/
def actKnownUptoRow : OpenClaim := { program := "ytcbmcengccealaa", sum := "2d0143ba702e1e2b205cb757307135b118bfd8336e400b1f3c8be6ccb446fe31", func := "escapement/escapementlaw16.ActKnown", spec := "actKnown", unfollowed := true, recurses := true, apart := false, narrowed := true }
def ActKnownUptoSaid : Prop := actKnownUptoRow.holds Try.pinned (OpenSpec.upto actKnownSpec)

end Rows
end Go.Proofs.Ytcbmcengccealaa
