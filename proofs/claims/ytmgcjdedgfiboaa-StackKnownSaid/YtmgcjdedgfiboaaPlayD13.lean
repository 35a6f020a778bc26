/- StackPlays. -/
import Derived.Test.YtmgcjdedgfiboaaPlayB13
import Derived.Test.YtmgcjdedgfiboaaPlayC13
namespace Go.Proofs.Ytmgcjdedgfiboaa
open Go.RowKit

theorem plays_law_c (A : Option Addr) (n1 c : Nat) (D : Nat → Nat → Int) (A2 : Option Addr) (n2 c2 : Nat) (D2 : Nat → Nat → Int) (w : World) (hc : n1 ≤ c) (hl : n1 ≤ 140737488355328) (hn2 : n2 ≤ 1152921504606846976) (h : TasksAt w A n1 D) (hA : A = none → c = 0) (hD : DosAt w A2 n2 D2) :
    Calls Try.prog 4 #[.slice A n1 c, .slice A2 n2 c2] w fun e w' => e = .returned (.bool true) ∧ Below w.heap.size w w' := by
  by_cases h4 : min n1 6 ≤ 4
  · exact plays_ok A n1 c D A2 n2 c2 D2 w hc hl hn2 h hA hD h4
  · exact plays_bad A n1 c D A2 n2 c2 D2 w hc hl hn2 h hA hD (by omega)
end Go.Proofs.Ytmgcjdedgfiboaa
