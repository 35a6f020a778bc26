/- ActPlays, walked. -/
import Derived.Test.YtcbmcengccealaaPlaysB
namespace Go.Proofs.Ytcbmcengccealaa
set_option linter.unusedVariables false
open Go.RowKit

theorem plays_c (A : Option Addr) (n c : Nat) (L : List OpV) (A1 : Option Addr) (n1 c1 : Nat) (R : Nat → Bool) (w : World) (hl : n ≤ 140737488355328) (hc : n ≤ c) (h : n = L.length ∧ OpsR w A L) (hA : A = none → c = 0)
    (hR : BoolsAt w A1 n1 R) (hn1 : n1 ≤ 1152921504606846976) :
    Calls Try.prog 4 #[.slice A n c, .slice A1 n1 c1] w fun e w' => e = .returned (.bool true) ∧ Below w.heap.size w w' := by
  by_cases he : newE (L.take 40) = 0
  · exact plays_good A n c L A1 n1 c1 R w h.1 hl hc h.2 hA hR hn1 he
  · exact plays_bad A n c L A1 n1 c1 w h.1 hl hc h.2 hA he
end Go.Proofs.Ytcbmcengccealaa
