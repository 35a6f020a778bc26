/- escapementref16.Check. -/
import Derived.Test.YtomadlopljfcmaaActC
namespace Go.Proofs.Ytomadlopljfcmaa
set_option linter.unusedVariables false
open Go.RowKit

set_option maxHeartbeats 1600000 in
theorem check_b (x : OpV) (w : World) :
    Calls Try.prog 54 #[.agg #[.int .i64 x.k, .int .i64 x.n, .string x.s]] w fun e w' => e = .returned (.int .i64 (checkE x)) ∧ Below w.heap.size w w' := by
  go_enter Try.func54, Try.ntmps54
  go_wp2_with fail
  go_quiet (fail)
  go_wp2
  all_goals go_ret
  all_goals refine ⟨ret_int ?_, below_drewN ((Below.refl _ _).alloc (Nat.le_refl _) _) _⟩
  all_goals rw [checkE_if]
  all_goals try have hs1 := size_nonempty x.s ‹_›
  all_goals try have hs2 := size_empty x.s ‹_›
  all_goals simp only [beq_iff_eq, beq_eq_false_iff_ne, ne_eq, Bool.not_eq_true', Bool.not_eq_false', decide_eq_false_iff_not, decide_eq_true_eq] at *
  all_goals first
    | (refine (if_pos ?_).symm; omega)
    | (refine (if_neg ?_).symm; omega)
end Go.Proofs.Ytomadlopljfcmaa
