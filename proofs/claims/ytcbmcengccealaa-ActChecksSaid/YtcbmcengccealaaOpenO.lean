/- An argument that is an act; one that is a slice of acts; one that is a slice of truths. -/
import Derived.Test.YtcbmcengccealaaLift
import Derived.Test.YtcbmcengccealaaRowB
import Derived.Lib.SmallJoins
import Derived.Deep.Grids
namespace Go.Proofs.Ytcbmcengccealaa
set_option linter.unusedVariables false
open Go.RowKit Go.ChangeShapes Go.WideShapes Go.ChangeAt Go.Deep

theorem ops_cells : Try.prog.cellsOf 23 = 3 := by kernel_rfl
theorem ops_bytes : Try.prog.bytesOf 23 = 32 := by kernel_rfl
theorem open_op {H : Type} {enc : TypeId × Value → H} {W : World} {base : Nat} {v : Value} {d : DataW H} {p : List MemPlace} (hv : Value.okWide Try.prog W .any base 23 v)
    (h : DataW.Trod enc Try.prog W 0 (fun _ => true) true 23 v d p) :
    ∃ x : OpV, v = .agg #[.int .i64 x.k, .int .i64 x.n, .string x.s] ∧ (Lit.int .i64 x.k).wf = true ∧ (Lit.int .i64 x.n).wf = true := by
  obtain ⟨v0, v1, v2, y0, y1, y2, n, rfl, _, _, h0, h1, h2⟩ := Joins.open_agg3 Try.underlying23 (by kernel_rfl) ops_cells hv h
  obtain ⟨k, hk, _, wk⟩ := DataW.trod_int Try.underlying3 h0
  obtain ⟨z, hz, _, wz⟩ := DataW.trod_int Try.underlying3 h1
  obtain ⟨s, hs, _⟩ := DataW.trod_string Try.underlying9 h2
  simp only [List.cons.injEq, and_true] at hk hz hs
  subst hk hz hs
  exact ⟨⟨k, z, s⟩, rfl, wk, wz⟩
end Go.Proofs.Ytcbmcengccealaa
