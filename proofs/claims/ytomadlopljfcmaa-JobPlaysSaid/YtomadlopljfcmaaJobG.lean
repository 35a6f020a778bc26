/- The job's contracts with their values named, for closed walks. -/
import Derived.Test.YtomadlopljfcmaaJobF
namespace Go.Proofs.Ytomadlopljfcmaa
set_option linter.unusedVariables false
open Go.RowKit

section
variable {B j g b : Nat} {x x' : JV} {L L' : List OpV} {w0 w : World} {v : Int}
theorem JobS.tri_below {w' : World} (h : JobS B w j g b x L) (hB : Below B w0 w) (k : Below w.heap.size w w') : JobS B w' j g b x L ∧ Below B w0 w' := ⟨h.below k, below_lift hB k h.hs⟩
def sm (z : Int) : Prop := -4611686018427387904 ≤ z ∧ z ≤ 4611686018427387904
theorem did_v (h : JobS B w j g b x L) (hB : Below B w0 w) (he : didE L = v) (hx : didX x L = x') (hl : didL L = L') :
    Calls Try.prog 9 #[.pointer (some ⟨j, 0, none⟩)] w fun e w' => e = .returned (.int .i64 v) ∧ JobS B w' j g b x' L' ∧ Below B w0 w' :=
  (jdid_s B j g b x L w0 w h hB).mono fun e w' ⟨k1, k2, k3, k4⟩ => ⟨by rw [k1, he], by rw [← hx, ← hl]; exact k2, k3⟩
theorem run_v (h : JobS B w j g b x L) (hB : Below B w0 w) (he : runE x L = v) (hx : runX x L = x') (hl : runL x L = L') (hr : sm x.ran) (ht : sm x.tk) :
    Calls Try.prog 12 #[.pointer (some ⟨j, 0, none⟩)] w fun e w' => e = .returned (.int .i64 v) ∧ JobS B w' j g b x' L' ∧ Below B w0 w' :=
  (jrun_s B j g b x L w0 w h hB hr ht).mono fun e w' ⟨k1, k2, k3, k4⟩ => ⟨by rw [k1, he], by rw [← hx, ← hl]; exact k2, k3⟩
theorem enter_v {s : Int} (h : JobS B w j g b x L) (hB : Below B w0 w) (he : enterE x s = v) (hx : enterX x s = x') (hk : sm x.tkn) :
    Calls Try.prog 7 #[.pointer (some ⟨j, 0, none⟩), .int .i64 s] w fun e w' => e = .returned (.int .i64 v) ∧ JobS B w' j g b x' L ∧ Below B w0 w' :=
  (jenter_s B j g b x L s w0 w h hB hk).mono fun e w' ⟨k1, k2, k3, k4⟩ => ⟨by rw [k1, he], by rw [← hx]; exact k2, k3⟩
theorem leave_v (h : JobS B w j g b x L) (hB : Below B w0 w) (he : leaveE x = v) (hx : leaveX x = x') :
    Calls Try.prog 8 #[.pointer (some ⟨j, 0, none⟩)] w fun e w' => e = .returned (.int .i64 v) ∧ JobS B w' j g b x' L ∧ Below B w0 w' :=
  (jleave_s B j g b x L w0 w h hB).mono fun e w' ⟨k1, k2, k3, k4⟩ => ⟨by rw [k1, he], by rw [← hx]; exact k2, k3⟩
theorem fault_v {now : Int} (h : JobS B w j g b x L) (hB : Below B w0 w) (he : faultE x L now = v) :
    Calls Try.prog 11 #[.pointer (some ⟨j, 0, none⟩), .int .i64 now] w fun e w' => e = .returned (.int .i64 v) ∧ JobS B w' j g b x L ∧ Below B w0 w' :=
  (fault_c B j g b x L now w h).mono fun e w' ⟨k1, k2⟩ => ⟨by rw [k1, he], h.below k2, below_lift hB k2 h.hs⟩
theorem next_v' {y : OpV} {is : Bool} (h : JobS B w j g b x L) (hB : Below B w0 w) (hy : headOf L = y) (hi : (!L.isEmpty) = is) :
    Calls Try.prog 13 #[.pointer (some ⟨j, 0, none⟩)] w fun e w' => e = .returned (.tuple #[.agg #[.int .i64 y.k, .int .i64 y.n, .string y.s], .bool is]) ∧ JobS B w' j g b x L ∧ Below B w0 w' :=
  (jnext_v h hy hi).mono fun e w' ⟨k1, k2⟩ => ⟨k1, h.below k2, below_lift hB k2 h.hs⟩
theorem done_v {is : Bool} (h : JobS B w j g b x L) (hB : Below B w0 w) (hi : L.isEmpty = is) :
    Calls Try.prog 18 #[.pointer (some ⟨j, 0, none⟩)] w fun e w' => e = .returned (.bool is) ∧ JobS B w' j g b x L ∧ Below B w0 w' :=
  (jdone_c B j g b x L w h).mono fun e w' ⟨k1, k2⟩ => ⟨by rw [k1, hi], h.below k2, below_lift hB k2 h.hs⟩
theorem dead_v (h : JobS B w j g b x L) (he : x.ends = v) :
    Calls Try.prog 15 #[.pointer (some ⟨j, 0, none⟩)] w fun e w' => e = .returned (.int .i64 v) ∧ w = w' :=
  (deadline_c j g x w h.blk).mono fun e w' ⟨k1, k2⟩ => ⟨by rw [k1, he], k2⟩
theorem begun_v {is : Bool} (h : JobS B w j g b x L) (he : x.beg = is) :
    Calls Try.prog 10 #[.pointer (some ⟨j, 0, none⟩)] w fun e w' => e = .returned (.bool is) ∧ w = w' :=
  (begun_c j g x w h.blk).mono fun e w' ⟨k1, k2⟩ => ⟨by rw [k1, he], k2⟩
end
def op2 (k n : Int) : OpV := ⟨k, n, ⟨#[]⟩⟩
end Go.Proofs.Ytomadlopljfcmaa
