/- ActChecks, walked. -/
import Derived.Test.YtcbmcengccealaaWorks
import Derived.Test.YtcbmcengccealaaActC2
namespace Go.Proofs.Ytcbmcengccealaa
set_option linter.unusedVariables false
open Go.RowKit

theorem optail (w : World) (x : OpV) : OpAt (w.alloc (.cells #[.int .i64 x.k, .int .i64 x.n, .string x.s] 23)) w.heap.size 0 x := by
  have hb := Blk.new w 23 #[.int .i64 x.k, .int .i64 x.n, .string x.s]
  exact ⟨(hb.cell 0).trans rfl, (hb.cell 1).trans rfl, (hb.cell 2).trans rfl⟩
set_option maxHeartbeats 1600000 in
theorem checks_c (x : OpV) (w : World) :
    Calls Try.prog 3 #[.agg #[.int .i64 x.k, .int .i64 x.n, .string x.s]] w fun e w' => e = .returned (.bool true) ∧ Below w.heap.size w w' := by
  have HX := Lib.hid (optail w x)
  have HB : Hid (Below w.heap.size w (w.alloc (.cells #[.int .i64 x.k, .int .i64 x.n, .string x.s] 23))) := (Below.refl _ _).alloc (Nat.le_refl _) _
  have hb : w.heap.size < (w.alloc (.cells #[.int .i64 x.k, .int .i64 x.n, .string x.s] 23)).heap.size := by simp
  go_enter Try.func3, Try.ntmps3
  go_wp2_with fail
  generalize w.alloc (.cells #[.int .i64 x.k, .int .i64 x.n, .string x.s] 23) = w0 at *
  have hC : Below w0.heap.size w0 w0.drew := ((Below.refl _ _).drew)
  have H0 : Hid (w0.cell? ⟨w.heap.size, 0, none⟩ = some (.int .i64 x.k)) := HX.out.1
  have H1 : Hid (w0.cell? ⟨w.heap.size, 1, none⟩ = some (.int .i64 x.n)) := HX.out.2.1
  have H2 : Hid (w0.cell? ⟨w.heap.size, 2, none⟩ = some (.string x.s)) := HX.out.2.2
  have e0 := (hC.cell (p := ⟨w.heap.size, 0, none⟩) hb).trans H0.out
  have e1 := (hC.cell (p := ⟨w.heap.size, 1, none⟩) hb).trans H1.out
  have e2 := (hC.cell (p := ⟨w.heap.size, 2, none⟩) hb).trans H2.out
  go_region_held3 (fun w' => w'.cell? ⟨w.heap.size, 0, none⟩ = some (.int .i64 x.k) ∧ w'.cell? ⟨w.heap.size, 1, none⟩ = some (.int .i64 x.n) ∧ w'.cell? ⟨w.heap.size, 2, none⟩ = some (.string x.s)) (go_keep)
    (first
      | (go_at_call 8; with_reducible refine (lift (a := w0) (check_a x _) hC).mono ?_; clear hC e0 e1 e2; rintro e w1 ⟨rfl, hC⟩; have e0 := (hC.cell (p := ⟨w.heap.size, 0, none⟩) hb).trans H0.out; have e1 := (hC.cell (p := ⟨w.heap.size, 1, none⟩) hb).trans H1.out; have e2 := (hC.cell (p := ⟨w.heap.size, 2, none⟩) hb).trans H2.out)
      | (go_at_call 9; with_reducible refine (lift (a := w0) (check_b x _) hC).mono ?_; clear hC e0 e1 e2; rintro e w1 ⟨rfl, hC⟩; have e0 := (hC.cell (p := ⟨w.heap.size, 0, none⟩) hb).trans H0.out; have e1 := (hC.cell (p := ⟨w.heap.size, 1, none⟩) hb).trans H1.out; have e2 := (hC.cell (p := ⟨w.heap.size, 2, none⟩) hb).trans H2.out)
      | (go_at_call 10; with_reducible refine (lift (a := w0) (works_c _) hC).mono ?_; clear hC e0 e1 e2; rintro e w1 ⟨rfl, hC⟩; have e0 := (hC.cell (p := ⟨w.heap.size, 0, none⟩) hb).trans H0.out; have e1 := (hC.cell (p := ⟨w.heap.size, 1, none⟩) hb).trans H1.out; have e2 := (hC.cell (p := ⟨w.heap.size, 2, none⟩) hb).trans H2.out))
  go_wp2
  go_ret
  exact ⟨rfl, below_lift HB.out hC HB.out.size⟩
end Go.Proofs.Ytcbmcengccealaa
