/- works, of layer 17. -/
import Derived.Test.YtomadlopljfcmaaJobG
namespace Go.Proofs.Ytomadlopljfcmaa
set_option linter.unusedVariables false
open Go.RowKit

def tW : TV := ⟨10, 8, 3, 0, 1, 1, 2, 1⟩
theorem new_w (w w0 : World) (B : Nat) (hB : Below B w0 w) (hs : B ≤ w.heap.size) : Calls Try.prog 6 #[.agg #[.int .i64 10, .int .i64 8, .int .i64 3, .int .i64 0, .int .i64 1, .int .i64 1, .int .i64 2, .int .i64 1], .slice (some ⟨w.heap.size, 0, none⟩) 5 5, .int .i64 5] (w.alloc (.cells #[.int .i64 2, .int .i64 0, .string { data := #[] }, .int .i64 1, .int .i64 2, .string { data := #[] }, .int .i64 3, .int .i64 0, .string { data := #[] }, .int .i64 4, .int .i64 0, .string { data := #[] }, .int .i64 1, .int .i64 1, .string { data := #[] }] 29))
    fun e w' => ∃ j g b, e = .returned (.tuple #[.pointer (some ⟨j, 0, none⟩), .int .i64 0]) ∧ JobS B w' j g b ⟨tW, 13, 0, 0, 0, 0, false⟩ [op2 2 0, op2 1 2, op2 3 0, op2 4 0, op2 1 1] ∧ Below B w0 w' := by
  have h1 : OpsR (w.alloc (.cells #[.int .i64 2, .int .i64 0, .string { data := #[] }, .int .i64 1, .int .i64 2, .string { data := #[] }, .int .i64 3, .int .i64 0, .string { data := #[] }, .int .i64 4, .int .i64 0, .string { data := #[] }, .int .i64 1, .int .i64 1, .string { data := #[] }] 29)) (some ⟨w.heap.size, 0, none⟩) [op2 2 0, op2 1 2, op2 3 0, op2 4 0, op2 1 1] := opsR_new rfl
  refine (jnew_ok w.heap.size tW (some ⟨w.heap.size, 0, none⟩) 5 5 [op2 2 0, op2 1 2, op2 3 0, op2 4 0, op2 1 1] 5 w _ ((Below.refl _ _).alloc (Nat.le_refl _) _) (by simp) ⟨rfl, h1⟩ (fun h => by cases h) (by decide +kernel)).mono ?_
  rintro e w' ⟨j, g, b, k1, k2, k3⟩
  refine ⟨j, g, b, k1, ⟨k2.blk, ⟨k2.row.row, k2.row.ok, ?_, ?_, k2.row.gl, k2.row.bl⟩, ?_, k2.d⟩, below_lift (hB.alloc hs _) k3 (by simp; omega)⟩
  · have := k2.row.gB; simp at this; omega
  · have := k2.row.bB; simp at this; omega
  · have := k2.jB; simp at this; omega
theorem new_w2 (w : World) : Calls Try.prog 6 #[.agg #[.int .i64 10, .int .i64 8, .int .i64 3, .int .i64 0, .int .i64 1, .int .i64 1, .int .i64 2, .int .i64 1], .slice (some ⟨w.heap.size + 1, 0, none⟩) 5 5, .int .i64 5] ((w.alloc (.cells #[.int .i64 10, .int .i64 8, .int .i64 3, .int .i64 0, .int .i64 1, .int .i64 1, .int .i64 2, .int .i64 1] 23)).alloc (.cells #[.int .i64 2, .int .i64 0, .string { data := #[] }, .int .i64 1, .int .i64 2, .string { data := #[] }, .int .i64 3, .int .i64 0, .string { data := #[] }, .int .i64 4, .int .i64 0, .string { data := #[] }, .int .i64 1, .int .i64 1, .string { data := #[] }] 29))
    fun e w' => ∃ j g b, e = .returned (.tuple #[.pointer (some ⟨j, 0, none⟩), .int .i64 0]) ∧ JobS w.heap.size w' j g b ⟨tW, 13, 0, 0, 0, 0, false⟩ [op2 2 0, op2 1 2, op2 3 0, op2 4 0, op2 1 1] ∧ Below w.heap.size w w' := by
  have := new_w (w.alloc (.cells #[.int .i64 10, .int .i64 8, .int .i64 3, .int .i64 0, .int .i64 1, .int .i64 1, .int .i64 2, .int .i64 1] 23)) w w.heap.size ((Below.refl _ _).alloc (Nat.le_refl _) _) (by simp)
  rwa [show (w.alloc (.cells #[.int .i64 10, .int .i64 8, .int .i64 3, .int .i64 0, .int .i64 1, .int .i64 1, .int .i64 2, .int .i64 1] 23)).heap.size = w.heap.size + 1 by simp] at this
theorem w17_0 {B j g b : Nat} {w0 w : World} (h : JobS B w j g b ⟨tW, 13, 0, 0, 0, 0, false⟩ [op2 2 0, op2 1 2, op2 3 0, op2 4 0, op2 1 1]) (hB : Below B w0 w) : Calls Try.prog 13 #[.pointer (some ⟨j, 0, none⟩)] w fun e w' => e = .returned (.tuple #[.agg #[.int .i64 2, .int .i64 0, .string { data := #[] }], .bool true]) ∧ JobS B w' j g b ⟨tW, 13, 0, 0, 0, 0, false⟩ [op2 2 0, op2 1 2, op2 3 0, op2 4 0, op2 1 1] ∧ Below B w0 w' := next_v' h hB (y := op2 2 0) rfl rfl
theorem w17_1 {B j g b : Nat} {w : World} (h : JobS B w j g b ⟨tW, 13, 0, 0, 0, 0, false⟩ [op2 2 0, op2 1 2, op2 3 0, op2 4 0, op2 1 1]) : Calls Try.prog 15 #[.pointer (some ⟨j, 0, none⟩)] w fun e w' => e = .returned (.int .i64 13) ∧ w = w' := dead_v h rfl
theorem w17_2 {B j g b : Nat} {w0 w : World} (h : JobS B w j g b ⟨tW, 13, 0, 0, 0, 0, false⟩ [op2 2 0, op2 1 2, op2 3 0, op2 4 0, op2 1 1]) (hB : Below B w0 w) : Calls Try.prog 11 #[.pointer (some ⟨j, 0, none⟩), .int .i64 5] w fun e w' => e = .returned (.int .i64 0) ∧ JobS B w' j g b ⟨tW, 13, 0, 0, 0, 0, false⟩ [op2 2 0, op2 1 2, op2 3 0, op2 4 0, op2 1 1] ∧ Below B w0 w' := fault_v h hB (by decide +kernel)
theorem w17_3 {B j g b : Nat} {w0 w : World} (h : JobS B w j g b ⟨tW, 13, 0, 0, 0, 0, false⟩ [op2 2 0, op2 1 2, op2 3 0, op2 4 0, op2 1 1]) (hB : Below B w0 w) : Calls Try.prog 9 #[.pointer (some ⟨j, 0, none⟩)] w fun e w' => e = .returned (.int .i64 0) ∧ JobS B w' j g b ⟨tW, 13, 0, 0, 0, 0, true⟩ [op2 1 2, op2 3 0, op2 4 0, op2 1 1] ∧ Below B w0 w' := did_v h hB rfl rfl rfl
theorem w17_4 {B j g b : Nat} {w0 w : World} (h : JobS B w j g b ⟨tW, 13, 0, 0, 0, 0, true⟩ [op2 1 2, op2 3 0, op2 4 0, op2 1 1]) (hB : Below B w0 w) : Calls Try.prog 7 #[.pointer (some ⟨j, 0, none⟩), .int .i64 1] w fun e w' => e = .returned (.int .i64 0) ∧ JobS B w' j g b ⟨tW, 13, 0, 1, 0, 0, true⟩ [op2 1 2, op2 3 0, op2 4 0, op2 1 1] ∧ Below B w0 w' := enter_v h hB rfl rfl ⟨by decide, by decide⟩
theorem w17_5 {B j g b : Nat} {w0 w : World} (h : JobS B w j g b ⟨tW, 13, 0, 1, 0, 0, true⟩ [op2 1 2, op2 3 0, op2 4 0, op2 1 1]) (hB : Below B w0 w) : Calls Try.prog 12 #[.pointer (some ⟨j, 0, none⟩)] w fun e w' => e = .returned (.int .i64 0) ∧ JobS B w' j g b ⟨tW, 13, 1, 1, 1, 0, true⟩ [op2 1 1, op2 3 0, op2 4 0, op2 1 1] ∧ Below B w0 w' := run_v h hB rfl rfl rfl ⟨by decide, by decide⟩ ⟨by decide, by decide⟩
theorem w17_6 {B j g b : Nat} {w0 w : World} (h : JobS B w j g b ⟨tW, 13, 1, 1, 1, 0, true⟩ [op2 1 1, op2 3 0, op2 4 0, op2 1 1]) (hB : Below B w0 w) : Calls Try.prog 11 #[.pointer (some ⟨j, 0, none⟩), .int .i64 6] w fun e w' => e = .returned (.int .i64 2) ∧ JobS B w' j g b ⟨tW, 13, 1, 1, 1, 0, true⟩ [op2 1 1, op2 3 0, op2 4 0, op2 1 1] ∧ Below B w0 w' := fault_v h hB (by decide +kernel)
theorem w17_7 {B j g b : Nat} {w0 w : World} (h : JobS B w j g b ⟨tW, 13, 1, 1, 1, 0, true⟩ [op2 1 1, op2 3 0, op2 4 0, op2 1 1]) (hB : Below B w0 w) : Calls Try.prog 8 #[.pointer (some ⟨j, 0, none⟩)] w fun e w' => e = .returned (.int .i64 0) ∧ JobS B w' j g b ⟨tW, 13, 1, 0, 0, 0, true⟩ [op2 1 1, op2 3 0, op2 4 0, op2 1 1] ∧ Below B w0 w' := leave_v h hB rfl rfl
theorem w17_8 {B j g b : Nat} {w0 w : World} (h : JobS B w j g b ⟨tW, 13, 1, 0, 0, 0, true⟩ [op2 1 1, op2 3 0, op2 4 0, op2 1 1]) (hB : Below B w0 w) : Calls Try.prog 12 #[.pointer (some ⟨j, 0, none⟩)] w fun e w' => e = .returned (.int .i64 0) ∧ JobS B w' j g b ⟨tW, 13, 2, 0, 0, 0, true⟩ [op2 3 0, op2 4 0, op2 1 1] ∧ Below B w0 w' := run_v h hB rfl rfl rfl ⟨by decide, by decide⟩ ⟨by decide, by decide⟩
theorem w17_9 {B j g b : Nat} {w0 w : World} (h : JobS B w j g b ⟨tW, 13, 2, 0, 0, 0, true⟩ [op2 3 0, op2 4 0, op2 1 1]) (hB : Below B w0 w) : Calls Try.prog 9 #[.pointer (some ⟨j, 0, none⟩)] w fun e w' => e = .returned (.int .i64 0) ∧ JobS B w' j g b ⟨tW, 13, 2, 0, 0, 0, true⟩ [op2 4 0, op2 1 1] ∧ Below B w0 w' := did_v h hB rfl rfl rfl
theorem w17_10 {B j g b : Nat} {w0 w : World} (h : JobS B w j g b ⟨tW, 13, 2, 0, 0, 0, true⟩ [op2 4 0, op2 1 1]) (hB : Below B w0 w) : Calls Try.prog 13 #[.pointer (some ⟨j, 0, none⟩)] w fun e w' => e = .returned (.tuple #[.agg #[.int .i64 4, .int .i64 0, .string { data := #[] }], .bool true]) ∧ JobS B w' j g b ⟨tW, 13, 2, 0, 0, 0, true⟩ [op2 4 0, op2 1 1] ∧ Below B w0 w' := next_v' h hB (y := op2 4 0) rfl rfl
theorem w17_11 {B j g b : Nat} {w0 w : World} (h : JobS B w j g b ⟨tW, 13, 2, 0, 0, 0, true⟩ [op2 4 0, op2 1 1]) (hB : Below B w0 w) : Calls Try.prog 7 #[.pointer (some ⟨j, 0, none⟩), .int .i64 3] w fun e w' => e = .returned (.int .i64 0) ∧ JobS B w' j g b ⟨tW, 13, 2, 3, 0, 1, true⟩ [op2 4 0, op2 1 1] ∧ Below B w0 w' := enter_v h hB rfl rfl ⟨by decide, by decide⟩
theorem w17_12 {B j g b : Nat} {w0 w : World} (h : JobS B w j g b ⟨tW, 13, 2, 3, 0, 1, true⟩ [op2 4 0, op2 1 1]) (hB : Below B w0 w) : Calls Try.prog 7 #[.pointer (some ⟨j, 0, none⟩), .int .i64 2] w fun e w' => e = .returned (.int .i64 0) ∧ JobS B w' j g b ⟨tW, 13, 2, 2, 0, 1, true⟩ [op2 4 0, op2 1 1] ∧ Below B w0 w' := enter_v h hB rfl rfl ⟨by decide, by decide⟩
theorem w17_13 {B j g b : Nat} {w0 w : World} (h : JobS B w j g b ⟨tW, 13, 2, 2, 0, 1, true⟩ [op2 4 0, op2 1 1]) (hB : Below B w0 w) : Calls Try.prog 9 #[.pointer (some ⟨j, 0, none⟩)] w fun e w' => e = .returned (.int .i64 0) ∧ JobS B w' j g b ⟨tW, 13, 2, 2, 0, 1, true⟩ [op2 1 1] ∧ Below B w0 w' := did_v h hB rfl rfl rfl
theorem w17_14 {B j g b : Nat} {w0 w : World} (h : JobS B w j g b ⟨tW, 13, 2, 2, 0, 1, true⟩ [op2 1 1]) (hB : Below B w0 w) : Calls Try.prog 12 #[.pointer (some ⟨j, 0, none⟩)] w fun e w' => e = .returned (.int .i64 0) ∧ JobS B w' j g b ⟨tW, 13, 3, 2, 1, 1, true⟩ [] ∧ Below B w0 w' := run_v h hB rfl rfl rfl ⟨by decide, by decide⟩ ⟨by decide, by decide⟩
theorem w17_15 {B j g b : Nat} {w0 w : World} (h : JobS B w j g b ⟨tW, 13, 3, 2, 1, 1, true⟩ []) (hB : Below B w0 w) : Calls Try.prog 18 #[.pointer (some ⟨j, 0, none⟩)] w fun e w' => e = .returned (.bool true) ∧ JobS B w' j g b ⟨tW, 13, 3, 2, 1, 1, true⟩ [] ∧ Below B w0 w' := done_v h hB rfl
theorem w17_16 {B j g b : Nat} {w0 w : World} (h : JobS B w j g b ⟨tW, 13, 3, 2, 1, 1, true⟩ []) (hB : Below B w0 w) : Calls Try.prog 11 #[.pointer (some ⟨j, 0, none⟩), .int .i64 20] w fun e w' => e = .returned (.int .i64 0) ∧ JobS B w' j g b ⟨tW, 13, 3, 2, 1, 1, true⟩ [] ∧ Below B w0 w' := fault_v h hB (by decide +kernel)
set_option maxRecDepth 20000 in
set_option maxHeartbeats 800000 in
theorem works_c (w : World) : Calls Try.prog 19 #[] w fun e w' => e = .returned (.bool true) ∧ Below w.heap.size w w' := by
  go_enter Try.func19, Try.ntmps19
  go_wp2_with (first
    | (go_at_call 11; with_reducible refine (w17_16 h16 hB16).mono ?_; rintro e w17 ⟨rfl, h17, hB17⟩)
    | (go_at_call 18; with_reducible refine (w17_15 h15 hB15).mono ?_; rintro e w16 ⟨rfl, h16, hB16⟩)
    | (go_at_call 12; with_reducible refine (w17_14 h14 hB14).mono ?_; rintro e w15 ⟨rfl, h15, hB15⟩)
    | (go_at_call 9; with_reducible refine (w17_13 h13 hB13).mono ?_; rintro e w14 ⟨rfl, h14, hB14⟩)
    | (go_at_call 7; with_reducible refine (w17_12 h12 hB12).mono ?_; rintro e w13 ⟨rfl, h13, hB13⟩)
    | (go_at_call 7; with_reducible refine (w17_11 h11 hB11).mono ?_; rintro e w12 ⟨rfl, h12, hB12⟩)
    | (go_at_call 13; with_reducible refine (w17_10 h10 hB10).mono ?_; rintro e w11 ⟨rfl, h11', hB11'⟩; have h11 := h11'.alloc (.cells #[.int .i64 4, .int .i64 0, .string { data := #[] }] 29); have hB11 := hB11'.alloc h11'.hs (.cells #[.int .i64 4, .int .i64 0, .string { data := #[] }] 29))
    | (go_at_call 9; with_reducible refine (w17_9 h9 hB9).mono ?_; rintro e w10 ⟨rfl, h10, hB10⟩)
    | (go_at_call 12; with_reducible refine (w17_8 h8 hB8).mono ?_; rintro e w9 ⟨rfl, h9, hB9⟩)
    | (go_at_call 8; with_reducible refine (w17_7 h7 hB7).mono ?_; rintro e w8 ⟨rfl, h8, hB8⟩)
    | (go_at_call 11; with_reducible refine (w17_6 h6 hB6).mono ?_; rintro e w7 ⟨rfl, h7, hB7⟩)
    | (go_at_call 12; with_reducible refine (w17_5 h5 hB5).mono ?_; rintro e w6 ⟨rfl, h6, hB6⟩)
    | (go_at_call 7; with_reducible refine (w17_4 h4 hB4).mono ?_; rintro e w5 ⟨rfl, h5, hB5⟩)
    | (go_at_call 9; with_reducible refine (w17_3 h3 hB3).mono ?_; rintro e w4 ⟨rfl, h4, hB4⟩)
    | (go_at_call 11; with_reducible refine (w17_2 h2 hB2).mono ?_; rintro e w3 ⟨rfl, h3, hB3⟩)
    | (go_at_call 15; with_reducible refine (w17_1 h2).mono ?_; rintro e w2d ⟨rfl, rfl⟩)
    | (go_at_call 13; with_reducible refine (w17_0 h1 hB1).mono ?_; rintro e w2 ⟨rfl, h2', hB2'⟩; have h2 := h2'.alloc (.cells #[.int .i64 2, .int .i64 0, .string { data := #[] }] 29); have hB2 := hB2'.alloc h2'.hs (.cells #[.int .i64 2, .int .i64 0, .string { data := #[] }] 29))
    | (go_at_call 6; with_reducible refine (new_w2 w).mono ?_; rintro e w1 ⟨j, g, b, rfl, h1, hB1⟩))
  go_ret
  exact ⟨rfl, hB17⟩
end Go.Proofs.Ytomadlopljfcmaa
