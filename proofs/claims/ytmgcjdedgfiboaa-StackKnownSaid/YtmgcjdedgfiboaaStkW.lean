/- works, of layer 13. -/
import Derived.Test.YtmgcjdedgfiboaaStkX
namespace Go.Proofs.Ytmgcjdedgfiboaa
set_option linter.unusedVariables false
open Go.RowKit

theorem w13_0 {B s : Nat} {w0 w : World} (h : StX B w s 3 chD []) (hB : Below B w0 w) : Calls Try.prog 10 #[.pointer (some ⟨s, 0, none⟩), .int .i64 1, .int .i64 1] w fun e w' => e = .returned (.int .i64 0) ∧ StX B w' s 3 chD [(1, 1)] ∧ Below B w0 w' := lock_x h hB (by decide) (by decide +kernel) (by decide +kernel)
theorem w13_1 {B s : Nat} {w0 w : World} (h : StX B w s 3 chD [(1, 1)]) (hB : Below B w0 w) : Calls Try.prog 15 #[.pointer (some ⟨s, 0, none⟩)] w fun e w' => e = .returned (.int .i64 1) ∧ StX B w' s 3 chD [(1, 1)] ∧ Below B w0 w' := ceil_x h hB (by decide +kernel)
theorem w13_2 {B s : Nat} {w0 w : World} (h : StX B w s 3 chD [(1, 1)]) (hB : Below B w0 w) : Calls Try.prog 10 #[.pointer (some ⟨s, 0, none⟩), .int .i64 1, .int .i64 0] w fun e w' => e = .returned (.int .i64 0) ∧ StX B w' s 3 chD [(1, 1), (1, 0)] ∧ Below B w0 w' := lock_x h hB (by decide) (by decide +kernel) (by decide +kernel)
theorem w13_3 {B s : Nat} {w0 w : World} (h : StX B w s 3 chD [(1, 1), (1, 0)]) (hB : Below B w0 w) : Calls Try.prog 15 #[.pointer (some ⟨s, 0, none⟩)] w fun e w' => e = .returned (.int .i64 3) ∧ StX B w' s 3 chD [(1, 1), (1, 0)] ∧ Below B w0 w' := ceil_x h hB (by decide +kernel)
theorem w13_4 {B s : Nat} {w0 w : World} (h : StX B w s 3 chD [(1, 1), (1, 0)]) (hB : Below B w0 w) : Calls Try.prog 13 #[.pointer (some ⟨s, 0, none⟩), .int .i64 1] w fun e w' => ∃ A c, e = .returned (.slice A 2 c) ∧ 2 ≤ c ∧ IntsR w' A [1, 0] ∧ OwnI w' w.heap.size (.slice A 2 c) [1, 0] ∧ (A = none → c = 0) ∧ StX B w' s 3 chD [(1, 1), (1, 0)] ∧ Below B w0 w' ∧ Below w.heap.size w w' := held_x h hB (by decide +kernel) rfl
theorem w13_5 {B s c : Nat} {A : Option Addr} {w0 w : World} (h : StX B w s 3 chD [(1, 1), (1, 0)]) (hB : Below B w0 w) (hR : IntsR w A [1, 0]) : Calls Try.prog 23 #[.slice A 2 c, .slice (some ⟨w.heap.size, 0, none⟩) 2 2] (w.alloc (.cells #[.int .i64 1, .int .i64 0] 3)) fun e w' => e = .returned (.bool true) ∧ StX B w' s 3 chD [(1, 1), (1, 0)] ∧ Below B w0 w' := eqlast_x (L := [1, 0]) (M := [1, 0]) h hB hR rfl rfl rfl (by decide) (by decide)
theorem w13_6 {B s : Nat} {w0 w : World} (h : StX B w s 3 chD [(1, 1), (1, 0)]) (hB : Below B w0 w) : Calls Try.prog 16 #[.pointer (some ⟨s, 0, none⟩)] w fun e w' => e = .returned (.tuple #[.int .i64 1, .bool true]) ∧ StX B w' s 3 chD [(1, 1), (1, 0)] ∧ Below B w0 w' := top_x h hB (by decide +kernel) (by decide +kernel)
theorem w13_7 {B s : Nat} {w0 w : World} (h : StX B w s 3 chD [(1, 1), (1, 0)]) (hB : Below B w0 w) : Calls Try.prog 10 #[.pointer (some ⟨s, 0, none⟩), .int .i64 0, .int .i64 0] w fun e w' => e = .returned (.int .i64 131) ∧ StX B w' s 3 chD [(1, 1), (1, 0)] ∧ Below B w0 w' := lock_x h hB (by decide) (by decide +kernel) (by decide +kernel)
theorem w13_8 {B s : Nat} {w0 w : World} (h : StX B w s 3 chD [(1, 1), (1, 0)]) (hB : Below B w0 w) : Calls Try.prog 10 #[.pointer (some ⟨s, 0, none⟩), .int .i64 2, .int .i64 0] w fun e w' => e = .returned (.int .i64 133) ∧ StX B w' s 3 chD [(1, 1), (1, 0)] ∧ Below B w0 w' := lock_x h hB (by decide) (by decide +kernel) (by decide +kernel)
theorem w13_9 {B s : Nat} {w0 w : World} (h : StX B w s 3 chD [(1, 1), (1, 0)]) (hB : Below B w0 w) : Calls Try.prog 10 #[.pointer (some ⟨s, 0, none⟩), .int .i64 3, .int .i64 0] w fun e w' => e = .returned (.int .i64 9) ∧ StX B w' s 3 chD [(1, 1), (1, 0)] ∧ Below B w0 w' := lock_x h hB (by decide) (by decide +kernel) (by decide +kernel)
theorem w13_10 {B s : Nat} {w0 w : World} (h : StX B w s 3 chD [(1, 1), (1, 0)]) (hB : Below B w0 w) : Calls Try.prog 11 #[.pointer (some ⟨s, 0, none⟩), .int .i64 1] w fun e w' => e = .returned (.tuple #[.int .i64 0, .int .i64 0]) ∧ StX B w' s 3 chD [(1, 1)] ∧ Below B w0 w' := unlock_x h hB fun _ _ _ hq => unl_val (n := 3) (E := [(1, 1), (1, 0)]) (t := 1) (by decide) (k := 1) (x := (1, 0)) rfl rfl (by simp) hq
theorem w13_11 {B s : Nat} {w0 w : World} (h : StX B w s 3 chD [(1, 1)]) (hB : Below B w0 w) : Calls Try.prog 11 #[.pointer (some ⟨s, 0, none⟩), .int .i64 1] w fun e w' => e = .returned (.tuple #[.int .i64 1, .int .i64 0]) ∧ StX B w' s 3 chD [] ∧ Below B w0 w' := unlock_x h hB fun _ _ _ hq => unl_val (n := 3) (E := [(1, 1)]) (t := 1) (by decide) (k := 0) (x := (1, 1)) rfl rfl (by simp) hq
theorem w13_12 {B s : Nat} {w0 w : World} (h : StX B w s 3 chD []) (hB : Below B w0 w) : Calls Try.prog 11 #[.pointer (some ⟨s, 0, none⟩), .int .i64 1] w fun e w' => e = .returned (.tuple #[.int .i64 0, .int .i64 132]) ∧ StX B w' s 3 chD [] ∧ Below B w0 w' := unlock_x h hB fun _ _ _ hq => unl_none (by decide) (by simp) hq
theorem w13_13 {B s : Nat} {w0 w : World} (h : StX B w s 3 chD []) (hB : Below B w0 w) : Calls Try.prog 16 #[.pointer (some ⟨s, 0, none⟩)] w fun e w' => e = .returned (.tuple #[.int .i64 0, .bool false]) ∧ StX B w' s 3 chD [] ∧ Below B w0 w' := top_x h hB (by decide +kernel) (by decide +kernel)
theorem stx_of {B B' s n tc : Nat} {w : World} {TA : Option Addr} {D : Nat → Nat → Int} {v : Value} {E : List Ent} (h : StA B' w s TA n tc D v E) (hB : B ≤ B') : StX B w s n D E :=
  ⟨TA, tc, v, h.blk, Nat.le_trans hB h.sB, h.own.mono hB, h.len, h.n4, h.tasks, fun a ha => by
    obtain ⟨cs, h1, h2⟩ := h.tb a ha
    exact ⟨cs, Nat.le_trans hB h1, h2⟩⟩
set_option maxRecDepth 20000 in
set_option maxHeartbeats 800000 in
theorem works_c (w : World) : Calls Try.prog 18 #[] w fun e w' => e = .returned (.bool true) ∧ Below w.heap.size w w' := by
  go_enter Try.func18, Try.ntmps18
  go_wp2_with (first
    | (go_at_call 16; with_reducible refine (w13_13 h15 hB15).mono ?_; rintro e w16 ⟨rfl, h16, hB16⟩)
    | (go_at_call 11; with_reducible refine (w13_12 h14 hB14).mono ?_; rintro e w15 ⟨rfl, h15, hB15⟩)
    | (go_at_call 11; with_reducible refine (w13_11 h13 hB13).mono ?_; rintro e w14 ⟨rfl, h14, hB14⟩)
    | (go_at_call 11; with_reducible refine (w13_10 h12 hB12).mono ?_; rintro e w13 ⟨rfl, h13, hB13⟩)
    | (go_at_call 10; with_reducible refine (w13_9 h11 hB11).mono ?_; rintro e w12 ⟨rfl, h12, hB12⟩)
    | (go_at_call 10; with_reducible refine (w13_8 h10 hB10).mono ?_; rintro e w11 ⟨rfl, h11, hB11⟩)
    | (go_at_call 10; with_reducible refine (w13_7 h9 hB9).mono ?_; rintro e w10 ⟨rfl, h10, hB10⟩)
    | (go_at_call 16; with_reducible refine (w13_6 h8 hB8).mono ?_; rintro e w9 ⟨rfl, h9, hB9⟩)
    | (go_at_call 23; with_reducible refine (w13_5 h7 hB7 hR4).mono ?_; rintro e w8 ⟨rfl, h8, hB8⟩)
    | (go_at_call 13; with_reducible refine (w13_4 h6 hB6).mono ?_; rintro e w7 ⟨A4, c4, rfl, hc4, hR4, _, _, h7, hB7, _⟩)
    | (go_at_call 15; with_reducible refine (w13_3 h5 hB5).mono ?_; rintro e w6 ⟨rfl, h6, hB6⟩)
    | (go_at_call 10; with_reducible refine (w13_2 h4 hB4).mono ?_; rintro e w5 ⟨rfl, h5, hB5⟩)
    | (go_at_call 15; with_reducible refine (w13_1 h3 hB3).mono ?_; rintro e w4 ⟨rfl, h4, hB4⟩)
    | (go_at_call 10; with_reducible refine (w13_0 h2 hB2).mono ?_; rintro e w3 ⟨rfl, h3, hB3⟩)
    | (go_at_call 8; with_reducible refine (snew_ok _ 3 3 chD _ (by omega) ht).mono ?_; rintro e w2 ⟨s, TA, tc, rfl, hS, hb2⟩; have h2 := stx_of hS hB1.size; have hB2 := below_lift hB1 hb2 hB1.size)
    | (go_at_call 34; with_reducible refine (chapter_c w).mono ?_; rintro e w1 ⟨b, rfl, ht, hB1⟩))
  go_ret
  exact ⟨by simp, hB16⟩
end Go.Proofs.Ytmgcjdedgfiboaa
