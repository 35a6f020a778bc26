/- works, of layer 21. -/
import Derived.Test.YtligkfaldaoocaaClmX
namespace Go.Proofs.Ytligkfaldaoocaa
set_option linter.unusedVariables false
open Go.RowKit

def s0 : CS := noC
def s1 : CS := askC s0 0 1
theorem c21_0 {B g : Nat} {w0 w : World} (h : ClX B w g s0) (hB : Below B w0 w) : Calls Try.prog 22 #[.pointer (some ⟨g, 0, none⟩), .int .i64 0, .int .i64 1, .bool true, .int .i64 0] w fun e w' => e = .returned (.bool true) ∧ ClX B w' g s1 ∧ Below B w0 w' := asks_x h hB (by decide +kernel : ∀ k, k < 4 → (s0.l k).length < 1000000) (by decide +kernel) (by decide +kernel) rfl
def s2 : CS := askC s1 2 1
theorem c21_1 {B g : Nat} {w0 w : World} (h : ClX B w g s1) (hB : Below B w0 w) : Calls Try.prog 22 #[.pointer (some ⟨g, 0, none⟩), .int .i64 2, .int .i64 1, .bool false, .int .i64 0] w fun e w' => e = .returned (.bool true) ∧ ClX B w' g s2 ∧ Below B w0 w' := asks_x h hB (by decide +kernel : ∀ k, k < 4 → (s1.l k).length < 1000000) (by decide +kernel) (by decide +kernel) rfl
def s3 : CS := askC s2 0 1
theorem c21_2 {B g : Nat} {w0 w : World} (h : ClX B w g s2) (hB : Below B w0 w) : Calls Try.prog 22 #[.pointer (some ⟨g, 0, none⟩), .int .i64 0, .int .i64 1, .bool true, .int .i64 0] w fun e w' => e = .returned (.bool true) ∧ ClX B w' g s3 ∧ Below B w0 w' := asks_x h hB (by decide +kernel : ∀ k, k < 4 → (s2.l k).length < 1000000) (by decide +kernel) (by decide +kernel) rfl
def s4 : CS := askC s3 0 2
theorem c21_3 {B g : Nat} {w0 w : World} (h : ClX B w g s3) (hB : Below B w0 w) : Calls Try.prog 22 #[.pointer (some ⟨g, 0, none⟩), .int .i64 0, .int .i64 2, .bool false, .int .i64 250] w fun e w' => e = .returned (.bool true) ∧ ClX B w' g s4 ∧ Below B w0 w' := asks_x h hB (by decide +kernel : ∀ k, k < 4 → (s3.l k).length < 1000000) (by decide +kernel) (by decide +kernel) rfl
def s5 : CS := holdC s4 2 1
theorem c21_4 {B g : Nat} {w0 w : World} (h : ClX B w g s4) (hB : Below B w0 w) : Calls Try.prog 12 #[.pointer (some ⟨g, 0, none⟩), .int .i64 2, .int .i64 1] w fun e w' => e = .returned (.int .i64 250) ∧ ClX B w' g s5 ∧ Below B w0 w' := hold_x h hB (by decide +kernel) rfl
def s6 : CS := holdC s5 0 1
theorem c21_5 {B g : Nat} {w0 w : World} (h : ClX B w g s5) (hB : Below B w0 w) : Calls Try.prog 12 #[.pointer (some ⟨g, 0, none⟩), .int .i64 0, .int .i64 1] w fun e w' => e = .returned (.int .i64 0) ∧ ClX B w' g s6 ∧ Below B w0 w' := hold_x h hB (by decide +kernel) rfl
def s7 : CS := holdC s6 0 1
theorem c21_6 {B g : Nat} {w0 w : World} (h : ClX B w g s6) (hB : Below B w0 w) : Calls Try.prog 12 #[.pointer (some ⟨g, 0, none⟩), .int .i64 0, .int .i64 1] w fun e w' => e = .returned (.int .i64 131) ∧ ClX B w' g s7 ∧ Below B w0 w' := hold_x h hB (by decide +kernel) rfl
def s8 : CS := askC s7 0 1
theorem c21_7 {B g : Nat} {w0 w : World} (h : ClX B w g s7) (hB : Below B w0 w) : Calls Try.prog 22 #[.pointer (some ⟨g, 0, none⟩), .int .i64 0, .int .i64 1, .bool false, .int .i64 131] w fun e w' => e = .returned (.bool true) ∧ ClX B w' g s8 ∧ Below B w0 w' := asks_x h hB (by decide +kernel : ∀ k, k < 4 → (s7.l k).length < 1000000) (by decide +kernel) (by decide +kernel) rfl
theorem c21_8 {B g : Nat} {w0 w : World} (h : ClX B w g s8) (hB : Below B w0 w) : Calls Try.prog 21 #[.pointer (some ⟨g, 0, none⟩), .int .i64 1] w fun e w' => e = .returned (.tuple #[.int .i64 0, .bool true]) ∧ ClX B w' g s8 ∧ Below B w0 w' := holder_x h hB (by decide +kernel) (by decide +kernel)
theorem c21_9 {B g : Nat} {w0 w : World} (h : ClX B w g s8) (hB : Below B w0 w) : Calls Try.prog 20 #[.pointer (some ⟨g, 0, none⟩), .int .i64 1] w fun e w' => ∃ A c, e = .returned (.slice A 2 c) ∧ 2 ≤ c ∧ IntsR w' A [0, 2] ∧ OwnI w' w.heap.size (.slice A 2 c) [0, 2] ∧ ClX B w' g s8 ∧ Below B w0 w' ∧ Below w.heap.size w w' := line_x h hB (by decide +kernel) rfl
theorem c21_10 {B g c : Nat} {A : Option Addr} {w0 w : World} (h : ClX B w g s8) (hB : Below B w0 w) (hR : IntsR w A [0, 2]) : Calls Try.prog 33 #[.slice A 2 c, .slice (some ⟨w.heap.size, 0, none⟩) 2 2] (w.alloc (.cells #[.int .i64 0, .int .i64 2] 3)) fun e w' => e = .returned (.bool true) ∧ ClX B w' g s8 ∧ Below B w0 w' := eqlast_x (L := [0, 2]) (M := [0, 2]) h hB hR rfl rfl rfl (by decide) (by decide)
def s9 : CS := giveC s8 2 1
theorem c21_11 {B g : Nat} {w0 w : World} (h : ClX B w g s8) (hB : Below B w0 w) : Calls Try.prog 14 #[.pointer (some ⟨g, 0, none⟩), .int .i64 2, .int .i64 1] w fun e w' => e = .returned (.int .i64 132) ∧ ClX B w' g s9 ∧ Below B w0 w' := give_x h hB (by decide +kernel) rfl
def s10 : CS := giveC s9 0 1
theorem c21_12 {B g : Nat} {w0 w : World} (h : ClX B w g s9) (hB : Below B w0 w) : Calls Try.prog 14 #[.pointer (some ⟨g, 0, none⟩), .int .i64 0, .int .i64 1] w fun e w' => e = .returned (.int .i64 0) ∧ ClX B w' g s10 ∧ Below B w0 w' := give_x h hB (by decide +kernel) rfl
theorem c21_13 {B g : Nat} {w0 w : World} (h : ClX B w g s10) (hB : Below B w0 w) : Calls Try.prog 20 #[.pointer (some ⟨g, 0, none⟩), .int .i64 1] w fun e w' => ∃ A c, e = .returned (.slice A 1 c) ∧ 1 ≤ c ∧ IntsR w' A [2] ∧ OwnI w' w.heap.size (.slice A 1 c) [2] ∧ ClX B w' g s10 ∧ Below B w0 w' ∧ Below w.heap.size w w' := line_x h hB (by decide +kernel) rfl
theorem c21_14 {B g c : Nat} {A : Option Addr} {w0 w : World} (h : ClX B w g s10) (hB : Below B w0 w) (hR : IntsR w A [2]) : Calls Try.prog 33 #[.slice A 1 c, .slice (some ⟨w.heap.size, 0, none⟩) 1 1] (w.alloc (.cells #[.int .i64 2] 3)) fun e w' => e = .returned (.bool true) ∧ ClX B w' g s10 ∧ Below B w0 w' := eqlast_x (L := [2]) (M := [2]) h hB hR rfl rfl rfl (by decide) (by decide)
theorem c21_15 {B g : Nat} {w0 w : World} (h : ClX B w g s10) (hB : Below B w0 w) : Calls Try.prog 21 #[.pointer (some ⟨g, 0, none⟩), .int .i64 1] w fun e w' => e = .returned (.tuple #[.int .i64 0, .bool false]) ∧ ClX B w' g s10 ∧ Below B w0 w' := holder_x h hB (by decide +kernel) (by decide +kernel)
def s11 : CS := dropC s10 (2)
theorem c21_16 {B g : Nat} {w0 w : World} (h : ClX B w g s10) (hB : Below B w0 w) : Calls Try.prog 16 #[.pointer (some ⟨g, 0, none⟩), .int .i64 2] w fun e w' => e = .returned (.tuple #[.int .i64 1, .bool true]) ∧ ClX B w' g s11 ∧ Below B w0 w' := drop_x h hB (o := some 0) (by decide +kernel) rfl rfl
theorem c21_17 {B g : Nat} {w0 w : World} (h : ClX B w g s11) (hB : Below B w0 w) : Calls Try.prog 23 #[.pointer (some ⟨g, 0, none⟩), .int .i64 2] w fun e w' => e = .returned (.tuple #[.int .i64 0, .bool false]) ∧ ClX B w' g s11 ∧ Below B w0 w' := (in_x h (o := none) (by decide +kernel) rfl).mono fun e w' ⟨h1, h2⟩ => h2 ▸ ⟨h1, h, hB⟩
def s12 : CS := dropC s11 (2)
theorem c21_18 {B g : Nat} {w0 w : World} (h : ClX B w g s11) (hB : Below B w0 w) : Calls Try.prog 16 #[.pointer (some ⟨g, 0, none⟩), .int .i64 2] w fun e w' => e = .returned (.tuple #[.int .i64 0, .bool false]) ∧ ClX B w' g s12 ∧ Below B w0 w' := drop_x h hB (o := none) (by decide +kernel) rfl rfl
set_option maxRecDepth 20000 in
set_option maxHeartbeats 800000 in
theorem works_c (w : World) : Calls Try.prog 19 #[] w fun e w' => e = .returned (.bool true) ∧ Below w.heap.size w w' := by
  go_enter Try.func19, Try.ntmps19
  go_wp2_with (first
    | (go_at_call 16; with_reducible refine (c21_18 h19 hB19).mono ?_; rintro e w20 ⟨rfl, h20, hB20⟩)
    | (go_at_call 23; with_reducible refine (c21_17 h18 hB18).mono ?_; rintro e w19 ⟨rfl, h19, hB19⟩)
    | (go_at_call 16; with_reducible refine (c21_16 h17 hB17).mono ?_; rintro e w18 ⟨rfl, h18, hB18⟩)
    | (go_at_call 21; with_reducible refine (c21_15 h16 hB16).mono ?_; rintro e w17 ⟨rfl, h17, hB17⟩)
    | (go_at_call 33; with_reducible refine (c21_14 h15 hB15 hR13).mono ?_; rintro e w16 ⟨rfl, h16, hB16⟩)
    | (go_at_call 20; with_reducible refine (c21_13 h14 hB14).mono ?_; rintro e w15 ⟨A13, c13, rfl, hc13, hR13, _, h15, hB15, _⟩)
    | (go_at_call 14; with_reducible refine (c21_12 h13 hB13).mono ?_; rintro e w14 ⟨rfl, h14, hB14⟩)
    | (go_at_call 14; with_reducible refine (c21_11 h12 hB12).mono ?_; rintro e w13 ⟨rfl, h13, hB13⟩)
    | (go_at_call 33; with_reducible refine (c21_10 h11 hB11 hR9).mono ?_; rintro e w12 ⟨rfl, h12, hB12⟩)
    | (go_at_call 20; with_reducible refine (c21_9 h10 hB10).mono ?_; rintro e w11 ⟨A9, c9, rfl, hc9, hR9, _, h11, hB11, _⟩)
    | (go_at_call 21; with_reducible refine (c21_8 h9 hB9).mono ?_; rintro e w10 ⟨rfl, h10, hB10⟩)
    | (go_at_call 22; with_reducible refine (c21_7 h8 hB8).mono ?_; rintro e w9 ⟨rfl, h9, hB9⟩)
    | (go_at_call 12; with_reducible refine (c21_6 h7 hB7).mono ?_; rintro e w8 ⟨rfl, h8, hB8⟩)
    | (go_at_call 12; with_reducible refine (c21_5 h6 hB6).mono ?_; rintro e w7 ⟨rfl, h7, hB7⟩)
    | (go_at_call 12; with_reducible refine (c21_4 h5 hB5).mono ?_; rintro e w6 ⟨rfl, h6, hB6⟩)
    | (go_at_call 22; with_reducible refine (c21_3 h4 hB4).mono ?_; rintro e w5 ⟨rfl, h5, hB5⟩)
    | (go_at_call 22; with_reducible refine (c21_2 h3 hB3).mono ?_; rintro e w4 ⟨rfl, h4, hB4⟩)
    | (go_at_call 22; with_reducible refine (c21_1 h2 hB2).mono ?_; rintro e w3 ⟨rfl, h3, hB3⟩)
    | (go_at_call 22; with_reducible refine (c21_0 h1 hB1).mono ?_; rintro e w2 ⟨rfl, h2, hB2⟩)
    | (go_at_call 7; with_reducible refine (new_x w (Below.refl _ _) (Nat.le_refl _)).mono ?_; rintro e w1 ⟨g, rfl, h1, hB1⟩))
  go_ret
  exact ⟨by simp, hB20⟩
end Go.Proofs.Ytligkfaldaoocaa
