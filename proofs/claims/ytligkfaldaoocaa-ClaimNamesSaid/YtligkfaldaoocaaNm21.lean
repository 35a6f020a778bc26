/- ClaimNames, walked. -/
import Derived.Test.YtligkfaldaoocaaClmN
namespace Go.Proofs.Ytligkfaldaoocaa
set_option linter.unusedVariables false
open Go.RowKit

def s13 : CS := noC
def s14 : CS := dropC s13 (-1)
theorem c21_19 {B g : Nat} {w0 w : World} (h : ClX B w g s13) (hB : Below B w0 w) : Calls Try.prog 16 #[.pointer (some ⟨g, 0, none⟩), .int .i64 (-1)] w fun e w' => e = .returned (.tuple #[.int .i64 0, .bool false]) ∧ ClX B w' g s14 ∧ Below B w0 w' := drop_x h hB (o := none) (by decide +kernel) rfl rfl
theorem c21_20 {B g : Nat} {w0 w : World} (h : ClX B w g s14) (hB : Below B w0 w) : Calls Try.prog 23 #[.pointer (some ⟨g, 0, none⟩), .int .i64 4] w fun e w' => e = .returned (.tuple #[.int .i64 0, .bool false]) ∧ ClX B w' g s14 ∧ Below B w0 w' := (in_x h (o := none) (by decide +kernel) rfl).mono fun e w' ⟨h1, h2⟩ => h2 ▸ ⟨h1, h, hB⟩
theorem c21_21 {B g : Nat} {w0 w : World} (h : ClX B w g s14) (hB : Below B w0 w) : Calls Try.prog 21 #[.pointer (some ⟨g, 0, none⟩), .int .i64 5] w fun e w' => e = .returned (.tuple #[.int .i64 0, .bool false]) ∧ ClX B w' g s14 ∧ Below B w0 w' := holder_x h hB (by decide +kernel) (by decide +kernel)
def s15 : CS := askC s14 3 4
theorem c21_22 {B g : Nat} {w0 w : World} (h : ClX B w g s14) (hB : Below B w0 w) : Calls Try.prog 22 #[.pointer (some ⟨g, 0, none⟩), .int .i64 3, .int .i64 4, .bool true, .int .i64 0] w fun e w' => e = .returned (.bool true) ∧ ClX B w' g s15 ∧ Below B w0 w' := asks_x h hB (by decide +kernel : ∀ k, k < 4 → (s14.l k).length < 1000000) (by decide +kernel) (by decide +kernel) rfl
def s16 : CS := giveC s15 3 4
theorem c21_23 {B g : Nat} {w0 w : World} (h : ClX B w g s15) (hB : Below B w0 w) : Calls Try.prog 14 #[.pointer (some ⟨g, 0, none⟩), .int .i64 3, .int .i64 4] w fun e w' => e = .returned (.int .i64 132) ∧ ClX B w' g s16 ∧ Below B w0 w' := give_x h hB (by decide +kernel) rfl
def s17 : CS := holdC s16 3 4
theorem c21_24 {B g : Nat} {w0 w : World} (h : ClX B w g s16) (hB : Below B w0 w) : Calls Try.prog 12 #[.pointer (some ⟨g, 0, none⟩), .int .i64 3, .int .i64 4] w fun e w' => e = .returned (.int .i64 0) ∧ ClX B w' g s17 ∧ Below B w0 w' := hold_x h hB (by decide +kernel) rfl
def s18 : CS := askC s17 3 1
theorem c21_25 {B g : Nat} {w0 w : World} (h : ClX B w g s17) (hB : Below B w0 w) : Calls Try.prog 22 #[.pointer (some ⟨g, 0, none⟩), .int .i64 3, .int .i64 1, .bool false, .int .i64 250] w fun e w' => e = .returned (.bool true) ∧ ClX B w' g s18 ∧ Below B w0 w' := asks_x h hB (by decide +kernel : ∀ k, k < 4 → (s17.l k).length < 1000000) (by decide +kernel) (by decide +kernel) rfl
def s19 : CS := dropC s18 (3)
theorem c21_26 {B g : Nat} {w0 w : World} (h : ClX B w g s18) (hB : Below B w0 w) : Calls Try.prog 16 #[.pointer (some ⟨g, 0, none⟩), .int .i64 3] w fun e w' => e = .returned (.tuple #[.int .i64 4, .bool true]) ∧ ClX B w' g s19 ∧ Below B w0 w' := drop_x h hB (o := some 3) (by decide +kernel) rfl rfl
set_option maxRecDepth 40000 in
set_option maxHeartbeats 1600000 in
theorem names_c (w : World) : Calls Try.prog 6 #[] w fun e w' => e = .returned (.bool true) ∧ Below w.heap.size w w' := by
  go_enter Try.func6, Try.ntmps6
  go_wp2_with (go_at_call 7; with_reducible refine (new_x w (Below.refl _ _) (Nat.le_refl _)).mono ?_; rintro e w1 ⟨g, rfl, h1, hB1⟩)
  obtain ⟨wr0, hwr0⟩ : ∃ x : World, w1.alloc (.cells #[.int .i64 (-1), .int .i64 1, .int .i64 4, .int .i64 1, .int .i64 0, .int .i64 0, .int .i64 0, .int .i64 5] 44) = x := ⟨_, rfl⟩
  have HR : Hid (Blk wr0 w1.heap.size 44 #[.int .i64 (-1), .int .i64 1, .int .i64 4, .int .i64 1, .int .i64 0, .int .i64 0, .int .i64 0, .int .i64 5]) := hwr0 ▸ Blk.new w1 _ _
  have HX : Hid (ClX w.heap.size wr0 g s13) := hwr0 ▸ h1.alloc _
  have HB : Hid (Below w.heap.size w wr0) := hwr0 ▸ hB1.alloc h1.hs _
  have HB2 : w1.heap.size < wr0.heap.size := by rw [← hwr0]; simp
  rw [hwr0]
  clear hwr0 h1 hB1
  go_loopw [3] (fun y wr => ∃ k : Nat, k ≤ 4 ∧ y = .int .i64 k ∧ Below wr0.heap.size wr0 wr) (fun y _ => 4 - (intOf y).toNat)
  case atStart => exact ⟨0, by omega, rfl, Below.refl _ _⟩
  case round =>
    obtain ⟨k, hk, rfl, hC⟩ := hrel
    by_cases hlt : k < 4
    · rcases (by omega : k = 0 ∨ k = 1 ∨ k = 2 ∨ k = 3) with rfl | rfl | rfl | rfl
      · have f1 : wr.cell? ⟨w1.heap.size, 0, none⟩ = some (.int .i64 (-1)) := (hC.cell (p := ⟨w1.heap.size, 0, none⟩) HB2).trans ((HR.out.cell 0).trans rfl)
        have f2 : wr.cell? ⟨w1.heap.size, 1, none⟩ = some (.int .i64 1) := (hC.cell (p := ⟨w1.heap.size, 1, none⟩) HB2).trans ((HR.out.cell 1).trans rfl)
        have hE : Hid (∀ n, AskedE (.pointer (some ⟨g, 0, none⟩)) (-1) (1) 9 (wr.drewN n)) := fun n => bad_a ((HX.out.below hC).drewN n) (by unfold okPR; omega)
        go_wp2_with fail
        go_quiet (first
          | (go_at_call 12; exact Calls.quiet_of_same (hold_e _ _ _ _ (by decide) _ (hE.out _)))
          | (go_at_call 14; exact Calls.quiet_of_same (give_e _ _ _ _ (by decide) _ (hE.out _)))
          | (go_at_call 22; exact Calls.quiet_of_same (asks_e _ _ _ _ (by decide) _ (hE.out _))))
        go_wp2
        go_roundw
        case rel => exact ⟨1, by omega, rfl, below_drewN hC _⟩
        case measure => simp [intOf]
      · have f1 : wr.cell? ⟨w1.heap.size, 2, none⟩ = some (.int .i64 4) := (hC.cell (p := ⟨w1.heap.size, 2, none⟩) HB2).trans ((HR.out.cell 2).trans rfl)
        have f2 : wr.cell? ⟨w1.heap.size, 3, none⟩ = some (.int .i64 1) := (hC.cell (p := ⟨w1.heap.size, 3, none⟩) HB2).trans ((HR.out.cell 3).trans rfl)
        have hE : Hid (∀ n, AskedE (.pointer (some ⟨g, 0, none⟩)) (4) (1) 9 (wr.drewN n)) := fun n => bad_a ((HX.out.below hC).drewN n) (by unfold okPR; omega)
        go_wp2_with fail
        go_quiet (first
          | (go_at_call 12; exact Calls.quiet_of_same (hold_e _ _ _ _ (by decide) _ (hE.out _)))
          | (go_at_call 14; exact Calls.quiet_of_same (give_e _ _ _ _ (by decide) _ (hE.out _)))
          | (go_at_call 22; exact Calls.quiet_of_same (asks_e _ _ _ _ (by decide) _ (hE.out _))))
        go_wp2
        go_roundw
        case rel => exact ⟨2, by omega, rfl, below_drewN hC _⟩
        case measure => simp [intOf]
      · have f1 : wr.cell? ⟨w1.heap.size, 4, none⟩ = some (.int .i64 0) := (hC.cell (p := ⟨w1.heap.size, 4, none⟩) HB2).trans ((HR.out.cell 4).trans rfl)
        have f2 : wr.cell? ⟨w1.heap.size, 5, none⟩ = some (.int .i64 0) := (hC.cell (p := ⟨w1.heap.size, 5, none⟩) HB2).trans ((HR.out.cell 5).trans rfl)
        have hE : Hid (∀ n, AskedE (.pointer (some ⟨g, 0, none⟩)) (0) (0) 9 (wr.drewN n)) := fun n => bad_a ((HX.out.below hC).drewN n) (by unfold okPR; omega)
        go_wp2_with fail
        go_quiet (first
          | (go_at_call 12; exact Calls.quiet_of_same (hold_e _ _ _ _ (by decide) _ (hE.out _)))
          | (go_at_call 14; exact Calls.quiet_of_same (give_e _ _ _ _ (by decide) _ (hE.out _)))
          | (go_at_call 22; exact Calls.quiet_of_same (asks_e _ _ _ _ (by decide) _ (hE.out _))))
        go_wp2
        go_roundw
        case rel => exact ⟨3, by omega, rfl, below_drewN hC _⟩
        case measure => simp [intOf]
      · have f1 : wr.cell? ⟨w1.heap.size, 6, none⟩ = some (.int .i64 0) := (hC.cell (p := ⟨w1.heap.size, 6, none⟩) HB2).trans ((HR.out.cell 6).trans rfl)
        have f2 : wr.cell? ⟨w1.heap.size, 7, none⟩ = some (.int .i64 5) := (hC.cell (p := ⟨w1.heap.size, 7, none⟩) HB2).trans ((HR.out.cell 7).trans rfl)
        have hE : Hid (∀ n, AskedE (.pointer (some ⟨g, 0, none⟩)) (0) (5) 9 (wr.drewN n)) := fun n => bad_a ((HX.out.below hC).drewN n) (by unfold okPR; omega)
        go_wp2_with fail
        go_quiet (first
          | (go_at_call 12; exact Calls.quiet_of_same (hold_e _ _ _ _ (by decide) _ (hE.out _)))
          | (go_at_call 14; exact Calls.quiet_of_same (give_e _ _ _ _ (by decide) _ (hE.out _)))
          | (go_at_call 22; exact Calls.quiet_of_same (asks_e _ _ _ _ (by decide) _ (hE.out _))))
        go_wp2
        go_roundw
        case rel => exact ⟨4, by omega, rfl, below_drewN hC _⟩
        case measure => simp [intOf]
    · obtain rfl : 4 = k := by omega
      have h20 := HX.out.below hC
      have hB20 := below_lift HB.out hC HB.out.size
      clear hlt hk hC
      go_wp2_with (first
        | (go_at_call 16; with_reducible refine (c21_26 h27 hB27).mono ?_; rintro e w28 ⟨rfl, h28, hB28⟩)
        | (go_at_call 22; with_reducible refine (c21_25 h26 hB26).mono ?_; rintro e w27 ⟨rfl, h27, hB27⟩)
        | (go_at_call 12; with_reducible refine (c21_24 h25 hB25).mono ?_; rintro e w26 ⟨rfl, h26, hB26⟩)
        | (go_at_call 14; with_reducible refine (c21_23 h24 hB24).mono ?_; rintro e w25 ⟨rfl, h25, hB25⟩)
        | (go_at_call 22; with_reducible refine (c21_22 h23 hB23).mono ?_; rintro e w24 ⟨rfl, h24, hB24⟩)
        | (go_at_call 21; with_reducible refine (c21_21 h22 hB22).mono ?_; rintro e w23 ⟨rfl, h23, hB23⟩)
        | (go_at_call 23; with_reducible refine (c21_20 h21 hB21).mono ?_; rintro e w22 ⟨rfl, h22, hB22⟩)
        | (go_at_call 16; with_reducible refine (c21_19 h20 hB20).mono ?_; rintro e w21 ⟨rfl, h21, hB21⟩))
      have HZ := Lib.hid hB28
      clear h20 h21 h22 h23 h24 h25 h26 h27 h28 hB20 hB21 hB22 hB23 hB24 hB25 hB26 hB27 hB28
      go_loopw [13, 14] (fun v y wr => ∃ i : Nat, i ≤ 2 ∧ y = .int .i64 i ∧ NoClaim wr v ∧ Below w28.heap.size w28 wr) (fun _ y _ => 2 - (intOf y).toNat)
      case atStart => exact ⟨0, by omega, rfl, .inl rfl, Below.refl _ _⟩
      case round =>
        obtain ⟨i, hi, rfl, hN, hB⟩ := hrel
        by_cases hlt : (i : Int) < 2
        · go_wp2_with (first
            | (go_at_call 20; with_reducible refine (line_n _ _ _ hN2).mono ?_; rintro e wd ⟨rfl, rfl⟩)
            | (go_at_call 14; with_reducible refine (give_e _ _ _ _ (by decide) _ (none_a _ _ _ _ hN2)).mono ?_; rintro e wd ⟨rfl, rfl⟩)
            | (go_at_call 12; with_reducible refine (hold_e _ _ _ _ (by decide) _ (none_a _ _ _ _ hN2)).mono ?_; rintro e wd ⟨rfl, rfl⟩)
            | (go_at_call 22; with_reducible refine (asks_e _ _ _ _ (by decide) _ (none_a _ _ _ _ hN2)).mono ?_; rintro e wd ⟨rfl, rfl⟩)
            | (go_at_call 23; with_reducible refine (in_n _ _ _ hN2).mono ?_; rintro e wd ⟨rfl, rfl⟩)
            | (go_at_call 21; with_reducible refine (holder_n _ _ _ hN2).mono ?_; rintro e wd ⟨rfl, rfl⟩)
            | (go_at_call 16; with_reducible refine (drop_n _ _ _ hN).mono ?_; rintro e wf ⟨rfl, hf⟩; have hN2 := hN.below hf; have hB2 := below_lift hB hf hB.size))
          go_roundw
          case rel => exact ⟨i + 1, by omega, rfl, .inr ⟨_, rfl, ((Blk.new _ _ _).cell 0).trans rfl⟩, hB2.alloc hB2.size _⟩
          case measure => simp [intOf]; omega
        · obtain rfl : 2 = i := by omega
          have hB3 := below_lift HZ.out hB HZ.out.size
          clear hN
          go_wp2_with (go_at_call 19; with_reducible refine (works_c _).mono ?_; rintro e w2 ⟨rfl, hb2⟩; have hB4 := below_lift hB3 hb2 hB3.size)
          go_ret
          exact ⟨by simp, hB4⟩
end Go.Proofs.Ytligkfaldaoocaa
