/- LevelKnown, walked. -/
import Derived.Test.YtamhpmlfgmmbiaaLevT2
import Derived.Deep.RegionHeld3
namespace Go.Proofs.Ytamhpmlfgmmbiaa
set_option linter.unusedVariables false
open Go.RowKit

def knD (i j : Nat) : Int := ([[0, 1, 0, 255, 0, 0, 0, 0], [0, -4, 0, -1, 0, 0, 0, 0], [0, 4611686018427387904, 0, 4611686018427387904, 0, 0, 0, 0], [0, 0, 0, 128, 0, 0, 0, 0]].getD i []).getD j 0
def knE (i : Nat) : Int := [-9223372036854775808, -1, 0, 1, 2, 3, 4, 7, 8, 63, 64, 9223372036854775807].getD i 0
theorem knT (w : World) : TasksAt (w.alloc (.cells #[.int .i64 0, .int .i64 1, .int .i64 0, .int .i64 255, .int .i64 0, .int .i64 0, .int .i64 0, .int .i64 0, .int .i64 0, .int .i64 (-4), .int .i64 0, .int .i64 (-1), .int .i64 0, .int .i64 0, .int .i64 0, .int .i64 0, .int .i64 0, .int .i64 4611686018427387904, .int .i64 0, .int .i64 4611686018427387904, .int .i64 0, .int .i64 0, .int .i64 0, .int .i64 0, .int .i64 0, .int .i64 0, .int .i64 0, .int .i64 128, .int .i64 0, .int .i64 0, .int .i64 0, .int .i64 0] 31)) (some ⟨w.heap.size, 0, none⟩) 4 knD := fun _ => by
  refine ⟨w.heap.size, 0, rfl, by simp, fun i hi => ?_⟩
  unfold RowT
  match i, hi with
  | 0, _ | 1, _ | 2, _ | 3, _ =>
    refine ⟨?_, ?_, ?_, ?_, ?_, ?_, ?_, ?_⟩ <;> (rw [World.cell?_alloc_at _ _ _ _ rfl]; rfl)
theorem knI (w : World) : IntsAt (w.alloc (.cells #[.int .i64 (-9223372036854775808), .int .i64 (-1), .int .i64 0, .int .i64 1, .int .i64 2, .int .i64 3, .int .i64 4, .int .i64 7, .int .i64 8, .int .i64 63, .int .i64 64, .int .i64 9223372036854775807] 3)) (some ⟨w.heap.size, 0, none⟩) 12 knE := fun _ => by
  refine ⟨w.heap.size, 0, rfl, by simp, fun i hi => ?_⟩
  match i, hi with
  | 0, _ | 1, _ | 2, _ | 3, _ | 4, _ | 5, _ | 6, _ | 7, _ | 8, _ | 9, _ | 10, _ | 11, _ => rw [World.cell?_alloc_at _ _ _ _ rfl]; rfl

set_option maxHeartbeats 1600000 in
theorem known_c (w : World) : Calls Try.prog 7 #[] w fun e w' => e = .returned (.bool true) ∧ Below w.heap.size w w' := by
  have hB : Below w.heap.size w ((w.alloc (.cells #[.int .i64 0, .int .i64 1, .int .i64 0, .int .i64 255, .int .i64 0, .int .i64 0, .int .i64 0, .int .i64 0, .int .i64 0, .int .i64 (-4), .int .i64 0, .int .i64 (-1), .int .i64 0, .int .i64 0, .int .i64 0, .int .i64 0, .int .i64 0, .int .i64 4611686018427387904, .int .i64 0, .int .i64 4611686018427387904, .int .i64 0, .int .i64 0, .int .i64 0, .int .i64 0, .int .i64 0, .int .i64 0, .int .i64 0, .int .i64 128, .int .i64 0, .int .i64 0, .int .i64 0, .int .i64 0] 31)).alloc (.cells #[.int .i64 (-9223372036854775808), .int .i64 (-1), .int .i64 0, .int .i64 1, .int .i64 2, .int .i64 3, .int .i64 4, .int .i64 7, .int .i64 8, .int .i64 63, .int .i64 64, .int .i64 9223372036854775807] 3)) := ((Below.refl _ _).alloc (Nat.le_refl _) _).alloc (by simp) _
  have hT := (knT w).below ((Below.refl _ _).alloc (Nat.le_refl _) (.cells #[.int .i64 (-9223372036854775808), .int .i64 (-1), .int .i64 0, .int .i64 1, .int .i64 2, .int .i64 3, .int .i64 4, .int .i64 7, .int .i64 8, .int .i64 63, .int .i64 64, .int .i64 9223372036854775807] 3))
  have hI : IntsAt ((w.alloc (.cells #[.int .i64 0, .int .i64 1, .int .i64 0, .int .i64 255, .int .i64 0, .int .i64 0, .int .i64 0, .int .i64 0, .int .i64 0, .int .i64 (-4), .int .i64 0, .int .i64 (-1), .int .i64 0, .int .i64 0, .int .i64 0, .int .i64 0, .int .i64 0, .int .i64 4611686018427387904, .int .i64 0, .int .i64 4611686018427387904, .int .i64 0, .int .i64 0, .int .i64 0, .int .i64 0, .int .i64 0, .int .i64 0, .int .i64 0, .int .i64 128, .int .i64 0, .int .i64 0, .int .i64 0, .int .i64 0] 31)).alloc (.cells #[.int .i64 (-9223372036854775808), .int .i64 (-1), .int .i64 0, .int .i64 1, .int .i64 2, .int .i64 3, .int .i64 4, .int .i64 7, .int .i64 8, .int .i64 63, .int .i64 64, .int .i64 9223372036854775807] 3)) (some ⟨w.heap.size + 1, 0, none⟩) 12 knE := by
    have := knI (w.alloc (.cells #[.int .i64 0, .int .i64 1, .int .i64 0, .int .i64 255, .int .i64 0, .int .i64 0, .int .i64 0, .int .i64 0, .int .i64 0, .int .i64 (-4), .int .i64 0, .int .i64 (-1), .int .i64 0, .int .i64 0, .int .i64 0, .int .i64 0, .int .i64 0, .int .i64 4611686018427387904, .int .i64 0, .int .i64 4611686018427387904, .int .i64 0, .int .i64 0, .int .i64 0, .int .i64 0, .int .i64 0, .int .i64 0, .int .i64 0, .int .i64 128, .int .i64 0, .int .i64 0, .int .i64 0, .int .i64 0] 31))
    simpa using this
  have HB := Lib.hid hB
  have HT := Lib.hid hT
  have HI := Lib.hid hI
  clear hB hT hI
  go_enter Try.func7, Try.ntmps7
  go_wp2
  generalize ((w.alloc (.cells #[.int .i64 0, .int .i64 1, .int .i64 0, .int .i64 255, .int .i64 0, .int .i64 0, .int .i64 0, .int .i64 0, .int .i64 0, .int .i64 (-4), .int .i64 0, .int .i64 (-1), .int .i64 0, .int .i64 0, .int .i64 0, .int .i64 0, .int .i64 0, .int .i64 4611686018427387904, .int .i64 0, .int .i64 4611686018427387904, .int .i64 0, .int .i64 0, .int .i64 0, .int .i64 0, .int .i64 0, .int .i64 0, .int .i64 0, .int .i64 128, .int .i64 0, .int .i64 0, .int .i64 0, .int .i64 0] 31)).alloc (.cells #[.int .i64 (-9223372036854775808), .int .i64 (-1), .int .i64 0, .int .i64 1, .int .i64 2, .int .i64 3, .int .i64 4, .int .i64 7, .int .i64 8, .int .i64 63, .int .i64 64, .int .i64 9223372036854775807] 3)) = w0 at *
  go_loopw [3] (fun x wr => ∃ i : Nat, i ≤ 12 ∧ x = .int .i64 i ∧ Below w0.heap.size w0 wr) (fun x _ => 12 - (intOf x).toNat)
  case atStart => exact ⟨0, Nat.zero_le _, rfl, Below.refl _ _⟩
  case round =>
    obtain ⟨i, hi, rfl, hC⟩ := hrel
    by_cases hlt : i < 12
    · have hi' : (i : Int) < 12 := by omega
      go_wp2_with fail
      obtain ⟨wo, rfl⟩ : ∃ wo : World, wo = wr := ⟨_, rfl⟩
      go_loopw [4] (fun x wr => ∃ k : Nat, k ≤ 12 ∧ x = .int .i64 k ∧ Below w0.heap.size w0 wr) (fun x _ => 12 - (intOf x).toNat)
      case atStart => exact ⟨0, Nat.zero_le _, rfl, hC⟩
      case round =>
        clear hC
        obtain ⟨k, hk, rfl, hC⟩ := hrel
        by_cases hlt2 : k < 12
        · have hk' : (k : Int) < 12 := by omega
          obtain ⟨bb, off, hA, hb, hc⟩ := HI.out (by omega)
          simp only [Option.some.injEq, Addr.mk.injEq, and_true] at hA
          obtain ⟨rfl, rfl⟩ := hA
          have E1 : w0.cell? ⟨w.heap.size + 1, i, none⟩ = some (.int .i64 (knE i)) := by simpa using hc i hlt
          have E2 : w0.cell? ⟨w.heap.size + 1, k, none⟩ = some (.int .i64 (knE k)) := by simpa using hc k hlt2
          have F1 := Lib.hid E1
          have F2 := Lib.hid E2
          clear E1 E2 hc
          have e1 := (hC.cell (p := ⟨w.heap.size + 1, i, none⟩) hb).trans F1.out
          have e2 := (hC.cell (p := ⟨w.heap.size + 1, k, none⟩) hb).trans F2.out
          go_wp2_with fail
          replace hC := hC.drew
          go_region_held3 (fun w' => w'.cell? ⟨w.heap.size + 1, i, none⟩ = some (.int .i64 (knE i)) ∧ w'.cell? ⟨w.heap.size + 1, k, none⟩ = some (.int .i64 (knE k))) (go_keep)
            (first
              | (go_at_call 3; with_reducible refine (lift (a := w0) (tells_c none 0 0 knD _ _ _ (by omega) (by omega) TasksAt.zero) hC).mono ?_; clear hC e1 e2; rintro e w1 ⟨rfl, hC⟩; have e1 := (hC.cell (p := ⟨w.heap.size + 1, i, none⟩) hb).trans F1.out; have e2 := (hC.cell (p := ⟨w.heap.size + 1, k, none⟩) hb).trans F2.out)
              | (go_at_call 3; with_reducible refine (lift (a := w0) (tells_c _ 4 4 knD _ _ _ (by omega) (by omega) (HT.out.below hC)) hC).mono ?_; clear hC e1 e2; rintro e w1 ⟨rfl, hC⟩; have e1 := (hC.cell (p := ⟨w.heap.size + 1, i, none⟩) hb).trans F1.out; have e2 := (hC.cell (p := ⟨w.heap.size + 1, k, none⟩) hb).trans F2.out)
              | (go_at_call 4; with_reducible refine (lift (a := w0) (highest_law_c _ 4 4 knD _ 2 2 _ _ (by omega) (by omega) (by omega) (by omega) (HT.out.below (hC.alloc hC.size _)) (ints2 _ _ _)) (hC.alloc hC.size _)).mono ?_; clear hC e1 e2; rintro e w1 ⟨rfl, hC⟩; have e1 := (hC.cell (p := ⟨w.heap.size + 1, i, none⟩) hb).trans F1.out; have e2 := (hC.cell (p := ⟨w.heap.size + 1, k, none⟩) hb).trans F2.out))
          go_wp2
          go_roundw
          case rel => exact ⟨k + 1, by omega, rfl, hC⟩
          case measure => simp [intOf]; omega
        · obtain rfl : 12 = k := by omega
          go_wp2_with fail
          go_roundw
          case rel => exact ⟨i + 1, by omega, rfl, hC⟩
          case measure => simp [intOf]; omega
    · obtain rfl : 12 = i := by omega
      go_wp2_with (first
        | (go_at_call 14; refine (lift (a := w0) (works_c _) hC).mono ?_; clear hC; rintro e w1 ⟨rfl, hC⟩)
        | (go_at_call 4; refine (lift (a := w0) (highest_law_c _ 4 4 knD none 0 0 (fun _ => 0) _ (by omega) (by omega) (by omega) (by omega) (HT.out.below hC) (fun h => by omega)) hC).mono ?_; clear hC; rintro e w1 ⟨rfl, hC⟩)
        | (go_at_call 5; refine (lift (a := w0) (order_c _ 4 4 knD _ _ _ (by omega) (by omega) (HT.out.below hC)) hC).mono ?_; clear hC; rintro e w1 ⟨rfl, hC⟩))
      go_ret
      exact ⟨rfl, below_lift HB.out hC HB.out.size⟩
end Go.Proofs.Ytamhpmlfgmmbiaa
