/- The chapter's example of layer 6: works() answers true. -/
import Derived.Test.YtamhpmlfgmmbiaaLevC
namespace Go.Proofs.Ytamhpmlfgmmbiaa
set_option linter.unusedVariables false
open Go.RowKit

def chD (i j : Nat) : Int := ([[0, 5, 0, 1, 0, 0, 0, 0], [0, 9, 0, 3, 0, 0, 0, 0], [0, 9, 0, 4, 0, 0, 0, 0]].getD i []).getD j 0

theorem chapter_c (w : World) : Calls Try.prog 20 #[] w fun e w' =>
    ∃ b, e = .returned (.slice (some ⟨b, 0, none⟩) 3 3) ∧ TasksAt w' (some ⟨b, 0, none⟩) 3 chD ∧ Below w.heap.size w w' := by
  go_enter Try.func20, Try.ntmps20
  go_wp2
  go_ret
  refine ⟨_, rfl, ?_, (Below.refl _ _).alloc (Nat.le_refl _) _⟩
  intro _
  refine ⟨w.heap.size, 0, rfl, by simp, fun i hi => ?_⟩
  unfold RowT
  match i, hi with
  | 0, _ | 1, _ | 2, _ =>
    refine ⟨?_, ?_, ?_, ?_, ?_, ?_, ?_, ?_⟩ <;> (rw [World.cell?_alloc_at _ _ _ _ rfl]; rfl)

theorem lev0 : lev chD 3 0 = 3 := by decide +kernel
theorem lev1 : lev chD 3 1 = 1 := by decide +kernel
theorem lev2 : lev chD 3 2 = 1 := by decide +kernel
theorem lev3 : lev chD 3 3 = 0 := by decide +kernel
theorem ceil0 : ceil chD 3 0 = 3 := by decide +kernel
theorem ceil1 : ceil chD 3 1 = 1 := by decide +kernel
theorem ceil3 : ceil chD 3 3 = 0 := by decide +kernel
theorem ceil8 : ceil chD 3 8 = 0 := by decide +kernel
theorem uses11 : usesB chD 3 1 1 = true := by decide +kernel
theorem uses01 : usesB chD 3 0 1 = false := by decide +kernel
def r10 (i : Nat) : Int := if i = 0 then 1 else 0
theorem high10 : highK chD 3 r10 2 = 3 := by decide +kernel

theorem works_c (w : World) : Calls Try.prog 14 #[] w fun e w' => e = .returned (.bool true) ∧ Below w.heap.size w w' := by
  have e0 := lev0
  have e1 := lev1
  have e2 := lev2
  have e3 := lev3
  have c0 := ceil0
  have c1 := ceil1
  have c3 := ceil3
  have c8 := ceil8
  have u1 := uses11
  have u0 := uses01
  have hh := high10
  go_enter Try.func14, Try.ntmps14
  go_wp2_with fail
  refine (chapter_c w).mono ?_
  rintro e w1 ⟨b, rfl, ht, hB⟩
  have Ht := Lib.hid ht
  clear ht
  have hC := Below.refl w1.heap.size w1
  go_wp2_with (first
    | (go_at_call 8; refine (lift (a := w1) (level_a _ 3 3 chD _ _ (by omega) (Ht.out.below hC)) hC).mono ?_; clear hC; rintro e w2 ⟨rfl, hC⟩)
    | (go_at_call 12; refine (lift (a := w1) (ceil_a _ 3 3 chD _ _ (by omega) (Ht.out.below hC)) hC).mono ?_; clear hC; rintro e w2 ⟨rfl, hC⟩)
    | (go_at_call 10; refine (lift (a := w1) (uses_a _ 3 3 chD _ _ _ (by omega) (Ht.out.below hC)) hC).mono ?_; clear hC; rintro e w2 ⟨rfl, hC⟩))
  have hC1 := hC.alloc hC.size (.cells #[.int .i64 1, .int .i64 0] 3)
  have hR : IntsAt (w2.alloc (.cells #[.int .i64 1, .int .i64 0] 3)) (some ⟨w2.heap.size, 0, none⟩) 2 r10 := fun _ => by
    refine ⟨w2.heap.size, 0, rfl, by simp, fun i hi => ?_⟩
    match i, hi with
    | 0, _ | 1, _ => rw [World.cell?_alloc_at _ _ _ _ rfl]; rfl
  refine (lift (a := w1) (high_a _ 3 3 chD _ 2 2 r10 _ (by omega) (by omega) (Ht.out.below hC1) hR) hC1).mono ?_
  clear hC hC1 hR
  rintro e w3 ⟨rfl, hC⟩
  go_wp2_with (first
    | (go_at_call 10; refine (lift (a := w1) (uses_a _ 3 3 chD _ _ _ (by omega) (Ht.out.below hC)) hC).mono ?_; clear hC; rintro e w2 ⟨rfl, hC⟩))
  go_ret
  exact ⟨rfl, below_lift hB hC hB.size⟩
end Go.Proofs.Ytamhpmlfgmmbiaa
