/- The program's reader: behind a fault; Left, Err, End, Read. -/
import Derived.Test.YtekcokbpgpeepaaRdC
namespace Go.Proofs.Ytekcokbpgpeepaa
set_option linter.unusedVariables false
open Go.RowKit

theorem RdE.below {w w' : World} {g : Nat} {L : List UInt8} {e : Int} (h : RdE w g L e) (k : Below w.heap.size w w') : RdE w' g L e := by
  obtain ⟨A, c, h⟩ := h
  exact ⟨A, c, h.below k⟩
theorem RdE.lt {w : World} {g : Nat} {L : List UInt8} {e : Int} (h : RdE w g L e) : g < w.heap.size := by
  obtain ⟨A, c, h⟩ := h
  exact h.blk.lt
theorem step_f (g : Nat) (L : List UInt8) (f : Int) (cl : Value) (w : World) (h : RdE w g L f) (hf : f ≠ 0) :
    Calls Try.prog 56 #[.pointer (some ⟨g, 0, none⟩), cl] w fun e w' => e = .returned (.bool false) ∧ w = w' := by
  obtain ⟨A, c, h⟩ := h
  have c1 : w.cell? ⟨g, 1, none⟩ = some (.int .i64 f) := (h.blk.cell 1).trans rfl
  have hne : (f != 0) = true := by simp [hf]
  clear h hf
  go_enter Try.func56, Try.ntmps56
  go_wp2
  go_ret
  exact ⟨rfl, rfl⟩
theorem num_step_f (g : Nat) (L : List UInt8) (most f : Int) (cl : Value) (w : World) (h : RdE w g L f) (hf : f ≠ 0) :
    Calls Try.prog 56 #[.pointer (some ⟨g, 0, none⟩), cl]
      (((w.alloc (.cells #[.pointer (some ⟨g, 0, none⟩)] 61)).alloc (.cells #[.int .i64 most] 3)).alloc (.cells #[.int .i64 0] 3))
      fun e w' => e = .returned (.bool false) ∧ w' = three w g most 0 :=
  (step_f g L f cl _ (h.below (three_below w g most 0)) hf).mono fun e w' ⟨h1, h2⟩ => ⟨h1, h2.symm⟩
set_option maxHeartbeats 400000 in
theorem num_f (g : Nat) (L : List UInt8) (most f : Int) (w : World) (h : RdE w g L f) (hf : f ≠ 0) :
    Calls Try.prog 51 #[.pointer (some ⟨g, 0, none⟩), .int .i64 most] w fun e w' => e = .returned (.int .i64 0) ∧ Below w.heap.size w w' := by
  have HH := Lib.hid h
  have hb := three_below w g most 0
  have HQ := three_q w g most 0
  clear h
  go_enter Try.func51, Try.ntmps51
  go_wp2_with (go_at_call 56; with_reducible refine (num_step_f g L most f _ w HH.out hf).mono ?_; rintro e w1 ⟨rfl, hw⟩; rw [← hw] at hb HQ; clear hw; have c0 : w1.cell? ⟨w.heap.size + 1 + 1, 0, none⟩ = some (.int .i64 0) := (HQ.cell 0).trans rfl; have f0 := HQ.frozen 0)
  have cc := ((HQ.set_ 0 (.int .i64 0)).cell 0)
  refine bodyPost_ret (v := .int .i64 0) (by simp [results, Try.results51, go_sem, cc] <;> rfl) rfl ⟨rfl, hb.setCell (by simp; omega) _⟩
theorem left_c (g : Nat) (L : List UInt8) (e0 : Int) (w : World) (h : RdE w g L e0) :
    Calls Try.prog 53 #[.pointer (some ⟨g, 0, none⟩)] w fun e w' => e = .returned (.int .i64 (L.length : Nat)) ∧ w = w' := by
  obtain ⟨A, c, h⟩ := h
  have c0 : w.cell? ⟨g, 0, none⟩ = some (.slice A L.length c) := (h.blk.cell 0).trans rfl
  clear h
  go_enter Try.func53, Try.ntmps53
  go_wp2
  go_ret
  exact ⟨rfl, rfl⟩
theorem err_c (g : Nat) (L : List UInt8) (e0 : Int) (w : World) (h : RdE w g L e0) :
    Calls Try.prog 52 #[.pointer (some ⟨g, 0, none⟩)] w fun e w' => e = .returned (.int .i64 e0) ∧ w = w' := by
  obtain ⟨A, c, h⟩ := h
  have c1 : w.cell? ⟨g, 1, none⟩ = some (.int .i64 e0) := (h.blk.cell 1).trans rfl
  clear h
  go_enter Try.func52, Try.ntmps52
  go_wp2
  go_ret
  exact ⟨rfl, rfl⟩
def endE (L : List UInt8) (e : Int) : Int := if e = 0 ∧ 0 < L.length then 4 else e
theorem end_c (g : Nat) (L : List UInt8) (e0 : Int) (w : World) (h : RdE w g L e0) :
    Calls Try.prog 38 #[.pointer (some ⟨g, 0, none⟩)] w fun e w' => e = .returned (.int .i64 (endE L e0)) ∧ w = w' := by
  have HH := Lib.hid h
  clear h
  by_cases he : e0 = 0
  · have heb : (e0 == 0) = true := by simp [he]
    by_cases hL : (0 : Int) < (L.length : Nat)
    · have hv : Hid (endE L e0 = 4) := if_pos ⟨he, by omega⟩
      clear he
      go_enter Try.func38, Try.ntmps38
      go_wp2_with (first
        | (go_at_call 53; with_reducible refine (left_c g L e0 _ HH.out).mono ?_; rintro e w1 ⟨rfl, rfl⟩)
        | (go_at_call 52; with_reducible refine (err_c g L e0 _ HH.out).mono ?_; rintro e w1 ⟨rfl, rfl⟩))
      go_ret
      exact ⟨by rw [hv.out]; rfl, rfl⟩
    · have hv : Hid (endE L e0 = e0) := if_neg (by omega)
      clear he
      go_enter Try.func38, Try.ntmps38
      go_wp2_with (first
        | (go_at_call 53; with_reducible refine (left_c g L e0 _ HH.out).mono ?_; rintro e w1 ⟨rfl, rfl⟩)
        | (go_at_call 52; with_reducible refine (err_c g L e0 _ HH.out).mono ?_; rintro e w1 ⟨rfl, rfl⟩))
      go_ret
      exact ⟨by rw [hv.out]; rfl, rfl⟩
  · have heb : (e0 == 0) = false := by simp [he]
    have hv : Hid (endE L e0 = e0) := if_neg (by omega)
    clear he
    go_enter Try.func38, Try.ntmps38
    go_wp2_with (first
      | (go_at_call 53; with_reducible refine (left_c g L e0 _ HH.out).mono ?_; rintro e w1 ⟨rfl, rfl⟩)
      | (go_at_call 52; with_reducible refine (err_c g L e0 _ HH.out).mono ?_; rintro e w1 ⟨rfl, rfl⟩))
    go_ret
    exact ⟨by rw [hv.out]; rfl, rfl⟩
theorem read_c (A : Option Addr) (n c : Nat) (L : List UInt8) (w : World) (h : n = L.length ∧ BytesR w A L) (hA : A = none → c = 0) (hc : n ≤ c) (hl : c ≤ 9223372036854775807) :
    Calls Try.prog 35 #[.slice A n c] w fun e w' => e = .returned (.pointer (some ⟨w.heap.size, 0, none⟩)) ∧ RdE w' w.heap.size L 0 ∧ Below w.heap.size w w' := by
  have HH := Lib.hid h
  clear h
  go_enter Try.func35, Try.ntmps35
  go_wp2
  go_ret
  refine ⟨rfl, ⟨A, c, ?_, fun hL => ?_, by rw [← HH.out.1]; exact hc, hA, hl⟩, (Below.refl _ _).alloc (Nat.le_refl _) _⟩
  · rw [← HH.out.1]; exact Blk.new w _ _
  · obtain ⟨b, off, h1, h2, h3⟩ := HH.out.2 hL
    exact ⟨b, off, h1, by simp; omega, by omega, fun i x hi => ((Below.refl _ _).alloc (Nat.le_refl _) _ : Below w.heap.size w _).cell (p := ⟨b, off + i, none⟩) h2 |>.trans (h3 i x hi)⟩
end Go.Proofs.Ytekcokbpgpeepaa
