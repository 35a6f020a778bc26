/- The program's reader: Num. -/
import Derived.Test.YtekcokbpgpeepaaRdB
namespace Go.Proofs.Ytekcokbpgpeepaa
set_option linter.unusedVariables false
open Go.RowKit

def RdE (w : World) (g : Nat) (L : List UInt8) (e : Int) : Prop := ∃ A c, Rd w g A c L e
def numV (L : List UInt8) (most : Int) : Int := if numE L most = 0 then numN L else 0
def numL (L : List UInt8) (most : Int) : List UInt8 := if numE L most = 0 then L.drop (numS L) else []
def three (w : World) (g : Nat) (most n : Int) : World := ((w.alloc (.cells #[.pointer (some ⟨g, 0, none⟩)] 61)).alloc (.cells #[.int .i64 most] 3)).alloc (.cells #[.int .i64 n] 3)
theorem three_below (w : World) (g : Nat) (most n : Int) : Below w.heap.size w (three w g most n) :=
  (((Below.refl _ _).alloc (Nat.le_refl _) _).alloc (by simp) _).alloc (by simp; omega) _
theorem three_p (w : World) (g : Nat) (most n : Int) : Blk (three w g most n) w.heap.size 61 #[.pointer (some ⟨g, 0, none⟩)] := ((Blk.new w _ _).alloc _).alloc _
theorem three_m (w : World) (g : Nat) (most n : Int) : Blk (three w g most n) (w.heap.size + 1) 3 #[.int .i64 most] := by
  have := (Blk.new (w.alloc (.cells #[.pointer (some ⟨g, 0, none⟩)] 61)) 3 #[.int .i64 most]).alloc (.cells #[.int .i64 n] 3)
  rwa [show (w.alloc (.cells #[.pointer (some ⟨g, 0, none⟩)] 61)).heap.size = w.heap.size + 1 by simp] at this
theorem three_q (w : World) (g : Nat) (most n : Int) : Blk (three w g most n) (w.heap.size + 1 + 1) 3 #[.int .i64 n] := by
  have := Blk.new ((w.alloc (.cells #[.pointer (some ⟨g, 0, none⟩)] 61)).alloc (.cells #[.int .i64 most] 3)) 3 #[.int .i64 n]
  rwa [show ((w.alloc (.cells #[.pointer (some ⟨g, 0, none⟩)] 61)).alloc (.cells #[.int .i64 most] 3)).heap.size = w.heap.size + 1 + 1 by simp] at this
theorem num_step_bad (g : Nat) (L : List UInt8) (most : Int) (w : World) (h : RdE w g L 0) {E : Int} (hE : numE L most = E) (h0 : E ≠ 0) :
    Calls Try.prog 56 #[.pointer (some ⟨g, 0, none⟩), .func (.func 57) #[] #[.pointer (some ⟨w.heap.size, 0, none⟩), .pointer (some ⟨w.heap.size + 1 + 1, 0, none⟩), .pointer (some ⟨w.heap.size + 1, 0, none⟩)]]
      (((w.alloc (.cells #[.pointer (some ⟨g, 0, none⟩)] 61)).alloc (.cells #[.int .i64 most] 3)).alloc (.cells #[.int .i64 0] 3))
      fun e w' => e = .returned (.bool false) ∧ RdE w' g [] E ∧ (∃ u : Int, Blk w' (w.heap.size + 1 + 1) 3 #[.int .i64 u]) ∧ Keeps (gq g (w.heap.size + 1 + 1)) (three w g most 0) w' := by
  obtain ⟨A, c, h⟩ := h
  exact (step_bad _ _ _ g A c L 0 most _ (h.below (three_below w g most 0)) (three_p w g most 0) (three_q w g most 0) (three_m w g most 0) (by omega) hE h0).mono fun e w' ⟨h1, h2, h3, h4⟩ => ⟨h1, ⟨_, _, h2⟩, h3, h4⟩
theorem num_step_ok (g : Nat) (L : List UInt8) (most : Int) (w : World) (h : RdE w g L 0) (hE : numE L most = 0) :
    Calls Try.prog 56 #[.pointer (some ⟨g, 0, none⟩), .func (.func 57) #[] #[.pointer (some ⟨w.heap.size, 0, none⟩), .pointer (some ⟨w.heap.size + 1 + 1, 0, none⟩), .pointer (some ⟨w.heap.size + 1, 0, none⟩)]]
      (((w.alloc (.cells #[.pointer (some ⟨g, 0, none⟩)] 61)).alloc (.cells #[.int .i64 most] 3)).alloc (.cells #[.int .i64 0] 3))
      fun e w' => e = .returned (.bool true) ∧ RdE w' g (L.drop (numS L)) 0 ∧ Blk w' (w.heap.size + 1 + 1) 3 #[.int .i64 (numN L)] ∧ Keeps (gq g (w.heap.size + 1 + 1)) (three w g most 0) w' := by
  obtain ⟨A, c, h⟩ := h
  obtain ⟨b, off, rfl, -⟩ := h.src (numE_pos hE).1
  exact (step_ok _ _ _ g b off c L 0 most _ (h.below (three_below w g most 0)) (three_p w g most 0) (three_q w g most 0) (three_m w g most 0) (by omega) hE rfl).mono fun e w' ⟨h1, ⟨_, _, h2⟩, h3, h4⟩ => ⟨h1, ⟨_, _, h2⟩, h3, h4⟩
theorem keeps_three {w w' : World} {g : Nat} {most n : Int} (k : Keeps (gq g (w.heap.size + 1 + 1)) (three w g most n) w') : Keeps (fun i => i = g) w w' :=
  (Keeps.of_below (S := fun i => i = g) (three_below w g most n)).trans k fun i hi => hi.imp id fun h => by omega
theorem Rd.far {w : World} {g q : Nat} {A : Option Addr} {c : Nat} {L : List UInt8} {e n0 : Int} (h : Rd w g A c L e) (hq : Blk w q 3 #[.int .i64 n0]) (u : Value) : Rd (w.setCell ⟨q, 0, none⟩ u) g A c L e :=
  h.keepsq hq (keeps_q _ _ _)
theorem RdE.far {w : World} {g q : Nat} {L : List UInt8} {e n0 : Int} (h : RdE w g L e) (hq : Blk w q 3 #[.int .i64 n0]) (u : Value) : RdE (w.setCell ⟨q, 0, none⟩ u) g L e := by
  obtain ⟨A, c, h⟩ := h
  exact ⟨A, c, h.far hq u⟩
set_option maxHeartbeats 400000 in
theorem num_c (g : Nat) (L : List UInt8) (most : Int) (w : World) (h : RdE w g L 0) :
    Calls Try.prog 51 #[.pointer (some ⟨g, 0, none⟩), .int .i64 most] w fun e w' => e = .returned (.int .i64 (numV L most)) ∧ RdE w' g (numL L most) (numE L most) ∧ Keeps (fun i => i = g) w w' := by
  have HH := Lib.hid h
  clear h
  by_cases hE : numE L most = 0
  · have HE := Lib.hid hE
    clear hE
    go_enter Try.func51, Try.ntmps51
    go_wp2_with (go_at_call 56; with_reducible refine (num_step_ok g L most w HH.out HE.out).mono ?_; rintro e w1 ⟨rfl, hR, hq, hK⟩; have c0 : w1.cell? ⟨w.heap.size + 1 + 1, 0, none⟩ = some (.int .i64 (numN L)) := (hq.cell 0).trans rfl; have f0 := hq.frozen 0)
    have hv : numV L most = numN L := if_pos HE.out
    have hl : numL L most = L.drop (numS L) := if_pos HE.out
    have cc := ((hq.set_ 0 (.int .i64 (numN L))).cell 0)
    refine bodyPost_ret (v := .int .i64 (numN L)) (by simp [results, Try.results51, go_sem, cc] <;> rfl) rfl ⟨by rw [hv], ?_, keeps_three (hK.setCell (.inl (.inr rfl)) _)⟩
    rw [hl, HE.out]
    exact hR.far hq _
  · obtain ⟨E, hEE⟩ : ∃ E, numE L most = E := ⟨_, rfl⟩
    have h0 : E ≠ 0 := by rw [← hEE]; exact hE
    have HE := Lib.hid hEE
    clear hE hEE
    go_enter Try.func51, Try.ntmps51
    go_wp2_with (go_at_call 56; with_reducible refine (num_step_bad g L most w HH.out HE.out h0).mono ?_; rintro e w1 ⟨rfl, hR, ⟨u1, hq⟩, hK⟩; have c0 : w1.cell? ⟨w.heap.size + 1 + 1, 0, none⟩ = some (.int .i64 u1) := (hq.cell 0).trans rfl; have f0 := hq.frozen 0)
    have hv : numV L most = 0 := if_neg (by rw [HE.out]; exact h0)
    have hl : numL L most = [] := if_neg (by rw [HE.out]; exact h0)
    have cc := ((hq.set_ 0 (.int .i64 0)).cell 0)
    refine bodyPost_ret (v := .int .i64 0) (by simp [results, Try.results51, go_sem, cc] <;> rfl) rfl ⟨by rw [hv], ?_, keeps_three (hK.setCell (.inl (.inr rfl)) _)⟩
    rw [hl, HE.out]
    exact hR.far hq _
end Go.Proofs.Ytekcokbpgpeepaa
