/- works: the chapter's row. -/
import Derived.Test.YtcbmcengccealaaRowS
namespace Go.Proofs.Ytcbmcengccealaa
set_option linter.unusedVariables false
open Go.RowKit

def opN (k n : Int) : OpV := ⟨k, n, ByteArray.empty⟩
theorem Std.apart {B g b : Nat} {L : List OpV} {w : World} (h : Std B w g b L) : ¬ two g b w.heap.size := by
  have := h.gl; have := h.bl
  rintro (h | h) <;> omega
theorem next_n {B g b : Nat} {L : List OpV} {w0 w : World} (h : Std B w g b L) (hB : Below B w0 w) (k n : Int) (hx : headOf L = opN k n) (hi : (!L.isEmpty) = true) :
    Calls Try.prog 18 #[.pointer (some ⟨g, 0, none⟩)] w fun e w' => e = .returned (.tuple #[.agg #[.int .i64 k, .int .i64 n, .string { data := #[] }], .bool true]) ∧ Std B w' g b L ∧ Below B w0 w' ∧ Keeps (two g b) w w' :=
  next_s h hB hx hi
theorem make_ops33 (W : World) : (Instr.makeSlice 28 (.int .i64 33) (.int .i64 33)).run Try.prog W = .ok (.slice (some ⟨W.heap.size, 0, none⟩) 33 33) (W.alloc (.cells (opCells (List.replicate 33 (opN 0 0))).toArray 23)) := by kernel_rfl
set_option maxHeartbeats 1600000 in
theorem works_c (w : World) :
    Calls Try.prog 10 #[] w fun e w' => e = .returned (.bool true) ∧ Below w.heap.size w w' := by
  have hmk := make_ops33
  go_enter Try.func10, Try.ntmps10
  go_wp2_with (first
    | (go_at_call 21; with_reducible refine (done_s hS15 hB15 (is := true) rfl).mono ?_; clear hS15 hB15; rintro e w16 ⟨rfl, -, hB16, -⟩)
    | (go_at_call 11; refine (new_s (A := none) (c := 0) (L := []) (fun h => absurd rfl h) (fun _ => rfl) rfl hB14 hB14.size).mono ?_; clear hB14; rintro e w15 ⟨g2, b2, rfl, hS15, hB15, -, -, -⟩)
    | (go_at_call 11; refine (newbad_s (L := List.replicate 33 (opN 0 0)) (by simp) (opsR_new rfl) (v := 5) rfl (by decide) (hB13.alloc hB13.size _) (hB13.alloc hB13.size _).size).mono ?_; clear hB13; rintro e w14 ⟨rfl, hB14, -⟩)
    | (go_at_call 11; refine (newbad_s (L := [opN 1 0]) (by simp) (opsR_new rfl) (v := 2) rfl (by decide) (hB12.alloc hB12.size _) (hB12.alloc hB12.size _).size).mono ?_; clear hB12; rintro e w13 ⟨rfl, hB13, -⟩)
    | (go_at_call 21; with_reducible refine (done_s hS11 hB11 (is := false) rfl).mono ?_; clear hS11 hB11; rintro e w12 ⟨rfl, -, hB12, -⟩)
    | (go_at_call 23; with_reducible refine (left_s hS10 hB10 (v := 1) rfl).mono ?_; clear hS10 hB10; rintro e w11 ⟨rfl, hS11, hB11, -⟩)
    | (go_at_call 16; with_reducible refine (did_s hS9 hB9 (v := 0) (L' := [opN 1 1]) rfl rfl).mono ?_; clear hS9 hB9; rintro e w10 ⟨rfl, hS10, hB10, -⟩)
    | (go_at_call 14; with_reducible refine (ran_s (hS8.alloc _) (hB8.alloc hB8.size _) (v := 250) (L' := [opN 2 3, opN 1 1]) rfl rfl).mono ?_; clear hS8; rintro e w9 ⟨rfl, hS9, hB9, -⟩)
    | (go_at_call 18; with_reducible refine (next_n hS7 hB7 2 3 rfl rfl).mono ?_; rintro e w8 ⟨rfl, hS8, hB8, hK8⟩; have hA8 := hK8.blk hA7 hn; clear hS7 hB7; have a0 : w8.cell? ⟨w2.heap.size, 0, none⟩ = some (.int .i64 1) := (hA8.cell 0).trans rfl; have a1 : w8.cell? ⟨w2.heap.size, 1, none⟩ = some (.int .i64 1) := (hA8.cell 1).trans rfl; have a2 : w8.cell? ⟨w2.heap.size, 2, none⟩ = some (.string { data := #[] }) := (hA8.cell 2).trans rfl; have hl8 := hA8.lt)
    | (go_at_call 14; with_reducible refine (ran_s (((hS6.setCell hg2 hb2 _).setCell hg2 hb2 _).setCell hg2 hb2 _) (((hB6.setCell hl2 _).setCell hl2 _).setCell hl2 _) (v := 0) (L' := [opN 2 3, opN 1 1]) rfl rfl).mono ?_; rintro e w7 ⟨rfl, hS7, hB7, hK7⟩; have hA7 := hK7.blk (((hA6.set_ 0 _).set_ 1 _).set_ 2 _) hn; clear a0 a1 a2 f0 f1 f2 hS6 hB6)
    | (go_at_call 18; with_reducible refine (next_n hS5 hB5 1 1 rfl rfl).mono ?_; rintro e w6 ⟨rfl, hS6, hB6, hK6⟩; have hA6 := hK6.blk hA5 hn; clear hS5 hB5; have a0 : w6.cell? ⟨w2.heap.size, 0, none⟩ = some (.int .i64 1) := (hA6.cell 0).trans rfl; have a1 : w6.cell? ⟨w2.heap.size, 1, none⟩ = some (.int .i64 2) := (hA6.cell 1).trans rfl; have a2 : w6.cell? ⟨w2.heap.size, 2, none⟩ = some (.string { data := #[] }) := (hA6.cell 2).trans rfl; have f0 := hA6.frozen 0; have f1 := hA6.frozen 1; have f2 := hA6.frozen 2)
    | (go_at_call 14; with_reducible refine (ran_s hS4 hB4 (v := 0) (L' := [opN 1 1, opN 2 3, opN 1 1]) rfl rfl).mono ?_; rintro e w5 ⟨rfl, hS5, hB5, hK5⟩; have hA5 := hK5.blk hA4 hn; clear hS4 hB4)
    | (go_at_call 16; with_reducible refine (did_s hS3 hB3 (v := 250) rfl rfl).mono ?_; rintro e w4 ⟨rfl, hS4, hB4, hK4⟩; have hA4 := hK4.blk hA3 hn; clear hS3 hB3)
    | (go_at_call 23; with_reducible refine (left_s (hS2.alloc _) (hB2.alloc hB2.size _) (v := 3) rfl).mono ?_; rintro e w3 ⟨rfl, hS3, hB3, hK3⟩; have hA3 := hK3.blk (Blk.new w2 _ _) hn; clear hS2 hB2)
    | (go_at_call 18; with_reducible refine (next_n hS hB 1 2 rfl rfl).mono ?_; rintro e w2 ⟨rfl, hS2, hB2, -⟩; have hn := hS2.apart; have hg2 : g ≠ w2.heap.size := (by have := hS2.gl; omega); have hb2 : b ≠ w2.heap.size := (by have := hS2.bl; omega); have hl2 := hS2.hs)
    | (go_at_call 11; refine (new_s (L := [opN 1 2, opN 2 3, opN 1 1]) (opsR_new rfl) (fun h => by cases h) rfl (w0 := w) ((Below.refl _ _).alloc (Nat.le_refl _) _) (by simp)).mono ?_; rintro e w1 ⟨g, b, rfl, hS, hB, -, hg, hb⟩))
  go_ret
  exact ⟨rfl, hB16⟩
end Go.Proofs.Ytcbmcengccealaa
