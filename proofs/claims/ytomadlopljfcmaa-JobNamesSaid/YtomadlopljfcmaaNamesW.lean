/- JobNames, walked. -/
import Derived.Test.YtomadlopljfcmaaJobN
namespace Go.Proofs.Ytomadlopljfcmaa
set_option linter.unusedVariables false
open Go.RowKit

def tN : TV := ⟨5, 5, 2, 0, 0, 0, 0, 0⟩
def tZ : TV := ⟨0, 0, 0, 0, 0, 0, 0, 0⟩
theorem new_a17 (w : World) : Calls Try.prog 6 #[.agg #[.int .i64 0, .int .i64 0, .int .i64 0, .int .i64 0, .int .i64 0, .int .i64 0, .int .i64 0, .int .i64 0], .slice none 0 0, .int .i64 0] w fun e w' => e = .returned (.tuple #[.pointer none, .int .i64 2]) ∧ Below w.heap.size w w' :=
  jnew_bad tZ none 0 0 [] 0 w (by omega) ⟨rfl, fun h => absurd rfl h⟩ (by decide +kernel) (by decide)
theorem new_b17 (w : World) : Calls Try.prog 6 #[.agg #[.int .i64 5, .int .i64 5, .int .i64 2, .int .i64 0, .int .i64 0, .int .i64 0, .int .i64 0, .int .i64 0], .slice none 0 0, .int .i64 (-1)] w fun e w' => e = .returned (.tuple #[.pointer none, .int .i64 2]) ∧ Below w.heap.size w w' :=
  jnew_bad tN none 0 0 [] (-1) w (by omega) ⟨rfl, fun h => absurd rfl h⟩ (by decide +kernel) (by decide)
theorem new_c17 (w : World) : Calls Try.prog 6 #[.agg #[.int .i64 5, .int .i64 5, .int .i64 2, .int .i64 0, .int .i64 0, .int .i64 0, .int .i64 0, .int .i64 0], .slice none 0 0, .int .i64 1099511627777] w fun e w' => e = .returned (.tuple #[.pointer none, .int .i64 10]) ∧ Below w.heap.size w w' :=
  jnew_bad tN none 0 0 [] 1099511627777 w (by omega) ⟨rfl, fun h => absurd rfl h⟩ (by decide +kernel) (by decide)
theorem new_d17 (w : World) : Calls Try.prog 6 #[.agg #[.int .i64 5, .int .i64 5, .int .i64 2, .int .i64 0, .int .i64 0, .int .i64 0, .int .i64 0, .int .i64 0], .slice (some ⟨w.heap.size, 0, none⟩) 1 1, .int .i64 0] (w.alloc (.cells #[.int .i64 0, .int .i64 0, .string { data := #[] }] 29)) fun e w' => e = .returned (.tuple #[.pointer none, .int .i64 2]) ∧ Below w.heap.size w w' :=
  (jnew_bad tN (some ⟨w.heap.size, 0, none⟩) 1 1 [op2 0 0] 0 _ (by omega) ⟨rfl, opsR_new rfl⟩ (by decide +kernel) (by decide)).mono fun e w' ⟨h1, h2⟩ => ⟨h1, below_lift ((Below.refl _ _).alloc (Nat.le_refl _) _) h2 (by simp)⟩
theorem new_e17 (w : World) (Z : List OpV) (hZ : List.replicate 33 (op2 0 0) = Z) (t : TypeId) : Calls Try.prog 6 #[.agg #[.int .i64 5, .int .i64 5, .int .i64 2, .int .i64 0, .int .i64 0, .int .i64 0, .int .i64 0, .int .i64 0], .slice (some ⟨w.heap.size, 0, none⟩) 33 33, .int .i64 0] (w.alloc (.cells (opCells Z).toArray t)) fun e w' => e = .returned (.tuple #[.pointer none, .int .i64 5]) ∧ Below w.heap.size w w' := by
  subst hZ
  exact (jnew_bad tN (some ⟨w.heap.size, 0, none⟩) 33 33 (List.replicate 33 (op2 0 0)) 0 _ (by omega) ⟨by simp, opsR_new rfl⟩ (by decide +kernel) (by decide)).mono fun e w' ⟨h1, h2⟩ => ⟨h1, below_lift ((Below.refl _ _).alloc (Nat.le_refl _) _) h2 (by simp)⟩
theorem new_e17d (w : World) (Z : List OpV) (hZ : List.replicate 33 (op2 0 0) = Z) (t : TypeId) : Calls Try.prog 6 #[.agg #[.int .i64 5, .int .i64 5, .int .i64 2, .int .i64 0, .int .i64 0, .int .i64 0, .int .i64 0, .int .i64 0], .slice (some ⟨w.heap.size, 0, none⟩) 33 33, .int .i64 0] (w.alloc (.cells (opCells Z).toArray t)).drew fun e w' => e = .returned (.tuple #[.pointer none, .int .i64 5]) ∧ Below w.heap.size w w' := by
  subst hZ
  have h1 : OpsR (w.alloc (.cells (opCells (List.replicate 33 (op2 0 0))).toArray t)) (some ⟨w.heap.size, 0, none⟩) (List.replicate 33 (op2 0 0)) := opsR_new rfl
  exact (jnew_bad tN (some ⟨w.heap.size, 0, none⟩) 33 33 (List.replicate 33 (op2 0 0)) 0 _ (by omega) ⟨by simp, h1.below ((Below.refl _ _).drew)⟩ (by decide +kernel) (by decide)).mono fun e w' ⟨h1, h2⟩ => ⟨h1, below_lift ((Below.refl _ _).alloc (Nat.le_refl _) _).drew h2 (by simp)⟩
theorem new_k17 (w : World) : Calls Try.prog 6 #[.agg #[.int .i64 5, .int .i64 5, .int .i64 2, .int .i64 0, .int .i64 0, .int .i64 0, .int .i64 0, .int .i64 0], .slice none 0 0, .int .i64 1099511627776] w fun e w' => ∃ j g b, e = .returned (.tuple #[.pointer (some ⟨j, 0, none⟩), .int .i64 0]) ∧ JobS w.heap.size w' j g b ⟨tN, 1099511627781, 0, 0, 0, 0, false⟩ [] ∧ Below w.heap.size w w' :=
  jnew_ok w.heap.size tN none 0 0 [] 1099511627776 w w (Below.refl _ _) (Nat.le_refl _) ⟨rfl, fun h => absurd rfl h⟩ (fun _ => rfl) (by decide +kernel)
theorem new_j17 (w : World) : Calls Try.prog 6 #[.agg #[.int .i64 5, .int .i64 5, .int .i64 2, .int .i64 0, .int .i64 0, .int .i64 0, .int .i64 0, .int .i64 0], .slice (some ⟨w.heap.size, 0, none⟩) 1 1, .int .i64 0] (w.alloc (.cells #[.int .i64 1, .int .i64 3, .string { data := #[] }] 29)) fun e w' => ∃ j g b, e = .returned (.tuple #[.pointer (some ⟨j, 0, none⟩), .int .i64 0]) ∧ JobS w.heap.size w' j g b ⟨tN, 5, 0, 0, 0, 0, false⟩ [op2 1 3] ∧ Below w.heap.size w w' :=
  (jnew_ok w.heap.size tN (some ⟨w.heap.size, 0, none⟩) 1 1 [op2 1 3] 0 w _ ((Below.refl _ _).alloc (Nat.le_refl _) _) (by simp) ⟨rfl, opsR_new rfl⟩ (fun h => by cases h) (by decide +kernel)).mono fun e w' ⟨j, g, b, h1, h2, h3⟩ => by
    refine ⟨j, g, b, h1, ⟨h2.blk, ⟨h2.row.row, h2.row.ok, ?_, ?_, h2.row.gl, h2.row.bl⟩, ?_, h2.d⟩, below_lift ((Below.refl _ _).alloc (Nat.le_refl _) _) h3 (by simp)⟩
    · have := h2.row.gB; simp at this; omega
    · have := h2.row.bB; simp at this; omega
    · have := h2.jB; simp at this; omega
theorem make_33 (W : World) : (Instr.makeSlice 30 (.int .i64 33) (.int .i64 33)).run Try.prog W = .ok (.slice (some ⟨W.heap.size, 0, none⟩) 33 33) (W.alloc (.cells (opCells (List.replicate 33 (op2 0 0))).toArray 29)) := by kernel_rfl
theorem n17_0 {B j g b : Nat} {w0 w : World} (h : JobS B w j g b ⟨tN, 5, 0, 0, 0, 0, false⟩ [op2 1 3]) (hB : Below B w0 w) : Calls Try.prog 7 #[.pointer (some ⟨j, 0, none⟩), .int .i64 0] w fun e w' => e = .returned (.int .i64 2) ∧ JobS B w' j g b ⟨tN, 5, 0, 0, 0, 0, false⟩ [op2 1 3] ∧ Below B w0 w' := enter_v h hB rfl rfl ⟨by decide, by decide⟩
theorem n17_1 {B j g b : Nat} {w0 w : World} (h : JobS B w j g b ⟨tN, 5, 0, 0, 0, 0, false⟩ [op2 1 3]) (hB : Below B w0 w) : Calls Try.prog 7 #[.pointer (some ⟨j, 0, none⟩), .int .i64 4] w fun e w' => e = .returned (.int .i64 2) ∧ JobS B w' j g b ⟨tN, 5, 0, 0, 0, 0, false⟩ [op2 1 3] ∧ Below B w0 w' := enter_v h hB rfl rfl ⟨by decide, by decide⟩
theorem n17_2 {B j g b : Nat} {w0 w : World} (h : JobS B w j g b ⟨tN, 5, 0, 0, 0, 0, false⟩ [op2 1 3]) (hB : Below B w0 w) : Calls Try.prog 7 #[.pointer (some ⟨j, 0, none⟩), .int .i64 2] w fun e w' => e = .returned (.int .i64 170) ∧ JobS B w' j g b ⟨tN, 5, 0, 0, 0, 0, false⟩ [op2 1 3] ∧ Below B w0 w' := enter_v h hB rfl rfl ⟨by decide, by decide⟩
theorem n17_3 {B j g b : Nat} {w0 w : World} (h : JobS B w j g b ⟨tN, 5, 0, 0, 0, 0, false⟩ [op2 1 3]) (hB : Below B w0 w) : Calls Try.prog 8 #[.pointer (some ⟨j, 0, none⟩)] w fun e w' => e = .returned (.int .i64 132) ∧ JobS B w' j g b ⟨tN, 5, 0, 0, 0, 0, false⟩ [op2 1 3] ∧ Below B w0 w' := leave_v h hB rfl rfl
theorem n17_4 {B j g b : Nat} {w0 w : World} (h : JobS B w j g b ⟨tN, 5, 0, 0, 0, 0, false⟩ [op2 1 3]) (hB : Below B w0 w) : Calls Try.prog 9 #[.pointer (some ⟨j, 0, none⟩)] w fun e w' => e = .returned (.int .i64 250) ∧ JobS B w' j g b ⟨tN, 5, 0, 0, 0, 0, false⟩ [op2 1 3] ∧ Below B w0 w' := did_v h hB rfl rfl rfl
theorem n17_5 {B j g b : Nat} {w : World} (h : JobS B w j g b ⟨tN, 5, 0, 0, 0, 0, false⟩ [op2 1 3]) : Calls Try.prog 10 #[.pointer (some ⟨j, 0, none⟩)] w fun e w' => e = .returned (.bool false) ∧ w = w' := begun_v h rfl
theorem n17_6 {B j g b : Nat} {w0 w : World} (h : JobS B w j g b ⟨tN, 5, 0, 0, 0, 0, false⟩ [op2 1 3]) (hB : Below B w0 w) : Calls Try.prog 7 #[.pointer (some ⟨j, 0, none⟩), .int .i64 1] w fun e w' => e = .returned (.int .i64 0) ∧ JobS B w' j g b ⟨tN, 5, 0, 1, 0, 0, false⟩ [op2 1 3] ∧ Below B w0 w' := enter_v h hB rfl rfl ⟨by decide, by decide⟩
theorem n17_7 {B j g b : Nat} {w0 w : World} (h : JobS B w j g b ⟨tN, 5, 0, 1, 0, 0, false⟩ [op2 1 3]) (hB : Below B w0 w) : Calls Try.prog 7 #[.pointer (some ⟨j, 0, none⟩), .int .i64 1] w fun e w' => e = .returned (.int .i64 130) ∧ JobS B w' j g b ⟨tN, 5, 0, 1, 0, 0, false⟩ [op2 1 3] ∧ Below B w0 w' := enter_v h hB rfl rfl ⟨by decide, by decide⟩
theorem n17_8 {B j g b : Nat} {w0 w : World} (h : JobS B w j g b ⟨tN, 5, 0, 1, 0, 0, false⟩ [op2 1 3]) (hB : Below B w0 w) : Calls Try.prog 11 #[.pointer (some ⟨j, 0, none⟩), .int .i64 0] w fun e w' => e = .returned (.int .i64 2) ∧ JobS B w' j g b ⟨tN, 5, 0, 1, 0, 0, false⟩ [op2 1 3] ∧ Below B w0 w' := fault_v h hB (by decide +kernel)
theorem n17_9 {B j g b : Nat} {w0 w : World} (h : JobS B w j g b ⟨tN, 5, 0, 1, 0, 0, false⟩ [op2 1 3]) (hB : Below B w0 w) : Calls Try.prog 8 #[.pointer (some ⟨j, 0, none⟩)] w fun e w' => e = .returned (.int .i64 0) ∧ JobS B w' j g b ⟨tN, 5, 0, 0, 0, 0, false⟩ [op2 1 3] ∧ Below B w0 w' := leave_v h hB rfl rfl
theorem n17_10 {B j g b : Nat} {w0 w : World} (h : JobS B w j g b ⟨tN, 5, 0, 0, 0, 0, false⟩ [op2 1 3]) (hB : Below B w0 w) : Calls Try.prog 12 #[.pointer (some ⟨j, 0, none⟩)] w fun e w' => e = .returned (.int .i64 0) ∧ JobS B w' j g b ⟨tN, 5, 1, 0, 0, 0, true⟩ [op2 1 2] ∧ Below B w0 w' := run_v h hB rfl rfl rfl ⟨by decide, by decide⟩ ⟨by decide, by decide⟩
theorem n17_11 {B j g b : Nat} {w : World} (h : JobS B w j g b ⟨tN, 5, 1, 0, 0, 0, true⟩ [op2 1 2]) : Calls Try.prog 10 #[.pointer (some ⟨j, 0, none⟩)] w fun e w' => e = .returned (.bool true) ∧ w = w' := begun_v h rfl
theorem n17_12 {B j g b : Nat} {w0 w : World} (h : JobS B w j g b ⟨tN, 5, 1, 0, 0, 0, true⟩ [op2 1 2]) (hB : Below B w0 w) : Calls Try.prog 11 #[.pointer (some ⟨j, 0, none⟩), .int .i64 1] w fun e w' => e = .returned (.int .i64 0) ∧ JobS B w' j g b ⟨tN, 5, 1, 0, 0, 0, true⟩ [op2 1 2] ∧ Below B w0 w' := fault_v h hB (by decide +kernel)
theorem n17_13 {B j g b : Nat} {w0 w : World} (h : JobS B w j g b ⟨tN, 5, 1, 0, 0, 0, true⟩ [op2 1 2]) (hB : Below B w0 w) : Calls Try.prog 12 #[.pointer (some ⟨j, 0, none⟩)] w fun e w' => e = .returned (.int .i64 0) ∧ JobS B w' j g b ⟨tN, 5, 2, 0, 0, 0, true⟩ [op2 1 1] ∧ Below B w0 w' := run_v h hB rfl rfl rfl ⟨by decide, by decide⟩ ⟨by decide, by decide⟩
theorem n17_14 {B j g b : Nat} {w0 w : World} (h : JobS B w j g b ⟨tN, 5, 2, 0, 0, 0, true⟩ [op2 1 1]) (hB : Below B w0 w) : Calls Try.prog 11 #[.pointer (some ⟨j, 0, none⟩), .int .i64 2] w fun e w' => e = .returned (.int .i64 1) ∧ JobS B w' j g b ⟨tN, 5, 2, 0, 0, 0, true⟩ [op2 1 1] ∧ Below B w0 w' := fault_v h hB (by decide +kernel)
theorem n17_15 {B j g b : Nat} {w0 w : World} (h : JobS B w j g b ⟨tN, 5, 2, 0, 0, 0, true⟩ [op2 1 1]) (hB : Below B w0 w) : Calls Try.prog 11 #[.pointer (some ⟨j, 0, none⟩), .int .i64 5] w fun e w' => e = .returned (.int .i64 3) ∧ JobS B w' j g b ⟨tN, 5, 2, 0, 0, 0, true⟩ [op2 1 1] ∧ Below B w0 w' := fault_v h hB (by decide +kernel)
theorem tcN {w : World} {a : Nat} (h : Blk w a 23 (tCells tN)) : w.cell? ⟨a, 0, none⟩ = some (.int .i64 5) ∧ w.cell? ⟨a, 1, none⟩ = some (.int .i64 5) ∧ w.cell? ⟨a, 2, none⟩ = some (.int .i64 2) ∧ w.cell? ⟨a, 3, none⟩ = some (.int .i64 0) ∧ w.cell? ⟨a, 4, none⟩ = some (.int .i64 0) ∧ w.cell? ⟨a, 5, none⟩ = some (.int .i64 0) ∧ w.cell? ⟨a, 6, none⟩ = some (.int .i64 0) ∧ w.cell? ⟨a, 7, none⟩ = some (.int .i64 0) := tc w a _ tN h
theorem kdone {B j g b : Nat} {x : JV} {w : World} (h : JobS B w j g b x []) : Calls Try.prog 18 #[.pointer (some ⟨j, 0, none⟩)] w fun e w' => e = .returned (.bool true) ∧ JobS B w' j g b x [] ∧ Below w.heap.size w w' :=
  (jdone_c B j g b x [] w h).mono fun e w' ⟨k1, k2⟩ => ⟨k1, h.below k2, k2⟩
set_option maxRecDepth 40000 in
set_option maxHeartbeats 1600000 in
theorem names_c (w : World) : Calls Try.prog 3 #[] w fun e w' => e = .returned (.bool true) ∧ Below w.heap.size w w' := by
  have hmk := make_33
  obtain ⟨Z, hZ⟩ : ∃ Z, List.replicate 33 (op2 0 0) = Z := ⟨_, rfl⟩
  simp only [hZ] at hmk
  have HZ := Lib.hid hZ
  clear hZ
  have hT0 : Blk (w.alloc (.cells #[.int .i64 5, .int .i64 5, .int .i64 2, .int .i64 0, .int .i64 0, .int .i64 0, .int .i64 0, .int .i64 0] 23)) w.heap.size 23 (tCells tN) := Blk.new _ _ _
  have hB0 : Below w.heap.size w (w.alloc (.cells #[.int .i64 5, .int .i64 5, .int .i64 2, .int .i64 0, .int .i64 0, .int .i64 0, .int .i64 0, .int .i64 0] 23)) := (Below.refl _ _).alloc (Nat.le_refl _) _
  have HT0 := Lib.hid hT0
  clear hT0
  go_enter Try.func3, Try.ntmps3
  go_wp2_with (first
    | (go_at_call 6; with_reducible refine (new_d17 _).mono ?_; clear q0 q1 q2 q3 q4 q5 q6 q7; rintro e w4 ⟨rfl, hb4⟩; have hB4 := below_lift hB3 hb4 hB3.size; have HT4 := HT3.below hb4 HT3.lt; obtain ⟨q0, q1, q2, q3, q4, q5, q6, q7⟩ := tcN HT4)
    | (go_at_call 6; with_reducible refine (new_c17 _).mono ?_; clear q0 q1 q2 q3 q4 q5 q6 q7; rintro e w3 ⟨rfl, hb3⟩; have hB3 := below_lift hB2 hb3 hB2.size; have HT3 := HT2.below hb3 HT2.lt; obtain ⟨q0, q1, q2, q3, q4, q5, q6, q7⟩ := tcN HT3)
    | (go_at_call 6; with_reducible refine (new_b17 _).mono ?_; clear q0 q1 q2 q3 q4 q5 q6 q7; rintro e w2 ⟨rfl, hb2⟩; have hB2 := below_lift hB1 hb2 hB1.size; have HT2 := HT1.below hb2 HT1.lt; obtain ⟨q0, q1, q2, q3, q4, q5, q6, q7⟩ := tcN HT2)
    | (go_at_call 6; with_reducible refine (new_a17 _).mono ?_; rintro e w1 ⟨rfl, hb1⟩; have hB1 := below_lift hB0 hb1 hB0.size; have HT1 := HT0.out.below hb1 HT0.out.lt; obtain ⟨q0, q1, q2, q3, q4, q5, q6, q7⟩ := tcN HT1))
  have hC : Below w4.heap.size w4 w4.drew := (Below.refl _ _).drew
  have HTd := HT4.below hC HT4.lt
  clear q0 q1 q2 q3 q4 q5 q6 q7
  obtain ⟨q0, q1, q2, q3, q4, q5, q6, q7⟩ := tcN HTd
  have HTm := HT4.below ((((Below.refl _ w4).alloc (Nat.le_refl _) (.cells (opCells Z).toArray 29)).drew) : Below w4.heap.size w4 _) HT4.lt
  obtain ⟨r0, r1, r2, r3, r4, r5, r6, r7⟩ := tcN HTm
  go_region_held3 (fun w' => w'.cell? ⟨w.heap.size, 0, none⟩ = some (.int .i64 5) ∧ w'.cell? ⟨w.heap.size, 1, none⟩ = some (.int .i64 5) ∧ w'.cell? ⟨w.heap.size, 2, none⟩ = some (.int .i64 2) ∧ w'.cell? ⟨w.heap.size, 3, none⟩ = some (.int .i64 0) ∧ w'.cell? ⟨w.heap.size, 4, none⟩ = some (.int .i64 0) ∧ w'.cell? ⟨w.heap.size, 5, none⟩ = some (.int .i64 0) ∧ w'.cell? ⟨w.heap.size, 6, none⟩ = some (.int .i64 0) ∧ w'.cell? ⟨w.heap.size, 7, none⟩ = some (.int .i64 0)) (go_keep)
    (first
      | (go_at_call 6; with_reducible refine (new_e17d _ Z HZ.out _).mono ?_; clear q0 q1 q2 q3 q4 q5 q6 q7 r0 r1 r2 r3 r4 r5 r6 r7; rintro e w5 ⟨rfl, hb5⟩; have hB5 := below_lift hB4 hb5 hB4.size; have HT5 := HT4.below hb5 HT4.lt; obtain ⟨q0, q1, q2, q3, q4, q5, q6, q7⟩ := tcN HT5))
  go_wp2_with (first
    | (go_at_call 11; with_reducible refine (n17_15 h20 hB20).mono ?_; rintro e w21 ⟨rfl, h21, hB21⟩)
    | (go_at_call 11; with_reducible refine (n17_14 h19 hB19).mono ?_; rintro e w20 ⟨rfl, h20, hB20⟩)
    | (go_at_call 12; with_reducible refine (n17_13 h18 hB18).mono ?_; rintro e w19 ⟨rfl, h19, hB19⟩)
    | (go_at_call 11; with_reducible refine (n17_12 h17 hB17).mono ?_; rintro e w18 ⟨rfl, h18, hB18⟩)
    | (go_at_call 10; with_reducible refine (n17_11 h17).mono ?_; rintro e w17d11 ⟨rfl, rfl⟩)
    | (go_at_call 12; with_reducible refine (n17_10 h16 hB16).mono ?_; rintro e w17 ⟨rfl, h17, hB17⟩)
    | (go_at_call 8; with_reducible refine (n17_9 h15 hB15).mono ?_; rintro e w16 ⟨rfl, h16, hB16⟩)
    | (go_at_call 11; with_reducible refine (n17_8 h14 hB14).mono ?_; rintro e w15 ⟨rfl, h15, hB15⟩)
    | (go_at_call 7; with_reducible refine (n17_7 h13 hB13).mono ?_; rintro e w14 ⟨rfl, h14, hB14⟩)
    | (go_at_call 7; with_reducible refine (n17_6 h12 hB12).mono ?_; rintro e w13 ⟨rfl, h13, hB13⟩)
    | (go_at_call 10; with_reducible refine (n17_5 h12).mono ?_; rintro e w12d5 ⟨rfl, rfl⟩)
    | (go_at_call 9; with_reducible refine (n17_4 h11 hB11).mono ?_; rintro e w12 ⟨rfl, h12, hB12⟩)
    | (go_at_call 8; with_reducible refine (n17_3 h10 hB10).mono ?_; rintro e w11 ⟨rfl, h11, hB11⟩)
    | (go_at_call 7; with_reducible refine (n17_2 h9 hB9).mono ?_; rintro e w10 ⟨rfl, h10, hB10⟩)
    | (go_at_call 7; with_reducible refine (n17_1 h8 hB8).mono ?_; rintro e w9 ⟨rfl, h9, hB9⟩)
    | (go_at_call 7; with_reducible refine (n17_0 h7 hB7).mono ?_; rintro e w8 ⟨rfl, h8, hB8⟩)
    | (go_at_call 6; with_reducible refine (new_j17 _).mono ?_; rintro e w7 ⟨j, g, b, rfl, h7, hB7⟩)
    | (go_at_call 6; with_reducible refine (new_k17 _).mono ?_; clear q0 q1 q2 q3 q4 q5 q6 q7; rintro e w6 ⟨jk, gk, bk, rfl, hK6, hb6⟩; have hB6 := below_lift hB5 hb6 hB5.size; have HT6 := HT5.below hb6 HT5.lt; obtain ⟨q0, q1, q2, q3, q4, q5, q6, q7⟩ := tcN HT6))
  have HBL := Lib.hid hB21
  have HK := Lib.hid hK6
  have hB6s := hB6.size
  clear hK6 HT5 HT6 q0 q1 q2 q3 q4 q5 q6 q7 h7 h8 h9 h10 h11 h12 h13 h14 h15 h16 h17 h18 h19 h20 h21 hB7 hB8 hB9 hB10 hB11 hB12 hB13 hB14 hB15 hB16 hB17 hB18 hB19 hB20 hB21
  generalize w21 = wL at *
  go_loopw [18, 19] (fun v y wr => ∃ i : Nat, i ≤ 2 ∧ y = .int .i64 i ∧ NoJob wr v ∧ Below w6.heap.size w6 wr) (fun _ y _ => 2 - (intOf y).toNat)
  case atStart => exact ⟨0, by omega, rfl, .inl rfl, HBL.out⟩
  case round =>
    obtain ⟨i, hi, rfl, hN, hB⟩ := hrel
    by_cases hlt : (i : Int) < 2
    · go_wp2_with (first
        | (go_at_call 11; with_reducible refine (fault_n _ _ hN2).mono ?_; rintro e wf ⟨rfl, hf⟩; have hN3 := hN2.below hf; have hB3 := below_lift hB2 hf hB2.size)
        | (go_at_call 18; with_reducible refine (done_n _ _ hN3).mono ?_; rintro e wd ⟨rfl, rfl⟩)
        | (go_at_call 10; with_reducible refine (begun_n _ _ hN3).mono ?_; rintro e wd ⟨rfl, rfl⟩)
        | (go_at_call 17; with_reducible refine (takes_n _ _ hN3).mono ?_; rintro e wd ⟨rfl, rfl⟩)
        | (go_at_call 16; with_reducible refine (ran_n _ _ hN3).mono ?_; rintro e wd ⟨rfl, rfl⟩)
        | (go_at_call 15; with_reducible refine (dead_n _ _ hN3).mono ?_; rintro e wd ⟨rfl, rfl⟩)
        | (go_at_call 8; with_reducible refine (leave_n _ _ hN2).mono ?_; rintro e wd ⟨rfl, rfl⟩)
        | (go_at_call 7; with_reducible refine (enter_n _ _ hN2).mono ?_; rintro e wd ⟨rfl, rfl⟩)
        | (go_at_call 12; with_reducible refine (run_n _ _ hN2).mono ?_; rintro e wd ⟨rfl, rfl⟩)
        | (go_at_call 9; with_reducible refine (did_n _ _ hN2).mono ?_; rintro e wd ⟨rfl, rfl⟩)
        | (go_at_call 14; with_reducible refine (in_n _ _ hN2).mono ?_; rintro e wd ⟨rfl, rfl⟩)
        | (go_at_call 13; with_reducible refine (next_n _ _ hN).mono ?_; rintro e wn ⟨rfl, hn⟩; have hN2 := (hN.below hn).below ((Below.refl _ wn).alloc (Nat.le_refl _) (.cells #[.int .i64 0, .int .i64 0, .string { data := #[] }] 29)); have hB2 := (below_lift hB hn hB.size).alloc (below_lift hB hn hB.size).size (.cells #[.int .i64 0, .int .i64 0, .string { data := #[] }] 29)))
      go_roundw
      case rel => exact ⟨i + 1, by omega, rfl, .inr ⟨wf.heap.size, rfl, ((Blk.new wf _ _).cell 0).trans rfl⟩, hB3.alloc hB3.size _⟩
      case measure => simp [intOf]; omega
    · obtain rfl : 2 = i := by omega
      have hKr := HK.out.below hB
      clear hN
      go_wp2_with (first
        | (go_at_call 15; with_reducible refine (dead_v hK3 (v := 1099511627781) rfl).mono ?_; rintro e wd ⟨rfl, rfl⟩)
        | (go_at_call 18; with_reducible refine (kdone hK2).mono ?_; rintro e w3 ⟨rfl, hK3, hb3⟩; have hB3 := below_lift hB2 hb3 hB2.size)
        | (go_at_call 19; with_reducible refine (works_c _).mono ?_; rintro e w2 ⟨rfl, hb2⟩; have hK2 := hKr.below hb2; have hB2 := below_lift (below_lift hB6 hB hB6s) hb2 (Nat.le_trans hB6s hB.size)))
      go_ret
      exact ⟨rfl, hB3⟩
end Go.Proofs.Ytomadlopljfcmaa
