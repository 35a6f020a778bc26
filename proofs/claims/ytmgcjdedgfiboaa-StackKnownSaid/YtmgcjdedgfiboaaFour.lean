/- four, of layer 13. -/
import Derived.Test.YtmgcjdedgfiboaaTskC
import Derived.Test.YtmgcjdedgfiboaaBring
import Derived.StillTailTactics
namespace Go.Proofs.Ytmgcjdedgfiboaa
set_option linter.unusedVariables false
open Go.RowKit

/-- A block of 32 numbers. -/
def Ints32 (w : World) (g : Nat) : Prop := ∃ cur, Blk w g 48 cur ∧ cur.size = 32 ∧ ∀ j, j < 32 → ∃ z : Int, cur[j]? = some (.int .i64 z)
theorem Ints32.below {w w' : World} {g : Nat} (h : Ints32 w g) (k : Below w.heap.size w w') : Ints32 w' g := by
  obtain ⟨cur, h1, h2⟩ := h
  exact ⟨cur, h1.below k h1.lt, h2⟩
theorem Ints32.set {w : World} {g : Nat} (h : Ints32 w g) (i : Nat) (z : Int) : Ints32 (w.setCell ⟨g, i, none⟩ (.int .i64 z)) g := by
  obtain ⟨cur, h1, h2, h3⟩ := h
  refine ⟨_, h1.set_ i _, by simpa using h2, fun j hj => ?_⟩
  rw [Array.getElem?_setIfInBounds]
  split
  · exact ⟨z, by rw [if_pos (by omega)]⟩
  · exact h3 j hj
theorem Ints32.cells {w : World} {g : Nat} (h : Ints32 w g) : ∀ j, j < 32 → (∃ u, w.cell? ⟨g, j, none⟩ = some u) ∧ w.frozen? ⟨g, j, none⟩ = false := by
  obtain ⟨cur, h1, h2, h3⟩ := h
  intro j hj
  obtain ⟨z, hz⟩ := h3 j hj
  exact ⟨⟨_, (h1.cell j).trans hz⟩, h1.frozen j⟩
theorem Ints32.tasks {w : World} {g : Nat} (h : Ints32 w g) : ∃ D, TasksAt w (some ⟨g, 0, none⟩) 4 D := by
  obtain ⟨cur, h1, h2, h3⟩ := h
  refine ⟨fun i j => match cur[i * 8 + j]? with | some (.int _ z) => z | _ => 0, fun _ => ⟨g, 0, rfl, h1.lt, fun i hi => RowT.of fun j hj => ?_⟩⟩
  obtain ⟨z, hz⟩ := h3 (i * 8 + j) (by omega)
  rw [Nat.zero_add]
  refine (h1.cell _).trans ?_
  simp only [hz]
theorem make_4 (W : World) : (Instr.makeSlice 22 (.int .i64 4) (.int .i64 4)).run Try.prog W = .ok (.slice (some ⟨W.heap.size, 0, none⟩) 4 4) (W.alloc (.cells (Array.replicate 32 (.int .i64 0)) 48)) := by kernel_rfl
theorem bring_q (i : Int) (w : World) (n : Int) (hn : 0 < n) (hn' : n ≤ 9223372036854775807) : ∃ z, ∀ w, Calls Try.prog 9 #[.int .i64 i, .int .i64 n] w fun e w' => e = .returned (.int .i64 z) ∧ w' = w :=
  ⟨i % n, fun w => (bring_c i n w hn hn').mono fun e w' ⟨h1, h2⟩ => ⟨h1, h2.symm⟩⟩
def put8 (w : World) (g o : Nat) (a0 a1 a2 a3 a4 a5 a6 a7 : Int) : World :=
  (((((((w.setCell ⟨g, o, none⟩ (.int .i64 a0)).setCell ⟨g, o + 1, none⟩ (.int .i64 a1)).setCell ⟨g, o + 2, none⟩ (.int .i64 a2)).setCell ⟨g, o + 3, none⟩ (.int .i64 a3)).setCell ⟨g, o + 4, none⟩ (.int .i64 a4)).setCell ⟨g, o + 5, none⟩ (.int .i64 a5)).setCell ⟨g, o + 6, none⟩ (.int .i64 a6)).setCell ⟨g, o + 7, none⟩ (.int .i64 a7)
theorem Ints32.put8 {w : World} {g : Nat} (h : Ints32 w g) (o : Nat) (a0 a1 a2 a3 a4 a5 a6 a7 : Int) : Ints32 (put8 w g o a0 a1 a2 a3 a4 a5 a6 a7) g := (((((((h.set _ _).set _ _).set _ _).set _ _).set _ _).set _ _).set _ _).set _ _
theorem put8_below {B : Nat} {w0 w : World} {g : Nat} (h : Below B w0 w) (hg : B ≤ g) (o : Nat) (a0 a1 a2 a3 a4 a5 a6 a7 : Int) : Below B w0 (put8 w g o a0 a1 a2 a3 a4 a5 a6 a7) :=
  (((((((h.setCell (p := ⟨g, _, none⟩) hg _).setCell (p := ⟨g, _, none⟩) hg _).setCell (p := ⟨g, _, none⟩) hg _).setCell (p := ⟨g, _, none⟩) hg _).setCell (p := ⟨g, _, none⟩) hg _).setCell (p := ⟨g, _, none⟩) hg _).setCell (p := ⟨g, _, none⟩) hg _).setCell (p := ⟨g, _, none⟩) hg _
theorem keep8 {w : World} {g b o o' : Nat} {a0 a1 a2 a3 a4 a5 a6 a7 : Int} {v : Value} (hne : ¬ b = g) (h : w.cell? ⟨b, o', none⟩ = some v) : ((((((((w.setCell ⟨g, o, none⟩ (.int .i64 a0)).setCell ⟨g, o + 1, none⟩ (.int .i64 a1)).setCell ⟨g, o + 2, none⟩ (.int .i64 a2)).setCell ⟨g, o + 3, none⟩ (.int .i64 a3)).setCell ⟨g, o + 4, none⟩ (.int .i64 a4)).setCell ⟨g, o + 5, none⟩ (.int .i64 a5)).setCell ⟨g, o + 6, none⟩ (.int .i64 a6)).setCell ⟨g, o + 7, none⟩ (.int .i64 a7)).drew.cell? ⟨b, o', none⟩ = some v := by
  have hk : Keeps (fun x => x = g) w (((((((((w.setCell ⟨g, o, none⟩ (.int .i64 a0)).setCell ⟨g, o + 1, none⟩ (.int .i64 a1)).setCell ⟨g, o + 2, none⟩ (.int .i64 a2)).setCell ⟨g, o + 3, none⟩ (.int .i64 a3)).setCell ⟨g, o + 4, none⟩ (.int .i64 a4)).setCell ⟨g, o + 5, none⟩ (.int .i64 a5)).setCell ⟨g, o + 6, none⟩ (.int .i64 a6)).setCell ⟨g, o + 7, none⟩ (.int .i64 a7)).drew) :=
    (((((((((Keeps.refl (fun x => x = g) w).setCell (p := ⟨g, _, none⟩) (.inl rfl) _).setCell (p := ⟨g, _, none⟩) (.inl rfl) _).setCell (p := ⟨g, _, none⟩) (.inl rfl) _).setCell (p := ⟨g, _, none⟩) (.inl rfl) _).setCell (p := ⟨g, _, none⟩) (.inl rfl) _).setCell (p := ⟨g, _, none⟩) (.inl rfl) _).setCell (p := ⟨g, _, none⟩) (.inl rfl) _).setCell (p := ⟨g, _, none⟩) (.inl rfl) _).drew
  refine (hk.cell (p := ⟨b, o', none⟩) ?_ hne).trans h
  show b < w.heap.size
  rcases Nat.lt_or_ge b w.heap.size with hlt | hge
  · exact hlt
  · unfold World.cell? at h
    rw [Array.getElem?_eq_none hge] at h
    cases h
set_option maxHeartbeats 4000000 in
theorem four_c (A : Option Addr) (n c : Nat) (D : Nat → Nat → Int) (w : World) (hn : n ≤ 1152921504606846976) (h : TasksAt w A n D) :
    Calls Try.prog 7 #[.slice A n c] w fun e w' => ∃ g D', e = .returned (.slice (some ⟨g, 0, none⟩) 4 4) ∧ TasksAt w' (some ⟨g, 0, none⟩) 4 D' ∧ Below w.heap.size w w' := by
  have HT := Lib.hid h
  clear h
  have hmk := make_4
  obtain ⟨Z, hZ⟩ : ∃ Z : Array Value, Array.replicate 32 (.int .i64 0) = Z := ⟨_, rfl⟩
  simp only [hZ] at hmk
  have h0 : Hid (Ints32 (w.alloc (.cells Z 48)) w.heap.size) := by
    refine ⟨Z, Blk.new _ _ _, by rw [← hZ]; simp, fun j hj => ⟨0, by rw [← hZ, Array.getElem?_replicate, if_pos hj]⟩⟩
  clear hZ
  go_enter Try.func7, Try.ntmps7
  go_wp2_with fail
  have hB0 : Below w.heap.size w (w.alloc (.cells Z 48)) := (Below.refl _ _).alloc (Nat.le_refl _) _
  go_loopw [4] (fun y wr => ∃ i : Nat, i ≤ 4 ∧ y = .int .i64 i ∧ Ints32 wr w.heap.size ∧ Below w.heap.size w wr) (fun y _ => 4 - (intOf y).toNat)
  case atStart => exact ⟨0, by omega, rfl, h0.out, hB0⟩
  case round =>
    obtain ⟨i, hi, rfl, hI, hB⟩ := hrel
    by_cases hlt : i < 4
    · have HI := Lib.hid hI
      have HB := Lib.hid hB
      rcases (by omega : i = 0 ∨ i = 1 ∨ i = 2 ∨ i = 3) with rfl | rfl | rfl | rfl
      · by_cases hin : 0 < n
        · have hin2 : (0 : Int) < (n : Nat) := by omega
          obtain ⟨b, off, rfl, hb, hr⟩ := HT.out (by omega)
          obtain ⟨z, hz⟩ := bring_q (D 0 1) w 64 (by omega) (by omega)
          obtain ⟨-, q1, -, q3, -⟩ := hr 0 hin
          have hbg : ¬ b = w.heap.size := by omega
          obtain ⟨⟨u0, k0⟩, f0⟩ := hI.cells 0 (by omega)
          obtain ⟨⟨u1, k1⟩, f1⟩ := hI.cells 1 (by omega)
          obtain ⟨⟨u2, k2⟩, f2⟩ := hI.cells 2 (by omega)
          obtain ⟨⟨u3, k3⟩, f3⟩ := hI.cells 3 (by omega)
          obtain ⟨⟨u4, k4⟩, f4⟩ := hI.cells 4 (by omega)
          obtain ⟨⟨u5, k5⟩, f5⟩ := hI.cells 5 (by omega)
          obtain ⟨⟨u6, k6⟩, f6⟩ := hI.cells 6 (by omega)
          obtain ⟨⟨u7, k7⟩, f7⟩ := hI.cells 7 (by omega)
          clear hI hr
          have hK0 := HI.out.put8 0 0 1 0 255 0 0 0 0
          have hBB := put8_below HB.out (Nat.le_refl w.heap.size) 0 0 1 0 255 0 0 0 0
          have r1 : (put8 wr w.heap.size 0 0 1 0 255 0 0 0 0).cell? ⟨b, off + 1, none⟩ = some (.int .i64 (D 0 1)) := (hBB.cell (p := ⟨b, off + 1, none⟩) hb).trans (by simpa using q1)
          have r3 : (put8 wr w.heap.size 0 0 1 0 255 0 0 0 0).cell? ⟨b, off + 3, none⟩ = some (.int .i64 (D 0 3)) := (hBB.cell (p := ⟨b, off + 3, none⟩) hb).trans (by simpa using q3)
          clear q1 q3
          go_wp2_with fail
          show Code.wp _ _ _ _ (put8 wr w.heap.size 0 0 1 0 255 0 0 0 0)
          generalize put8 wr w.heap.size 0 0 1 0 255 0 0 0 0 = w8 at *
          obtain ⟨⟨v0, l0⟩, g0⟩ := hK0.cells 0 (by omega)
          obtain ⟨⟨v1, l1⟩, g1⟩ := hK0.cells 1 (by omega)
          obtain ⟨⟨v2, l2⟩, g2⟩ := hK0.cells 2 (by omega)
          obtain ⟨⟨v3, l3⟩, g3⟩ := hK0.cells 3 (by omega)
          obtain ⟨⟨v4, l4⟩, g4⟩ := hK0.cells 4 (by omega)
          obtain ⟨⟨v5, l5⟩, g5⟩ := hK0.cells 5 (by omega)
          obtain ⟨⟨v6, l6⟩, g6⟩ := hK0.cells 6 (by omega)
          obtain ⟨⟨v7, l7⟩, g7⟩ := hK0.cells 7 (by omega)
          clear k0 k1 k2 k3 k4 k5 k6 k7 f0 f1 f2 f3 f4 f5 f6 f7
          have HK0 := Lib.hid hK0
          have HBB := Lib.hid hBB
          clear hK0 hBB
          have r1d : w8.drew.cell? ⟨b, off + 1, none⟩ = some (.int .i64 (D 0 1)) := r1
          have r3d : w8.drew.cell? ⟨b, off + 3, none⟩ = some (.int .i64 (D 0 3)) := r3
          clear r1 r3
          go_region_law ((go_simp; go_at_call 9; with_reducible refine (hz _).mono ?_; rintro e w10 ⟨rfl, rfl⟩))
          all_goals go_wp2
          all_goals refine ⟨⟨1, by omega, rfl, (HK0.out.put8 0 0 z 0 (D 0 3) 0 0 0 0).below (Below.refl _ _).drew, (put8_below HBB.out (Nat.le_refl _) 0 0 z 0 (D 0 3) 0 0 0 0).drew⟩, ?_⟩
          all_goals simp [intOf]
        · have hin2 : ¬ (0 : Int) < (n : Nat) := by omega
          obtain ⟨⟨u0, k0⟩, f0⟩ := hI.cells 0 (by omega)
          obtain ⟨⟨u1, k1⟩, f1⟩ := hI.cells 1 (by omega)
          obtain ⟨⟨u2, k2⟩, f2⟩ := hI.cells 2 (by omega)
          obtain ⟨⟨u3, k3⟩, f3⟩ := hI.cells 3 (by omega)
          obtain ⟨⟨u4, k4⟩, f4⟩ := hI.cells 4 (by omega)
          obtain ⟨⟨u5, k5⟩, f5⟩ := hI.cells 5 (by omega)
          obtain ⟨⟨u6, k6⟩, f6⟩ := hI.cells 6 (by omega)
          obtain ⟨⟨u7, k7⟩, f7⟩ := hI.cells 7 (by omega)
          clear hI
          go_wp2_with fail
          go_roundw
          case rel => exact ⟨1, by omega, rfl, HI.out.put8 0 0 1 0 255 0 0 0 0, put8_below HB.out (Nat.le_refl _) 0 0 1 0 255 0 0 0 0⟩
          case measure => simp [intOf]
      · by_cases hin : 1 < n
        · have hin2 : (1 : Int) < (n : Nat) := by omega
          obtain ⟨b, off, rfl, hb, hr⟩ := HT.out (by omega)
          obtain ⟨z, hz⟩ := bring_q (D 1 1) w 64 (by omega) (by omega)
          obtain ⟨-, q1, -, q3, -⟩ := hr 1 hin
          have hbg : ¬ b = w.heap.size := by omega
          obtain ⟨⟨u0, k0⟩, f0⟩ := hI.cells 8 (by omega)
          obtain ⟨⟨u1, k1⟩, f1⟩ := hI.cells 9 (by omega)
          obtain ⟨⟨u2, k2⟩, f2⟩ := hI.cells 10 (by omega)
          obtain ⟨⟨u3, k3⟩, f3⟩ := hI.cells 11 (by omega)
          obtain ⟨⟨u4, k4⟩, f4⟩ := hI.cells 12 (by omega)
          obtain ⟨⟨u5, k5⟩, f5⟩ := hI.cells 13 (by omega)
          obtain ⟨⟨u6, k6⟩, f6⟩ := hI.cells 14 (by omega)
          obtain ⟨⟨u7, k7⟩, f7⟩ := hI.cells 15 (by omega)
          clear hI hr
          have hK0 := HI.out.put8 8 0 2 0 255 0 0 0 0
          have hBB := put8_below HB.out (Nat.le_refl w.heap.size) 8 0 2 0 255 0 0 0 0
          have r1 : (put8 wr w.heap.size 8 0 2 0 255 0 0 0 0).cell? ⟨b, off + 9, none⟩ = some (.int .i64 (D 1 1)) := (hBB.cell (p := ⟨b, off + 9, none⟩) hb).trans (by simpa using q1)
          have r3 : (put8 wr w.heap.size 8 0 2 0 255 0 0 0 0).cell? ⟨b, off + 11, none⟩ = some (.int .i64 (D 1 3)) := (hBB.cell (p := ⟨b, off + 11, none⟩) hb).trans (by simpa using q3)
          clear q1 q3
          go_wp2_with fail
          show Code.wp _ _ _ _ (put8 wr w.heap.size 8 0 2 0 255 0 0 0 0)
          generalize put8 wr w.heap.size 8 0 2 0 255 0 0 0 0 = w8 at *
          obtain ⟨⟨v0, l0⟩, g0⟩ := hK0.cells 8 (by omega)
          obtain ⟨⟨v1, l1⟩, g1⟩ := hK0.cells 9 (by omega)
          obtain ⟨⟨v2, l2⟩, g2⟩ := hK0.cells 10 (by omega)
          obtain ⟨⟨v3, l3⟩, g3⟩ := hK0.cells 11 (by omega)
          obtain ⟨⟨v4, l4⟩, g4⟩ := hK0.cells 12 (by omega)
          obtain ⟨⟨v5, l5⟩, g5⟩ := hK0.cells 13 (by omega)
          obtain ⟨⟨v6, l6⟩, g6⟩ := hK0.cells 14 (by omega)
          obtain ⟨⟨v7, l7⟩, g7⟩ := hK0.cells 15 (by omega)
          clear k0 k1 k2 k3 k4 k5 k6 k7 f0 f1 f2 f3 f4 f5 f6 f7
          have HK0 := Lib.hid hK0
          have HBB := Lib.hid hBB
          clear hK0 hBB
          have r1d : w8.drew.cell? ⟨b, off + 9, none⟩ = some (.int .i64 (D 1 1)) := r1
          have r3d : w8.drew.cell? ⟨b, off + 11, none⟩ = some (.int .i64 (D 1 3)) := r3
          clear r1 r3
          go_region_law ((go_simp; go_at_call 9; with_reducible refine (hz _).mono ?_; rintro e w10 ⟨rfl, rfl⟩))
          all_goals go_wp2
          all_goals refine ⟨⟨2, by omega, rfl, (HK0.out.put8 8 0 z 0 (D 1 3) 0 0 0 0).below (Below.refl _ _).drew, (put8_below HBB.out (Nat.le_refl _) 8 0 z 0 (D 1 3) 0 0 0 0).drew⟩, ?_⟩
          all_goals simp [intOf]
        · have hin2 : ¬ (1 : Int) < (n : Nat) := by omega
          obtain ⟨⟨u0, k0⟩, f0⟩ := hI.cells 8 (by omega)
          obtain ⟨⟨u1, k1⟩, f1⟩ := hI.cells 9 (by omega)
          obtain ⟨⟨u2, k2⟩, f2⟩ := hI.cells 10 (by omega)
          obtain ⟨⟨u3, k3⟩, f3⟩ := hI.cells 11 (by omega)
          obtain ⟨⟨u4, k4⟩, f4⟩ := hI.cells 12 (by omega)
          obtain ⟨⟨u5, k5⟩, f5⟩ := hI.cells 13 (by omega)
          obtain ⟨⟨u6, k6⟩, f6⟩ := hI.cells 14 (by omega)
          obtain ⟨⟨u7, k7⟩, f7⟩ := hI.cells 15 (by omega)
          clear hI
          go_wp2_with fail
          go_roundw
          case rel => exact ⟨2, by omega, rfl, HI.out.put8 8 0 2 0 255 0 0 0 0, put8_below HB.out (Nat.le_refl _) 8 0 2 0 255 0 0 0 0⟩
          case measure => simp [intOf]
      · by_cases hin : 2 < n
        · have hin2 : (2 : Int) < (n : Nat) := by omega
          obtain ⟨b, off, rfl, hb, hr⟩ := HT.out (by omega)
          obtain ⟨z, hz⟩ := bring_q (D 2 1) w 64 (by omega) (by omega)
          obtain ⟨-, q1, -, q3, -⟩ := hr 2 hin
          have hbg : ¬ b = w.heap.size := by omega
          obtain ⟨⟨u0, k0⟩, f0⟩ := hI.cells 16 (by omega)
          obtain ⟨⟨u1, k1⟩, f1⟩ := hI.cells 17 (by omega)
          obtain ⟨⟨u2, k2⟩, f2⟩ := hI.cells 18 (by omega)
          obtain ⟨⟨u3, k3⟩, f3⟩ := hI.cells 19 (by omega)
          obtain ⟨⟨u4, k4⟩, f4⟩ := hI.cells 20 (by omega)
          obtain ⟨⟨u5, k5⟩, f5⟩ := hI.cells 21 (by omega)
          obtain ⟨⟨u6, k6⟩, f6⟩ := hI.cells 22 (by omega)
          obtain ⟨⟨u7, k7⟩, f7⟩ := hI.cells 23 (by omega)
          clear hI hr
          have hK0 := HI.out.put8 16 0 3 0 255 0 0 0 0
          have hBB := put8_below HB.out (Nat.le_refl w.heap.size) 16 0 3 0 255 0 0 0 0
          have r1 : (put8 wr w.heap.size 16 0 3 0 255 0 0 0 0).cell? ⟨b, off + 17, none⟩ = some (.int .i64 (D 2 1)) := (hBB.cell (p := ⟨b, off + 17, none⟩) hb).trans (by simpa using q1)
          have r3 : (put8 wr w.heap.size 16 0 3 0 255 0 0 0 0).cell? ⟨b, off + 19, none⟩ = some (.int .i64 (D 2 3)) := (hBB.cell (p := ⟨b, off + 19, none⟩) hb).trans (by simpa using q3)
          clear q1 q3
          go_wp2_with fail
          show Code.wp _ _ _ _ (put8 wr w.heap.size 16 0 3 0 255 0 0 0 0)
          generalize put8 wr w.heap.size 16 0 3 0 255 0 0 0 0 = w8 at *
          obtain ⟨⟨v0, l0⟩, g0⟩ := hK0.cells 16 (by omega)
          obtain ⟨⟨v1, l1⟩, g1⟩ := hK0.cells 17 (by omega)
          obtain ⟨⟨v2, l2⟩, g2⟩ := hK0.cells 18 (by omega)
          obtain ⟨⟨v3, l3⟩, g3⟩ := hK0.cells 19 (by omega)
          obtain ⟨⟨v4, l4⟩, g4⟩ := hK0.cells 20 (by omega)
          obtain ⟨⟨v5, l5⟩, g5⟩ := hK0.cells 21 (by omega)
          obtain ⟨⟨v6, l6⟩, g6⟩ := hK0.cells 22 (by omega)
          obtain ⟨⟨v7, l7⟩, g7⟩ := hK0.cells 23 (by omega)
          clear k0 k1 k2 k3 k4 k5 k6 k7 f0 f1 f2 f3 f4 f5 f6 f7
          have HK0 := Lib.hid hK0
          have HBB := Lib.hid hBB
          clear hK0 hBB
          have r1d : w8.drew.cell? ⟨b, off + 17, none⟩ = some (.int .i64 (D 2 1)) := r1
          have r3d : w8.drew.cell? ⟨b, off + 19, none⟩ = some (.int .i64 (D 2 3)) := r3
          clear r1 r3
          go_region_law ((go_simp; go_at_call 9; with_reducible refine (hz _).mono ?_; rintro e w10 ⟨rfl, rfl⟩))
          all_goals go_wp2
          all_goals refine ⟨⟨3, by omega, rfl, (HK0.out.put8 16 0 z 0 (D 2 3) 0 0 0 0).below (Below.refl _ _).drew, (put8_below HBB.out (Nat.le_refl _) 16 0 z 0 (D 2 3) 0 0 0 0).drew⟩, ?_⟩
          all_goals simp [intOf]
        · have hin2 : ¬ (2 : Int) < (n : Nat) := by omega
          obtain ⟨⟨u0, k0⟩, f0⟩ := hI.cells 16 (by omega)
          obtain ⟨⟨u1, k1⟩, f1⟩ := hI.cells 17 (by omega)
          obtain ⟨⟨u2, k2⟩, f2⟩ := hI.cells 18 (by omega)
          obtain ⟨⟨u3, k3⟩, f3⟩ := hI.cells 19 (by omega)
          obtain ⟨⟨u4, k4⟩, f4⟩ := hI.cells 20 (by omega)
          obtain ⟨⟨u5, k5⟩, f5⟩ := hI.cells 21 (by omega)
          obtain ⟨⟨u6, k6⟩, f6⟩ := hI.cells 22 (by omega)
          obtain ⟨⟨u7, k7⟩, f7⟩ := hI.cells 23 (by omega)
          clear hI
          go_wp2_with fail
          go_roundw
          case rel => exact ⟨3, by omega, rfl, HI.out.put8 16 0 3 0 255 0 0 0 0, put8_below HB.out (Nat.le_refl _) 16 0 3 0 255 0 0 0 0⟩
          case measure => simp [intOf]
      · by_cases hin : 3 < n
        · have hin2 : (3 : Int) < (n : Nat) := by omega
          obtain ⟨b, off, rfl, hb, hr⟩ := HT.out (by omega)
          obtain ⟨z, hz⟩ := bring_q (D 3 1) w 64 (by omega) (by omega)
          obtain ⟨-, q1, -, q3, -⟩ := hr 3 hin
          have hbg : ¬ b = w.heap.size := by omega
          obtain ⟨⟨u0, k0⟩, f0⟩ := hI.cells 24 (by omega)
          obtain ⟨⟨u1, k1⟩, f1⟩ := hI.cells 25 (by omega)
          obtain ⟨⟨u2, k2⟩, f2⟩ := hI.cells 26 (by omega)
          obtain ⟨⟨u3, k3⟩, f3⟩ := hI.cells 27 (by omega)
          obtain ⟨⟨u4, k4⟩, f4⟩ := hI.cells 28 (by omega)
          obtain ⟨⟨u5, k5⟩, f5⟩ := hI.cells 29 (by omega)
          obtain ⟨⟨u6, k6⟩, f6⟩ := hI.cells 30 (by omega)
          obtain ⟨⟨u7, k7⟩, f7⟩ := hI.cells 31 (by omega)
          clear hI hr
          have hK0 := HI.out.put8 24 0 4 0 255 0 0 0 0
          have hBB := put8_below HB.out (Nat.le_refl w.heap.size) 24 0 4 0 255 0 0 0 0
          have r1 : (put8 wr w.heap.size 24 0 4 0 255 0 0 0 0).cell? ⟨b, off + 25, none⟩ = some (.int .i64 (D 3 1)) := (hBB.cell (p := ⟨b, off + 25, none⟩) hb).trans (by simpa using q1)
          have r3 : (put8 wr w.heap.size 24 0 4 0 255 0 0 0 0).cell? ⟨b, off + 27, none⟩ = some (.int .i64 (D 3 3)) := (hBB.cell (p := ⟨b, off + 27, none⟩) hb).trans (by simpa using q3)
          clear q1 q3
          go_wp2_with fail
          show Code.wp _ _ _ _ (put8 wr w.heap.size 24 0 4 0 255 0 0 0 0)
          generalize put8 wr w.heap.size 24 0 4 0 255 0 0 0 0 = w8 at *
          obtain ⟨⟨v0, l0⟩, g0⟩ := hK0.cells 24 (by omega)
          obtain ⟨⟨v1, l1⟩, g1⟩ := hK0.cells 25 (by omega)
          obtain ⟨⟨v2, l2⟩, g2⟩ := hK0.cells 26 (by omega)
          obtain ⟨⟨v3, l3⟩, g3⟩ := hK0.cells 27 (by omega)
          obtain ⟨⟨v4, l4⟩, g4⟩ := hK0.cells 28 (by omega)
          obtain ⟨⟨v5, l5⟩, g5⟩ := hK0.cells 29 (by omega)
          obtain ⟨⟨v6, l6⟩, g6⟩ := hK0.cells 30 (by omega)
          obtain ⟨⟨v7, l7⟩, g7⟩ := hK0.cells 31 (by omega)
          clear k0 k1 k2 k3 k4 k5 k6 k7 f0 f1 f2 f3 f4 f5 f6 f7
          have HK0 := Lib.hid hK0
          have HBB := Lib.hid hBB
          clear hK0 hBB
          have r1d : w8.drew.cell? ⟨b, off + 25, none⟩ = some (.int .i64 (D 3 1)) := r1
          have r3d : w8.drew.cell? ⟨b, off + 27, none⟩ = some (.int .i64 (D 3 3)) := r3
          clear r1 r3
          go_region_law ((go_simp; go_at_call 9; with_reducible refine (hz _).mono ?_; rintro e w10 ⟨rfl, rfl⟩))
          all_goals go_wp2
          all_goals refine ⟨⟨4, by omega, rfl, (HK0.out.put8 24 0 z 0 (D 3 3) 0 0 0 0).below (Below.refl _ _).drew, (put8_below HBB.out (Nat.le_refl _) 24 0 z 0 (D 3 3) 0 0 0 0).drew⟩, ?_⟩
          all_goals simp [intOf]
        · have hin2 : ¬ (3 : Int) < (n : Nat) := by omega
          obtain ⟨⟨u0, k0⟩, f0⟩ := hI.cells 24 (by omega)
          obtain ⟨⟨u1, k1⟩, f1⟩ := hI.cells 25 (by omega)
          obtain ⟨⟨u2, k2⟩, f2⟩ := hI.cells 26 (by omega)
          obtain ⟨⟨u3, k3⟩, f3⟩ := hI.cells 27 (by omega)
          obtain ⟨⟨u4, k4⟩, f4⟩ := hI.cells 28 (by omega)
          obtain ⟨⟨u5, k5⟩, f5⟩ := hI.cells 29 (by omega)
          obtain ⟨⟨u6, k6⟩, f6⟩ := hI.cells 30 (by omega)
          obtain ⟨⟨u7, k7⟩, f7⟩ := hI.cells 31 (by omega)
          clear hI
          go_wp2_with fail
          go_roundw
          case rel => exact ⟨4, by omega, rfl, HI.out.put8 24 0 4 0 255 0 0 0 0, put8_below HB.out (Nat.le_refl _) 24 0 4 0 255 0 0 0 0⟩
          case measure => simp [intOf]
    · obtain rfl : 4 = i := by omega
      obtain ⟨D', hD⟩ := hI.tasks
      go_wp2_with fail
      go_ret
      exact ⟨_, D', rfl, hD, hB⟩
end Go.Proofs.Ytmgcjdedgfiboaa
