/- The program's job: Enter. -/
import Derived.Test.YtomadlopljfcmaaJobB
namespace Go.Proofs.Ytomadlopljfcmaa
set_option linter.unusedVariables false
open Go.RowKit

set_option maxHeartbeats 800000 in
theorem jenter_s (B j g b : Nat) (x : JV) (L : List OpV) (s : Int) (w0 w : World) (h : JobS B w j g b x L) (hB : Below B w0 w) (hk : -4611686018427387904 ≤ x.tkn ∧ x.tkn ≤ 4611686018427387904) :
    Calls Try.prog 7 #[.pointer (some ⟨j, 0, none⟩), .int .i64 s] w fun e w' => e = .returned (.int .i64 (enterE x s)) ∧ JobS B w' j g b (enterX x s) L ∧ Below B w0 w' ∧ Keeps (tri j g b) w w' := by
  have HH := Lib.hid h
  have HBk : Blk w j 42 (jCells (.pointer (some ⟨g, 0, none⟩)) x) := h.blk
  have HJB := h.blk
  have c8 := jc8 HBk
  have c11 := jc11 HBk
  have c12 := jc12 HBk
  have c13 := jc13 HBk
  have f11 := HBk.frozen 11
  have f12 := HBk.frozen 12
  have f13 := HBk.frozen 13
  clear h
  obtain ⟨hk1, hk2⟩ := hk
  by_cases hlo : s < 1
  · skip
    have hE : Hid (enterE x s = 2) := by show enterE x s = 2; unfold enterE; repeat (first | rw [if_pos (by omega)] | rw [if_neg (by omega)])
    have hX : Hid (enterX x s = x) := by show enterX x s = x; unfold enterX; repeat (first | rw [if_pos (by omega)] | rw [if_neg (by omega)])
    clear hk1
    go_enter Try.func7, Try.ntmps7
    go_wp2_with (go_at_call 30; with_reducible refine (jnone_c j g x _ HJB).mono ?_; rintro e w1 ⟨rfl, rfl⟩)
    go_ret
    rw [hE.out, hX.out]
    exact ⟨rfl, HH.out, hB, Keeps.refl _ _⟩
  by_cases hhi : 3 < s
  · skip
    have hE : Hid (enterE x s = 2) := by show enterE x s = 2; unfold enterE; repeat (first | rw [if_pos (by omega)] | rw [if_neg (by omega)])
    have hX : Hid (enterX x s = x) := by show enterX x s = x; unfold enterX; repeat (first | rw [if_pos (by omega)] | rw [if_neg (by omega)])
    clear hk1
    go_enter Try.func7, Try.ntmps7
    go_wp2_with (go_at_call 30; with_reducible refine (jnone_c j g x _ HJB).mono ?_; rintro e w1 ⟨rfl, rfl⟩)
    go_ret
    rw [hE.out, hX.out]
    exact ⟨rfl, HH.out, hB, Keeps.refl _ _⟩
  rcases (by omega : s = 1 ∨ s = 2 ∨ s = 3) with rfl | rfl | rfl
  · by_cases h0 : x.sec = 0
    · have hb0 : (x.sec != 0) = false := by simp [h0]
      have hb3 : (x.sec == 3) = false := by simp [h0]
      have hE : Hid (enterE x 1 = 0) := by show enterE x 1 = 0; unfold enterE; repeat (first | rw [if_pos (by omega)] | rw [if_neg (by omega)])
      have hX : Hid (enterX x 1 = { x with sec := 1, tk := 0 }) := by show enterX x 1 = { x with sec := 1, tk := 0 }; unfold enterX; repeat (first | rw [if_pos (by omega)] | rw [if_neg (by omega)])
      clear h0 hlo hhi
      go_enter Try.func7, Try.ntmps7
      go_wp2_with (go_at_call 30; with_reducible refine (jnone_c j g x _ HJB).mono ?_; rintro e w1 ⟨rfl, rfl⟩)
      go_quiet (fail)
      go_wp2
      go_ret
      rw [hE.out, hX.out]
      exact ⟨rfl, ((HH.out.below (below_drewN (Below.refl _ _) _)).put (y := { x with sec := 1 }) rfl).put rfl, ((below_drewN hB _).setCell HH.out.jB _).setCell HH.out.jB _, Keeps.setCell (S := tri j g b) (Keeps.setCell (S := tri j g b) ((Keeps.refl _ _).drewN _) (.inl (.inl rfl)) _) (.inl (.inl rfl)) _⟩
    · have hb0 : (x.sec != 0) = true := by simp [h0]
      by_cases h3 : x.sec = 3
      · have hb3 : (x.sec == 3) = true := by simp [h3]
        have hE : Hid (enterE x 1 = 130) := by show enterE x 1 = 130; unfold enterE; repeat (first | rw [if_pos (by omega)] | rw [if_neg (by omega)])
        have hX : Hid (enterX x 1 = x) := by show enterX x 1 = x; unfold enterX; repeat (first | rw [if_pos (by omega)] | rw [if_neg (by omega)])
        clear h0 h3 hlo hhi
        go_enter Try.func7, Try.ntmps7
        go_wp2_with (go_at_call 30; with_reducible refine (jnone_c j g x _ HJB).mono ?_; rintro e w1 ⟨rfl, rfl⟩)
        go_ret
        rw [hE.out, hX.out]
        exact ⟨rfl, HH.out, hB, Keeps.refl _ _⟩
      · have hb3 : (x.sec == 3) = false := by simp [h3]
        have hE : Hid (enterE x 1 = 130) := by show enterE x 1 = 130; unfold enterE; repeat (first | rw [if_pos (by omega)] | rw [if_neg (by omega)])
        have hX : Hid (enterX x 1 = x) := by show enterX x 1 = x; unfold enterX; repeat (first | rw [if_pos (by omega)] | rw [if_neg (by omega)])
        clear h0 h3 hlo hhi
        go_enter Try.func7, Try.ntmps7
        go_wp2_with (go_at_call 30; with_reducible refine (jnone_c j g x _ HJB).mono ?_; rintro e w1 ⟨rfl, rfl⟩)
        go_ret
        rw [hE.out, hX.out]
        exact ⟨rfl, HH.out, hB, Keeps.refl _ _⟩
  · by_cases h0 : x.sec = 0
    · have hb0 : (x.sec != 0) = false := by simp [h0]
      have hb3 : (x.sec == 3) = false := by simp [h0]
      by_cases hlk : x.t.lk ≤ x.tkn
      · skip
        have hE : Hid (enterE x 2 = 170) := by show enterE x 2 = 170; unfold enterE; repeat (first | rw [if_pos (by omega)] | rw [if_neg (by omega)])
        have hX : Hid (enterX x 2 = x) := by show enterX x 2 = x; unfold enterX; repeat (first | rw [if_pos (by omega)] | rw [if_neg (by omega)])
        clear h0 hlo hhi
        go_enter Try.func7, Try.ntmps7
        go_wp2_with (go_at_call 30; with_reducible refine (jnone_c j g x _ HJB).mono ?_; rintro e w1 ⟨rfl, rfl⟩)
        go_quiet (fail)
        go_wp2
        go_ret
        rw [hE.out, hX.out]
        exact ⟨rfl, HH.out.below (below_drewN (Below.refl _ _) _), below_drewN hB _, (Keeps.refl _ _).drewN _⟩
      · skip
        have hE : Hid (enterE x 2 = 0) := by show enterE x 2 = 0; unfold enterE; repeat (first | rw [if_pos (by omega)] | rw [if_neg (by omega)])
        have hX : Hid (enterX x 2 = { x with tkn := x.tkn + 1, sec := 2, tk := 0 }) := by show enterX x 2 = { x with tkn := x.tkn + 1, sec := 2, tk := 0 }; unfold enterX; repeat (first | rw [if_pos (by omega)] | rw [if_neg (by omega)])
        clear h0 hlo hhi
        go_enter Try.func7, Try.ntmps7
        go_wp2_with (go_at_call 30; with_reducible refine (jnone_c j g x _ HJB).mono ?_; rintro e w1 ⟨rfl, rfl⟩)
        go_quiet (fail)
        go_wp2
        go_ret
        rw [hE.out, hX.out]
        exact ⟨rfl, (((HH.out.below (below_drewN (Below.refl _ _) _)).put (y := { x with tkn := x.tkn + 1 }) rfl).put (y := { x with tkn := x.tkn + 1, sec := 2 }) rfl).put rfl, (((below_drewN hB _).setCell HH.out.jB _).setCell HH.out.jB _).setCell HH.out.jB _, Keeps.setCell (S := tri j g b) (Keeps.setCell (S := tri j g b) (Keeps.setCell (S := tri j g b) ((Keeps.refl _ _).drewN _) (.inl (.inl rfl)) _) (.inl (.inl rfl)) _) (.inl (.inl rfl)) _⟩
    · have hb0 : (x.sec != 0) = true := by simp [h0]
      by_cases h3 : x.sec = 3
      · have hb3 : (x.sec == 3) = true := by simp [h3]
        have hE : Hid (enterE x 2 = 0) := by show enterE x 2 = 0; unfold enterE; repeat (first | rw [if_pos (by omega)] | rw [if_neg (by omega)])
        have hX : Hid (enterX x 2 = { x with sec := 2 }) := by show enterX x 2 = { x with sec := 2 }; unfold enterX; repeat (first | rw [if_pos (by omega)] | rw [if_neg (by omega)])
        clear h0 h3 hlo hhi
        go_enter Try.func7, Try.ntmps7
        go_wp2_with (go_at_call 30; with_reducible refine (jnone_c j g x _ HJB).mono ?_; rintro e w1 ⟨rfl, rfl⟩)
        go_ret
        rw [hE.out, hX.out]
        exact ⟨rfl, HH.out.put rfl, hB.setCell HH.out.jB _, keeps_tri _ _ _ _ _ _⟩
      · have hb3 : (x.sec == 3) = false := by simp [h3]
        have hE : Hid (enterE x 2 = 130) := by show enterE x 2 = 130; unfold enterE; repeat (first | rw [if_pos (by omega)] | rw [if_neg (by omega)])
        have hX : Hid (enterX x 2 = x) := by show enterX x 2 = x; unfold enterX; repeat (first | rw [if_pos (by omega)] | rw [if_neg (by omega)])
        clear h0 h3 hlo hhi
        go_enter Try.func7, Try.ntmps7
        go_wp2_with (go_at_call 30; with_reducible refine (jnone_c j g x _ HJB).mono ?_; rintro e w1 ⟨rfl, rfl⟩)
        go_ret
        rw [hE.out, hX.out]
        exact ⟨rfl, HH.out, hB, Keeps.refl _ _⟩
  · by_cases h0 : x.sec = 0
    · have hb0 : (x.sec != 0) = false := by simp [h0]
      have hb3 : (x.sec == 3) = false := by simp [h0]
      by_cases hlk : x.t.lk ≤ x.tkn
      · skip
        have hE : Hid (enterE x 3 = 170) := by show enterE x 3 = 170; unfold enterE; repeat (first | rw [if_pos (by omega)] | rw [if_neg (by omega)])
        have hX : Hid (enterX x 3 = x) := by show enterX x 3 = x; unfold enterX; repeat (first | rw [if_pos (by omega)] | rw [if_neg (by omega)])
        clear h0 hlo hhi
        go_enter Try.func7, Try.ntmps7
        go_wp2_with (go_at_call 30; with_reducible refine (jnone_c j g x _ HJB).mono ?_; rintro e w1 ⟨rfl, rfl⟩)
        go_quiet (fail)
        go_wp2
        go_ret
        rw [hE.out, hX.out]
        exact ⟨rfl, HH.out.below (below_drewN (Below.refl _ _) _), below_drewN hB _, (Keeps.refl _ _).drewN _⟩
      · skip
        have hE : Hid (enterE x 3 = 0) := by show enterE x 3 = 0; unfold enterE; repeat (first | rw [if_pos (by omega)] | rw [if_neg (by omega)])
        have hX : Hid (enterX x 3 = { x with tkn := x.tkn + 1, sec := 3, tk := 0 }) := by show enterX x 3 = { x with tkn := x.tkn + 1, sec := 3, tk := 0 }; unfold enterX; repeat (first | rw [if_pos (by omega)] | rw [if_neg (by omega)])
        clear h0 hlo hhi
        go_enter Try.func7, Try.ntmps7
        go_wp2_with (go_at_call 30; with_reducible refine (jnone_c j g x _ HJB).mono ?_; rintro e w1 ⟨rfl, rfl⟩)
        go_quiet (fail)
        go_wp2
        go_ret
        rw [hE.out, hX.out]
        exact ⟨rfl, (((HH.out.below (below_drewN (Below.refl _ _) _)).put (y := { x with tkn := x.tkn + 1 }) rfl).put (y := { x with tkn := x.tkn + 1, sec := 3 }) rfl).put rfl, (((below_drewN hB _).setCell HH.out.jB _).setCell HH.out.jB _).setCell HH.out.jB _, Keeps.setCell (S := tri j g b) (Keeps.setCell (S := tri j g b) (Keeps.setCell (S := tri j g b) ((Keeps.refl _ _).drewN _) (.inl (.inl rfl)) _) (.inl (.inl rfl)) _) (.inl (.inl rfl)) _⟩
    · have hb0 : (x.sec != 0) = true := by simp [h0]
      by_cases h3 : x.sec = 3
      · have hb3 : (x.sec == 3) = true := by simp [h3]
        have hE : Hid (enterE x 3 = 130) := by show enterE x 3 = 130; unfold enterE; repeat (first | rw [if_pos (by omega)] | rw [if_neg (by omega)])
        have hX : Hid (enterX x 3 = x) := by show enterX x 3 = x; unfold enterX; repeat (first | rw [if_pos (by omega)] | rw [if_neg (by omega)])
        clear h0 h3 hlo hhi
        go_enter Try.func7, Try.ntmps7
        go_wp2_with (go_at_call 30; with_reducible refine (jnone_c j g x _ HJB).mono ?_; rintro e w1 ⟨rfl, rfl⟩)
        go_ret
        rw [hE.out, hX.out]
        exact ⟨rfl, HH.out, hB, Keeps.refl _ _⟩
      · have hb3 : (x.sec == 3) = false := by simp [h3]
        have hE : Hid (enterE x 3 = 130) := by show enterE x 3 = 130; unfold enterE; repeat (first | rw [if_pos (by omega)] | rw [if_neg (by omega)])
        have hX : Hid (enterX x 3 = x) := by show enterX x 3 = x; unfold enterX; repeat (first | rw [if_pos (by omega)] | rw [if_neg (by omega)])
        clear h0 h3 hlo hhi
        go_enter Try.func7, Try.ntmps7
        go_wp2_with (go_at_call 30; with_reducible refine (jnone_c j g x _ HJB).mono ?_; rintro e w1 ⟨rfl, rfl⟩)
        go_ret
        rw [hE.out, hX.out]
        exact ⟨rfl, HH.out, hB, Keeps.refl _ _⟩
end Go.Proofs.Ytomadlopljfcmaa
