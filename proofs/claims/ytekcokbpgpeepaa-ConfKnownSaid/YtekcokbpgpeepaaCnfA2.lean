/- Layer 5: numbers within bounds; a task that may be: the document's. -/
import Derived.Test.YtekcokbpgpeepaaCnfA
import Derived.Deep.QuietTactic
import Derived.BigQuiet
namespace Go.Proofs.Ytekcokbpgpeepaa
set_option linter.unusedVariables false
open Go.RowKit

set_option maxHeartbeats 6000000 in
theorem taskr_c (t : TV) (bud : Int) (hbud : bud ≤ 64) (w : World) {v : Bool} (hv : taskR t bud = v) :
    Calls Try.prog 50 #[.agg #[.int .i64 t.p, .int .i64 t.d, .int .i64 t.b, .int .i64 t.ls, .int .i64 t.l, .int .i64 t.g, .int .i64 t.lg, .int .i64 t.lk], .int .i64 bud] w fun e w' => e = .returned (.bool v) ∧ Below w.heap.size w w' := by
  have HB : Hid (Below w.heap.size w (w.alloc (.cells #[.int .i64 t.p, .int .i64 t.d, .int .i64 t.b, .int .i64 t.ls, .int .i64 t.l, .int .i64 t.g, .int .i64 t.lg, .int .i64 t.lk] 46))) := (Below.refl _ _).alloc (Nat.le_refl _) _
  cases h1 : wi t.p 1 64 with
  | false =>
    have HV : Hid (v = false) := by show v = false; rw [← hv]; unfold taskR; simp [h1]
    clear hv
    go_enter Try.func50, Try.ntmps50
    go_wp2_with (go_at_call 32; with_reducible refine (withinr_c _ _ _ _).mono ?_; rintro e w9 ⟨rfl, rfl⟩)
    go_ret
    exact ⟨by rw [HV.out]; rfl, HB.out⟩
  | true =>
    cases h2 : wi t.d 1 t.p with
    | false =>
      have HV : Hid (v = false) := by show v = false; rw [← hv]; unfold taskR; simp [h1, h2]
      clear hv
      go_enter Try.func50, Try.ntmps50
      go_wp2_with (go_at_call 32; with_reducible refine (withinr_c _ _ _ _).mono ?_; rintro e w9 ⟨rfl, rfl⟩)
      go_ret
      exact ⟨by rw [HV.out]; rfl, HB.out⟩
    | true =>
      cases h3 : wi t.b 1 t.d with
      | false =>
        have HV : Hid (v = false) := by show v = false; rw [← hv]; unfold taskR; simp [h1, h2, h3]
        clear hv
        go_enter Try.func50, Try.ntmps50
        go_wp2_with (go_at_call 32; with_reducible refine (withinr_c _ _ _ _).mono ?_; rintro e w9 ⟨rfl, rfl⟩)
        go_ret
        exact ⟨by rw [HV.out]; rfl, HB.out⟩
      | true =>
        cases h4 : wi t.ls 0 255 with
        | false =>
          have HV : Hid (v = false) := by show v = false; rw [← hv]; unfold taskR; simp [h1, h2, h3, h4]
          clear hv
          go_enter Try.func50, Try.ntmps50
          go_wp2_with (go_at_call 32; with_reducible refine (withinr_c _ _ _ _).mono ?_; rintro e w9 ⟨rfl, rfl⟩)
          go_ret
          exact ⟨by rw [HV.out]; rfl, HB.out⟩
        | true =>
          cases h5 : wi t.g 0 4 with
          | false =>
            have HV : Hid (v = false) := by show v = false; rw [← hv]; unfold taskR; simp [h1, h2, h3, h4, h5]
            clear hv
            go_enter Try.func50, Try.ntmps50
            go_wp2_with (go_at_call 32; with_reducible refine (withinr_c _ _ _ _).mono ?_; rintro e w9 ⟨rfl, rfl⟩)
            go_ret
            exact ⟨by rw [HV.out]; rfl, HB.out⟩
          | true =>
            cases hls : (t.ls == 0) with
            | false =>
              have hlsn : (t.ls != 0) = true := by simp [bne, hls]
              cases h6 : wi t.l 1 t.b with
              | false =>
                have HV : Hid (v = false) := by show v = false; rw [← hv]; unfold taskR; simp [h1, h2, h3, h4, h5, hls, h6]
                clear hv
                go_enter Try.func50, Try.ntmps50
                go_wp2_with (go_at_call 32; with_reducible refine (withinr_c _ _ _ _).mono ?_; rintro e w9 ⟨rfl, rfl⟩)
                go_ret
                exact ⟨by rw [HV.out]; rfl, HB.out⟩
              | true =>
                cases hg : (t.g == 0) with
                | false =>
                  cases h7 : wi t.lg 1 bud with
                  | false =>
                    have HV : Hid (v = false) := by show v = false; rw [← hv]; unfold taskR; simp [h1, h2, h3, h4, h5, hls, h6, hg, h7]
                    clear hv
                    go_enter Try.func50, Try.ntmps50
                    go_wp2_with (go_at_call 32; with_reducible refine (withinr_c _ _ _ _).mono ?_; rintro e w9 ⟨rfl, rfl⟩)
                    go_ret
                    exact ⟨by rw [HV.out]; rfl, HB.out⟩
                  | true =>
                    cases h8 : wi t.lk 1 t.b with
                    | false =>
                      have HV : Hid (v = false) := by show v = false; rw [← hv]; unfold taskR; simp [h1, h2, h3, h4, h5, hls, h6, hg, h7, h8]
                      clear hv
                      go_enter Try.func50, Try.ntmps50
                      go_wp2_with (go_at_call 32; with_reducible refine (withinr_c _ _ _ _).mono ?_; rintro e w9 ⟨rfl, rfl⟩)
                      go_ret
                      exact ⟨by rw [HV.out]; rfl, HB.out⟩
                    | true =>
                      have hmul : wrap64 (t.lg * t.lk) = t.lg * t.lk := mul_in (wi_true h7) (wi_true h8) (wi_true h3) (wi_true h2) (wi_true h1) hbud
                      cases h9 : decide (t.lg * t.lk ≤ t.b) with
                      | false =>
                        have HV : Hid (v = false) := by show v = false; rw [← hv]; unfold taskR; simp [h1, h2, h3, h4, h5, hls, h6, hg, h7, h8, h9]
                        clear hv
                        go_enter Try.func50, Try.ntmps50
                        go_wp2_with (go_at_call 32; with_reducible refine (withinr_c _ _ _ _).mono ?_; rintro e w9 ⟨rfl, rfl⟩)
                        go_ret
                        exact ⟨by rw [HV.out]; rfl, HB.out⟩
                      | true =>
                        have HV : Hid (v = true) := by show v = true; rw [← hv]; unfold taskR; simp [h1, h2, h3, h4, h5, hls, h6, hg, h7, h8, h9]
                        clear hv
                        go_enter Try.func50, Try.ntmps50
                        go_wp2_with (go_at_call 32; with_reducible refine (withinr_c _ _ _ _).mono ?_; rintro e w9 ⟨rfl, rfl⟩)
                        go_ret
                        exact ⟨by rw [HV.out]; rfl, HB.out⟩
                | true =>
                  cases hlg : (t.lg == 0) with
                  | false =>
                    have HV : Hid (v = false) := by show v = false; rw [← hv]; unfold taskR; simp [h1, h2, h3, h4, h5, hls, h6, hg, hlg]
                    clear hv
                    go_enter Try.func50, Try.ntmps50
                    go_wp2_with (go_at_call 32; with_reducible refine (withinr_c _ _ _ _).mono ?_; rintro e w9 ⟨rfl, rfl⟩)
                    go_ret
                    exact ⟨by rw [HV.out]; rfl, HB.out⟩
                  | true =>
                    cases hlk : (t.lk == 0) with
                    | false =>
                      have HV : Hid (v = false) := by show v = false; rw [← hv]; unfold taskR; simp [h1, h2, h3, h4, h5, hls, h6, hg, hlg, hlk]
                      clear hv
                      go_enter Try.func50, Try.ntmps50
                      go_wp2_with (go_at_call 32; with_reducible refine (withinr_c _ _ _ _).mono ?_; rintro e w9 ⟨rfl, rfl⟩)
                      go_ret
                      exact ⟨by rw [HV.out]; rfl, HB.out⟩
                    | true =>
                      have HV : Hid (v = true) := by show v = true; rw [← hv]; unfold taskR; simp [h1, h2, h3, h4, h5, hls, h6, hg, hlg, hlk]
                      clear hv
                      go_enter Try.func50, Try.ntmps50
                      go_wp2_with (go_at_call 32; with_reducible refine (withinr_c _ _ _ _).mono ?_; rintro e w9 ⟨rfl, rfl⟩)
                      go_ret
                      exact ⟨by rw [HV.out]; rfl, HB.out⟩
            | true =>
              have hlsn : (t.ls != 0) = false := by simp [bne, hls]
              cases hl : (t.l == 0) with
              | false =>
                have hln : (t.l != 0) = true := by simp [bne, hl]
                have HV : Hid (v = false) := by show v = false; rw [← hv]; unfold taskR; simp [h1, h2, h3, h4, h5, hls, hl]
                clear hv
                go_enter Try.func50, Try.ntmps50
                go_wp2_with (go_at_call 32; with_reducible refine (withinr_c _ _ _ _).mono ?_; rintro e w9 ⟨rfl, rfl⟩)
                go_ret
                exact ⟨by rw [HV.out]; rfl, HB.out⟩
              | true =>
                have hln : (t.l != 0) = false := by simp [bne, hl]
                cases hg : (t.g == 0) with
                | false =>
                  cases h7 : wi t.lg 1 bud with
                  | false =>
                    have HV : Hid (v = false) := by show v = false; rw [← hv]; unfold taskR; simp [h1, h2, h3, h4, h5, hls, hl, hg, h7]
                    clear hv
                    go_enter Try.func50, Try.ntmps50
                    go_wp2_with (go_at_call 32; with_reducible refine (withinr_c _ _ _ _).mono ?_; rintro e w9 ⟨rfl, rfl⟩)
                    go_ret
                    exact ⟨by rw [HV.out]; rfl, HB.out⟩
                  | true =>
                    cases h8 : wi t.lk 1 t.b with
                    | false =>
                      have HV : Hid (v = false) := by show v = false; rw [← hv]; unfold taskR; simp [h1, h2, h3, h4, h5, hls, hl, hg, h7, h8]
                      clear hv
                      go_enter Try.func50, Try.ntmps50
                      go_wp2_with (go_at_call 32; with_reducible refine (withinr_c _ _ _ _).mono ?_; rintro e w9 ⟨rfl, rfl⟩)
                      go_ret
                      exact ⟨by rw [HV.out]; rfl, HB.out⟩
                    | true =>
                      have hmul : wrap64 (t.lg * t.lk) = t.lg * t.lk := mul_in (wi_true h7) (wi_true h8) (wi_true h3) (wi_true h2) (wi_true h1) hbud
                      cases h9 : decide (t.lg * t.lk ≤ t.b) with
                      | false =>
                        have HV : Hid (v = false) := by show v = false; rw [← hv]; unfold taskR; simp [h1, h2, h3, h4, h5, hls, hl, hg, h7, h8, h9]
                        clear hv
                        go_enter Try.func50, Try.ntmps50
                        go_wp2_with (go_at_call 32; with_reducible refine (withinr_c _ _ _ _).mono ?_; rintro e w9 ⟨rfl, rfl⟩)
                        go_ret
                        exact ⟨by rw [HV.out]; rfl, HB.out⟩
                      | true =>
                        have HV : Hid (v = true) := by show v = true; rw [← hv]; unfold taskR; simp [h1, h2, h3, h4, h5, hls, hl, hg, h7, h8, h9]
                        clear hv
                        go_enter Try.func50, Try.ntmps50
                        go_wp2_with (go_at_call 32; with_reducible refine (withinr_c _ _ _ _).mono ?_; rintro e w9 ⟨rfl, rfl⟩)
                        go_ret
                        exact ⟨by rw [HV.out]; rfl, HB.out⟩
                | true =>
                  cases hlg : (t.lg == 0) with
                  | false =>
                    have HV : Hid (v = false) := by show v = false; rw [← hv]; unfold taskR; simp [h1, h2, h3, h4, h5, hls, hl, hg, hlg]
                    clear hv
                    go_enter Try.func50, Try.ntmps50
                    go_wp2_with (go_at_call 32; with_reducible refine (withinr_c _ _ _ _).mono ?_; rintro e w9 ⟨rfl, rfl⟩)
                    go_ret
                    exact ⟨by rw [HV.out]; rfl, HB.out⟩
                  | true =>
                    cases hlk : (t.lk == 0) with
                    | false =>
                      have HV : Hid (v = false) := by show v = false; rw [← hv]; unfold taskR; simp [h1, h2, h3, h4, h5, hls, hl, hg, hlg, hlk]
                      clear hv
                      go_enter Try.func50, Try.ntmps50
                      go_wp2_with (go_at_call 32; with_reducible refine (withinr_c _ _ _ _).mono ?_; rintro e w9 ⟨rfl, rfl⟩)
                      go_ret
                      exact ⟨by rw [HV.out]; rfl, HB.out⟩
                    | true =>
                      have HV : Hid (v = true) := by show v = true; rw [← hv]; unfold taskR; simp [h1, h2, h3, h4, h5, hls, hl, hg, hlg, hlk]
                      clear hv
                      go_enter Try.func50, Try.ntmps50
                      go_wp2_with (go_at_call 32; with_reducible refine (withinr_c _ _ _ _).mono ?_; rintro e w9 ⟨rfl, rfl⟩)
                      go_ret
                      exact ⟨by rw [HV.out]; rfl, HB.out⟩
theorem taskrb_c (t : TV) (bud : Int) (hbud : bud ≤ 64) (w : World) {v : Bool} (hv : taskB t bud = v) :
    Calls Try.prog 50 #[.agg #[.int .i64 t.p, .int .i64 t.d, .int .i64 t.b, .int .i64 t.ls, .int .i64 t.l, .int .i64 t.g, .int .i64 t.lg, .int .i64 t.lk], .int .i64 bud] w fun e w' => e = .returned (.bool v) ∧ Below w.heap.size w w' := taskr_c t bud hbud w ((taskR_eq t bud).trans hv)
end Go.Proofs.Ytekcokbpgpeepaa
