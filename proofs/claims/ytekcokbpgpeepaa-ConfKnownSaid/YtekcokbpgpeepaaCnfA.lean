/- Layer 5: numbers within bounds; a task that may be: the program's and the document's. -/
import Derived.Test.YtekcokbpgpeepaaApp
import Derived.Deep.QuietTactic
import Derived.BigQuiet
namespace Go.Proofs.Ytekcokbpgpeepaa
set_option linter.unusedVariables false
open Go.RowKit

/-- A task. -/
structure TV where
  p : Int
  d : Int
  b : Int
  ls : Int
  l : Int
  g : Int
  lg : Int
  lk : Int
def tL (t : TV) : List Int := [t.p, t.d, t.b, t.ls, t.l, t.g, t.lg, t.lk]
def wi (n l m : Int) : Bool := decide (l ≤ n ∧ n ≤ m)
theorem within_c (n l m : Int) (w : World) : Calls Try.prog 31 #[.int .i64 n, .int .i64 l, .int .i64 m] w fun e w' => e = .returned (.bool (wi n l m)) ∧ w = w' := by
  by_cases h1 : l ≤ n
  · by_cases h2 : n ≤ m
    · have HV : Hid (wi n l m = true) := by show wi n l m = true; unfold wi; simp; omega
      go_enter Try.func31, Try.ntmps31
      go_wp2
      go_ret
      exact ⟨by rw [HV.out]; rfl, rfl⟩
    · have HV : Hid (wi n l m = false) := by show wi n l m = false; unfold wi; simp; omega
      go_enter Try.func31, Try.ntmps31
      go_wp2
      go_ret
      exact ⟨by rw [HV.out]; rfl, rfl⟩
  · have HV : Hid (wi n l m = false) := by show wi n l m = false; unfold wi; simp; omega
    go_enter Try.func31, Try.ntmps31
    go_wp2
    go_ret
    exact ⟨by rw [HV.out]; rfl, rfl⟩
theorem within_q {n l m : Int} (w : World) {v : Bool} (hv : wi n l m = v) : Calls Try.prog 31 #[.int .i64 n, .int .i64 l, .int .i64 m] w fun e w' => e = .returned (.bool v) ∧ w' = w := (within_c n l m w).mono fun _ _ ⟨h1, h2⟩ => ⟨hv ▸ h1, h2.symm⟩
theorem withinr_c (n l m : Int) (w : World) : Calls Try.prog 32 #[.int .i64 n, .int .i64 l, .int .i64 m] w fun e w' => e = .returned (.bool (wi n l m)) ∧ w = w' := by
  by_cases h1 : l ≤ n
  · by_cases h2 : n ≤ m
    · have HV : Hid (wi n l m = true) := by show wi n l m = true; unfold wi; simp; omega
      go_enter Try.func32, Try.ntmps32
      go_wp2
      go_ret
      exact ⟨by rw [HV.out]; rfl, rfl⟩
    · have HV : Hid (wi n l m = false) := by show wi n l m = false; unfold wi; simp; omega
      go_enter Try.func32, Try.ntmps32
      go_wp2
      go_ret
      exact ⟨by rw [HV.out]; rfl, rfl⟩
  · have HV : Hid (wi n l m = false) := by show wi n l m = false; unfold wi; simp; omega
    go_enter Try.func32, Try.ntmps32
    go_wp2
    go_ret
    exact ⟨by rw [HV.out]; rfl, rfl⟩
def taskB (t : TV) (bud : Int) : Bool := wi t.p 1 64 && (wi t.d 1 t.p && (wi t.b 1 t.d && (wi t.ls 0 255 && (wi t.g 0 4 && ((if (t.ls == 0) = true then t.l == 0 else wi t.l 1 t.b) && (if (t.g == 0) = true then t.lg == 0 && t.lk == 0 else wi t.lg 1 (if t.b < bud then t.b else bud) && wi t.lk 1 (t.b.tdiv t.lg)))))))
def taskR (t : TV) (bud : Int) : Bool := wi t.p 1 64 && (wi t.d 1 t.p && (wi t.b 1 t.d && (wi t.ls 0 255 && (wi t.g 0 4 && ((if (t.ls == 0) = true then t.l == 0 else wi t.l 1 t.b) && (if (t.g == 0) = true then t.lg == 0 && t.lk == 0 else wi t.lg 1 bud && (wi t.lk 1 t.b && decide (t.lg * t.lk ≤ t.b))))))))
theorem wi_true {n l m : Int} (h : wi n l m = true) : l ≤ n ∧ n ≤ m := by simpa [wi] using h
theorem taskR_eq (t : TV) (bud : Int) : taskR t bud = taskB t bud := by
  unfold taskR taskB
  cases h1 : wi t.p 1 64
  · rfl
  cases h2 : wi t.d 1 t.p
  · rfl
  cases h3 : wi t.b 1 t.d
  · rfl
  obtain ⟨k1, k2⟩ := wi_true h3
  congr 6
  by_cases hg : (t.g == 0) = true
  · rw [if_pos hg, if_pos hg]
  · rw [if_neg hg, if_neg hg]
    rw [show (if t.b < bud then t.b else bud) = min bud t.b by split <;> omega]
    by_cases hl : 1 ≤ t.lg
    · have hq : t.b.tdiv t.lg = t.b / t.lg := Int.tdiv_eq_ediv_of_nonneg (by omega)
      have hdm : t.lk ≤ t.b / t.lg ↔ t.lk * t.lg ≤ t.b := Int.le_ediv_iff_mul_le (by omega)
      have hcm : t.lg * t.lk = t.lk * t.lg := Int.mul_comm _ _
      rw [hq]
      unfold wi
      rw [Bool.eq_iff_iff]
      simp only [Bool.and_eq_true, decide_eq_true_eq]
      rw [hcm]
      constructor
      · rintro ⟨⟨a1, a2⟩, ⟨b1, b2⟩, c⟩
        have : t.lg ≤ t.b := by
          have := Int.mul_le_mul_of_nonneg_right b1 (by omega : 0 ≤ t.lg)
          omega
        exact ⟨⟨a1, by omega⟩, b1, hdm.2 c⟩
      · rintro ⟨⟨a1, a2⟩, b1, b2⟩
        have c := hdm.1 b2
        have : t.lk ≤ t.b := by
          have := Int.mul_le_mul_of_nonneg_left hl (by omega : 0 ≤ t.lk)
          omega
        exact ⟨⟨a1, by omega⟩, ⟨b1, this⟩, c⟩
    · have e1 : wi t.lg 1 bud = false := by unfold wi; simp; omega
      have e2 : wi t.lg 1 (min bud t.b) = false := by unfold wi; simp; omega
      rw [e1, e2]
      rfl
theorem quo_in {b lg d p : Int} (hb : 1 ≤ b ∧ b ≤ d) (hd : 1 ≤ d ∧ d ≤ p) (hp : 1 ≤ p ∧ p ≤ 64) (hl : 1 ≤ lg) : IntKind.i64.wrap (b.tdiv lg) = b.tdiv lg := by
  have hq : b.tdiv lg = b / lg := Int.tdiv_eq_ediv_of_nonneg (by omega)
  have h0 : 0 ≤ b / lg := Int.ediv_nonneg (by omega) (by omega)
  have h1 : b / lg ≤ b := Int.ediv_le_self _ (by omega)
  rw [hq]
  exact IntWalk.i64_in _ (by omega)
theorem mul_in {a b m d p bud : Int} (ha : 1 ≤ a ∧ a ≤ bud) (hb : 1 ≤ b ∧ b ≤ m) (hm : 1 ≤ m ∧ m ≤ d) (hd : 1 ≤ d ∧ d ≤ p) (hp : 1 ≤ p ∧ p ≤ 64) (hbud : bud ≤ 64) : wrap64 (a * b) = a * b := by
  have h1 : a * b ≤ 64 * 64 := Int.mul_le_mul (by omega) (by omega) (by omega) (by omega)
  have h0 : 0 ≤ a * b := Int.mul_nonneg (by omega) (by omega)
  exact IntWalk.wrap64_in _ (by omega)
set_option maxHeartbeats 6000000 in
theorem task_c (t : TV) (bud : Int) (w : World) {v : Bool} (hv : taskB t bud = v) :
    Calls Try.prog 48 #[.agg #[.int .i64 t.p, .int .i64 t.d, .int .i64 t.b, .int .i64 t.ls, .int .i64 t.l, .int .i64 t.g, .int .i64 t.lg, .int .i64 t.lk], .int .i64 bud] w fun e w' => e = .returned (.bool v) ∧ Below w.heap.size w w' := by
  have HB : Hid (Below w.heap.size w (w.alloc (.cells #[.int .i64 t.p, .int .i64 t.d, .int .i64 t.b, .int .i64 t.ls, .int .i64 t.l, .int .i64 t.g, .int .i64 t.lg, .int .i64 t.lk] 46))) := (Below.refl _ _).alloc (Nat.le_refl _) _
  cases h1 : wi t.p 1 64 with
  | false =>
    have HV : Hid (v = false) := by show v = false; rw [← hv]; unfold taskB; simp [h1]
    clear hv
    go_enter Try.func48, Try.ntmps48
    go_wp2_with (go_at_call 31; with_reducible refine (within_c _ _ _ _).mono ?_; rintro e w9 ⟨rfl, rfl⟩)
    go_ret
    exact ⟨by rw [HV.out]; rfl, HB.out⟩
  | true =>
    cases h2 : wi t.d 1 t.p with
    | false =>
      have HV : Hid (v = false) := by show v = false; rw [← hv]; unfold taskB; simp [h1, h2]
      clear hv
      go_enter Try.func48, Try.ntmps48
      go_wp2_with (go_at_call 31; with_reducible refine (within_c _ _ _ _).mono ?_; rintro e w9 ⟨rfl, rfl⟩)
      go_ret
      exact ⟨by rw [HV.out]; rfl, HB.out⟩
    | true =>
      cases h3 : wi t.b 1 t.d with
      | false =>
        have HV : Hid (v = false) := by show v = false; rw [← hv]; unfold taskB; simp [h1, h2, h3]
        clear hv
        go_enter Try.func48, Try.ntmps48
        go_wp2_with (go_at_call 31; with_reducible refine (within_c _ _ _ _).mono ?_; rintro e w9 ⟨rfl, rfl⟩)
        go_ret
        exact ⟨by rw [HV.out]; rfl, HB.out⟩
      | true =>
        cases h4 : wi t.ls 0 255 with
        | false =>
          have HV : Hid (v = false) := by show v = false; rw [← hv]; unfold taskB; simp [h1, h2, h3, h4]
          clear hv
          go_enter Try.func48, Try.ntmps48
          go_wp2_with (go_at_call 31; with_reducible refine (within_c _ _ _ _).mono ?_; rintro e w9 ⟨rfl, rfl⟩)
          go_ret
          exact ⟨by rw [HV.out]; rfl, HB.out⟩
        | true =>
          cases h5 : wi t.g 0 4 with
          | false =>
            have HV : Hid (v = false) := by show v = false; rw [← hv]; unfold taskB; simp [h1, h2, h3, h4, h5]
            clear hv
            go_enter Try.func48, Try.ntmps48
            go_wp2_with (go_at_call 31; with_reducible refine (within_c _ _ _ _).mono ?_; rintro e w9 ⟨rfl, rfl⟩)
            go_ret
            exact ⟨by rw [HV.out]; rfl, HB.out⟩
          | true =>
            cases hls : (t.ls == 0) with
            | false =>
              have hlsn : (t.ls != 0) = true := by simp [bne, hls]
              cases h6 : wi t.l 1 t.b with
              | false =>
                have HV : Hid (v = false) := by show v = false; rw [← hv]; unfold taskB; simp [h1, h2, h3, h4, h5, hls, h6]
                clear hv
                go_enter Try.func48, Try.ntmps48
                go_wp2_with (go_at_call 31; with_reducible refine (within_c _ _ _ _).mono ?_; rintro e w9 ⟨rfl, rfl⟩)
                go_ret
                exact ⟨by rw [HV.out]; rfl, HB.out⟩
              | true =>
                cases hg : (t.g == 0) with
                | false =>
                  obtain ⟨m, hm⟩ : ∃ m, (if t.b < bud then t.b else bud) = m := ⟨_, rfl⟩
                  cases h7 : wi t.lg 1 m with
                  | false =>
                    have HV : Hid (v = false) := by show v = false; rw [← hv]; unfold taskB; simp [h1, h2, h3, h4, h5, hls, h6, hg, hm, h7]
                    clear hv
                    go_enter Try.func48, Try.ntmps48
                    go_wp2_with (go_at_call 31; with_reducible refine (within_c _ _ _ _).mono ?_; rintro e w9 ⟨rfl, rfl⟩)
                    go_big_quiet (first | (go_at_call 31; with_reducible exact Calls.quiet_of_same (within_q _ h7)) | (go_at_call 31; with_reducible exact Calls.quiet_of_same (within_q _ h8)))
                    go_wp2
                    go_ret
                    exact ⟨by rw [HV.out]; rfl, below_drewN HB.out _⟩
                  | true =>
                    have hz : ¬ t.lg = 0 := by have := (wi_true h7).1; omega
                    obtain ⟨q, hq⟩ : ∃ q, t.b.tdiv t.lg = q := ⟨_, rfl⟩
                    have hw : IntKind.i64.wrap q = q := hq ▸ quo_in (wi_true h3) (wi_true h2) (wi_true h1) (wi_true h7).1
                    cases h8 : wi t.lk 1 q with
                    | false =>
                      have HV : Hid (v = false) := by show v = false; rw [← hv]; unfold taskB; simp [h1, h2, h3, h4, h5, hls, h6, hg, hm, h7, hq, h8]
                      clear hv
                      go_enter Try.func48, Try.ntmps48
                      go_wp2_with (go_at_call 31; with_reducible refine (within_c _ _ _ _).mono ?_; rintro e w9 ⟨rfl, rfl⟩)
                      go_big_quiet (first | (go_at_call 31; with_reducible exact Calls.quiet_of_same (within_q _ h7)) | (go_at_call 31; with_reducible exact Calls.quiet_of_same (within_q _ h8)))
                      go_wp2
                      go_ret
                      exact ⟨by rw [HV.out]; rfl, below_drewN HB.out _⟩
                    | true =>
                      have HV : Hid (v = true) := by show v = true; rw [← hv]; unfold taskB; simp [h1, h2, h3, h4, h5, hls, h6, hg, hm, h7, hq, h8]
                      clear hv
                      go_enter Try.func48, Try.ntmps48
                      go_wp2_with (go_at_call 31; with_reducible refine (within_c _ _ _ _).mono ?_; rintro e w9 ⟨rfl, rfl⟩)
                      go_big_quiet (first | (go_at_call 31; with_reducible exact Calls.quiet_of_same (within_q _ h7)) | (go_at_call 31; with_reducible exact Calls.quiet_of_same (within_q _ h8)))
                      go_wp2
                      go_ret
                      exact ⟨by rw [HV.out]; rfl, below_drewN HB.out _⟩
                | true =>
                  cases hlg : (t.lg == 0) with
                  | false =>
                    have HV : Hid (v = false) := by show v = false; rw [← hv]; unfold taskB; simp [h1, h2, h3, h4, h5, hls, h6, hg, hlg]
                    clear hv
                    go_enter Try.func48, Try.ntmps48
                    go_wp2_with (go_at_call 31; with_reducible refine (within_c _ _ _ _).mono ?_; rintro e w9 ⟨rfl, rfl⟩)
                    go_ret
                    exact ⟨by rw [HV.out]; rfl, HB.out⟩
                  | true =>
                    cases hlk : (t.lk == 0) with
                    | false =>
                      have HV : Hid (v = false) := by show v = false; rw [← hv]; unfold taskB; simp [h1, h2, h3, h4, h5, hls, h6, hg, hlg, hlk]
                      clear hv
                      go_enter Try.func48, Try.ntmps48
                      go_wp2_with (go_at_call 31; with_reducible refine (within_c _ _ _ _).mono ?_; rintro e w9 ⟨rfl, rfl⟩)
                      go_ret
                      exact ⟨by rw [HV.out]; rfl, HB.out⟩
                    | true =>
                      have HV : Hid (v = true) := by show v = true; rw [← hv]; unfold taskB; simp [h1, h2, h3, h4, h5, hls, h6, hg, hlg, hlk]
                      clear hv
                      go_enter Try.func48, Try.ntmps48
                      go_wp2_with (go_at_call 31; with_reducible refine (within_c _ _ _ _).mono ?_; rintro e w9 ⟨rfl, rfl⟩)
                      go_ret
                      exact ⟨by rw [HV.out]; rfl, HB.out⟩
            | true =>
              have hlsn : (t.ls != 0) = false := by simp [bne, hls]
              cases hl : (t.l == 0) with
              | false =>
                have hln : (t.l != 0) = true := by simp [bne, hl]
                have HV : Hid (v = false) := by show v = false; rw [← hv]; unfold taskB; simp [h1, h2, h3, h4, h5, hls, hl]
                clear hv
                go_enter Try.func48, Try.ntmps48
                go_wp2_with (go_at_call 31; with_reducible refine (within_c _ _ _ _).mono ?_; rintro e w9 ⟨rfl, rfl⟩)
                go_ret
                exact ⟨by rw [HV.out]; rfl, HB.out⟩
              | true =>
                have hln : (t.l != 0) = false := by simp [bne, hl]
                cases hg : (t.g == 0) with
                | false =>
                  obtain ⟨m, hm⟩ : ∃ m, (if t.b < bud then t.b else bud) = m := ⟨_, rfl⟩
                  cases h7 : wi t.lg 1 m with
                  | false =>
                    have HV : Hid (v = false) := by show v = false; rw [← hv]; unfold taskB; simp [h1, h2, h3, h4, h5, hls, hl, hg, hm, h7]
                    clear hv
                    go_enter Try.func48, Try.ntmps48
                    go_wp2_with (go_at_call 31; with_reducible refine (within_c _ _ _ _).mono ?_; rintro e w9 ⟨rfl, rfl⟩)
                    go_big_quiet (first | (go_at_call 31; with_reducible exact Calls.quiet_of_same (within_q _ h7)) | (go_at_call 31; with_reducible exact Calls.quiet_of_same (within_q _ h8)))
                    go_wp2
                    go_ret
                    exact ⟨by rw [HV.out]; rfl, below_drewN HB.out _⟩
                  | true =>
                    have hz : ¬ t.lg = 0 := by have := (wi_true h7).1; omega
                    obtain ⟨q, hq⟩ : ∃ q, t.b.tdiv t.lg = q := ⟨_, rfl⟩
                    have hw : IntKind.i64.wrap q = q := hq ▸ quo_in (wi_true h3) (wi_true h2) (wi_true h1) (wi_true h7).1
                    cases h8 : wi t.lk 1 q with
                    | false =>
                      have HV : Hid (v = false) := by show v = false; rw [← hv]; unfold taskB; simp [h1, h2, h3, h4, h5, hls, hl, hg, hm, h7, hq, h8]
                      clear hv
                      go_enter Try.func48, Try.ntmps48
                      go_wp2_with (go_at_call 31; with_reducible refine (within_c _ _ _ _).mono ?_; rintro e w9 ⟨rfl, rfl⟩)
                      go_big_quiet (first | (go_at_call 31; with_reducible exact Calls.quiet_of_same (within_q _ h7)) | (go_at_call 31; with_reducible exact Calls.quiet_of_same (within_q _ h8)))
                      go_wp2
                      go_ret
                      exact ⟨by rw [HV.out]; rfl, below_drewN HB.out _⟩
                    | true =>
                      have HV : Hid (v = true) := by show v = true; rw [← hv]; unfold taskB; simp [h1, h2, h3, h4, h5, hls, hl, hg, hm, h7, hq, h8]
                      clear hv
                      go_enter Try.func48, Try.ntmps48
                      go_wp2_with (go_at_call 31; with_reducible refine (within_c _ _ _ _).mono ?_; rintro e w9 ⟨rfl, rfl⟩)
                      go_big_quiet (first | (go_at_call 31; with_reducible exact Calls.quiet_of_same (within_q _ h7)) | (go_at_call 31; with_reducible exact Calls.quiet_of_same (within_q _ h8)))
                      go_wp2
                      go_ret
                      exact ⟨by rw [HV.out]; rfl, below_drewN HB.out _⟩
                | true =>
                  cases hlg : (t.lg == 0) with
                  | false =>
                    have HV : Hid (v = false) := by show v = false; rw [← hv]; unfold taskB; simp [h1, h2, h3, h4, h5, hls, hl, hg, hlg]
                    clear hv
                    go_enter Try.func48, Try.ntmps48
                    go_wp2_with (go_at_call 31; with_reducible refine (within_c _ _ _ _).mono ?_; rintro e w9 ⟨rfl, rfl⟩)
                    go_ret
                    exact ⟨by rw [HV.out]; rfl, HB.out⟩
                  | true =>
                    cases hlk : (t.lk == 0) with
                    | false =>
                      have HV : Hid (v = false) := by show v = false; rw [← hv]; unfold taskB; simp [h1, h2, h3, h4, h5, hls, hl, hg, hlg, hlk]
                      clear hv
                      go_enter Try.func48, Try.ntmps48
                      go_wp2_with (go_at_call 31; with_reducible refine (within_c _ _ _ _).mono ?_; rintro e w9 ⟨rfl, rfl⟩)
                      go_ret
                      exact ⟨by rw [HV.out]; rfl, HB.out⟩
                    | true =>
                      have HV : Hid (v = true) := by show v = true; rw [← hv]; unfold taskB; simp [h1, h2, h3, h4, h5, hls, hl, hg, hlg, hlk]
                      clear hv
                      go_enter Try.func48, Try.ntmps48
                      go_wp2_with (go_at_call 31; with_reducible refine (within_c _ _ _ _).mono ?_; rintro e w9 ⟨rfl, rfl⟩)
                      go_ret
                      exact ⟨by rw [HV.out]; rfl, HB.out⟩
end Go.Proofs.Ytekcokbpgpeepaa
