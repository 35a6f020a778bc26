/- Layer 5: a port that may be, the document's. -/
import Derived.Test.YtekcokbpgpeepaaCnfB
namespace Go.Proofs.Ytekcokbpgpeepaa
set_option linter.unusedVariables false
open Go.RowKit

set_option maxHeartbeats 6000000 in
theorem portr_c (q : PV) (n : Nat) (hn : n ≤ 17592186044416) (w : World) {v : Bool} (hv : portB q n = v) :
    Calls Try.prog 34 #[.agg #[.int .i64 q.k, .int .i64 q.f, .int .i64 q.t, .int .i64 q.s, .int .i64 q.d, .int .i64 q.a], .int .i64 n] w fun e w' => e = .returned (.bool v) ∧ Below w.heap.size w w' := by
  have HB : Hid (Below w.heap.size w (w.alloc (.cells #[.int .i64 q.k, .int .i64 q.f, .int .i64 q.t, .int .i64 q.s, .int .i64 q.d, .int .i64 q.a] 48))) := (Below.refl _ _).alloc (Nat.le_refl _) _
  cases hk : (q.k == 1) with
  | false =>
    cases hk2 : (q.k == 2) with
    | false =>
      have HV : Hid (v = false) := by show v = false; rw [← hv]; unfold portB; simp [hk, hk2]
      clear hv
      go_enter Try.func34, Try.ntmps34
      go_wp2_with (go_at_call 32; with_reducible refine (withinr_c _ _ _ _).mono ?_; rintro e w9 ⟨rfl, rfl⟩)
      go_ret
      exact ⟨by rw [HV.out]; rfl, HB.out⟩
    | true =>
      cases hd : (q.a == 0) with
      | false =>
        have HV : Hid (v = false) := by show v = false; rw [← hv]; unfold portB; simp [hk, hk2, hd]
        clear hv
        go_enter Try.func34, Try.ntmps34
        go_wp2_with (go_at_call 32; with_reducible refine (withinr_c _ _ _ _).mono ?_; rintro e w9 ⟨rfl, rfl⟩)
        go_ret
        exact ⟨by rw [HV.out]; rfl, HB.out⟩
      | true =>
        cases ha : wi q.d 1 4 with
        | false =>
          have HV : Hid (v = false) := by show v = false; rw [← hv]; unfold portB; simp [hk, hk2, hd, ha]
          clear hv
          go_enter Try.func34, Try.ntmps34
          go_wp2_with (go_at_call 32; with_reducible refine (withinr_c _ _ _ _).mono ?_; rintro e w9 ⟨rfl, rfl⟩)
          go_ret
          exact ⟨by rw [HV.out]; rfl, HB.out⟩
        | true =>
          cases h1 : wi q.f 0 ((n : Int) - 1) with
          | false =>
            have HV : Hid (v = false) := by show v = false; rw [← hv]; unfold portB; simp [hk, hk2, hd, ha, h1]
            clear hv
            go_enter Try.func34, Try.ntmps34
            go_wp2_with (go_at_call 32; with_reducible refine (withinr_c _ _ _ _).mono ?_; rintro e w9 ⟨rfl, rfl⟩)
            go_ret
            exact ⟨by rw [HV.out]; rfl, HB.out⟩
          | true =>
            cases h2 : wi q.t 0 ((n : Int) - 1) with
            | false =>
              have HV : Hid (v = false) := by show v = false; rw [← hv]; unfold portB; simp [hk, hk2, hd, ha, h1, h2]
              clear hv
              go_enter Try.func34, Try.ntmps34
              go_wp2_with (go_at_call 32; with_reducible refine (withinr_c _ _ _ _).mono ?_; rintro e w9 ⟨rfl, rfl⟩)
              go_ret
              exact ⟨by rw [HV.out]; rfl, HB.out⟩
            | true =>
              cases h3 : (q.f == q.t) with
              | false =>
                have h3n : (q.f != q.t) = true := by simp [bne, h3]
                cases h4 : wi q.s 1 16 with
                | false =>
                  have HV : Hid (v = false) := by show v = false; rw [← hv]; unfold portB; simp [hk, hk2, hd, ha, h1, h2, h3, h3n, h4]
                  clear hv
                  go_enter Try.func34, Try.ntmps34
                  go_wp2_with (go_at_call 32; with_reducible refine (withinr_c _ _ _ _).mono ?_; rintro e w9 ⟨rfl, rfl⟩)
                  go_ret
                  exact ⟨by rw [HV.out]; rfl, HB.out⟩
                | true =>
                  have HV : Hid (v = true) := by show v = true; rw [← hv]; unfold portB; simp [hk, hk2, hd, ha, h1, h2, h3, h3n, h4]
                  clear hv
                  go_enter Try.func34, Try.ntmps34
                  go_wp2_with (go_at_call 32; with_reducible refine (withinr_c _ _ _ _).mono ?_; rintro e w9 ⟨rfl, rfl⟩)
                  go_ret
                  exact ⟨by rw [HV.out]; rfl, HB.out⟩
              | true =>
                have h3n : (q.f != q.t) = false := by simp [bne, h3]
                have HV : Hid (v = false) := by show v = false; rw [← hv]; unfold portB; simp [hk, hk2, hd, ha, h1, h2, h3, h3n]
                clear hv
                go_enter Try.func34, Try.ntmps34
                go_wp2_with (go_at_call 32; with_reducible refine (withinr_c _ _ _ _).mono ?_; rintro e w9 ⟨rfl, rfl⟩)
                go_ret
                exact ⟨by rw [HV.out]; rfl, HB.out⟩
  | true =>
    have hk2 : (q.k == 2) = false := by simp at hk ⊢; omega
    cases hd : (q.d == 0) with
    | false =>
      have HV : Hid (v = false) := by show v = false; rw [← hv]; unfold portB; simp [hk, hk2, hd]
      clear hv
      go_enter Try.func34, Try.ntmps34
      go_wp2_with (go_at_call 32; with_reducible refine (withinr_c _ _ _ _).mono ?_; rintro e w9 ⟨rfl, rfl⟩)
      go_ret
      exact ⟨by rw [HV.out]; rfl, HB.out⟩
    | true =>
      cases ha : wi q.a 1 64 with
      | false =>
        have HV : Hid (v = false) := by show v = false; rw [← hv]; unfold portB; simp [hk, hk2, hd, ha]
        clear hv
        go_enter Try.func34, Try.ntmps34
        go_wp2_with (go_at_call 32; with_reducible refine (withinr_c _ _ _ _).mono ?_; rintro e w9 ⟨rfl, rfl⟩)
        go_ret
        exact ⟨by rw [HV.out]; rfl, HB.out⟩
      | true =>
        cases h1 : wi q.f 0 ((n : Int) - 1) with
        | false =>
          have HV : Hid (v = false) := by show v = false; rw [← hv]; unfold portB; simp [hk, hk2, hd, ha, h1]
          clear hv
          go_enter Try.func34, Try.ntmps34
          go_wp2_with (go_at_call 32; with_reducible refine (withinr_c _ _ _ _).mono ?_; rintro e w9 ⟨rfl, rfl⟩)
          go_ret
          exact ⟨by rw [HV.out]; rfl, HB.out⟩
        | true =>
          cases h2 : wi q.t 0 ((n : Int) - 1) with
          | false =>
            have HV : Hid (v = false) := by show v = false; rw [← hv]; unfold portB; simp [hk, hk2, hd, ha, h1, h2]
            clear hv
            go_enter Try.func34, Try.ntmps34
            go_wp2_with (go_at_call 32; with_reducible refine (withinr_c _ _ _ _).mono ?_; rintro e w9 ⟨rfl, rfl⟩)
            go_ret
            exact ⟨by rw [HV.out]; rfl, HB.out⟩
          | true =>
            cases h3 : (q.f == q.t) with
            | false =>
              have h3n : (q.f != q.t) = true := by simp [bne, h3]
              cases h4 : wi q.s 1 16 with
              | false =>
                have HV : Hid (v = false) := by show v = false; rw [← hv]; unfold portB; simp [hk, hk2, hd, ha, h1, h2, h3, h3n, h4]
                clear hv
                go_enter Try.func34, Try.ntmps34
                go_wp2_with (go_at_call 32; with_reducible refine (withinr_c _ _ _ _).mono ?_; rintro e w9 ⟨rfl, rfl⟩)
                go_ret
                exact ⟨by rw [HV.out]; rfl, HB.out⟩
              | true =>
                have HV : Hid (v = true) := by show v = true; rw [← hv]; unfold portB; simp [hk, hk2, hd, ha, h1, h2, h3, h3n, h4]
                clear hv
                go_enter Try.func34, Try.ntmps34
                go_wp2_with (go_at_call 32; with_reducible refine (withinr_c _ _ _ _).mono ?_; rintro e w9 ⟨rfl, rfl⟩)
                go_ret
                exact ⟨by rw [HV.out]; rfl, HB.out⟩
            | true =>
              have h3n : (q.f != q.t) = false := by simp [bne, h3]
              have HV : Hid (v = false) := by show v = false; rw [← hv]; unfold portB; simp [hk, hk2, hd, ha, h1, h2, h3, h3n]
              clear hv
              go_enter Try.func34, Try.ntmps34
              go_wp2_with (go_at_call 32; with_reducible refine (withinr_c _ _ _ _).mono ?_; rintro e w9 ⟨rfl, rfl⟩)
              go_ret
              exact ⟨by rw [HV.out]; rfl, HB.out⟩
end Go.Proofs.Ytekcokbpgpeepaa
