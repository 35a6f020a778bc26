/- Jobs that are none. -/
import Derived.Test.YtomadlopljfcmaaJobW
namespace Go.Proofs.Ytomadlopljfcmaa
set_option linter.unusedVariables false
open Go.RowKit

theorem lt_of_cellN {w : World} {a : Addr} {v : Value} (h : w.cell? a = some v) : a.block < w.heap.size := by
  rcases Nat.lt_or_ge a.block w.heap.size with hlt | hge
  · exact hlt
  · unfold World.cell? at h
    rw [Array.getElem?_eq_none hge] at h
    cases h
def NoJob (w : World) (v : Value) : Prop := v = .pointer none ∨ ∃ j, v = .pointer (some ⟨j, 0, none⟩) ∧ w.cell? ⟨j, 0, none⟩ = some (.pointer none)
theorem NoJob.below {w w' : World} {v : Value} (h : NoJob w v) (k : Below w.heap.size w w') : NoJob w' v := by
  rcases h with h | ⟨j, h1, h2⟩
  · exact .inl h
  · exact .inr ⟨j, h1, (k.cell (p := ⟨j, 0, none⟩) (lt_of_cellN h2)).trans h2⟩
theorem none_n (v : Value) (w : World) (h : NoJob w v) :
    Calls Try.prog 30 #[v] w fun e w' => e = .returned (.bool true) ∧ w = w' := by
  rcases h with rfl | ⟨j, rfl, h⟩
  · go_enter Try.func30, Try.ntmps30
    go_wp2
    go_ret
    exact ⟨rfl, rfl⟩
  · go_enter Try.func30, Try.ntmps30
    go_wp2
    go_ret
    exact ⟨rfl, rfl⟩
theorem did_n (v : Value) (w : World) (h : NoJob w v) :
    Calls Try.prog 9 #[v] w fun e w' => e = .returned (.int .i64 1) ∧ w = w' := by
  go_enter Try.func9, Try.ntmps9
  go_wp2_with (go_at_call 30; with_reducible refine (none_n v _ h).mono ?_; rintro e w1 ⟨rfl, rfl⟩)
  go_ret
  exact ⟨rfl, rfl⟩
theorem run_n (v : Value) (w : World) (h : NoJob w v) :
    Calls Try.prog 12 #[v] w fun e w' => e = .returned (.int .i64 1) ∧ w = w' := by
  go_enter Try.func12, Try.ntmps12
  go_wp2_with (go_at_call 30; with_reducible refine (none_n v _ h).mono ?_; rintro e w1 ⟨rfl, rfl⟩)
  go_ret
  exact ⟨rfl, rfl⟩
theorem enter_n (v : Value) (w : World) (h : NoJob w v) :
    Calls Try.prog 7 #[v, .int .i64 1] w fun e w' => e = .returned (.int .i64 1) ∧ w = w' := by
  go_enter Try.func7, Try.ntmps7
  go_wp2_with (go_at_call 30; with_reducible refine (none_n v _ h).mono ?_; rintro e w1 ⟨rfl, rfl⟩)
  go_ret
  exact ⟨rfl, rfl⟩
theorem leave_n (v : Value) (w : World) (h : NoJob w v) :
    Calls Try.prog 8 #[v] w fun e w' => e = .returned (.int .i64 1) ∧ w = w' := by
  go_enter Try.func8, Try.ntmps8
  go_wp2_with (go_at_call 30; with_reducible refine (none_n v _ h).mono ?_; rintro e w1 ⟨rfl, rfl⟩)
  go_ret
  exact ⟨rfl, rfl⟩
theorem dead_n (v : Value) (w : World) (h : NoJob w v) :
    Calls Try.prog 15 #[v] w fun e w' => e = .returned (.int .i64 0) ∧ w = w' := by
  go_enter Try.func15, Try.ntmps15
  go_wp2_with (go_at_call 30; with_reducible refine (none_n v _ h).mono ?_; rintro e w1 ⟨rfl, rfl⟩)
  go_ret
  exact ⟨rfl, rfl⟩
theorem ran_n (v : Value) (w : World) (h : NoJob w v) :
    Calls Try.prog 16 #[v] w fun e w' => e = .returned (.int .i64 0) ∧ w = w' := by
  go_enter Try.func16, Try.ntmps16
  go_wp2_with (go_at_call 30; with_reducible refine (none_n v _ h).mono ?_; rintro e w1 ⟨rfl, rfl⟩)
  go_ret
  exact ⟨rfl, rfl⟩
theorem takes_n (v : Value) (w : World) (h : NoJob w v) :
    Calls Try.prog 17 #[v] w fun e w' => e = .returned (.int .i64 0) ∧ w = w' := by
  go_enter Try.func17, Try.ntmps17
  go_wp2_with (go_at_call 30; with_reducible refine (none_n v _ h).mono ?_; rintro e w1 ⟨rfl, rfl⟩)
  go_ret
  exact ⟨rfl, rfl⟩
theorem begun_n (v : Value) (w : World) (h : NoJob w v) :
    Calls Try.prog 10 #[v] w fun e w' => e = .returned (.bool false) ∧ w = w' := by
  go_enter Try.func10, Try.ntmps10
  go_wp2_with (go_at_call 30; with_reducible refine (none_n v _ h).mono ?_; rintro e w1 ⟨rfl, rfl⟩)
  go_ret
  exact ⟨rfl, rfl⟩
theorem done_n (v : Value) (w : World) (h : NoJob w v) :
    Calls Try.prog 18 #[v] w fun e w' => e = .returned (.bool false) ∧ w = w' := by
  go_enter Try.func18, Try.ntmps18
  go_wp2_with (go_at_call 30; with_reducible refine (none_n v _ h).mono ?_; rintro e w1 ⟨rfl, rfl⟩)
  go_ret
  exact ⟨rfl, rfl⟩
theorem in_n (v : Value) (w : World) (h : NoJob w v) :
    Calls Try.prog 14 #[v] w fun e w' => e = .returned (.tuple #[.int .i64 0, .int .i64 0]) ∧ w = w' := by
  go_enter Try.func14, Try.ntmps14
  go_wp2_with (go_at_call 30; with_reducible refine (none_n v _ h).mono ?_; rintro e w1 ⟨rfl, rfl⟩)
  go_ret2
  exact ⟨rfl, rfl⟩
theorem next_n (v : Value) (w : World) (h : NoJob w v) :
    Calls Try.prog 13 #[v] w fun e w' => e = .returned (.tuple #[.agg #[.int .i64 0, .int .i64 0, .string { data := #[] }], .bool false]) ∧ Below w.heap.size w w' := by
  have h' : NoJob (w.alloc (.cells #[.int .i64 0, .int .i64 0, .string { data := #[] }] 29)) v := h.below ((Below.refl _ _).alloc (Nat.le_refl _) _)
  go_enter Try.func13, Try.ntmps13
  go_wp2_with (go_at_call 30; with_reducible refine (none_n v _ h').mono ?_; rintro e w1 ⟨rfl, rfl⟩)
  refine bodyPost_ret (v := .tuple #[.agg #[.int .i64 0, .int .i64 0, .string { data := #[] }], .bool false]) (by simp [results, Try.results13, go_sem] <;> rfl) rfl ⟨rfl, ?_⟩
  exact (Below.refl _ _).alloc (Nat.le_refl _) _
theorem fault_n (v : Value) (w : World) (h : NoJob w v) :
    Calls Try.prog 11 #[v, .int .i64 0] w fun e w' => e = .returned (.int .i64 0) ∧ Below w.heap.size w w' := by
  go_enter Try.func11, Try.ntmps11
  go_wp2_with (go_at_call 13; with_reducible refine (next_n v _ h).mono ?_; rintro e w1 ⟨rfl, hb1⟩)
  go_ret
  exact ⟨rfl, hb1.alloc hb1.size _⟩
end Go.Proofs.Ytomadlopljfcmaa
