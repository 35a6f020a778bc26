/- Stacks that are none. -/
import Derived.Test.YtmgcjdedgfiboaaStkW
namespace Go.Proofs.Ytmgcjdedgfiboaa
set_option linter.unusedVariables false
open Go.RowKit

/-- No stack: nil, or one that was not made. -/
def NoStk (w : World) (v : Value) : Prop := v = .pointer none ∨ ∃ j, v = .pointer (some ⟨j, 0, none⟩) ∧ Blk w j 57 #[.slice none 0 0, .slice none 0 0, .bool false]
theorem NoStk.below {w w' : World} {v : Value} (h : NoStk w v) (k : Below w.heap.size w w') : NoStk w' v := by
  rcases h with h | ⟨j, h1, h2⟩
  · exact .inl h
  · exact .inr ⟨j, h1, h2.below k h2.lt⟩
theorem asked_n (v : Value) (t : Int) (w : World) (h : NoStk w v) :
    Calls Try.prog 26 #[v, .int .i64 t] w fun e w' => e = .returned (.int .i64 1) ∧ w = w' := by
  rcases h with rfl | ⟨j, rfl, hk⟩
  · go_enter Try.func26, Try.ntmps26
    go_wp2
    go_ret
    exact ⟨rfl, rfl⟩
  · have c0 := hk.cell 0
    have c1 := hk.cell 1
    have c2 := hk.cell 2
    go_enter Try.func26, Try.ntmps26
    go_wp2
    go_ret
    exact ⟨rfl, rfl⟩
theorem len_n (v : Value) (w : World) (h : NoStk w v) :
    Calls Try.prog 24 #[v] w fun e w' => e = .returned (.int .i64 0) ∧ w = w' := by
  rcases h with rfl | ⟨j, rfl, hk⟩
  · go_enter Try.func24, Try.ntmps24
    go_wp2
    go_ret
    exact ⟨rfl, rfl⟩
  · have c0 := hk.cell 0
    have c1 := hk.cell 1
    have c2 := hk.cell 2
    go_enter Try.func24, Try.ntmps24
    go_wp2
    go_ret
    exact ⟨rfl, rfl⟩
theorem top_n (v : Value) (w : World) (h : NoStk w v) :
    Calls Try.prog 16 #[v] w fun e w' => e = .returned (.tuple #[.int .i64 0, .bool false]) ∧ w = w' := by
  rcases h with rfl | ⟨j, rfl, hk⟩
  · go_enter Try.func16, Try.ntmps16
    go_wp2
    go_ret2
    exact ⟨rfl, rfl⟩
  · have c0 := hk.cell 0
    have c1 := hk.cell 1
    have c2 := hk.cell 2
    go_enter Try.func16, Try.ntmps16
    go_wp2
    go_ret2
    exact ⟨rfl, rfl⟩
theorem ceil_n (v : Value) (w : World) (h : NoStk w v) :
    Calls Try.prog 15 #[v] w fun e w' => e = .returned (.int .i64 0) ∧ w = w' := by
  rcases h with rfl | ⟨j, rfl, hk⟩
  · go_enter Try.func15, Try.ntmps15
    go_wp2
    go_ret
    exact ⟨rfl, rfl⟩
  · have c0 := hk.cell 0
    have c1 := hk.cell 1
    have c2 := hk.cell 2
    go_enter Try.func15, Try.ntmps15
    go_wp2_with fail
    go_loopw [2, 12] (fun u y wr => u = .int .i64 0 ∧ y = .int .i64 0 ∧ Hid (w = wr)) (fun _ _ _ => 0)
    case atStart => exact ⟨rfl, rfl, Lib.hid rfl⟩
    case round =>
      obtain ⟨rfl, rfl, hww⟩ := hrel
      obtain rfl := hww.out
      go_wp2_with fail
      go_ret
      exact ⟨rfl, rfl⟩
theorem held_n (v : Value) (t : Int) (w : World) (h : NoStk w v) :
    Calls Try.prog 13 #[v, .int .i64 t] w fun e w' => e = .returned (.slice none 0 0) ∧ Below w.heap.size w w' := by
  rcases h with rfl | ⟨j, rfl, hk⟩
  · go_enter Try.func13, Try.ntmps13
    go_wp2
    go_ret
    exact ⟨rfl, Below.refl _ _⟩
  · have c0 := hk.cell 0
    have c1 := hk.cell 1
    have c2 := hk.cell 2
    go_enter Try.func13, Try.ntmps13
    have HO := Lib.hid (of_v t w)
    unfold ofV at HO
    go_wp2_with (go_at_call 30; with_reducible refine HO.out.mono ?_; rintro e w1 ⟨rfl, hq, hql, hB0⟩; have c3 := (hB0.cell (p := ⟨j, 1, none⟩) hk.lt).trans c1)
    have HB0 := Lib.hid hB0
    clear hB0
    go_loopw [4, 17] (fun u y wr => u = .slice none 0 0 ∧ y = .int .i64 0 ∧ Hid (w1 = wr)) (fun _ _ _ => 0)
    case atStart => exact ⟨rfl, rfl, Lib.hid rfl⟩
    case round =>
      obtain ⟨rfl, rfl, hww⟩ := hrel
      obtain rfl := hww.out
      go_wp2_with fail
      go_ret
      exact ⟨rfl, HB0.out⟩
theorem lock_n (v : Value) (t r : Int) (w : World) (h : NoStk w v) :
    Calls Try.prog 10 #[v, .int .i64 t, .int .i64 r] w fun e w' => e = .returned (.int .i64 1) ∧ Below w.heap.size w w' := by
  go_enter Try.func10, Try.ntmps10
  go_wp2_with (go_at_call 26; with_reducible refine (asked_n _ _ _ (h.below ((Below.refl _ _).alloc (Nat.le_refl _) _))).mono ?_; rintro e w1 ⟨rfl, rfl⟩)
  go_ret
  exact ⟨rfl, by first | exact Below.refl _ _ | exact (Below.refl _ _).alloc (Nat.le_refl _) _⟩
theorem unlock_n (v : Value) (t : Int) (w : World) (h : NoStk w v) :
    Calls Try.prog 11 #[v, .int .i64 t] w fun e w' => e = .returned (.tuple #[.int .i64 0, .int .i64 1]) ∧ w = w' := by
  go_enter Try.func11, Try.ntmps11
  go_wp2_with (go_at_call 26; with_reducible refine (asked_n _ _ _ h).mono ?_; rintro e w1 ⟨rfl, rfl⟩)
  go_ret2
  exact ⟨rfl, rfl⟩
theorem drop_n (v : Value) (t : Int) (w : World) (h : NoStk w v) :
    Calls Try.prog 12 #[v, .int .i64 t] w fun e w' => e = .returned (.slice none 0 0) ∧ w = w' := by
  go_enter Try.func12, Try.ntmps12
  go_wp2_with (go_at_call 11; with_reducible refine (unlock_n _ _ _ h).mono ?_; rintro e w1 ⟨rfl, rfl⟩)
  go_loopw [4, 6] (fun u y wr => u = .slice none 0 0 ∧ y = .int .i64 1 ∧ Hid (w = wr)) (fun _ _ _ => 0)
  case atStart => exact ⟨rfl, rfl, Lib.hid rfl⟩
  case round =>
    obtain ⟨rfl, rfl, hww⟩ := hrel
    obtain rfl := hww.out
    go_wp2_with fail
    go_ret
    exact ⟨rfl, rfl⟩
end Go.Proofs.Ytmgcjdedgfiboaa
