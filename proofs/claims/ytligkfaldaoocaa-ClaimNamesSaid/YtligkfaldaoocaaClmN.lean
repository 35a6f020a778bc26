/- Claims: an error of asked; claims that are none. -/
import Derived.Test.YtligkfaldaoocaaClmW
namespace Go.Proofs.Ytligkfaldaoocaa
set_option linter.unusedVariables false
open Go.RowKit

def AskedE (v : Value) (p r e : Int) (w : World) : Prop := Calls Try.prog 24 #[v, .int .i64 p, .int .i64 r] w fun en w' => en = .returned (.tuple #[.pointer none, .int .i64 e]) ∧ w = w'
theorem hold_e (v : Value) (p r n : Int) (hn : (n != 0) = true) (w : World) (h : AskedE v p r n w) :
    Calls Try.prog 12 #[v, .int .i64 p, .int .i64 r] w fun e w' => e = .returned (.int .i64 n) ∧ w' = w := by
  have HA := Lib.hid (show Calls Try.prog _ _ _ _ from h)
  clear h
  go_enter Try.func12, Try.ntmps12
  go_wp2_with (go_at_call 24; with_reducible refine HA.out.mono ?_; rintro e w1 ⟨rfl, rfl⟩)
  go_ret
  exact ⟨rfl, rfl⟩
theorem give_e (v : Value) (p r n : Int) (hn : (n != 0) = true) (w : World) (h : AskedE v p r n w) :
    Calls Try.prog 14 #[v, .int .i64 p, .int .i64 r] w fun e w' => e = .returned (.int .i64 n) ∧ w' = w := by
  have HA := Lib.hid (show Calls Try.prog _ _ _ _ from h)
  clear h
  go_enter Try.func14, Try.ntmps14
  go_wp2_with (go_at_call 24; with_reducible refine HA.out.mono ?_; rintro e w1 ⟨rfl, rfl⟩)
  go_ret
  exact ⟨rfl, rfl⟩
theorem ask_e (v : Value) (p r n : Int) (hn : (n != 0) = true) (w : World) (h : AskedE v p r n w) :
    Calls Try.prog 10 #[v, .int .i64 p, .int .i64 r] w fun e w' => e = .returned (.tuple #[.bool false, .int .i64 n]) ∧ w' = w := by
  have HA := Lib.hid (show Calls Try.prog _ _ _ _ from h)
  clear h
  go_enter Try.func10, Try.ntmps10
  go_wp2_with (go_at_call 24; with_reducible refine HA.out.mono ?_; rintro e w1 ⟨rfl, rfl⟩)
  go_ret2
  exact ⟨rfl, rfl⟩
theorem asks_e (v : Value) (p r n : Int) (hn : (n != 0) = true) (w : World) (h : AskedE v p r n w) :
    Calls Try.prog 22 #[v, .int .i64 p, .int .i64 r, .bool false, .int .i64 n] w fun e w' => e = .returned (.bool true) ∧ w' = w := by
  have HA := Lib.hid (ask_e v p r n hn w h)
  clear h
  go_enter Try.func22, Try.ntmps22
  go_wp2_with (go_at_call 10; refine HA.out.mono ?_; rintro e w1 ⟨rfl, rfl⟩)
  go_ret
  exact ⟨by simp, rfl⟩
theorem ClX.made {B g : Nat} {w : World} {S : CS} (h : ClX B w g S) : w.cell? ⟨g, 0, none⟩ = some (.bool true) := by
  obtain ⟨V, h⟩ := h
  exact h.made
theorem bad_a {B g : Nat} {w : World} {S : CS} (h : ClX B w g S) {p r : Int} (hb : ¬ okPR p r) : AskedE (.pointer (some ⟨g, 0, none⟩)) p r 9 w := asked_bad g p r w h.made hb
def NoClaim (w : World) (v : Value) : Prop := v = .pointer none ∨ ∃ j, v = .pointer (some ⟨j, 0, none⟩) ∧ w.cell? ⟨j, 0, none⟩ = some (.bool false)
theorem NoClaim.below {w w' : World} {v : Value} (h : NoClaim w v) (k : Below w.heap.size w w') : NoClaim w' v := by
  rcases h with h | ⟨j, h1, h2⟩
  · exact .inl h
  · refine .inr ⟨j, h1, ?_⟩
    have hlt : j < w.heap.size := by
      rcases Nat.lt_or_ge j w.heap.size with hlt | hge
      · exact hlt
      · unfold World.cell? at h2
        rw [Array.getElem?_eq_none hge] at h2
        cases h2
    exact (k.cell (p := ⟨j, 0, none⟩) hlt).trans h2
theorem none_n (v : Value) (w : World) (h : NoClaim w v) :
    Calls Try.prog 36 #[v] w fun e w' => e = .returned (.bool true) ∧ w = w' := by
  rcases h with rfl | ⟨j, rfl, h⟩
  · go_enter Try.func36, Try.ntmps36
    go_wp2
    go_ret
    exact ⟨rfl, rfl⟩
  · go_enter Try.func36, Try.ntmps36
    go_wp2
    go_ret
    exact ⟨rfl, rfl⟩
theorem none_a (v : Value) (p r : Int) (w : World) (h : NoClaim w v) : AskedE v p r 1 w := by
  show Calls Try.prog _ _ _ _
  go_enter Try.func24, Try.ntmps24
  go_wp2_with (go_at_call 36; with_reducible refine (none_n v _ h).mono ?_; rintro e w1 ⟨rfl, rfl⟩)
  go_ret2
  exact ⟨rfl, rfl⟩
theorem of_n (v : Value) (r : Int) (w : World) (h : NoClaim w v) :
    Calls Try.prog 29 #[v, .int .i64 r] w fun e w' => e = .returned (.pointer none) ∧ w = w' := by
  go_enter Try.func29, Try.ntmps29
  go_wp2_with (go_at_call 36; with_reducible refine (none_n v _ h).mono ?_; rintro e w1 ⟨rfl, rfl⟩)
  go_ret
  exact ⟨rfl, rfl⟩
theorem in_n (v : Value) (r : Int) (w : World) (h : NoClaim w v) :
    Calls Try.prog 23 #[v, .int .i64 r] w fun e w' => e = .returned (.tuple #[.int .i64 0, .bool false]) ∧ w = w' := by
  go_enter Try.func23, Try.ntmps23
  go_wp2_with (go_at_call 36; with_reducible refine (none_n v _ h).mono ?_; rintro e w1 ⟨rfl, rfl⟩)
  go_ret2
  exact ⟨rfl, rfl⟩
theorem drop_n (v : Value) (r : Int) (w : World) (h : NoClaim w v) :
    Calls Try.prog 16 #[v, .int .i64 r] w fun e w' => e = .returned (.tuple #[.int .i64 0, .bool false]) ∧ Below w.heap.size w w' := by
  have h' : ∀ o, NoClaim (w.alloc o) v := fun o => h.below ((Below.refl _ _).alloc (Nat.le_refl _) _)
  have HI := Lib.hid fun o => in_n v r _ (h' o)
  have HI0 := Lib.hid (in_n v r w h)
  clear h h'
  go_enter Try.func16, Try.ntmps16
  go_wp2_with (first
    | (go_at_call 23; with_reducible refine HI0.out.mono ?_; rintro e w1 ⟨rfl, rfl⟩)
    | (go_at_call 23; with_reducible refine (HI.out _).mono ?_; rintro e w1 ⟨rfl, rfl⟩))
  go_ret2
  exact ⟨rfl, by first | exact Below.refl _ _ | exact (Below.refl _ _).alloc (Nat.le_refl _) _⟩
theorem holder_n (v : Value) (r : Int) (w : World) (h : NoClaim w v) :
    Calls Try.prog 21 #[v, .int .i64 r] w fun e w' => e = .returned (.tuple #[.int .i64 0, .bool false]) ∧ w = w' := by
  go_enter Try.func21, Try.ntmps21
  go_wp2_with (go_at_call 29; with_reducible refine (of_n v _ _ h).mono ?_; rintro e w1 ⟨rfl, rfl⟩)
  go_ret2
  exact ⟨rfl, rfl⟩
theorem line_n (v : Value) (r : Int) (w : World) (h : NoClaim w v) :
    Calls Try.prog 20 #[v, .int .i64 r] w fun e w' => e = .returned (.slice none 0 0) ∧ w = w' := by
  go_enter Try.func20, Try.ntmps20
  go_wp2_with (go_at_call 29; with_reducible refine (of_n v _ _ h).mono ?_; rintro e w1 ⟨rfl, rfl⟩)
  go_ret
  exact ⟨rfl, rfl⟩
end Go.Proofs.Ytligkfaldaoocaa
