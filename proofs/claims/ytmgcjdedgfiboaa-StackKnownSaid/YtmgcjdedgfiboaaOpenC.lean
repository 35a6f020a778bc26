/- The tasks that are handed to a law: what a row without a place is. -/
import Derived.Test.YtmgcjdedgfiboaaOpenT
namespace Go.Proofs.Ytmgcjdedgfiboaa
set_option linter.unusedVariables false
open Go.RowKit Go.ChangeShapes Go.WideShapes Go.ChangeAt Go.Deep

/-- The same, and what a row without a place is. -/
theorem open_tasks_c {H : Type} {enc : TypeId × Value → H} {W : World} {base : Nat} {v : Value} {d : DataW H} {p : List MemPlace} (hv : Value.okWide Try.prog W .any base 22 v)
    (h : DataW.Trod enc Try.prog W 0 (fun _ => true) true 22 v d p) :
    ∃ (A : Option Addr) (n c : Nat) (D : Nat → Nat → Int), v = .slice A n c ∧ n ≤ c ∧ TasksAt W A n D ∧ (∀ i j, i < n → j < 8 → (Lit.int .i64 (D i j)).wf = true) ∧ SliceD d n c ∧ (A = none → c = 0) := by
  obtain ⟨a0, len, cap, rfl⟩ := okWide_slice Try.underlying22 hv
  obtain ⟨fuel, hf⟩ := h
  rcases open_int_fields 8 Try.underlying22 Try.underlying48 (by kernel_rfl) tasks_cells rfl Try.underlying3 (by simp) (by omega) hf with ⟨hcs, hx⟩ | ⟨a, len', cap', D, hcs, hl, hm, hx, hcell⟩
  · simp [Value.cells] at hcs
    obtain ⟨rfl, rfl, rfl⟩ := hcs
    exact ⟨none, 0, 0, fun _ _ => 0, rfl, Nat.le_refl _, fun h => by omega, fun _ _ h => by omega, .inl ⟨hx, rfl, rfl⟩, fun _ => rfl⟩
  · simp [Value.cells] at hcs
    obtain ⟨rfl, rfl, rfl⟩ := hcs
    refine ⟨some a, len, cap, D, rfl, hl, fun h0 => ?_, fun i j hi hj => ?_, .inr hx, fun e => by cases e⟩
    · obtain ⟨b, off, rfl, hb, hc⟩ := hcell (by omega)
      exact ⟨b, off, rfl, hb, fun i hi => ⟨(hc i 0 (by omega) (by omega)).1, (hc i 1 (by omega) (by omega)).1, (hc i 2 (by omega) (by omega)).1, (hc i 3 (by omega) (by omega)).1,
        (hc i 4 (by omega) (by omega)).1, (hc i 5 (by omega) (by omega)).1, (hc i 6 (by omega) (by omega)).1, (hc i 7 (by omega) (by omega)).1⟩⟩
    · obtain ⟨b, off, rfl, hb, hc⟩ := hcell (by omega)
      exact (hc i j (by omega) hj).2
end Go.Proofs.Ytmgcjdedgfiboaa
