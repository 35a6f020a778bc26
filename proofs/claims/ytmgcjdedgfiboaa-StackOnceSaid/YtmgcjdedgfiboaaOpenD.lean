/- A slice of calls of layer 13, as an argument, opened. -/
import Derived.Test.YtmgcjdedgfiboaaOpenT
import Derived.Test.YtmgcjdedgfiboaaDosA
import Derived.Deep.Grids
import Derived.Deep.Fields
namespace Go.Proofs.Ytmgcjdedgfiboaa
set_option linter.unusedVariables false
open Go.RowKit Go.ChangeShapes Go.WideShapes Go.ChangeAt Go.Deep

theorem dos_cells : Try.prog.cellsOf 31 = 3 := by kernel_rfl
theorem dos_bytes : Try.prog.bytesOf 31 = 24 := by kernel_rfl
theorem open_dos {H : Type} {enc : TypeId × Value → H} {W : World} {base : Nat} {v : Value} {d : DataW H} {p : List MemPlace} (hv : Value.okWide Try.prog W .any base 23 v)
    (h : DataW.Trod enc Try.prog W 0 (fun _ => true) true 23 v d p) :
    ∃ (A : Option Addr) (n c : Nat) (D : Nat → Nat → Int), v = .slice A n c ∧ n ≤ c ∧ DosAt W A n D ∧ (∀ i j, i < n → j < 3 → (Lit.int .i64 (D i j)).wf = true) ∧ SliceD d n c := by
  obtain ⟨a0, len, cap, rfl⟩ := okWide_slice Try.underlying23 hv
  obtain ⟨fuel, hf⟩ := h
  rcases open_int_fields 3 Try.underlying23 Try.underlying31 (by kernel_rfl) dos_cells rfl Try.underlying3 (by simp) (by omega) hf with ⟨hcs, hx⟩ | ⟨a, len', cap', D, hcs, hl, hm, hx, hcell⟩
  · simp [Value.cells] at hcs
    obtain ⟨rfl, rfl, rfl⟩ := hcs
    exact ⟨none, 0, 0, fun _ _ => 0, rfl, Nat.le_refl _, fun h => by omega, fun _ _ h => by omega, .inl ⟨hx, rfl, rfl⟩⟩
  · simp [Value.cells] at hcs
    obtain ⟨rfl, rfl, rfl⟩ := hcs
    refine ⟨some a, len, cap, D, rfl, hl, fun h0 => ?_, fun i j hi hj => ?_, .inr hx⟩
    · obtain ⟨b, off, rfl, hb, hc⟩ := hcell (by omega)
      exact ⟨b, off, rfl, hb, fun i hi => ⟨(hc i 0 (by omega) (by omega)).1, (hc i 1 (by omega) (by omega)).1, (hc i 2 (by omega) (by omega)).1⟩⟩
    · obtain ⟨b, off, rfl, hb, hc⟩ := hcell (by omega)
      exact (hc i j (by omega) hj).2
theorem reach_dos {H : Type} {ts : List TypeId} {ds : List (DataW H)} {d : DataW H} {n c j : Nat} (hd : SliceD d n c) (h : (DataW.weightsEach Try.prog ts ds).all (· ≤ reachBytes) = true) (ht : ts[j]? = some 23) (hj : ds[j]? = some d) :
    c * 24 ≤ 140737488351232 := by
  rcases hd with ⟨_, _, rfl⟩ | ⟨es, sp, rfl, _, rfl⟩
  · omega
  · have := sized_slice h ht hj Try.underlying23
    rw [dos_bytes] at this
    simpa [reachBytes] using this
end Go.Proofs.Ytmgcjdedgfiboaa
