/- An argument that is a slice of numbers, opened. -/
import Derived.Test.YtligkfaldaoocaaLift
import Derived.Deep.Grids
import Derived.Deep.Fields
namespace Go.Proofs.Ytligkfaldaoocaa
set_option linter.unusedVariables false
open Go.RowKit Go.ChangeShapes Go.WideShapes Go.ChangeAt Go.Deep

def SliceD {H : Type} (d : DataW H) (n c : Nat) : Prop := (d = .nil ∧ n = 0 ∧ c = 0) ∨ ∃ es sp, d = .slice es sp ∧ es.length = n ∧ es.length + sp.length = c
theorem ints_cells : Try.prog.cellsOf 3 = 1 := by kernel_rfl
theorem ints_bytes : Try.prog.bytesOf 3 = 8 := by kernel_rfl
theorem open_numbers {H : Type} {enc : TypeId × Value → H} {W : World} {base : Nat} {v : Value} {d : DataW H} {p : List MemPlace} (hv : Value.okWide Try.prog W .any base 39 v)
    (h : DataW.Trod enc Try.prog W 0 (fun _ => true) true 39 v d p) :
    ∃ (A : Option Addr) (n c : Nat) (R : Nat → Int), v = .slice A n c ∧ n ≤ c ∧ IntsAt W A n R ∧ (∀ i, i < n → (Lit.int .i64 (R i)).wf = true) ∧ SliceD d n c := by
  obtain ⟨a0, len, cap, rfl⟩ := okWide_slice Try.underlying39 hv
  obtain ⟨fuel, hf⟩ := h
  rcases open_ints Try.underlying39 Try.underlying3 ints_cells hf with ⟨hcs, hx⟩ | ⟨a, len', cap', zs, hcs, _, hl, hm, hz, hx, hcell, hwz⟩
  · simp [Value.cells] at hcs
    obtain ⟨rfl, rfl, rfl⟩ := hcs
    simp only [Prod.mk.injEq] at hx
    exact ⟨none, 0, 0, fun _ => 0, rfl, Nat.le_refl _, fun h => by omega, fun _ h => by omega, .inl ⟨hx.1, rfl, rfl⟩⟩
  · simp [Value.cells] at hcs
    obtain ⟨rfl, rfl, rfl⟩ := hcs
    simp only [Prod.mk.injEq] at hx
    simp only [if_true] at hz
    refine ⟨some a, len, cap, fun i => zs.getD i 0, rfl, hl, fun h0 => ?_, fun i hi => ?_, .inr ⟨_, _, hx.1, by simp [lits]; omega, by simp [lits]; omega⟩⟩
    · have h00 := hcell 0 (by omega)
      have hspot : a.spot = none := World.cell?_spot (by simpa [Addr.add] using h00)
      obtain ⟨b, off, spot⟩ := a
      simp only at hspot
      subst hspot
      refine ⟨b, off, rfl, ?_, fun i hi => ?_⟩
      · have := lt_of_cell h00
        simpa [Addr.add] using this
      · have := hcell i (by omega)
        rwa [add_plain'] at this
    · exact hwz _ (by show zs.getD i 0 ∈ zs; rw [List.getD_eq_getElem?_getD, List.getElem?_eq_getElem (by omega)]; simp)
theorem reach_numbers {H : Type} {ts : List TypeId} {ds : List (DataW H)} {d : DataW H} {n c j : Nat} (hd : SliceD d n c) (h : (DataW.weightsEach Try.prog ts ds).all (· ≤ reachBytes) = true) (ht : ts[j]? = some 39) (hj : ds[j]? = some d) :
    c * 8 ≤ 140737488351232 := by
  rcases hd with ⟨_, _, rfl⟩ | ⟨es, sp, rfl, _, rfl⟩
  · omega
  · have := sized_slice h ht hj Try.underlying39
    rw [ints_bytes] at this
    simpa [reachBytes] using this
end Go.Proofs.Ytligkfaldaoocaa
