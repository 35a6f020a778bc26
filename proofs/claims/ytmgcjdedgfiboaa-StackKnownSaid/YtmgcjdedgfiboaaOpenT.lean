/- An argument that is a slice of tasks; one that is a slice of numbers. -/
import Derived.Test.YtmgcjdedgfiboaaLift
namespace Go.Proofs.Ytmgcjdedgfiboaa
set_option linter.unusedVariables false
open Go.RowKit Go.ChangeShapes Go.WideShapes Go.ChangeAt Go.Deep

theorem tasks_cells : Try.prog.cellsOf 48 = 8 := by kernel_rfl
theorem tasks_bytes : Try.prog.bytesOf 48 = 64 := by kernel_rfl
theorem ints_cells : Try.prog.cellsOf 3 = 1 := by kernel_rfl
theorem ints_bytes : Try.prog.bytesOf 3 = 8 := by kernel_rfl

/-- How a slice's datum hangs together with its length and its capacity. -/
def SliceD {H : Type} (d : DataW H) (n c : Nat) : Prop := (d = .nil ∧ n = 0 ∧ c = 0) ∨ ∃ es sp, d = .slice es sp ∧ es.length = n ∧ es.length + sp.length = c

theorem open_tasks {H : Type} {enc : TypeId × Value → H} {W : World} {base : Nat} {v : Value} {d : DataW H} {p : List MemPlace} (hv : Value.okWide Try.prog W .any base 22 v)
    (h : DataW.Trod enc Try.prog W 0 (fun _ => true) true 22 v d p) :
    ∃ (A : Option Addr) (n c : Nat) (D : Nat → Nat → Int), v = .slice A n c ∧ n ≤ c ∧ TasksAt W A n D ∧ (∀ i j, i < n → j < 8 → (Lit.int .i64 (D i j)).wf = true) ∧ SliceD d n c := by
  obtain ⟨a0, len, cap, rfl⟩ := okWide_slice Try.underlying22 hv
  obtain ⟨fuel, hf⟩ := h
  rcases open_int_fields 8 Try.underlying22 Try.underlying48 (by kernel_rfl) tasks_cells rfl Try.underlying3 (by simp) (by omega) hf with ⟨hcs, hx⟩ | ⟨a, len', cap', D, hcs, hl, hm, hx, hcell⟩
  · simp [Value.cells] at hcs
    obtain ⟨rfl, rfl, rfl⟩ := hcs
    exact ⟨none, 0, 0, fun _ _ => 0, rfl, Nat.le_refl _, fun h => by omega, fun _ _ h => by omega, .inl ⟨hx, rfl, rfl⟩⟩
  · simp [Value.cells] at hcs
    obtain ⟨rfl, rfl, rfl⟩ := hcs
    refine ⟨some a, len, cap, D, rfl, hl, fun h0 => ?_, fun i j hi hj => ?_, .inr hx⟩
    · obtain ⟨b, off, rfl, hb, hc⟩ := hcell (by omega)
      exact ⟨b, off, rfl, hb, fun i hi => ⟨(hc i 0 (by omega) (by omega)).1, (hc i 1 (by omega) (by omega)).1, (hc i 2 (by omega) (by omega)).1, (hc i 3 (by omega) (by omega)).1,
        (hc i 4 (by omega) (by omega)).1, (hc i 5 (by omega) (by omega)).1, (hc i 6 (by omega) (by omega)).1, (hc i 7 (by omega) (by omega)).1⟩⟩
    · obtain ⟨b, off, rfl, hb, hc⟩ := hcell (by omega)
      exact (hc i j (by omega) hj).2
theorem open_numbers {H : Type} {enc : TypeId × Value → H} {W : World} {base : Nat} {v : Value} {d : DataW H} {p : List MemPlace} (hv : Value.okWide Try.prog W .any base 35 v)
    (h : DataW.Trod enc Try.prog W 0 (fun _ => true) true 35 v d p) :
    ∃ (A : Option Addr) (n c : Nat) (R : Nat → Int), v = .slice A n c ∧ n ≤ c ∧ IntsAt W A n R ∧ (∀ i, i < n → (Lit.int .i64 (R i)).wf = true) ∧ SliceD d n c := by
  obtain ⟨a0, len, cap, rfl⟩ := okWide_slice Try.underlying35 hv
  obtain ⟨fuel, hf⟩ := h
  rcases open_ints Try.underlying35 Try.underlying3 ints_cells hf with ⟨hcs, hx⟩ | ⟨a, len', cap', zs, hcs, _, hl, hm, hz, hx, hcell, hwz⟩
  · simp [Value.cells] at hcs
    obtain ⟨rfl, rfl, rfl⟩ := hcs
    simp only [Prod.mk.injEq] at hx
    exact ⟨none, 0, 0, fun _ => 0, rfl, Nat.le_refl _, fun h => by omega, fun _ h => by omega, .inl ⟨hx.1, rfl, rfl⟩⟩
  · simp [Value.cells] at hcs
    obtain ⟨rfl, rfl, rfl⟩ := hcs
    simp only [Prod.mk.injEq] at hx
    simp only [if_true] at hz
    refine ⟨some a, len, cap, fun i => zs.getD i 0, rfl, hl, fun h0 => ?_, fun i hi => ?_, .inr ⟨_, _, hx.1, by simp [lits]; omega, by simp [lits]; omega⟩⟩
    · have h00 := hcell 0 (by omega)
      have hspot : a.spot = none := World.cell?_spot (by simpa [Addr.add] using h00)
      obtain ⟨b, off, spot⟩ := a
      simp only at hspot
      subst hspot
      refine ⟨b, off, rfl, ?_, fun i hi => ?_⟩
      · have := lt_of_cell h00
        simpa [Addr.add] using this
      · have := hcell i (by omega)
        rwa [add_plain'] at this
    · exact hwz _ (by show zs.getD i 0 ∈ zs; rw [List.getD_eq_getElem?_getD, List.getElem?_eq_getElem (by omega)]; simp)
theorem reach_tasks {H : Type} {ts : List TypeId} {ds : List (DataW H)} {d : DataW H} {n c j : Nat} (hd : SliceD d n c) (h : (DataW.weightsEach Try.prog ts ds).all (· ≤ reachBytes) = true) (ht : ts[j]? = some 22) (hj : ds[j]? = some d) :
    c * 64 ≤ 140737488351232 := by
  rcases hd with ⟨_, _, rfl⟩ | ⟨es, sp, rfl, _, rfl⟩
  · omega
  · have := sized_slice h ht hj Try.underlying22
    rw [tasks_bytes] at this
    simpa [reachBytes] using this
theorem reach_numbers {H : Type} {ts : List TypeId} {ds : List (DataW H)} {d : DataW H} {n c j : Nat} (hd : SliceD d n c) (h : (DataW.weightsEach Try.prog ts ds).all (· ≤ reachBytes) = true) (ht : ts[j]? = some 35) (hj : ds[j]? = some d) :
    c * 8 ≤ 140737488351232 := by
  rcases hd with ⟨_, _, rfl⟩ | ⟨es, sp, rfl, _, rfl⟩
  · omega
  · have := sized_slice h ht hj Try.underlying35
    rw [ints_bytes] at this
    simpa [reachBytes] using this
end Go.Proofs.Ytmgcjdedgfiboaa
