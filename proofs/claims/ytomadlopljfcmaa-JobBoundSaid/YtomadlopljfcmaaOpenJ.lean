/- Numbers, a task, as arguments, opened. -/
import Derived.Test.YtomadlopljfcmaaLift
import Derived.Test.YtomadlopljfcmaaJobA
import Derived.Deep.Grids
import Derived.Deep.Fields
namespace Go.Proofs.Ytomadlopljfcmaa
set_option linter.unusedVariables false
open Go.RowKit Go.ChangeShapes Go.WideShapes Go.ChangeAt Go.Deep

def SliceD {H : Type} (d : DataW H) (n c : Nat) : Prop := (d = .nil ∧ n = 0 ∧ c = 0) ∨ ∃ es sp, d = .slice es sp ∧ es.length = n ∧ es.length + sp.length = c
theorem ints_cells : Try.prog.cellsOf 3 = 1 := by kernel_rfl
theorem ints_bytes : Try.prog.bytesOf 3 = 8 := by kernel_rfl
theorem open_numbers {H : Type} {enc : TypeId × Value → H} {W : World} {base : Nat} {v : Value} {d : DataW H} {p : List MemPlace} (hv : Value.okWide Try.prog W .any base 43 v)
    (h : DataW.Trod enc Try.prog W 0 (fun _ => true) true 43 v d p) :
    ∃ (A : Option Addr) (n c : Nat) (R : Nat → Int), v = .slice A n c ∧ n ≤ c ∧ IntsAt W A n R ∧ (∀ i, i < n → (Lit.int .i64 (R i)).wf = true) ∧ SliceD d n c := by
  obtain ⟨a0, len, cap, rfl⟩ := okWide_slice Try.underlying43 hv
  obtain ⟨fuel, hf⟩ := h
  rcases open_ints Try.underlying43 Try.underlying3 ints_cells hf with ⟨hcs, hx⟩ | ⟨a, len', cap', zs, hcs, _, hl, hm, hz, hx, hcell, hwz⟩
  · simp [Value.cells] at hcs
    obtain ⟨rfl, rfl, rfl⟩ := hcs
    simp only [Prod.mk.injEq] at hx
    exact ⟨none, 0, 0, fun _ => 0, rfl, Nat.le_refl _, fun h => by omega, fun _ h => by omega, .inl ⟨hx.1, rfl, rfl⟩⟩
  · simp [Value.cells] at hcs
    obtain ⟨rfl, rfl, rfl⟩ := hcs
    simp only [Prod.mk.injEq] at hx
    simp only [if_true] at hz
    refine ⟨some a, len, cap, fun i => zs.getD i 0, rfl, hl, fun h0 => ?_, fun i hi => ?_, .inr ⟨_, _, hx.1, by simp [lits]; omega, by simp [lits]; omega⟩⟩
    · have h00 := hcell 0 (by omega)
      have hspot : a.spot = none := World.cell?_spot (by simpa [Addr.add] using h00)
      obtain ⟨b, off, spot⟩ := a
      simp only at hspot
      subst hspot
      refine ⟨b, off, rfl, ?_, fun i hi => ?_⟩
      · have := lt_of_cell h00
        simpa [Addr.add] using this
      · have := hcell i (by omega)
        rwa [add_plain'] at this
    · exact hwz _ (by show zs.getD i 0 ∈ zs; rw [List.getD_eq_getElem?_getD, List.getElem?_eq_getElem (by omega)]; simp)
theorem reach_numbers {H : Type} {ts : List TypeId} {ds : List (DataW H)} {d : DataW H} {n c j : Nat} (hd : SliceD d n c) (h : (DataW.weightsEach Try.prog ts ds).all (· ≤ reachBytes) = true) (ht : ts[j]? = some 43) (hj : ds[j]? = some d) :
    c * 8 ≤ 140737488351232 := by
  rcases hd with ⟨_, _, rfl⟩ | ⟨es, sp, rfl, _, rfl⟩
  · omega
  · have := sized_slice h ht hj Try.underlying43
    rw [ints_bytes] at this
    simpa [reachBytes] using this
theorem task_cells : Try.prog.cellsOf 23 = 8 := by kernel_rfl
theorem open_task {H : Type} {enc : TypeId × Value → H} {W : World} {base : Nat} {v : Value} {d : DataW H} {p : List MemPlace} (hv : Value.okWide Try.prog W .any base 23 v)
    (h : DataW.Trod enc Try.prog W 0 (fun _ => true) true 23 v d p) :
    ∃ x : TV, v = .agg (tCells x) := by
  obtain ⟨fs, hs, hone, hk8, hall⟩ : ∃ fs : Array Field, Try.prog.underlying 23 = some (.struct fs) ∧ oneCellFields Try.prog fs = true ∧ fs.size = 8 ∧ ∀ f ∈ fs.toList, f.type = 3 :=
    ⟨_, Try.underlying23, by kernel_rfl, rfl, by simp⟩
  obtain ⟨cs, rfl, hsz⟩ := okWide_struct hs hv
  rw [task_cells] at hsz
  obtain ⟨fuel, hf⟩ := h
  obtain ⟨ys, n', _, _, hlen, hyl, hfl⟩ := DataW.trod_struct hs hf
  have key : ∀ j, j < 8 → ∃ z : Int, cs[j]? = some (.int .i64 z) := by
    intro j hj
    have hj' : fs[j]? = some (fs[j]'(by omega)) := Array.getElem?_eq_getElem (by omega)
    obtain ⟨ho, hk⟩ := hone_of hone j _ hj'
    have h1 := hfl j _ hj'
    rw [ho, hk, hall _ (by simp)] at h1
    have hys : ys[j]? = some (ys[j]'(by omega)) := List.getElem?_eq_getElem (by omega)
    obtain ⟨z, hz, _, hw⟩ := DataW.trod_int Try.underlying3 (h1.trans hys)
    refine ⟨z, ?_⟩
    have hcell : (Value.agg cs).cells.toList = cs.toList := by simp [Value.cells]
    rw [hcell] at hz
    rw [← Array.getElem?_toList]
    have : (cs.toList.drop j).take 1 = [cs.toList[j]'(by simpa using (by omega : j < cs.size))] := by
      rw [List.drop_eq_getElem_cons (by simpa using (by omega : j < cs.size))]
      rfl
    rw [this] at hz
    simp only [List.cons.injEq, and_true] at hz
    rw [List.getElem?_eq_getElem (by simpa using (by omega : j < cs.size)), hz]
  obtain ⟨z0, h0⟩ := key 0 (by omega)
  obtain ⟨z1, h1⟩ := key 1 (by omega)
  obtain ⟨z2, h2⟩ := key 2 (by omega)
  obtain ⟨z3, h3⟩ := key 3 (by omega)
  obtain ⟨z4, h4⟩ := key 4 (by omega)
  obtain ⟨z5, h5⟩ := key 5 (by omega)
  obtain ⟨z6, h6⟩ := key 6 (by omega)
  obtain ⟨z7, h7⟩ := key 7 (by omega)
  refine ⟨⟨z0, z1, z2, z3, z4, z5, z6, z7⟩, congrArg Value.agg ?_⟩
  apply Array.ext_getElem?
  intro i
  by_cases hi : i < 8
  · rcases (by omega : i = 0 ∨ i = 1 ∨ i = 2 ∨ i = 3 ∨ i = 4 ∨ i = 5 ∨ i = 6 ∨ i = 7) with rfl | rfl | rfl | rfl | rfl | rfl | rfl | rfl
    · exact h0
    · exact h1
    · exact h2
    · exact h3
    · exact h4
    · exact h5
    · exact h6
    · exact h7
  · rw [Array.getElem?_eq_none (by omega), Array.getElem?_eq_none (by simp [tCells]; omega)]
end Go.Proofs.Ytomadlopljfcmaa
