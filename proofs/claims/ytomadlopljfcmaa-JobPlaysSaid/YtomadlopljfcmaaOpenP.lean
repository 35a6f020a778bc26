/- A Case, and a slice of calls of layer 17, as arguments, opened. -/
import Derived.Test.YtomadlopljfcmaaLift
import Derived.Test.YtomadlopljfcmaaPlayA17
import Derived.Lib.SmallJoins
import Derived.Deep.Grids
import Derived.Deep.Fields
namespace Go.Proofs.Ytomadlopljfcmaa
set_option linter.unusedVariables false
open Go.RowKit Go.ChangeShapes Go.WideShapes Go.ChangeAt Go.Deep

/-- How a slice's datum hangs together with its length and its capacity. -/
def SliceP {H : Type} (d : DataW H) (n c : Nat) : Prop := (d = .nil ∧ n = 0 ∧ c = 0) ∨ ∃ es sp, d = .slice es sp ∧ es.length = n ∧ es.length + sp.length = c
theorem d2_cells : Try.prog.cellsOf 55 = 2 := by kernel_rfl
theorem d2_bytes : Try.prog.bytesOf 55 = 16 := by kernel_rfl
theorem open_d2 {H : Type} {enc : TypeId × Value → H} {W : World} {base : Nat} {v : Value} {d : DataW H} {p : List MemPlace} (hv : Value.okWide Try.prog W .any base 49 v)
    (h : DataW.Trod enc Try.prog W 0 (fun _ => true) true 49 v d p) :
    ∃ (A : Option Addr) (n c : Nat) (D : Nat → Nat → Int), v = .slice A n c ∧ n ≤ c ∧ D2At W A n D ∧ SliceP d n c := by
  obtain ⟨a0, len, cap, rfl⟩ := okWide_slice Try.underlying49 hv
  obtain ⟨fuel, hf⟩ := h
  rcases open_int_fields 2 Try.underlying49 Try.underlying55 (by kernel_rfl) d2_cells rfl Try.underlying3 (by simp) (by omega) hf with ⟨hcs, hx⟩ | ⟨a, len', cap', D, hcs, hl, hm, hx, hcell⟩
  · simp [Value.cells] at hcs
    obtain ⟨rfl, rfl, rfl⟩ := hcs
    exact ⟨none, 0, 0, fun _ _ => 0, rfl, Nat.le_refl _, fun h => by omega, .inl ⟨hx, rfl, rfl⟩⟩
  · simp [Value.cells] at hcs
    obtain ⟨rfl, rfl, rfl⟩ := hcs
    refine ⟨some a, len, cap, D, rfl, hl, fun h0 => ?_, .inr hx⟩
    obtain ⟨b, off, rfl, hb, hc⟩ := hcell (by omega)
    exact ⟨b, off, rfl, hb, fun i hi => ⟨(hc i 0 (by omega) (by omega)).1, (hc i 1 (by omega) (by omega)).1⟩⟩
theorem reach_d2 {H : Type} {ts : List TypeId} {ds : List (DataW H)} {d : DataW H} {n c j : Nat} (hd : SliceP d n c) (h : (DataW.weightsEach Try.prog ts ds).all (· ≤ reachBytes) = true) (ht : ts[j]? = some 49) (hj : ds[j]? = some d) :
    c * 16 ≤ 140737488351232 := by
  rcases hd with ⟨_, _, rfl⟩ | ⟨es, sp, rfl, _, rfl⟩
  · omega
  · have := sized_slice h ht hj Try.underlying49
    rw [d2_bytes] at this
    simpa [reachBytes] using this
theorem op3_cells : Try.prog.cellsOf 29 = 3 := by kernel_rfl
theorem task8_cells : Try.prog.cellsOf 23 = 8 := by kernel_rfl
theorem case_cells : Try.prog.cellsOf 48 = 9 := by kernel_rfl
theorem opsl_cells : Try.prog.cellsOf 30 = 1 := by kernel_rfl
section
variable {H : Type} {enc : TypeId × Value → H} {W : World}
theorem ops_of {v : Value} {fuel : Nat} {x : DataW H × List MemPlace} (hf : DataW.trod enc Try.prog W 0 (fun _ => true) true fuel 30 [v] = some x) :
    ∃ (A : Option Addr) (n c : Nat) (L : List OpV), v = .slice A n c ∧ (n = L.length ∧ OpsR W A L) ∧ (A = none → c = 0) := by
  rcases open_slice_fields Try.underlying30 Try.underlying29 (by kernel_rfl) op3_cells hf with ⟨hcs, hx⟩ | ⟨a, len, cap, m, D, Pl, hcs, _, hl, hm, hmm, hx, hi⟩
  · simp only [List.cons.injEq, and_true] at hcs
    subst hcs
    exact ⟨none, 0, 0, [], rfl, ⟨rfl, fun h => absurd rfl h⟩, fun _ => rfl⟩
  · simp only [List.cons.injEq, and_true] at hcs
    subst hcs
    simp only [if_true] at hmm
    subst hmm
    have key : ∀ i, i < m → ∃ x : OpV, W.cell? (a.add (i * 3)) = some (.int .i64 x.k) ∧ W.cell? (a.add (i * 3 + 1)) = some (.int .i64 x.n) ∧ W.cell? (a.add (i * 3 + 2)) = some (.string x.s) := by
      intro i him
      obtain ⟨ys, n, _, _, _, hf⟩ := hi i him
      obtain ⟨v0, y0, hc0, _, ht0⟩ := hf 0 _ rfl
      obtain ⟨v1, y1, hc1, _, ht1⟩ := hf 1 _ rfl
      obtain ⟨v2, y2, hc2, _, ht2⟩ := hf 2 _ rfl
      obtain ⟨k, hk, _, _⟩ := DataW.trod_int Try.underlying3 ht0
      obtain ⟨z, hz, _, _⟩ := DataW.trod_int Try.underlying3 ht1
      obtain ⟨s, hs, _⟩ := DataW.trod_string Try.underlying9 ht2
      simp only [List.cons.injEq, and_true] at hk hz hs
      subst hk hz hs
      exact ⟨⟨k, z, s⟩, hc0, hc1, hc2⟩
    have hch : ∃ X : Nat → OpV, ∀ i, i < m → W.cell? (a.add (i * 3)) = some (.int .i64 (X i).k) ∧ W.cell? (a.add (i * 3 + 1)) = some (.int .i64 (X i).n) ∧ W.cell? (a.add (i * 3 + 2)) = some (.string (X i).s) := by
      classical
      refine ⟨fun i => if h : i < m then Classical.choose (key i h) else emptyOp, fun i h1 => ?_⟩
      simp only [dif_pos h1]
      exact Classical.choose_spec (key i h1)
    obtain ⟨X, hX⟩ := hch
    refine ⟨some a, len, m, (List.range len).map X, rfl, ⟨by simp, fun hL => ?_⟩, (fun h => by cases h)⟩
    have h0 : 0 < m := by
      rcases Nat.eq_zero_or_pos len with h0 | h0
      · subst h0; simp at hL
      · omega
    have h00 := (hX 0 h0).1
    simp only [Nat.zero_mul] at h00
    have hspot : a.spot = none := World.cell?_spot (by simpa [Addr.add] using h00)
    obtain ⟨b, off, spot⟩ := a
    simp only at hspot
    subst hspot
    refine ⟨b, off, rfl, ?_, fun i x hi => ?_⟩
    · have := lt_of_cell h00
      simpa [Addr.add] using this
    · rw [List.getElem?_map] at hi
      have him : i < len := by
        rcases Nat.lt_or_ge i len with h | h
        · exact h
        · rw [List.getElem?_eq_none (by simpa using h)] at hi; cases hi
      rw [List.getElem?_range him] at hi
      simp only [Option.map_some, Option.some.injEq] at hi
      subst hi
      have := hX i (by omega)
      simp only [add_plain'] at this
      exact ⟨this.1, by rw [Nat.add_assoc]; exact this.2.1, by rw [Nat.add_assoc]; exact this.2.2⟩
theorem task_of {cs : List Value} {fuel : Nat} {x : DataW H × List MemPlace} (hlen0 : cs.length = 8) (hf : DataW.trod enc Try.prog W 0 (fun _ => true) true fuel 23 cs = some x) : ∃ t : TV, cs = (tCells t).toList := by
  obtain ⟨fs, hs, hone, hk8, hall⟩ : ∃ fs : Array Field, Try.prog.underlying 23 = some (.struct fs) ∧ oneCellFields Try.prog fs = true ∧ fs.size = 8 ∧ ∀ f ∈ fs.toList, f.type = 3 :=
    ⟨_, Try.underlying23, by kernel_rfl, rfl, by simp⟩
  obtain ⟨ys, n', _, _, hlen, hyl, hfl⟩ := DataW.trod_struct hs hf
  have key : ∀ j, j < 8 → ∃ z : Int, cs[j]? = some (.int .i64 z) := by
    intro j hj
    have hj' : fs[j]? = some (fs[j]'(by omega)) := Array.getElem?_eq_getElem (by omega)
    obtain ⟨ho, hk⟩ := hone_of hone j _ hj'
    have h1 := hfl j _ hj'
    rw [ho, hk, hall _ (by simp)] at h1
    have hys : ys[j]? = some (ys[j]'(by omega)) := List.getElem?_eq_getElem (by omega)
    obtain ⟨z, hz, _, hw⟩ := DataW.trod_int Try.underlying3 (h1.trans hys)
    refine ⟨z, ?_⟩
    have : (cs.drop j).take 1 = [cs[j]'(by omega)] := by
      rw [List.drop_eq_getElem_cons (by omega)]
      rfl
    rw [this] at hz
    simp only [List.cons.injEq, and_true] at hz
    rw [List.getElem?_eq_getElem (by omega), hz]
  obtain ⟨z0, h0⟩ := key 0 (by omega)
  obtain ⟨z1, h1⟩ := key 1 (by omega)
  obtain ⟨z2, h2⟩ := key 2 (by omega)
  obtain ⟨z3, h3⟩ := key 3 (by omega)
  obtain ⟨z4, h4⟩ := key 4 (by omega)
  obtain ⟨z5, h5⟩ := key 5 (by omega)
  obtain ⟨z6, h6⟩ := key 6 (by omega)
  obtain ⟨z7, h7⟩ := key 7 (by omega)
  refine ⟨⟨z0, z1, z2, z3, z4, z5, z6, z7⟩, ?_⟩
  apply List.ext_getElem?
  intro i
  by_cases hi : i < 8
  · rcases (by omega : i = 0 ∨ i = 1 ∨ i = 2 ∨ i = 3 ∨ i = 4 ∨ i = 5 ∨ i = 6 ∨ i = 7) with rfl | rfl | rfl | rfl | rfl | rfl | rfl | rfl
    · exact h0
    · exact h1
    · exact h2
    · exact h3
    · exact h4
    · exact h5
    · exact h6
    · exact h7
  · rw [List.getElem?_eq_none (by omega), List.getElem?_eq_none (by simp [tCells]; omega)]
theorem open_case {base : Nat} {v : Value} {d : DataW H} {p : List MemPlace} (hv : Value.okWide Try.prog W .any base 48 v) (h : DataW.Trod enc Try.prog W 0 (fun _ => true) true 48 v d p) :
    ∃ (t : TV) (A : Option Addr) (n c : Nat) (L : List OpV), v = .agg #[.int .i64 t.p, .int .i64 t.d, .int .i64 t.b, .int .i64 t.ls, .int .i64 t.l, .int .i64 t.g, .int .i64 t.lg, .int .i64 t.lk, .slice A n c] ∧ (n = L.length ∧ OpsR W A L) ∧ (A = none → c = 0) := by
  obtain ⟨cs, rfl, hsz⟩ := okWide_struct Try.underlying48 hv
  rw [case_cells] at hsz
  obtain ⟨fuel, hf⟩ := h
  obtain ⟨y0, y1, n, _, _, h0, h1⟩ := trod_struct2 Try.underlying48 hf
  have hcell : (Value.agg cs).cells.toList = cs.toList := by simp [Value.cells]
  rw [hcell] at h0 h1
  simp only [task8_cells, opsl_cells] at h0 h1
  have hl9 : cs.toList.length = 9 := by simpa using hsz
  obtain ⟨t, ht⟩ := task_of (by simp; omega) h0
  have hlast : (cs.toList.drop 8).take 1 = [cs.toList[8]'(by omega)] := by
    rw [List.drop_eq_getElem_cons (by omega)]
    rfl
  rw [hlast] at h1
  obtain ⟨A, n', c, L, hv8, hL, hA⟩ := ops_of h1
  refine ⟨t, A, n', c, L, congrArg Value.agg ?_, hL, hA⟩
  apply Array.ext'
  have hcat : cs.toList = cs.toList.take 8 ++ [cs.toList[8]'(by omega)] := by
    rw [← hlast, ← List.take_add (i := 8) (j := 1)]
    exact (List.take_of_length_le (by omega)).symm
  rw [hcat, hv8]
  have ht' : cs.toList.take 8 = (tCells t).toList := by simpa using ht
  rw [ht']
  rfl
end
end Go.Proofs.Ytomadlopljfcmaa
