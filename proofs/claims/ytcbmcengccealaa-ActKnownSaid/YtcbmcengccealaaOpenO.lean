/- An argument that is an act; one that is a slice of acts; one that is a slice of truths. -/
import Derived.Test.YtcbmcengccealaaLift
import Derived.Test.YtcbmcengccealaaBoth
import Derived.Lib.SmallJoins
import Derived.Deep.Grids
namespace Go.Proofs.Ytcbmcengccealaa
set_option linter.unusedVariables false
open Go.RowKit Go.ChangeShapes Go.WideShapes Go.ChangeAt Go.Deep

theorem ops_cells : Try.prog.cellsOf 23 = 3 := by kernel_rfl
theorem ops_bytes : Try.prog.bytesOf 23 = 32 := by kernel_rfl
theorem open_op {H : Type} {enc : TypeId × Value → H} {W : World} {base : Nat} {v : Value} {d : DataW H} {p : List MemPlace} (hv : Value.okWide Try.prog W .any base 23 v)
    (h : DataW.Trod enc Try.prog W 0 (fun _ => true) true 23 v d p) :
    ∃ x : OpV, v = .agg #[.int .i64 x.k, .int .i64 x.n, .string x.s] ∧ (Lit.int .i64 x.k).wf = true ∧ (Lit.int .i64 x.n).wf = true := by
  obtain ⟨v0, v1, v2, y0, y1, y2, n, rfl, _, _, h0, h1, h2⟩ := Joins.open_agg3 Try.underlying23 (by kernel_rfl) ops_cells hv h
  obtain ⟨k, hk, _, wk⟩ := DataW.trod_int Try.underlying3 h0
  obtain ⟨z, hz, _, wz⟩ := DataW.trod_int Try.underlying3 h1
  obtain ⟨s, hs, _⟩ := DataW.trod_string Try.underlying9 h2
  simp only [List.cons.injEq, and_true] at hk hz hs
  subst hk hz hs
  exact ⟨⟨k, z, s⟩, rfl, wk, wz⟩
/-- How a slice's datum hangs together with its length and its capacity. -/
def SliceD {H : Type} (d : DataW H) (n c : Nat) : Prop := (d = .nil ∧ n = 0 ∧ c = 0) ∨ ∃ es sp, d = .slice es sp ∧ es.length = n ∧ es.length + sp.length = c
theorem open_ops {H : Type} {enc : TypeId × Value → H} {W : World} {base : Nat} {v : Value} {d : DataW H} {p : List MemPlace} (hv : Value.okWide Try.prog W .any base 28 v)
    (h : DataW.Trod enc Try.prog W 0 (fun _ => true) true 28 v d p) :
    ∃ (A : Option Addr) (n c : Nat) (L : List OpV), v = .slice A n c ∧ n ≤ c ∧ (n = L.length ∧ OpsR W A L) ∧ (A = none → c = 0) ∧ SliceD d n c := by
  obtain ⟨a0, len, cap, rfl⟩ := okWide_slice Try.underlying28 hv
  obtain ⟨fuel, hf⟩ := h
  rcases open_slice_fields Try.underlying28 Try.underlying23 (by kernel_rfl) ops_cells hf with ⟨hcs, hx⟩ | ⟨a, len', cap', m, D, Pl, hcs, _, hl, hm, hmm, hx, hi⟩
  · simp [Value.cells] at hcs
    obtain ⟨rfl, rfl, rfl⟩ := hcs
    simp only [Prod.mk.injEq] at hx
    exact ⟨none, 0, 0, [], rfl, Nat.le_refl _, ⟨rfl, fun h => absurd rfl h⟩, fun _ => rfl, .inl ⟨hx.1, rfl, rfl⟩⟩
  · simp [Value.cells] at hcs
    obtain ⟨rfl, rfl, rfl⟩ := hcs
    simp only [if_true] at hmm
    subst hmm
    simp only [Prod.mk.injEq] at hx
    have key : ∀ i, i < m → ∃ x : OpV, W.cell? (a.add (i * 3)) = some (.int .i64 x.k) ∧ W.cell? (a.add (i * 3 + 1)) = some (.int .i64 x.n) ∧ W.cell? (a.add (i * 3 + 2)) = some (.string x.s) := by
      intro i him
      obtain ⟨ys, n, _, _, _, hf⟩ := hi i him
      obtain ⟨v0, y0, hc0, _, ht0⟩ := hf 0 _ rfl
      obtain ⟨v1, y1, hc1, _, ht1⟩ := hf 1 _ rfl
      obtain ⟨v2, y2, hc2, _, ht2⟩ := hf 2 _ rfl
      obtain ⟨k, hk, _, _⟩ := DataW.trod_int Try.underlying3 ht0
      obtain ⟨z, hz, _, _⟩ := DataW.trod_int Try.underlying3 ht1
      obtain ⟨s, hs, _⟩ := DataW.trod_string Try.underlying9 ht2
      simp only [List.cons.injEq, and_true] at hk hz hs
      subst hk hz hs
      exact ⟨⟨k, z, s⟩, hc0, hc1, hc2⟩
    have hch : ∃ X : Nat → OpV, ∀ i, i < m → W.cell? (a.add (i * 3)) = some (.int .i64 (X i).k) ∧ W.cell? (a.add (i * 3 + 1)) = some (.int .i64 (X i).n) ∧ W.cell? (a.add (i * 3 + 2)) = some (.string (X i).s) := by
      classical
      refine ⟨fun i => if h : i < m then Classical.choose (key i h) else emptyOp, fun i h1 => ?_⟩
      simp only [dif_pos h1]
      exact Classical.choose_spec (key i h1)
    obtain ⟨X, hX⟩ := hch
    refine ⟨some a, len, m, (List.range len).map X, rfl, hl, ⟨by simp, fun hL => ?_⟩, (fun h => by cases h), .inr ⟨_, _, hx.1, by simp, by simp; omega⟩⟩
    have h0 : 0 < m := by
      rcases Nat.eq_zero_or_pos len with h0 | h0
      · subst h0; simp at hL
      · omega
    have h00 := (hX 0 h0).1
    simp only [Nat.zero_mul] at h00
    have hspot : a.spot = none := World.cell?_spot (by simpa [Addr.add] using h00)
    obtain ⟨b, off, spot⟩ := a
    simp only at hspot
    subst hspot
    refine ⟨b, off, rfl, ?_, fun i x hi => ?_⟩
    · have := lt_of_cell h00
      simpa [Addr.add] using this
    · rw [List.getElem?_map] at hi
      have him : i < len := by
        rcases Nat.lt_or_ge i len with h | h
        · exact h
        · rw [List.getElem?_eq_none (by simpa using h)] at hi; cases hi
      rw [List.getElem?_range him] at hi
      simp only [Option.map_some, Option.some.injEq] at hi
      subst hi
      have := hX i (by omega)
      simp only [add_plain'] at this
      exact ⟨this.1, by rw [Nat.add_assoc]; exact this.2.1, by rw [Nat.add_assoc]; exact this.2.2⟩
theorem bools_cells : Try.prog.cellsOf 4 = 1 := by kernel_rfl
theorem bools_bytes : Try.prog.bytesOf 4 = 1 := by kernel_rfl
theorem open_truths {H : Type} {enc : TypeId × Value → H} {W : World} {base : Nat} {v : Value} {d : DataW H} {p : List MemPlace} (hv : Value.okWide Try.prog W .any base 29 v)
    (h : DataW.Trod enc Try.prog W 0 (fun _ => true) true 29 v d p) :
    ∃ (A : Option Addr) (n c : Nat) (R : Nat → Bool), v = .slice A n c ∧ n ≤ c ∧ BoolsAt W A n R ∧ c ≤ maxLen ∧ SliceD d n c := by
  obtain ⟨a0, len, cap, rfl⟩ := okWide_slice Try.underlying29 hv
  obtain ⟨fuel, hf⟩ := h
  rcases Deep.open_bools Try.underlying29 Try.underlying4 bools_cells hf with ⟨hcs, hx⟩ | ⟨a, len', cap', B, hcs, _, hl, hm, hx, hcell⟩
  · simp [Value.cells] at hcs
    obtain ⟨rfl, rfl, rfl⟩ := hcs
    simp only [Prod.mk.injEq] at hx
    exact ⟨none, 0, 0, fun _ => false, rfl, Nat.le_refl _, fun h => by omega, by simp [maxLen], .inl ⟨hx.1, rfl, rfl⟩⟩
  · simp [Value.cells] at hcs
    obtain ⟨rfl, rfl, rfl⟩ := hcs
    simp only [Prod.mk.injEq] at hx
    refine ⟨some a, len, cap, B, rfl, hl, fun h0 => ?_, hm, .inr ⟨_, _, hx.1, by simp, by simp; omega⟩⟩
    have h00 := hcell 0 (by omega)
    have hspot : a.spot = none := World.cell?_spot (by simpa [Addr.add] using h00)
    obtain ⟨b, off, spot⟩ := a
    simp only at hspot
    subst hspot
    refine ⟨b, off, rfl, ?_, fun i hi => ?_⟩
    · have := lt_of_cell h00
      simpa [Addr.add] using this
    · have := hcell i (by omega)
      rwa [add_plain'] at this
theorem reach_ops {H : Type} {ts : List TypeId} {ds : List (DataW H)} {d : DataW H} {n c j : Nat} (hd : SliceD d n c) (h : (DataW.weightsEach Try.prog ts ds).all (· ≤ reachBytes) = true) (ht : ts[j]? = some 28) (hj : ds[j]? = some d) :
    c * 32 ≤ 140737488351232 := by
  rcases hd with ⟨_, _, rfl⟩ | ⟨es, sp, rfl, _, rfl⟩
  · omega
  · have := sized_slice h ht hj Try.underlying28
    rw [ops_bytes] at this
    simpa [reachBytes] using this
theorem reach_truths {H : Type} {ts : List TypeId} {ds : List (DataW H)} {d : DataW H} {n c j : Nat} (hd : SliceD d n c) (h : (DataW.weightsEach Try.prog ts ds).all (· ≤ reachBytes) = true) (ht : ts[j]? = some 29) (hj : ds[j]? = some d) :
    c * 1 ≤ 140737488351232 := by
  rcases hd with ⟨_, _, rfl⟩ | ⟨es, sp, rfl, _, rfl⟩
  · omega
  · have := sized_slice h ht hj Try.underlying29
    rw [bools_bytes] at this
    simpa [reachBytes] using this
end Go.Proofs.Ytcbmcengccealaa
