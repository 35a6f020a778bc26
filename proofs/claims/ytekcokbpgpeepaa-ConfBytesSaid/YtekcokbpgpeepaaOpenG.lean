/- A configuration as an argument, opened. -/
import Derived.Test.YtekcokbpgpeepaaLift
import Derived.Test.YtekcokbpgpeepaaCnfB
import Derived.Lib.SmallJoins
import Derived.Deep.Grids
namespace Go.Proofs.Ytekcokbpgpeepaa
set_option linter.unusedVariables false
open Go.RowKit Go.ChangeShapes Go.WideShapes Go.ChangeAt Go.Deep

theorem task_cells : Try.prog.cellsOf 46 = 8 := by kernel_rfl
theorem task_bytes : Try.prog.bytesOf 46 = 64 := by kernel_rfl
theorem port_cells : Try.prog.cellsOf 48 = 6 := by kernel_rfl
theorem port_bytes : Try.prog.bytesOf 48 = 48 := by kernel_rfl
theorem part_cells : Try.prog.cellsOf 41 = 3 := by kernel_rfl
theorem part_bytes : Try.prog.bytesOf 41 = 40 := by kernel_rfl
theorem cfg_cells : Try.prog.cellsOf 25 = 2 := by kernel_rfl
section
variable {H : Type} {enc : TypeId × Value → H} {W : World}
/-- All weights of a datum are within reach. -/
def Light (t : TypeId) (d : DataW H) : Prop := ∀ m ∈ d.weights Try.prog t, m ≤ reachBytes
theorem light_all {e : TypeId} : ∀ {ds : List (DataW H)} {d : DataW H}, d ∈ ds → (∀ m ∈ DataW.weightsAll Try.prog e ds, m ≤ reachBytes) → Light e d
  | x :: ds, d, hd, h => by
    simp only [DataW.weightsAll, List.mem_append] at h
    rcases List.mem_cons.1 hd with rfl | hd
    · exact fun m hm => h m (.inl hm)
    · exact light_all hd fun m hm => h m (.inr hm)
theorem light_slice {t e : TypeId} {es sp : List (DataW H)} (ht : Try.prog.underlying t = some (.slice e)) (h : Light t (.slice es sp)) : (es.length + sp.length) * Try.prog.bytesOf e ≤ reachBytes ∧ ∀ d ∈ es, Light e d := by
  unfold Light at h
  simp only [DataW.weights, ht, List.mem_cons, List.mem_append] at h
  exact ⟨h _ (.inl rfl), fun d hd => light_all hd fun m hm => h m (.inr (.inl hm))⟩
theorem light_agg {t : TypeId} {fs : Array Field} {ps : List (DataW H)} (ht : Try.prog.underlying t = some (.struct fs)) (h : Light t (.agg ps)) {j : Nat} {f : Field} {d : DataW H} (hf : fs[j]? = some f) (hd : ps[j]? = some d) : Light f.type d := by
  unfold Light at h
  simp only [DataW.weights, ht] at h
  intro m hm
  exact h m (DataW.weights_mem_each (ts := fs.toList.map (·.type)) (j := j) (by simp [hf]) hd m hm)
/-- The cells of tasks. -/
theorem tks_of {n : Nat} {v : Value} {y : DataW H × List MemPlace} (h : DataW.trod enc Try.prog W 0 (fun _ => true) true n 39 [v] = some y) (hl : Light 39 y.1) : ∃ L, TkS W v L := by
  rcases open_int_fields 8 Try.underlying39 Try.underlying46 (by kernel_rfl) task_cells rfl Try.underlying3 (by simp) (by omega) h with ⟨hcs, hx⟩ | ⟨a, len, cap, D, hcs, hle, hm, ⟨es, sp, hx, h1, h2⟩, hcell⟩
  · simp only [List.cons.injEq, and_true] at hcs
    subst hcs
    exact ⟨[], ⟨none, 0, rfl, Nat.le_refl _, fun _ => rfl, TksAt.nil⟩, Nat.zero_le _⟩
  · simp only [List.cons.injEq, and_true] at hcs
    subst hcs
    have hlt := (light_slice Try.underlying39 (hx ▸ hl)).1
    rw [task_bytes] at hlt
    have hr : reachBytes = 140737488351232 := rfl
    refine ⟨(List.range len).map fun i => ⟨D i 0, D i 1, D i 2, D i 3, D i 4, D i 5, D i 6, D i 7⟩, ⟨some a, cap, by simp, by simpa using hle, (fun e => by cases e), fun hL => ?_⟩, by simp; omega⟩
    have h0 : 0 < len := by
      rcases Nat.eq_zero_or_pos len with h0 | h0
      · subst h0; simp at hL
      · exact h0
    obtain ⟨b, off, rfl, hb, hc⟩ := hcell (by omega)
    refine ⟨b, off, rfl, hb, fun i t hi => ?_⟩
    have hil : i < len := by
      have := (List.getElem?_eq_some_iff.1 hi).1
      simpa using this
    obtain rfl : (⟨D i 0, D i 1, D i 2, D i 3, D i 4, D i 5, D i 6, D i 7⟩ : TV) = t := by simpa [hil] using hi
    exact ⟨(hc i 0 (by omega) (by omega)).1, (hc i 1 (by omega) (by omega)).1, (hc i 2 (by omega) (by omega)).1, (hc i 3 (by omega) (by omega)).1, (hc i 4 (by omega) (by omega)).1, (hc i 5 (by omega) (by omega)).1, (hc i 6 (by omega) (by omega)).1, (hc i 7 (by omega) (by omega)).1⟩
theorem pts_of {n : Nat} {v : Value} {y : DataW H × List MemPlace} (h : DataW.trod enc Try.prog W 0 (fun _ => true) true n 23 [v] = some y) (hl : Light 23 y.1) : ∃ A c L, v = .slice A (List.length L) c ∧ L.length ≤ c ∧ (A = none → c = 0) ∧ PtsAt W A L ∧ L.length ≤ 2932031007402 := by
  rcases open_int_fields 6 Try.underlying23 Try.underlying48 (by kernel_rfl) port_cells rfl Try.underlying3 (by simp) (by omega) h with ⟨hcs, hx⟩ | ⟨a, len, cap, D, hcs, hle, hm, ⟨es, sp, hx, h1, h2⟩, hcell⟩
  · simp only [List.cons.injEq, and_true] at hcs
    subst hcs
    exact ⟨none, 0, [], rfl, Nat.le_refl _, fun _ => rfl, PtsAt.nil, Nat.zero_le _⟩
  · simp only [List.cons.injEq, and_true] at hcs
    subst hcs
    have hlt := (light_slice Try.underlying23 (hx ▸ hl)).1
    rw [port_bytes] at hlt
    have hr : reachBytes = 140737488351232 := rfl
    refine ⟨some a, cap, (List.range len).map fun i => ⟨D i 0, D i 1, D i 2, D i 3, D i 4, D i 5⟩, by simp, by simpa using hle, (fun e => by cases e), fun hL => ?_, by simp; omega⟩
    have h0 : 0 < len := by
      rcases Nat.eq_zero_or_pos len with h0 | h0
      · subst h0; simp at hL
      · exact h0
    obtain ⟨b, off, rfl, hb, hc⟩ := hcell (by omega)
    refine ⟨b, off, rfl, hb, fun i t hi => ?_⟩
    have hil : i < len := by
      have := (List.getElem?_eq_some_iff.1 hi).1
      simpa using this
    obtain rfl : (⟨D i 0, D i 1, D i 2, D i 3, D i 4, D i 5⟩ : PV) = t := by simpa [hil] using hi
    exact ⟨(hc i 0 (by omega) (by omega)).1, (hc i 1 (by omega) (by omega)).1, (hc i 2 (by omega) (by omega)).1, (hc i 3 (by omega) (by omega)).1, (hc i 4 (by omega) (by omega)).1, (hc i 5 (by omega) (by omega)).1⟩
theorem cps_of {n : Nat} {v : Value} {y : DataW H × List MemPlace} (h : DataW.trod enc Try.prog W 0 (fun _ => true) true n 22 [v] = some y) (hl : Light 22 y.1) : ∃ A c L, v = .slice A (List.length L) c ∧ L.length ≤ c ∧ (A = none → c = 0) ∧ CpsAt W A L ∧ L.length ≤ 3518437208883 := by
  rcases open_slice_fields Try.underlying22 Try.underlying41 (by kernel_rfl) part_cells h with ⟨hcs, hx⟩ | ⟨a, len, cap, m, D, Pl, hcs, _, hle, hm, hmm, hx, hi⟩
  · simp only [List.cons.injEq, and_true] at hcs
    subst hcs
    exact ⟨none, 0, [], rfl, Nat.le_refl _, fun _ => rfl, CpsAt.nil, Nat.zero_le _⟩
  · simp only [List.cons.injEq, and_true] at hcs
    subst hcs
    simp only [if_true] at hmm
    subst hmm
    rw [hx] at hl
    obtain ⟨hlt, hel⟩ := light_slice Try.underlying22 hl
    rw [part_bytes] at hlt
    simp only [List.length_map, List.length_range] at hlt
    have hr : reachBytes = 140737488351232 := rfl
    have key : ∀ i, i < len → ∃ p : CP, W.cell? (a.add (i * 3)) = some (.int .i64 p.per) ∧ W.cell? (a.add (i * 3 + 1)) = some (.int .i64 p.bud) ∧ ∃ u, W.cell? (a.add (i * 3 + 2)) = some u ∧ TkS W u p.ts := by
      intro i him
      obtain ⟨ys, n', hD, _, _, hf⟩ := hi i (by omega)
      obtain ⟨v0, y0, hc0, _, ht0⟩ := hf 0 _ rfl
      obtain ⟨v1, y1, hc1, _, ht1⟩ := hf 1 _ rfl
      obtain ⟨v2, y2, hc2, hy2, ht2⟩ := hf 2 _ rfl
      obtain ⟨k, hk, _, _⟩ := DataW.trod_int Try.underlying3 ht0
      obtain ⟨z, hz, _, _⟩ := DataW.trod_int Try.underlying3 ht1
      simp only [List.cons.injEq, and_true] at hk hz
      subst hk hz
      have hdl := hel (D i) (List.mem_map.2 ⟨i, List.mem_range.2 him, rfl⟩)
      rw [hD] at hdl
      obtain ⟨L, hL⟩ := tks_of ht2 (light_agg Try.underlying41 hdl (j := 2) rfl (by simp [hy2]))
      exact ⟨⟨k, z, L⟩, hc0, hc1, v2, hc2, hL⟩
    have hch : ∃ X : Nat → CP, ∀ i, i < len → W.cell? (a.add (i * 3)) = some (.int .i64 (X i).per) ∧ W.cell? (a.add (i * 3 + 1)) = some (.int .i64 (X i).bud) ∧ ∃ u, W.cell? (a.add (i * 3 + 2)) = some u ∧ TkS W u (X i).ts := by
      classical
      refine ⟨fun i => if h : i < len then Classical.choose (key i h) else ⟨0, 0, []⟩, fun i h1 => ?_⟩
      simp only [dif_pos h1]
      exact Classical.choose_spec (key i h1)
    obtain ⟨X, hX⟩ := hch
    refine ⟨some a, m, (List.range len).map X, by simp, by simpa using hle, (fun e => by cases e), fun hL => ?_, by simp; omega⟩
    have h0 : 0 < len := by
      rcases Nat.eq_zero_or_pos len with h0 | h0
      · subst h0; simp at hL
      · exact h0
    have h00 := (hX 0 h0).1
    simp only [Nat.zero_mul] at h00
    have hspot : a.spot = none := World.cell?_spot (by simpa [Addr.add] using h00)
    obtain ⟨b, off, spot⟩ := a
    simp only at hspot
    subst hspot
    refine ⟨b, off, rfl, ?_, fun i p hp => ?_⟩
    · have := lt_of_cell h00
      simpa [Addr.add] using this
    · have hil : i < len := by
        have := (List.getElem?_eq_some_iff.1 hp).1
        simpa using this
      obtain rfl : X i = p := by simpa [hil] using hp
      obtain ⟨k0, k1, u, k2, k3⟩ := hX i hil
      rw [add_plain'] at k0 k1 k2
      exact ⟨k0, by rw [Nat.add_assoc]; exact k1, u, by rw [Nat.add_assoc]; exact k2, k3⟩
theorem open_cfg {base : Nat} {v : Value} {d : DataW H} {p : List MemPlace} (hv : Value.okWide Try.prog W .any base 25 v) (h : DataW.Trod enc Try.prog W 0 (fun _ => true) true 25 v d p) (hl : Light 25 d) :
    ∃ (A : Option Addr) (n1 : Nat) (A2 : Option Addr) (n2 : Nat) (c : Cfg), v = .agg #[.slice A c.ps.length n1, .slice A2 c.qs.length n2] ∧ CfA W A n1 A2 n2 c := by
  obtain ⟨v0, v1, y0, y1, n, rfl, rfl, _, h0, h1⟩ := Joins.open_agg2 Try.underlying25 (by kernel_rfl) cfg_cells hv h
  obtain ⟨A, n1, ps, rfl, a1, a2, a3, a4⟩ := cps_of h0 (light_agg Try.underlying25 hl (j := 0) rfl rfl)
  obtain ⟨A2, n2, qs, rfl, b1, b2, b3, b4⟩ := pts_of h1 (light_agg Try.underlying25 hl (j := 1) rfl rfl)
  exact ⟨A, n1, A2, n2, ⟨ps, qs⟩, rfl, ⟨a3, b3, a1, b1, a2, b2, a4, b4⟩⟩
theorem light_of {ts : List TypeId} {ds : List (DataW H)} {d : DataW H} {j : Nat} {t : TypeId} (h : (DataW.weightsEach Try.prog ts ds).all (· ≤ reachBytes) = true) (ht : ts[j]? = some t) (hd : ds[j]? = some d) : Light t d := fun m hm => by
  have := List.all_eq_true.1 h _ (DataW.weights_mem_each ht hd m hm)
  simpa using this
end
end Go.Proofs.Ytekcokbpgpeepaa
