/- Bytes and numbers as arguments, opened. -/
import Derived.Test.YtekcokbpgpeepaaPackB
import Derived.Test.YtekcokbpgpeepaaLift
import Derived.Deep.Grids
namespace Go.Proofs.Ytekcokbpgpeepaa
set_option linter.unusedVariables false
open Go.RowKit Go.ChangeShapes Go.WideShapes Go.ChangeAt Go.Deep

def SliceD {H : Type} (d : DataW H) (n c : Nat) : Prop := (d = .nil ∧ n = 0 ∧ c = 0) ∨ ∃ es sp, d = .slice es sp ∧ es.length = n ∧ es.length + sp.length = c
theorem ints_cells : Try.prog.cellsOf 3 = 1 := by kernel_rfl
theorem ints_bytes : Try.prog.bytesOf 3 = 8 := by kernel_rfl
theorem byte_cells : Try.prog.cellsOf 5 = 1 := by kernel_rfl
theorem byte_bytes : Try.prog.bytesOf 5 = 1 := by kernel_rfl
theorem open_numbers {H : Type} {enc : TypeId × Value → H} {W : World} {base : Nat} {v : Value} {d : DataW H} {p : List MemPlace} (hv : Value.okWide Try.prog W .any base 49 v)
    (h : DataW.Trod enc Try.prog W 0 (fun _ => true) true 49 v d p) :
    ∃ (A : Option Addr) (n c : Nat) (R : Nat → Int), v = .slice A n c ∧ n ≤ c ∧ IntsAt W A n R ∧ (∀ i, i < n → (Lit.int .i64 (R i)).wf = true) ∧ SliceD d n c := by
  obtain ⟨a0, len, cap, rfl⟩ := okWide_slice Try.underlying49 hv
  obtain ⟨fuel, hf⟩ := h
  rcases open_ints Try.underlying49 Try.underlying3 ints_cells hf with ⟨hcs, hx⟩ | ⟨a, len', cap', zs, hcs, _, hl, hm, hz, hx, hcell, hwz⟩
  · simp [Value.cells] at hcs
    obtain ⟨rfl, rfl, rfl⟩ := hcs
    simp only [Prod.mk.injEq] at hx
    exact ⟨none, 0, 0, fun _ => 0, rfl, Nat.le_refl _, fun h => by omega, fun _ h => by omega, .inl ⟨hx.1, rfl, rfl⟩⟩
  · simp [Value.cells] at hcs
    obtain ⟨rfl, rfl, rfl⟩ := hcs
    simp only [Prod.mk.injEq] at hx
    simp only [if_true] at hz
    refine ⟨some a, len, cap, fun i => zs.getD i 0, rfl, hl, fun h0 => ?_, fun i hi => ?_, .inr ⟨_, _, hx.1, by simp [lits]; omega, by simp [lits]; omega⟩⟩
    · have h00 := hcell 0 (by omega)
      have hspot : a.spot = none := World.cell?_spot (by simpa [Addr.add] using h00)
      obtain ⟨b, off, spot⟩ := a
      simp only at hspot
      subst hspot
      refine ⟨b, off, rfl, ?_, fun i hi => ?_⟩
      · have := lt_of_cell h00
        simpa [Addr.add] using this
      · have := hcell i (by omega)
        rwa [add_plain'] at this
    · exact hwz _ (by show zs.getD i 0 ∈ zs; rw [List.getD_eq_getElem?_getD, List.getElem?_eq_getElem (by omega)]; simp)
theorem byte_of' (z : Int) (h0 : 0 ≤ z) (h1 : z ≤ 255) : z = ((UInt8.ofNat z.toNat).toNat : Int) := by
  have : z.toNat < 256 := by omega
  rw [UInt8.toNat_ofNat', Nat.mod_eq_of_lt (by simpa using this)]
  omega
theorem wf_byte {n : Int} (h : (Lit.int .u8 n).wf = true) : 0 ≤ n ∧ n ≤ 255 := by
  simp [Lit.wf, IntKind.min, IntKind.max, IntKind.bits, IntKind.signed] at h
  omega
theorem open_bytes {H : Type} {enc : TypeId × Value → H} {W : World} {base : Nat} {v : Value} {d : DataW H} {p : List MemPlace} (hv : Value.okWide Try.prog W .any base 27 v)
    (h : DataW.Trod enc Try.prog W 0 (fun _ => true) true 27 v d p) :
    ∃ (A : Option Addr) (n c : Nat) (L : List UInt8), v = .slice A n c ∧ n ≤ c ∧ (n = L.length ∧ BytesR W A L) ∧ (A = none → c = 0) ∧ SliceD d n c := by
  obtain ⟨a0, len, cap, rfl⟩ := okWide_slice Try.underlying27 hv
  obtain ⟨fuel, hf⟩ := h
  rcases open_ints Try.underlying27 Try.underlying5 byte_cells hf with ⟨hcs, hx⟩ | ⟨a, len', cap', zs, hcs, _, hl, hm, hz, hx, hcell, hwz⟩
  · simp [Value.cells] at hcs
    obtain ⟨rfl, rfl, rfl⟩ := hcs
    simp only [Prod.mk.injEq] at hx
    exact ⟨none, 0, 0, [], rfl, Nat.le_refl _, ⟨rfl, BytesR.nil⟩, fun _ => rfl, .inl ⟨hx.1, rfl, rfl⟩⟩
  · simp [Value.cells] at hcs
    obtain ⟨rfl, rfl, rfl⟩ := hcs
    simp only [Prod.mk.injEq] at hx
    simp only [if_true] at hz
    refine ⟨some a, len, cap, (zs.take len).map (fun z => UInt8.ofNat z.toNat), rfl, hl, ⟨by simp; omega, fun hL => ?_⟩, (fun e => by cases e), .inr ⟨_, _, hx.1, by simp [lits]; omega, by simp [lits]; omega⟩⟩
    have hpos : 0 < len := by
      rcases Nat.eq_zero_or_pos len with h0 | h0
      · subst h0; simp at hL
      · exact h0
    have h00 := hcell 0 (by omega)
    have hspot : a.spot = none := World.cell?_spot (by simpa [Addr.add] using h00)
    obtain ⟨b, off, spot⟩ := a
    simp only at hspot
    subst hspot
    refine ⟨b, off, rfl, ?_, fun i x hi => ?_⟩
    · have := lt_of_cell h00
      simpa [Addr.add] using this
    · simp only [List.getElem?_map, Option.map_eq_some_iff] at hi
      obtain ⟨z, hz1, hz2⟩ := hi
      have hil : i < len := by
        rw [List.getElem?_take] at hz1
        split at hz1
        · assumption
        · cases hz1
      rw [List.getElem?_take_of_lt hil] at hz1
      have hcell' := hcell i (by omega)
      rw [add_plain'] at hcell'
      have hwf := wf_byte (hwz z (List.mem_of_getElem? hz1))
      rw [hcell', ← hz2, List.getD_eq_getElem?_getD, hz1]
      show some (Value.int .u8 z) = _
      rw [← byte_of' z hwf.1 hwf.2]
theorem reach_numbers {H : Type} {ts : List TypeId} {ds : List (DataW H)} {d : DataW H} {n c j : Nat} (hd : SliceD d n c) (h : (DataW.weightsEach Try.prog ts ds).all (· ≤ reachBytes) = true) (ht : ts[j]? = some 49) (hj : ds[j]? = some d) :
    c * 8 ≤ 140737488351232 := by
  rcases hd with ⟨_, _, rfl⟩ | ⟨es, sp, rfl, _, rfl⟩
  · omega
  · have := sized_slice h ht hj Try.underlying49
    rw [ints_bytes] at this
    simpa [reachBytes] using this
theorem reach_bytes {H : Type} {ts : List TypeId} {ds : List (DataW H)} {d : DataW H} {n c j : Nat} (hd : SliceD d n c) (h : (DataW.weightsEach Try.prog ts ds).all (· ≤ reachBytes) = true) (ht : ts[j]? = some 27) (hj : ds[j]? = some d) :
    c * 1 ≤ 140737488351232 := by
  rcases hd with ⟨_, _, rfl⟩ | ⟨es, sp, rfl, _, rfl⟩
  · omega
  · have := sized_slice h ht hj Try.underlying27
    rw [byte_bytes] at this
    simpa [reachBytes] using this
theorem str_reach {s : ByteArray} (h : s.data.toList.length ≤ reachBytes) : s.size ≤ 140737488351232 := by
  rw [Array.length_toList] at h
  exact h
end Go.Proofs.Ytekcokbpgpeepaa
