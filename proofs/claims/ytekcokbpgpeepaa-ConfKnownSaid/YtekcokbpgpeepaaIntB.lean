/- Numbers in memory: a slice that came in, rows of the call's own; EqInts, CopyInts, slices.Clone, Index, Contains. -/
import Derived.Test.YtekcokbpgpeepaaPackB
import Derived.Lib.SliceRun
import Derived.Laws.IdiomStrings
import Derived.Deep.AppendSrc
namespace Go.Proofs.Ytekcokbpgpeepaa
set_option linter.unusedVariables false
open Go.RowKit

/-- A slice value that reads as a list of numbers. -/
def IntsR (w : World) (A : Option Addr) (L : List Int) : Prop := L ≠ [] → ∃ b off, A = some ⟨b, off, none⟩ ∧ b < w.heap.size ∧ ∀ i x, L[i]? = some x → w.cell? ⟨b, off + i, none⟩ = some (.int .i64 x)
def ics (L : List Int) : List Value := L.map fun b => .int .i64 b
theorem ics_length (L : List Int) : (ics L).length = L.length := by simp [ics]
theorem ics_append (L M : List Int) : ics (L ++ M) = ics L ++ ics M := by simp [ics]
theorem ics_one (L : List Int) : ∀ u ∈ ics L, u.oneCell' = true := by
  intro u hu
  simp only [ics, List.mem_map] at hu
  obtain ⟨b, _, rfl⟩ := hu
  rfl
theorem ics_get {L : List Int} {i : Nat} {x : Int} (h : L[i]? = some x) : (ics L)[i]? = some (.int .i64 x) := by simp [ics, h]
theorem ics_back {L : List Int} {i : Nat} {u : Value} (h : (ics L)[i]? = some u) : ∃ x, L[i]? = some x ∧ u = .int .i64 x := by
  simp only [ics, List.getElem?_map, Option.map_eq_some_iff] at h
  obtain ⟨x, h1, h2⟩ := h
  exact ⟨x, h1, h2.symm⟩
section
variable {w w' : World} {A : Option Addr} {L M : List Int} {B : Nat} {v : Value}
theorem IntsR.below (h : IntsR w A L) (hB : Below w.heap.size w w') : IntsR w' A L := fun hL => by
  obtain ⟨b, off, hA, hb, hx⟩ := h hL
  exact ⟨b, off, hA, Nat.lt_of_lt_of_le hb hB.size, fun i x hi => (hB.cell (p := ⟨b, off + i, none⟩) hb).trans (hx i x hi)⟩
theorem IntsR.src {c : Nat} (h : IntsR w A L) (hA : A = none → c = 0) : SrcR w 1 A L.length c (ics L) := by
  refine ⟨by simp [ics_length], ?_⟩
  by_cases hL : L = []
  · subst hL
    cases A with
    | none => exact .inl ⟨rfl, rfl, hA rfl⟩
    | some a => exact .inr ⟨a, rfl, fun j u hj => by simp [ics] at hj⟩
  · obtain ⟨b, off, rfl, _, hx⟩ := h hL
    refine .inr ⟨_, rfl, fun j u hj => ?_⟩
    obtain ⟨x, hi, rfl⟩ := ics_back hj
    rw [add_at]
    exact hx j x hi
theorem IntsR.nil : IntsR w A [] := fun h => absurd rfl h
theorem IntsR.take (h : IntsR w A L) (k : Nat) : IntsR w A (L.take k) := fun hL => by
  obtain ⟨b, off, hA, hb, hx⟩ := h (by intro e; subst e; simp at hL)
  refine ⟨b, off, hA, hb, fun i x hi => hx i x ?_⟩
  rw [List.getElem?_take] at hi
  split at hi
  · exact hi
  · cases hi
/-- A row of the call's own, from block B on. -/
def OwnI (w : World) (B : Nat) (v : Value) (L : List Int) : Prop := w.ownsRow B 3 1 v L.length (ics L)
theorem OwnI.below (h : OwnI w B v L) (k : Below w.heap.size w w') : OwnI w' B v L := own_below h k
theorem OwnI.of {n : Nat} (h : w.ownsRow B 3 1 v n (ics L)) : OwnI w B v L := by
  have hn : n = L.length := by have := h.1; rw [ics_length] at this; omega
  subst hn
  exact h
theorem OwnI.mono {B' : Nat} (h : OwnI w B v L) (hB : B' ≤ B) : OwnI w B' v L := by
  obtain ⟨h1, h2⟩ := h
  refine ⟨h1, ?_⟩
  rcases h2 with h2 | ⟨g, cap, cur, e1, e0, e3⟩
  · exact .inl h2
  · exact .inr ⟨g, cap, cur, e1, by omega, e3⟩
theorem OwnI.nil : OwnI w B (.slice none 0 0) [] := own_none w B 1 _
/-- Its form. -/
theorem OwnI.form (h : OwnI w B v L) : ∃ A c, v = .slice A L.length c ∧ L.length ≤ c ∧ (A = none → c = 0) ∧ IntsR w A L ∧ c ≤ 9223372036854775807 ∧ (∀ a, A = some a → ∃ g cur, a = ⟨g, 0, none⟩ ∧ B ≤ g ∧ Blk w g 3 cur ∧ cur.size = c) := by
  obtain ⟨A, c, rfl, h1, h2, h3, h4⟩ := own_form h
  refine ⟨A, c, rfl, h1, fun e => (h3 e).2, fun hL => ?_, by simpa [maxLen] using h2, fun a ha => ?_⟩
  · cases A with
    | none => exact absurd (List.eq_nil_of_length_eq_zero (h3 rfl).1) hL
    | some a =>
      obtain ⟨g, cur, rfl, hg, hb, hs, ht⟩ := h4 a rfl
      exact ⟨g, 0, rfl, hb.lt, fun i x hi => by rw [hb.cell, Nat.zero_add]; exact take_at ht (ics_get hi)⟩
  · obtain ⟨g, cur, rfl, hg, hb, hs, ht⟩ := h4 a ha
    exact ⟨g, cur, rfl, hg, hb, by omega⟩
end
/-- A source that was made last. -/
theorem intsR_new {w : World} {cs : Array Value} {t : TypeId} {L : List Int} (h : cs.toList = ics L) : IntsR (w.alloc (.cells cs t)) (some ⟨w.heap.size, 0, none⟩) L := fun _ => by
  refine ⟨_, 0, rfl, by simp, fun i x hi => ?_⟩
  have hb := Blk.new w t cs
  rw [hb.cell, Nat.zero_add, ← Array.getElem?_toList, h]
  exact ics_get hi
theorem int_info : (Try.prog.info? 3).map (fun i => (i.zero, i.size, i.bytes)) = some (some (.int .i64 0), 1, 8) := by kernel_rfl
theorem info_parts' {P : Program} {t : TypeId} {z : Value} {s b : Nat} (h : (P.info? t).map (fun i => (i.zero, i.size, i.bytes)) = some (some z, s, b)) : ∃ i, P.info? t = some i ∧ i.zero = some z ∧ i.size = s ∧ i.bytes = b := by
  cases hi : P.info? t with
  | none => rw [hi] at h; cases h
  | some i =>
    rw [hi] at h
    simp only [Option.map_some, Option.some.injEq, Prod.mk.injEq] at h
    exact ⟨i, rfl, h.1, h.2.1, h.2.2⟩
/-- slices.Index: the first place, or -1. -/
def idxOf (L : List Int) (p : Int) : Int := match L.findIdx? (· == p) with
  | some k => k
  | none => -1
end Go.Proofs.Ytekcokbpgpeepaa
