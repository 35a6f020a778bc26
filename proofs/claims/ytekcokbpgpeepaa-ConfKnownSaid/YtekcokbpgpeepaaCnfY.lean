/- Layer 5: the document's Copy. -/
import Derived.Test.YtekcokbpgpeepaaCnfO2
namespace Go.Proofs.Ytekcokbpgpeepaa
set_option linter.unusedVariables false
open Go.RowKit

theorem tcs_len (L : List TV) : (tcs L).length = L.length * 8 := by
  induction L with
  | nil => rfl
  | cons a A ih =>
    unfold tcs at ih ⊢
    rw [List.flatMap_cons, List.length_append, ih, List.length_cons]
    simp [tCells]
    omega
theorem qcs_len (L : List PV) : (qcs L).length = L.length * 6 := by
  induction L with
  | nil => rfl
  | cons a A ih =>
    unfold qcs at ih ⊢
    rw [List.flatMap_cons, List.length_append, ih, List.length_cons]
    simp [qCells]
    omega
theorem tcs_one (L : List TV) : ∀ u ∈ tcs L, u.oneCell' = true := fun u hu => by
  simp only [tcs, List.mem_flatMap, tCells, List.mem_cons, List.not_mem_nil, or_false] at hu
  obtain ⟨t, _, hu⟩ := hu
  rcases hu with rfl | rfl | rfl | rfl | rfl | rfl | rfl | rfl <;> rfl
theorem qcs_one (L : List PV) : ∀ u ∈ qcs L, u.oneCell' = true := fun u hu => by
  simp only [qcs, List.mem_flatMap, qCells, List.mem_cons, List.not_mem_nil, or_false] at hu
  obtain ⟨t, _, hu⟩ := hu
  rcases hu with rfl | rfl | rfl | rfl | rfl | rfl <;> rfl
theorem TksAt.src {w : World} {A : Option Addr} {L : List TV} {c : Nat} (h : TksAt w A L) (hA : A = none → c = 0) : SrcR w 8 A L.length c (tcs L) := by
  refine ⟨tcs_len L, ?_⟩
  by_cases hL : L = []
  · subst hL
    cases A with
    | none => exact .inl ⟨rfl, rfl, hA rfl⟩
    | some a => exact .inr ⟨a, rfl, fun j u hj => by simp [tcs] at hj⟩
  · obtain ⟨b, off, rfl, _, hx⟩ := h hL
    refine .inr ⟨_, rfl, fun j u hj => ?_⟩
    have hjl : j < L.length * 8 := by rw [← tcs_len]; exact (List.getElem?_eq_some_iff.1 hj).1
    have hi : L[j / 8]? = some (L[j / 8]'(by omega)) := List.getElem?_eq_getElem (by omega)
    have h8 := at8 (f := fun t => (tCells t).toList) (m := 8) (fun x => rfl) L (j / 8) (j % 8) _ hi (by omega)
    have e : j / 8 * 8 + j % 8 = j := by omega
    rw [e] at h8
    unfold tcs at hj
    rw [h8] at hj
    obtain ⟨t0, t1, t2, t3, t4, t5, t6, t7⟩ := hx _ _ hi
    rw [add_at, show off + j = off + j / 8 * 8 + j % 8 by omega]
    rcases (by omega : j % 8 = 0 ∨ j % 8 = 1 ∨ j % 8 = 2 ∨ j % 8 = 3 ∨ j % 8 = 4 ∨ j % 8 = 5 ∨ j % 8 = 6 ∨ j % 8 = 7) with hr | hr | hr | hr | hr | hr | hr | hr <;> rw [hr] at hj ⊢ <;> (rw [← hj]; assumption)
theorem PtsAt.src {w : World} {A : Option Addr} {L : List PV} {c : Nat} (h : PtsAt w A L) (hA : A = none → c = 0) : SrcR w 6 A L.length c (qcs L) := by
  refine ⟨qcs_len L, ?_⟩
  by_cases hL : L = []
  · subst hL
    cases A with
    | none => exact .inl ⟨rfl, rfl, hA rfl⟩
    | some a => exact .inr ⟨a, rfl, fun j u hj => by simp [qcs] at hj⟩
  · obtain ⟨b, off, rfl, _, hx⟩ := h hL
    refine .inr ⟨_, rfl, fun j u hj => ?_⟩
    have hjl : j < L.length * 6 := by rw [← qcs_len]; exact (List.getElem?_eq_some_iff.1 hj).1
    have hi : L[j / 6]? = some (L[j / 6]'(by omega)) := List.getElem?_eq_getElem (by omega)
    have h8 := at8 (f := fun t => (qCells t).toList) (m := 6) (fun x => rfl) L (j / 6) (j % 6) _ hi (by omega)
    have e : j / 6 * 6 + j % 6 = j := by omega
    rw [e] at h8
    unfold qcs at hj
    rw [h8] at hj
    obtain ⟨t0, t1, t2, t3, t4, t5⟩ := hx _ _ hi
    rw [add_at, show off + j = off + j / 6 * 6 + j % 6 by omega]
    rcases (by omega : j % 6 = 0 ∨ j % 6 = 1 ∨ j % 6 = 2 ∨ j % 6 = 3 ∨ j % 6 = 4 ∨ j % 6 = 5) with hr | hr | hr | hr | hr | hr <;> rw [hr] at hj ⊢ <;> (rw [← hj]; assumption)
/-- append of a row of tasks onto nothing. -/
theorem wpList_copy_tasks {ops : Array Oper} {rest : List Oper} {o : Oper} {a : Act} {Q : Exit → Act → World → Prop} {w : World} {A : Option Addr} {m c : Nat} {L : List TV} (hgd : o.guard = none) (s x : Operand)
    (ho : o.op = .call { callee := .builtin .append, args := #[s, x], argTypes := #[39, 39] }) (hs : a.eval s = .slice none 0 0) (hx : a.eval x = .slice A m c) (hm : L.length = m) (hT : TksAt w A L) (hA : A = none → c = 0) (hl : L.length ≤ 2199023255552)
    (h : ∀ v' w', OwnT w' w.heap.size v' L → Below w.heap.size w w' → wpList Try.prog ops Q rest (a.put o.dst v') w') : wpList Try.prog ops Q (o :: rest) a w := by
  obtain ⟨i0, hi0, hz0, hz1, hz2⟩ := info_parts' task_info
  subst hm
  refine wpList_append_src hgd s x _ ho w.heap.size 46 i0 _ 8 64 Try.underlying39 hi0 hz0 hz1 hz2 rfl (by omega) (.slice none 0 0) 0 [] hs (own_none _ _ _ _) _ _ _ (tcs L) hx (hT.src hA) (tcs_one L) (by simp only [maxLen]; omega) (by omega) (Nat.le_refl _) ?_
  intro v' w' hown hg _
  refine h v' w' ?_ (below_grown (Below.refl _ _) hg (Nat.le_refl _) (by simp [Value.ownBlock]))
  rw [Nat.zero_add, List.nil_append] at hown
  exact hown
theorem wpList_copy_ports {ops : Array Oper} {rest : List Oper} {o : Oper} {a : Act} {Q : Exit → Act → World → Prop} {w : World} {A : Option Addr} {m c : Nat} {L : List PV} (hgd : o.guard = none) (s x : Operand)
    (ho : o.op = .call { callee := .builtin .append, args := #[s, x], argTypes := #[23, 23] }) (hs : a.eval s = .slice none 0 0) (hx : a.eval x = .slice A m c) (hm : L.length = m) (hT : PtsAt w A L) (hA : A = none → c = 0) (hl : L.length ≤ 2932031007402)
    (h : ∀ v' w', OwnQ w' w.heap.size v' L → Below w.heap.size w w' → wpList Try.prog ops Q rest (a.put o.dst v') w') : wpList Try.prog ops Q (o :: rest) a w := by
  obtain ⟨i0, hi0, hz0, hz1, hz2⟩ := info_parts' port_info
  subst hm
  refine wpList_append_src hgd s x _ ho w.heap.size 48 i0 _ 6 48 Try.underlying23 hi0 hz0 hz1 hz2 rfl (by omega) (.slice none 0 0) 0 [] hs (own_none _ _ _ _) _ _ _ (qcs L) hx (hT.src hA) (qcs_one L) (by simp only [maxLen]; omega) (by omega) (Nat.le_refl _) ?_
  intro v' w' hown hg _
  refine h v' w' ?_ (below_grown (Below.refl _ _) hg (Nat.le_refl _) (by simp [Value.ownBlock]))
  rw [Nat.zero_add, List.nil_append] at hown
  exact hown
end Go.Proofs.Ytekcokbpgpeepaa
