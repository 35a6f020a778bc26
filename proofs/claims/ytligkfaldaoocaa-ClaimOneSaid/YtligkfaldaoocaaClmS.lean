/- Plain law of claims: nobody stands twice; what a call does to a line. -/
import Derived.Test.YtligkfaldaoocaaClmL
namespace Go.Proofs.Ytligkfaldaoocaa
set_option linter.unusedVariables false
open Go.RowKit

/-- How often x stands in the first k lines. -/
def cntTo (S : CS) (x : Int) : Nat → Nat
  | 0 => 0
  | k + 1 => cntTo S x k + (S.l k).count x
structure NoTwo (S : CS) : Prop where
  is : ∀ k, k < 4 → ∀ x ∈ S.l k, 0 ≤ x ∧ x < 4
  one : ∀ x, cntTo S x 4 ≤ 1
def Step (S S' : CS) (p : Int) : Prop := ∀ k, k < 4 → S'.l k = S.l k ∨ S'.l k = S.l k ++ [p] ∨ S'.l k = others (S.l k) p
theorem cntTo_lines {S S' : CS} (h : ∀ k, S'.l k = S.l k) (x : Int) : ∀ k, cntTo S' x k = cntTo S x k
  | 0 => rfl
  | k + 1 => by rw [cntTo, cntTo, cntTo_lines h x k, h]
theorem cntTo_upd (S : CS) {k : Nat} (hk : k < 4) (L : List Int) (h : Nat → Bool) (x : Int) : cntTo ⟨upd S.l k L, h⟩ x 4 + (S.l k).count x = cntTo S x 4 + L.count x := by
  rcases (by omega : k = 0 ∨ k = 1 ∨ k = 2 ∨ k = 3) with rfl | rfl | rfl | rfl <;> simp [cntTo, upd] <;> omega
theorem cntTo_none {S : CS} {p : Int} (h : ∀ k, k < 4 → p ∉ S.l k) : cntTo S p 4 = 0 := by
  simp [cntTo, List.count_eq_zero.2 (h 0 (by omega)), List.count_eq_zero.2 (h 1 (by omega)), List.count_eq_zero.2 (h 2 (by omega)), List.count_eq_zero.2 (h 3 (by omega))]
theorem cntTo_mono (S : CS) (x : Int) {j k : Nat} (h : j ≤ k) : cntTo S x j ≤ cntTo S x k := by
  induction k with
  | zero => rw [Nat.le_zero.1 h]; exact Nat.le_refl _
  | succ k ih =>
    by_cases e : j = k + 1
    · rw [e]; exact Nat.le_refl _
    · exact Nat.le_trans (ih (by omega)) (Nat.le_add_right _ _)
section
variable {S : CS} {p r : Int}
theorem Step.refl (S : CS) (p : Int) : Step S S p := fun _ _ => .inl rfl
theorem step_lines {S' : CS} (h : ∀ k, S'.l k = S.l k) (hS : NoTwo S) : Step S S' p ∧ NoTwo S' :=
  ⟨fun k _ => .inl (h k), ⟨fun k hk x hx => hS.is k hk x (h k ▸ hx), fun x => by rw [cntTo_lines h]; exact hS.one x⟩⟩
theorem step_ask (hS : NoTwo S) (h0 : 0 ≤ p) (h4 : p < 4) (h1 : 1 ≤ r) (hr : r ≤ 4) : Step S (askC S p r) p ∧ NoTwo (askC S p r) := by
  unfold askC
  split
  · next h =>
    have hk : kOf r < 4 := by unfold kOf; omega
    have hn := inE_none h.2
    refine ⟨fun k hk' => ?_, ⟨fun k hk' x hx => ?_, fun x => ?_⟩⟩
    · by_cases e : k = kOf r
      · subst e
        exact .inr (.inl (upd_self _ _ _))
      · exact .inl (upd_other _ _ e)
    · by_cases e : k = kOf r
      · subst e
        have hx' : x ∈ S.l (kOf r) ++ [p] := by simpa [upd_self] using hx
        rcases List.mem_append.1 hx' with hx' | hx'
        · exact hS.is _ hk x hx'
        · rw [List.mem_singleton] at hx'; omega
      · exact hS.is k hk' x (by simpa [upd, e] using hx)
    · have := cntTo_upd S hk (S.l (kOf r) ++ [p]) S.h x
      have h2 := hS.one x
      rw [List.count_append] at this
      by_cases e : p = x
      · subst e
        have h3 := cntTo_none hn
        simp at this
        omega
      · rw [List.count_singleton, if_neg (by simpa using e)] at this
        omega
  · exact ⟨Step.refl _ _, hS⟩
theorem step_drop (hS : NoTwo S) : Step S (dropC S p) p ∧ NoTwo (dropC S p) := by
  unfold dropC
  split
  · exact ⟨Step.refl _ _, hS⟩
  · next j hj =>
    have hk := (inE_some hj).1
    refine ⟨fun k hk' => ?_, ⟨fun k hk' x hx => ?_, fun x => ?_⟩⟩
    · by_cases e : k = j
      · subst e
        exact .inr (.inr (upd_self _ _ _))
      · exact .inl (upd_other _ _ e)
    · by_cases e : k = j
      · subst e
        have hx' : x ∈ others (S.l k) p := by simpa [upd_self] using hx
        exact hS.is _ hk x (List.mem_filter.1 hx').1
      · exact hS.is k hk' x (by simpa [upd, e] using hx)
    · have := cntTo_upd S hk (others (S.l j) p) (upd S.h j (S.h j && !isFirst (S.l j) p)) x
      have h2 := hS.one x
      have h3 : (others (S.l j) p).count x ≤ (S.l j).count x := List.Sublist.count_le x List.filter_sublist
      omega
theorem step_hold (hS : NoTwo S) : Step S (holdC S p r) p ∧ NoTwo (holdC S p r) := by
  refine step_lines (fun k => ?_) hS
  unfold holdC
  split <;> rfl
theorem step_give (hS : NoTwo S) : Step S (giveC S p r) p ∧ NoTwo (giveC S p r) := by
  unfold giveC
  split
  · exact step_drop hS
  · exact ⟨Step.refl _ _, hS⟩
theorem Step.len {S' : CS} (h : Step S S' p) {m : Nat} (hm : ∀ k, k < 4 → (S.l k).length ≤ m) : ∀ k, k < 4 → (S'.l k).length ≤ m + 1 := by
  intro k hk
  have := hm k hk
  rcases h k hk with e | e | e
  · rw [e]; omega
  · rw [e]; simp; omega
  · rw [e]
    exact Nat.le_trans (List.length_filter_le _ _) (by omega)
theorem noTwo_noC : NoTwo noC := ⟨fun k _ x hx => by simp [noC] at hx, fun x => by simp [cntTo, noC]⟩
end
/-- How far the new line goes with the old one. -/
def atE (L L' : List Int) (p : Int) (j : Nat) : Nat := if L' = L ∨ L' = L ++ [p] then j else (others (L.take j) p).length
section
variable {L L' : List Int} {p : Int}
theorem atE_zero : atE L L' p 0 = 0 := by unfold atE; split <;> simp [others]
/-- One step of the comparison: what is compared. -/
theorem atE_step (h : L' = L ∨ L' = L ++ [p] ∨ L' = others L p) {j : Nat} {x : Int} (hx : L[j]? = some x) :
    (∃ y, L'[atE L L' p j]? = some y ∧ y = x ∧ atE L L' p (j + 1) = atE L L' p j + 1) ∨ ((∀ y, L'[atE L L' p j]? = some y → y ≠ x) ∧ x = p ∧ atE L L' p (j + 1) = atE L L' p j) := by
  have hj : j < L.length := (List.getElem?_eq_some_iff.1 hx).1
  by_cases hc : L' = L ∨ L' = L ++ [p]
  · left
    unfold atE
    rw [if_pos hc, if_pos hc]
    refine ⟨x, ?_, rfl, rfl⟩
    rcases hc with e | e
    · rw [e]; exact hx
    · rw [e, List.getElem?_append_left hj]; exact hx
  · have he : L' = others L p := by
      rcases h with h | h | h
      · exact absurd (.inl h) hc
      · exact absurd (.inr h) hc
      · exact h
    unfold atE
    rw [if_neg hc, if_neg hc, others_succ hx]
    have hsplit : others L p = others (L.take j) p ++ others (L.drop j) p := by
      unfold others
      rw [← List.filter_append, List.take_append_drop]
    by_cases e : x = p
    · right
      refine ⟨fun y hy => ?_, e, by rw [if_pos e]; simp⟩
      rw [he] at hy
      have := (List.mem_filter.1 (List.mem_of_getElem? hy)).2
      rintro rfl
      simp [e] at this
    · left
      refine ⟨x, ?_, rfl, by rw [if_neg e]; simp⟩
      rw [he, hsplit, List.getElem?_append_right (Nat.le_refl _), Nat.sub_self, List.drop_eq_getElem_cons hj, (List.getElem?_eq_some_iff.1 hx).2]
      unfold others
      rw [List.filter_cons, if_pos (by simpa using e)]
      rfl
/-- Behind all steps. -/
theorem atE_end (h : L' = L ∨ L' = L ++ [p] ∨ L' = others L p) : atE L L' p L.length = L'.length ∨ (L'.length = atE L L' p L.length + 1 ∧ L'[atE L L' p L.length]? = some p) := by
  unfold atE
  by_cases hc : L' = L ∨ L' = L ++ [p]
  · rw [if_pos hc]
    rcases hc with e | e
    · left; rw [e]
    · right
      rw [e]
      refine ⟨by simp, ?_⟩
      rw [List.getElem?_append_right (Nat.le_refl _), Nat.sub_self]
      rfl
  · rw [if_neg hc]
    left
    rcases h with h | h | h
    · exact absurd (.inl h) hc
    · exact absurd (.inr h) hc
    · rw [h, List.take_length]
theorem atE_le (L L' : List Int) (p : Int) (j : Nat) : atE L L' p j ≤ j := by
  unfold atE
  split
  · exact Nat.le_refl _
  · exact others_len L p j
end
end Go.Proofs.Ytligkfaldaoocaa
