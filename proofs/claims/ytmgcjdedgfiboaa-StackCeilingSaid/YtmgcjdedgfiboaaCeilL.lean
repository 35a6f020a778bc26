/- Plain law of a stack's ceiling. -/
import Derived.Test.YtmgcjdedgfiboaaStkW
namespace Go.Proofs.Ytmgcjdedgfiboaa
set_option linter.unusedVariables false
open Go.RowKit

theorem ceilK_mono (D : Nat → Nat → Int) (n : Nat) (r : Int) {j k : Nat} (h : j ≤ k) : ceilK D n r j ≤ ceilK D n r k := by
  induction k with
  | zero => rw [Nat.le_zero.1 h]; exact Int.le_refl _
  | succ k ih =>
    by_cases e : j = k + 1
    · rw [e]; exact Int.le_refl _
    · have := ih (by omega)
      simp only [ceilK]
      omega
theorem lev_le_ceil {D : Nat → Nat → Int} {n t : Nat} {r : Int} (ht : t < n) (hu : usesB D n t r = true) : lev D n t ≤ ceil D n r := by
  have h1 : ceilK D n r (t + 1) = max (ceilK D n r t) (lev D n t) := by simp only [ceilK, hu, if_true]
  have h2 := ceilK_mono D n r (show t + 1 ≤ n by omega)
  unfold ceil
  omega
/-- The highest ceiling of a row of resources. -/
def highL (n : Nat) (D : Nat → Nat → Int) (L : List Int) : Int := L.foldl (fun m r => max m (ceil D n r)) 0
theorem foldl_le {α : Type} (f : α → Int) (z : Int) : ∀ (L : List α) (a : Int), L.foldl (fun m x => max m (f x)) a ≤ z ↔ a ≤ z ∧ ∀ x ∈ L, f x ≤ z
  | [], a => by simp
  | x :: L, a => by
    rw [List.foldl_cons, foldl_le f z L]
    simp only [List.mem_cons, forall_eq_or_imp]
    constructor
    · rintro ⟨h1, h2⟩
      exact ⟨by omega, by omega, h2⟩
    · rintro ⟨h1, h2, h3⟩
      exact ⟨by omega, h3⟩
theorem highL_le {n : Nat} {D : Nat → Nat → Int} {L : List Int} {z : Int} : highL n D L ≤ z ↔ 0 ≤ z ∧ ∀ r ∈ L, ceil D n r ≤ z := foldl_le (fun r => ceil D n r) z L 0
theorem ceilE_le {n : Nat} {D : Nat → Nat → Int} {E : List Ent} {z : Int} : ceilE n D E ≤ z ↔ 0 ≤ z ∧ ∀ x ∈ E, ceil D n x.2 ≤ z := foldl_le (fun x : Ent => ceil D n x.2) z E 0
theorem highK_take (n : Nat) (D : Nat → Nat → Int) (L : List Int) : ∀ k, k ≤ L.length → highK D n (fun i => L.getD i 0) k = highL n D (L.take k)
  | 0, _ => by simp [highK, highL]
  | k + 1, h => by
    simp only [highK]
    rw [highK_take n D L k (by omega), List.take_add_one, List.getElem?_eq_getElem (by omega)]
    unfold highL
    rw [List.foldl_append]
    simp [List.getD_eq_getElem?_getD, List.getElem?_eq_getElem (show k < L.length by omega)]
/-- All that is held by the first k tasks. -/
def allE (E : List Ent) : Nat → List Int
  | 0 => []
  | k + 1 => allE E k ++ heldE E k
theorem heldE_mem {E : List Ent} {t r : Int} : r ∈ heldE E t ↔ (t, r) ∈ E := by
  unfold heldE
  simp only [List.mem_map, List.mem_filter, beq_iff_eq]
  constructor
  · rintro ⟨⟨a, b⟩, ⟨h1, rfl⟩, rfl⟩
    exact h1
  · intro h
    exact ⟨_, ⟨h, rfl⟩, rfl⟩
theorem allE_mem {E : List Ent} {r : Int} : ∀ {k : Nat}, r ∈ allE E k ↔ ∃ t : Nat, t < k ∧ ((t : Int), r) ∈ E
  | 0 => by simp [allE]
  | k + 1 => by
    rw [allE, List.mem_append, allE_mem (k := k), heldE_mem]
    constructor
    · rintro (⟨t, h1, h2⟩ | h)
      · exact ⟨t, by omega, h2⟩
      · exact ⟨k, by omega, h⟩
    · rintro ⟨t, h1, h2⟩
      by_cases e : t = k
      · subst e; exact .inr h2
      · exact .inl ⟨t, by omega, h2⟩
theorem allE_len (E : List Ent) : ∀ k, (allE E k).length ≤ k * E.length
  | 0 => by simp [allE]
  | k + 1 => by
    rw [allE, List.length_append, Nat.add_mul, Nat.one_mul]
    exact Nat.add_le_add (allE_len E k) (heldE_len E k)
/-- What every entry is. -/
def InvE (D : Nat → Nat → Int) (E : List Ent) : Prop := ∀ x ∈ E, ∃ t : Nat, t < 4 ∧ x.1 = t ∧ usesB D 4 x.1 x.2 = true
section
variable {D : Nat → Nat → Int} {E E' : List Ent}
theorem InvE.sub (h : InvE D E) (hs : ∀ x ∈ E', x ∈ E) : InvE D E' := fun x hx => h x (hs x hx)
theorem highL_self (n : Nat) (D : Nat → Nat → Int) (L : List Int) : 0 ≤ highL n D L ∧ ∀ r ∈ L, ceil D n r ≤ highL n D L := (highL_le (n := n) (D := D) (L := L) (z := highL n D L)).1 (Int.le_refl _)
theorem ceilE_self (n : Nat) (D : Nat → Nat → Int) (E : List Ent) : 0 ≤ ceilE n D E ∧ ∀ x ∈ E, ceil D n x.2 ≤ ceilE n D E := (ceilE_le (n := n) (D := D) (E := E) (z := ceilE n D E)).1 (Int.le_refl _)
theorem ceil_le_all {n : Nat} (h : InvE D E) : ceilE n D E ≤ highL n D (allE E 4) := by
  rw [ceilE_le]
  refine ⟨(highL_self n D _).1, fun x hx => ?_⟩
  obtain ⟨t, ht, e, _⟩ := h x hx
  have hm : x.2 ∈ allE E 4 := allE_mem.2 ⟨t, ht, by rw [← e]; exact hx⟩
  exact (highL_self n D (allE E 4)).2 x.2 hm
theorem all_le_ceil {n m : Nat} : highL n D (allE E m) ≤ ceilE n D E := by
  rw [highL_le]
  refine ⟨(ceilE_self n D _).1, fun r hr => ?_⟩
  obtain ⟨t, ht, hm⟩ := allE_mem.1 hr
  exact (ceilE_self n D E).2 ((t : Int), r) hm
theorem ceil_all (h : InvE D E) : ceilE 4 D E = highL 4 D (allE E 4) := Int.le_antisymm (ceil_le_all h) all_le_ceil
theorem lev_ceil (h : InvE D E) {k : Nat} (hk : k < 4) (hh : heldE E k ≠ []) : lev D 4 k ≤ ceilE 4 D E := by
  obtain ⟨r, hr⟩ := List.exists_mem_of_ne_nil _ hh
  have hm := heldE_mem.1 hr
  obtain ⟨t, ht, e, hu⟩ := h _ hm
  have h1 := lev_le_ceil (D := D) (n := 4) (t := k) (r := r) hk hu
  have h2 := (ceilE_self 4 D E).2 _ hm
  exact Int.le_trans h1 h2
theorem all_nil (h : InvE D E) : (allE E 4 = []) ↔ E = [] := by
  constructor
  · intro e
    cases E with
    | nil => rfl
    | cons x E =>
      obtain ⟨t, ht, e2, _⟩ := h x (List.mem_cons_self ..)
      have : x.2 ∈ allE (x :: E) 4 := allE_mem.2 ⟨t, ht, by rw [← e2]; exact List.mem_cons_self ..⟩
      rw [e] at this
      cases this
  · rintro rfl
    rfl
theorem top_held (hE : E ≠ []) : heldE E (topE E) ≠ [] := by
  intro e
  obtain ⟨x, hx⟩ : ∃ x, E.getLast? = some x := by
    cases h : E.getLast? with
    | none => rw [List.getLast?_eq_none_iff] at h; exact absurd h hE
    | some x => exact ⟨x, rfl⟩
  have hm : x ∈ E := List.mem_of_getLast? hx
  have ht : topE E = x.1 := by unfold topE; rw [hx]
  have : x.2 ∈ heldE E (topE E) := heldE_mem.2 (by rw [ht]; exact hm)
  rw [e] at this
  cases this
theorem inv_lock (h : InvE D E) {t : Nat} (ht : t < 4) (r : Int) : InvE D (lockC 4 D E t r) := by
  unfold lockC
  split
  · next h0 =>
    intro x hx
    rcases List.mem_append.1 hx with hx | hx
    · exact h x hx
    · rw [List.mem_singleton] at hx
      subst hx
      refine ⟨t, ht, rfl, ?_⟩
      unfold lockE at h0
      cases hu : usesB D 4 t r with
      | true => rfl
      | false =>
        rw [hu] at h0
        split at h0
        · next h1 => exact absurd h0 h1
        · simp at h0
  · exact h
theorem len_lock (t r : Int) {m : Nat} (h : E.length ≤ m) : (lockC 4 D E t r).length ≤ m + 1 := by
  unfold lockC
  split
  · simp; omega
  · omega
theorem unl_sub {t r z : Int} (h : UnlQ 4 E t r z E') : (∀ x ∈ E', x ∈ E) ∧ E'.length ≤ E.length := by
  rcases h with ⟨_, _, _, rfl⟩ | ⟨_, _, _, _, rfl⟩ | ⟨_, k, x, _, _, _, _, _, rfl⟩
  · exact ⟨fun x h => h, Nat.le_refl _⟩
  · exact ⟨fun x h => h, Nat.le_refl _⟩
  · refine ⟨fun y hy => ?_, by simp; omega⟩
    rcases List.mem_append.1 hy with hy | hy
    · exact List.mem_of_mem_take hy
    · exact List.mem_of_mem_drop hy
theorem drop_sub (t : Int) : (∀ x ∈ dropC 4 E t, x ∈ E) ∧ (dropC 4 E t).length ≤ E.length := by
  unfold dropC
  split
  · exact ⟨fun x h => (List.mem_filter.1 h).1, List.length_filter_le _ _⟩
  · exact ⟨fun x h => h, Nat.le_refl _⟩
end
theorem ints_at {w : World} {A : Option Addr} {L : List Int} (h : IntsR w A L) : IntsAt w A L.length (fun i => L.getD i 0) := fun hn => by
  obtain ⟨b, off, hA, hb, hx⟩ := h (by intro e; rw [e] at hn; simp at hn)
  refine ⟨b, off, hA, hb, fun i hi => ?_⟩
  have := hx i _ (List.getElem?_eq_getElem hi)
  show _ = some (Value.int .i64 (L.getD i 0))
  rw [this, List.getD_eq_getElem?_getD, List.getElem?_eq_getElem hi]
  rfl
end Go.Proofs.Ytmgcjdedgfiboaa
