/- Plain law of a stack: what a call does to what is held and to what is locked. -/
import Derived.Test.YtmgcjdedgfiboaaStkW
namespace Go.Proofs.Ytmgcjdedgfiboaa
set_option linter.unusedVariables false
open Go.RowKit

theorem heldE_in {E : List Ent} {t r : Int} : r ∈ heldE E t ↔ (t, r) ∈ E := by
  unfold heldE
  simp only [List.mem_map, List.mem_filter, beq_iff_eq]
  constructor
  · rintro ⟨⟨a, b⟩, ⟨h1, rfl⟩, rfl⟩
    exact h1
  · intro h
    exact ⟨_, ⟨h, rfl⟩, rfl⟩
theorem lockedB_in {E : List Ent} {y : Int} : lockedB E y = true ↔ ∃ x ∈ E, x.2 = y := by
  unfold lockedB
  simp only [List.any_eq_true, beq_iff_eq]
/-- What stands in the stack: tasks below four, resources below eight, no resource twice. -/
structure OInv (E : List Ent) : Prop where
  t : ∀ x ∈ E, 0 ≤ x.1 ∧ x.1 < 4
  r : ∀ x ∈ E, 0 ≤ x.2 ∧ x.2 < 8
  u : E.Pairwise fun x y => x.2 ≠ y.2
theorem pw_inj : ∀ {E : List Ent}, (E.Pairwise fun x y => x.2 ≠ y.2) → ∀ {x y : Ent}, x ∈ E → y ∈ E → x.2 = y.2 → x = y
  | [], _, _, _, hx, _, _ => by cases hx
  | a :: E, h, x, y, hx, hy, e => by
    rw [List.pairwise_cons] at h
    rcases List.mem_cons.1 hx with rfl | hx
    · rcases List.mem_cons.1 hy with rfl | hy
      · rfl
      · exact absurd e (h.1 _ hy)
    · rcases List.mem_cons.1 hy with hya | hy
      · exact absurd (hya ▸ e.symm : a.2 = x.2) (h.1 _ hx)
      · exact pw_inj h.2 hx hy e
section
variable {E E' : List Ent} {T R : Int} {D : Nat → Nat → Int}
theorem OInv.nil : OInv [] := ⟨by simp, by simp, List.Pairwise.nil⟩
theorem OInv.sub (h : OInv E) (hs : E'.Sublist E) : OInv E' := ⟨fun x hx => h.t x (hs.subset hx), fun x hx => h.r x (hs.subset hx), h.u.sublist hs⟩
theorem ask_in (h0 : 0 ≤ T) (h4 : T < 4) : askE 4 T = 0 := if_neg (by omega)
theorem OInv.put (h : OInv E) (h0 : 0 ≤ T ∧ T < 4) (hR : 0 ≤ R ∧ R < 8) (hl : lockedB E R = false) : OInv (E ++ [(T, R)]) := by
  refine ⟨fun x hx => ?_, fun x hx => ?_, List.pairwise_append.2 ⟨h.u, List.pairwise_singleton _ _, fun x hx y hy e => ?_⟩⟩
  · rcases List.mem_append.1 hx with hx | hx
    · exact h.t x hx
    · obtain rfl := List.mem_singleton.1 hx; exact h0
  · rcases List.mem_append.1 hx with hx | hx
    · exact h.r x hx
    · obtain rfl := List.mem_singleton.1 hx; exact hR
  · obtain rfl := List.mem_singleton.1 hy
    rw [lockedB_in.2 ⟨x, hx, e⟩] at hl
    cases hl
theorem held_put (k : Int) : heldE (E ++ [(T, R)]) k = if k = T then heldE E k ++ [R] else heldE E k := by
  rw [heldE_app]
  split
  · next e => subst e; simp [heldE]
  · next e =>
    rw [heldE_no (L := [(T, R)]) (by intro x hx; obtain rfl := List.mem_singleton.1 hx; exact fun e2 => e e2.symm), List.append_nil]
theorem locked_put (y : Int) : lockedB (E ++ [(T, R)]) y = (lockedB E y || R == y) := by simp [lockedB]
theorem held_rest {k : Int} (h : k ≠ T) : heldE (restE E T) k = heldE E k := by
  unfold heldE restE
  rw [List.filter_filter]
  congr 1
  apply List.filter_congr
  intro x _
  by_cases e : x.1 = k
  · simp [e, h]
  · simp [e]
theorem held_rest_self : heldE (restE E T) T = [] := heldE_no fun x hx => by have := (List.mem_filter.1 hx).2; simpa using this
theorem lock_yes (h0 : 0 ≤ T ∧ T < 4) (hu : usesB D 4 T R = true) (hl : lockedB E R = false) (hn : (heldE E T).length < 4) : lockE 4 D E T R = 0 ∧ lockC 4 D E T R = E ++ [(T, R)] := by
  have h1 : lockE 4 D E T R = 0 := by
    unfold lockE
    rw [if_neg (by simpa using ask_in h0.1 h0.2), if_neg (by simp [hu]), if_neg (by simp [hl]), if_neg (by omega)]
  exact ⟨h1, if_pos h1⟩
theorem lock_no (h0 : 0 ≤ T ∧ T < 4) (h : usesB D 4 T R = false ∨ lockedB E R = true ∨ 4 ≤ (heldE E T).length) : lockE 4 D E T R ≠ 0 ∧ lockC 4 D E T R = E := by
  have h1 : lockE 4 D E T R ≠ 0 := by
    unfold lockE
    rw [if_neg (by simpa using ask_in h0.1 h0.2)]
    split
    · decide
    · split
      · decide
      · split
        · decide
        · next e1 e2 e3 =>
          rcases h with h | h | h
          · exact absurd h e1
          · exact absurd h e2
          · exact absurd h e3
  exact ⟨h1, if_neg h1⟩
theorem locked_cut {L M : List Ent} {x : Ent} (h : (L ++ x :: M).Pairwise fun x y => x.2 ≠ y.2) (y : Int) : lockedB (L ++ M) y = (lockedB (L ++ x :: M) y && !(x.2 == y)) := by
  rw [List.pairwise_append, List.pairwise_cons] at h
  obtain ⟨h1, ⟨h2, h3⟩, h4⟩ := h
  by_cases e : x.2 = y
  · have : lockedB (L ++ M) y = false := by
      cases hb : lockedB (L ++ M) y with
      | false => rfl
      | true =>
        obtain ⟨z, hz, hy⟩ := lockedB_in.1 hb
        rcases List.mem_append.1 hz with hz | hz
        · exact absurd (hy.trans e.symm) (h4 z hz x (List.mem_cons_self ..))
        · exact absurd (e.trans hy.symm) (h2 z hz)
    rw [this]
    simp [e]
  · have e2 : (x.2 == y) = false := beq_false_of_ne e
    unfold lockedB
    rw [List.any_append, List.any_append, List.any_cons, e2, Bool.false_or, Bool.not_false, Bool.and_true]
theorem unl_once (h : OInv E) (h0 : 0 ≤ T ∧ T < 4) {r z : Int} (hq : UnlQ 4 E T r z E') :
    (z = 0 ∧ heldE E T = heldE E' T ++ [r] ∧ (∀ k, k ≠ T → heldE E' k = heldE E k) ∧ (∀ y, lockedB E' y = (lockedB E y && !(r == y))) ∧ OInv E' ∧ (0 ≤ r ∧ r < 8) ∧ E'.length ≤ E.length) ∨ (z = 132 ∧ heldE E T = [] ∧ E' = E) := by
  have ha := ask_in h0.1 h0.2
  rcases unl_step hq ha with ⟨h1, h2, h3, h4⟩ | ⟨h1, h2, h3, _⟩
  · left
    have hk : ∀ k, k ≠ T → heldE E' k = heldE E k := fun k hk => by rw [← held_rest hk, ← h3, held_rest hk]
    rcases hq with ⟨a1, _⟩ | ⟨_, a2, _, a4, _⟩ | ⟨_, k, x, hx, hxt, hd, hr, hz, hE⟩
    · exact absurd ha a1
    · rw [a4] at h1; cases h1
    · have hs := split_at hx
      have hu := h.u
      rw [hs] at hu
      have hl := fun y => locked_cut hu y
      refine ⟨h1, h2, hk, fun y => ?_, h.sub ?_, ?_, by omega⟩
      · rw [hE, hl, ← hs, hr]
      · rw [hE]
        conv => rhs; rw [hs]
        exact List.Sublist.append (List.Sublist.refl _) (List.sublist_cons_self _ _)
      · rw [hr]; exact h.r x (List.mem_of_getElem? hx)
  · exact .inr ⟨h1, h2, h3⟩
theorem drop_once (h : OInv E) (h0 : 0 ≤ T ∧ T < 4) : dropC 4 E T = restE E T ∧ dropL 4 E T = (heldE E T).reverse ∧ OInv (restE E T) ∧ (restE E T).length ≤ E.length ∧ (∀ y, lockedB (restE E T) y = (lockedB E y && !(heldE E T).reverse.contains y)) := by
  have ha := ask_in h0.1 h0.2
  refine ⟨if_pos ha, if_pos ha, h.sub List.filter_sublist, List.length_filter_le _ _, fun y => ?_⟩
  by_cases hm : y ∈ heldE E T
  · have hc : (heldE E T).reverse.contains y = true := by simpa using hm
    rw [hc]
    cases hb : lockedB (restE E T) y with
    | false => simp
    | true =>
      obtain ⟨x, hx, hy⟩ := lockedB_in.1 hb
      have hx2 := List.mem_filter.1 hx
      have := pw_inj h.u hx2.1 (heldE_in.1 hm) hy
      subst this
      simp at hx2
  · have hc : (heldE E T).reverse.contains y = false := by
      cases e : (heldE E T).reverse.contains y with
      | false => rfl
      | true => exact absurd (by simpa using e) hm
    rw [hc, Bool.not_false, Bool.and_true, Bool.eq_iff_iff, lockedB_in, lockedB_in]
    constructor
    · rintro ⟨x, hx, hy⟩
      exact ⟨x, (List.mem_filter.1 hx).1, hy⟩
    · rintro ⟨x, hx, hy⟩
      refine ⟨x, List.mem_filter.2 ⟨hx, ?_⟩, hy⟩
      have : x.1 ≠ T := by rintro rfl; exact hm (heldE_in.2 (by rw [← hy]; exact hx))
      simpa using this
theorem held_r (h : OInv E) {r : Int} (hr : r ∈ heldE E T) : 0 ≤ r ∧ r < 8 := h.r _ (heldE_in.1 hr)
theorem held_cons (x : Ent) (k : Int) : (heldE (x :: E) k).length = (if x.1 = k then 1 else 0) + (heldE E k).length := by
  unfold heldE
  rw [List.filter_cons]
  by_cases e : x.1 = k
  · simp [e]; omega
  · simp [e]
theorem held_sum : ∀ {E : List Ent}, (∀ x ∈ E, 0 ≤ x.1 ∧ x.1 < 4) → (heldE E 0).length + (heldE E 1).length + (heldE E 2).length + (heldE E 3).length = E.length
  | [], _ => rfl
  | x :: E, h => by
    have ih := held_sum (E := E) fun y hy => h y (List.mem_cons_of_mem _ hy)
    have hx := h x (List.mem_cons_self ..)
    rw [held_cons, held_cons, held_cons, held_cons, List.length_cons]
    rcases (by omega : x.1 = 0 ∨ x.1 = 1 ∨ x.1 = 2 ∨ x.1 = 3) with e | e | e | e <;> simp [e] <;> omega
end
/-- How many the first k tasks hold. -/
def sumH (E : List Ent) : Nat → Nat
  | 0 => 0
  | k + 1 => sumH E k + (heldE E (k : Nat)).length
theorem sumH_le (E : List Ent) : ∀ k, sumH E k ≤ k * E.length
  | 0 => by simp [sumH]
  | k + 1 => by
    have h1 := sumH_le E k
    have h2 := heldE_len E (k : Nat)
    rw [sumH, Nat.add_mul, Nat.one_mul]
    exact Nat.add_le_add h1 h2
theorem sumH_4 {E : List Ent} (h : ∀ x ∈ E, 0 ≤ x.1 ∧ x.1 < 4) : sumH E 4 = E.length := by
  have := held_sum h
  simp only [sumH]
  exact (by simpa using this)
end Go.Proofs.Ytmgcjdedgfiboaa
