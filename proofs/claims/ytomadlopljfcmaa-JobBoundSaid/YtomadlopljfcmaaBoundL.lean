/- JobBound's plain law: what stays true of a job that is driven as long as it has no fault. -/
import Derived.Test.YtomadlopljfcmaaBoundA
namespace Go.Proofs.Ytomadlopljfcmaa
set_option linter.unusedVariables false
open Go.RowKit

def Runs (L : List OpV) : Prop := ∀ y ∈ L, y.k = 1 ∧ 1 ≤ y.n
structure Inv (t : TV) (x : JV) (L : List OpV) (now : Int) : Prop where
  ht : x.t = t
  he : x.ends = 7 + t.d
  r0 : 0 ≤ x.ran
  r1 : x.ran ≤ t.b
  k0 : 0 ≤ x.tk
  sc : x.sec = 0 ∨ x.sec = 1 ∨ x.sec = 2 ∨ x.sec = 3
  s0 : x.sec = 0 → x.tk = 0
  s1 : x.sec = 1 → x.tk ≤ t.l
  s2 : x.sec = 2 → x.tk ≤ t.lg
  s3 : x.sec = 3 → x.tk = 0
  n0 : 0 ≤ x.tkn
  n1 : x.tkn ≤ t.lk
  runs : Runs L
  w0 : 7 ≤ now
  w1 : now ≤ 7 + t.d
theorem inv_start (t : TV) (L : List OpV) (hG : GoodT t) (hL : Runs L) : Inv t (newX t 7) L 7 :=
  ⟨rfl, rfl, Int.le_refl _, by show (0 : Int) ≤ t.b; have := hG.b1; omega, Int.le_refl _, .inl rfl, fun _ => rfl, (fun h => by cases h), (fun h => by cases h), fun _ => rfl, Int.le_refl _, hG.k1, hL, Int.le_refl _, by have := hG.d1; omega⟩
theorem inv_enter {t : TV} {x : JV} {L : List OpV} {now s : Int} (h : Inv t x L now) (hG : GoodT t) (h1 : 1 ≤ s) (h3 : s ≤ 3) : Inv t (enterX x s) L now := by
  have hl := hG.l1
  have hg := hG.g1
  have ht := h.ht
  unfold enterX
  rw [if_neg (by omega)]
  by_cases c1 : x.sec = 3 ∧ s = 2
  · rw [if_pos c1]
    have := h.s3 c1.1
    exact ⟨h.ht, h.he, h.r0, h.r1, h.k0, by rw [c1.2]; exact .inr (.inr (.inl rfl)), fun e => by simp at e; omega, fun e => by simp at e; omega, fun _ => by simp; omega, fun e => by simp at e; omega, h.n0, h.n1, h.runs, h.w0, h.w1⟩
  · rw [if_neg c1]
    by_cases c2 : x.sec ≠ 0
    · rw [if_pos c2]; exact h
    · rw [if_neg c2]
      by_cases c3 : s ≠ 1 ∧ x.t.lk ≤ x.tkn
      · rw [if_pos c3]; exact h
      · rw [if_neg c3]
        by_cases c4 : s ≠ 1
        · rw [if_pos c4]
          have hk : x.tkn < t.lk := by rw [← ht]; omega
          have h0 := h.n0
          exact ⟨h.ht, h.he, h.r0, h.r1, Int.le_refl _, by simp; omega, fun _ => rfl, fun _ => by simp; omega, fun _ => by simp; omega, fun _ => rfl, by simp; omega, by simp; omega, h.runs, h.w0, h.w1⟩
        · rw [if_neg c4]
          exact ⟨h.ht, h.he, h.r0, h.r1, Int.le_refl _, by simp; omega, fun _ => rfl, fun _ => by simp; omega, fun _ => by simp; omega, fun _ => rfl, h.n0, h.n1, h.runs, h.w0, h.w1⟩
theorem inv_leave {t : TV} {x : JV} {L : List OpV} {now : Int} (h : Inv t x L now) (hG : GoodT t) : Inv t (leaveX x) L now := by
  unfold leaveX
  by_cases c : x.sec = 0
  · rw [if_pos c]; exact h
  · rw [if_neg c]
    exact ⟨h.ht, h.he, h.r0, h.r1, Int.le_refl _, .inl rfl, fun _ => rfl, (fun e => by simp at e), (fun e => by simp at e), (fun e => by simp at e), h.n0, h.n1, h.runs, h.w0, h.w1⟩
theorem left_pos : ∀ L : List OpV, Runs L → 0 ≤ leftOf L ∧ (L ≠ [] → 0 < leftOf L)
  | [], _ => ⟨Int.le_refl _, fun h => absurd rfl h⟩
  | y :: L, h => by
    have ih := left_pos L (fun z hz => h z (List.mem_cons_of_mem _ hz))
    have hy := h y (List.mem_cons_self)
    have e : leftOf (y :: L) = y.n + leftOf L := by simp only [leftOf]; rw [if_pos hy.1]
    rw [e]
    exact ⟨by omega, fun _ => by omega⟩
theorem fault_zero {t : TV} {x : JV} {L : List OpV} {now : Int} (h : Inv t x L now) (hL : L ≠ []) (hf : faultE x L now = 0) : now < 7 + t.d ∧ x.ran < t.b ∧ overB x 1 = false := by
  have he := h.he
  have ht := h.ht
  have hk : (headOf L).k = 1 := by
    cases L with
    | nil => exact absurd rfl hL
    | cons y L => exact (h.runs y (List.mem_cons_self)).1
  have hp := (left_pos L h.runs).2 hL
  unfold faultE at hf
  rw [if_neg hL] at hf
  by_cases c1 : x.ends ≤ now
  · rw [if_pos c1] at hf; omega
  · rw [if_neg c1] at hf
    by_cases c2 : x.t.b ≤ x.ran ∧ 0 < leftOf L
    · rw [if_pos c2] at hf; omega
    · rw [if_neg c2, hk] at hf
      refine ⟨by omega, by rw [← ht]; omega, ?_⟩
      cases ho : overB x 1 with
      | false => rfl
      | true => rw [ho, if_pos rfl] at hf; omega
theorem fault_vals {t : TV} {x : JV} {L : List OpV} {now : Int} (h : Inv t x L now) : faultE x L now = 0 ∨ (faultE x L now = 1 ∧ x.ran = t.b) ∨ faultE x L now = 2 ∨ (faultE x L now = 3 ∧ 7 + t.d ≤ now) := by
  have he := h.he
  have ht := h.ht
  have hr := h.r1
  unfold faultE
  by_cases c0 : L = []
  · rw [if_pos c0]; exact .inl rfl
  · rw [if_neg c0]
    by_cases c1 : x.ends ≤ now
    · rw [if_pos c1]; exact .inr (.inr (.inr ⟨rfl, by omega⟩))
    · rw [if_neg c1]
      by_cases c2 : x.t.b ≤ x.ran ∧ 0 < leftOf L
      · rw [if_pos c2]; exact .inr (.inl ⟨rfl, by have := c2.1; rw [ht] at this; omega⟩)
      · rw [if_neg c2]
        split
        · exact .inr (.inr (.inl rfl))
        · exact .inl rfl
theorem runs_ran {L : List OpV} (h : Runs L) : Runs (ranL L) := by
  cases L with
  | nil => exact h
  | cons y L =>
    have hy := h y (List.mem_cons_self)
    have hT : Runs L := fun z hz => h z (List.mem_cons_of_mem _ hz)
    simp only [ranL]
    rw [if_pos hy.1]
    by_cases c : y.n - 1 = 0
    · rw [if_pos c]; exact hT
    · rw [if_neg c]
      intro z hz
      rcases List.mem_cons.1 hz with rfl | hz
      · exact ⟨hy.1, by simp; omega⟩
      · exact hT z hz
theorem inv_run {t : TV} {x : JV} {L : List OpV} {now : Int} (h : Inv t x L now) (hL : L ≠ []) (hf : faultE x L now = 0) :
    (x.sec = 3 → runE x L = 250) ∧ (x.sec ≠ 3 → runE x L = 0) ∧ Inv t (runX x L) (runL x L) (now + 1) := by
  obtain ⟨f1, f2, f3⟩ := fault_zero h hL hf
  have hr0 := h.r0
  have hk0 := h.k0
  have hw0 := h.w0
  have hran : ranE L = 0 := by
    cases L with
    | nil => exact absurd rfl hL
    | cons y L => simp only [ranE]; rw [if_pos (h.runs y (List.mem_cons_self)).1]
  by_cases c3 : x.sec = 3
  · refine ⟨fun _ => if_pos c3, fun e => absurd c3 e, ?_⟩
    rw [show runX x L = x from if_pos c3, show runL x L = L from if_pos c3]
    exact ⟨h.ht, h.he, h.r0, h.r1, h.k0, h.sc, h.s0, h.s1, h.s2, h.s3, h.n0, h.n1, h.runs, by omega, by omega⟩
  · refine ⟨fun e => absurd e c3, fun _ => (if_neg c3 : runE x L = ranE L).trans hran, ?_⟩
    rw [show runL x L = ranL L from if_neg c3]
    have hR := runs_ran h.runs
    have ht := h.ht
    by_cases c0 : x.sec = 0
    · have e : runX x L = { x with beg := true, ran := x.ran + 1 } := by unfold runX; rw [if_neg c3, if_neg (by rw [hran]; simp), if_neg (by simp [c0])]
      rw [e]
      exact ⟨h.ht, h.he, by simp; omega, by simp; omega, h.k0, h.sc, h.s0, h.s1, h.s2, h.s3, h.n0, h.n1, hR, by omega, by omega⟩
    · have e : runX x L = { x with beg := true, ran := x.ran + 1, tk := x.tk + 1 } := by unfold runX; rw [if_neg c3, if_neg (by rw [hran]; simp), if_pos c0]
      rw [e]
      have o1 : x.sec = 1 → x.tk < t.l := fun c => by
        unfold overB at f3
        rw [if_neg (by omega), if_pos c] at f3
        simp at f3
        rw [ht] at f3
        exact f3
      have o2 : x.sec = 2 → x.tk < t.lg := fun c => by
        unfold overB at f3
        rw [if_pos c] at f3
        simp at f3
        rw [ht] at f3
        exact f3
      exact ⟨h.ht, h.he, by simp; omega, by simp; omega, by simp; omega, h.sc, fun c => absurd c c0, fun c => by have := o1 c; simp; omega, fun c => by have := o2 c; simp; omega, fun c => absurd c c3, h.n0, h.n1, hR, by omega, by omega⟩
end Go.Proofs.Ytomadlopljfcmaa
