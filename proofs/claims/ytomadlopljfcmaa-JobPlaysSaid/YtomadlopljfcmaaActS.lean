/- The plain answers of layer 16: acts, rows of acts, of no program. -/
import Derived.Test.YtomadlopljfcmaaMem
namespace Go.Proofs.Ytomadlopljfcmaa
set_option linter.unusedVariables false
open Go.RowKit

/-- An act: its kind, its number, its text. -/
structure OpV where
  k : Int
  n : Int
  s : ByteArray
/-- From where to where a kind's number may be; whether there is such a kind. -/
def spanLo (k : Int) : Int := if k = 1 ∨ k = 8 then 1 else 0
def spanHi (k : Int) : Int := if k = 1 ∨ k = 8 then 64 else if k = 2 ∨ k = 6 ∨ k = 7 then 7 else 0
def spanIs (k : Int) : Bool := decide (1 ≤ k ∧ k ≤ 8)
def textMost (k : Int) : Int := if k = 6 then 16 else 0
def okOp (x : OpV) : Bool := spanIs x.k && decide (spanLo x.k ≤ x.n) && decide (x.n ≤ spanHi x.k) && decide ((x.s.size : Int) ≤ textMost x.k)
/-- Whether an act may be, as an error's number. -/
def checkE (x : OpV) : Int := if okOp x then 0 else 2
theorem checkE_2 (x : OpV) (h : spanIs x.k = false ∨ x.n < spanLo x.k ∨ spanHi x.k < x.n ∨ textMost x.k < x.s.size) : (2 : Int) = checkE x := by
  have : okOp x = false := by
    unfold okOp
    rcases h with h | h | h | h
    · simp [h]
    · have : ¬ spanLo x.k ≤ x.n := by omega
      simp [this]
    · have : ¬ x.n ≤ spanHi x.k := by omega
      simp [this]
    · have : ¬ (x.s.size : Int) ≤ textMost x.k := by omega
      simp [this]
  simp [checkE, this]
theorem checkE_0 (x : OpV) (h1 : spanIs x.k = true) (h2 : spanLo x.k ≤ x.n) (h3 : x.n ≤ spanHi x.k) (h4 : (x.s.size : Int) ≤ textMost x.k) : (0 : Int) = checkE x := by
  simp [checkE, okOp, h1, h2, h3, h4]
theorem checkE_if (x : OpV) : checkE x = if (1 ≤ x.k ∧ x.k ≤ 8) ∧ (x.k = 1 ∨ x.k = 8 → 1 ≤ x.n ∧ x.n ≤ 64) ∧ (x.k = 2 ∨ x.k = 6 ∨ x.k = 7 → 0 ≤ x.n ∧ x.n ≤ 7) ∧ (x.k = 3 ∨ x.k = 4 ∨ x.k = 5 → x.n = 0) ∧ (x.k = 6 → x.s.size ≤ 16) ∧ (x.k ≠ 6 → x.s.size = 0) then 0 else 2 := by
  unfold checkE okOp spanIs spanLo spanHi textMost
  simp only [Bool.and_eq_true, decide_eq_true_eq]
  repeat' split
  all_goals first
    | rfl
    | (exfalso; omega)
theorem size_nonempty (s : ByteArray) (h : (!s.toList.isEmpty) = true) : 0 < s.size := by
  rcases Nat.eq_zero_or_pos s.size with h0 | h0
  · have : s.data.toList = [] := by
      apply List.eq_nil_of_length_eq_zero
      simpa using h0
    rw [ByteArray.toList_eq, this] at h
    simp at h
  · exact h0
theorem size_empty (s : ByteArray) (h : (!s.toList.isEmpty) = false) : s.size = 0 := by
  have h1 : s.data.toList = [] := by
    rw [ByteArray.toList_eq] at h
    simpa using h
  have : s.data.toList.length = 0 := by rw [h1]; rfl
  simpa using this
theorem text16 (k : Int) (h : (k == 6) = true) : textMost k = 16 := by simp at h; simp [textMost, h]
theorem text0 (k : Int) (h : (k == 6) = false) : textMost k = 0 := by simp at h; simp [textMost, h]
/-- A row that may be. -/
def OkRow (L : List OpV) : Prop := L.length ≤ 32 ∧ ∀ x ∈ L, okOp x = true
theorem ok_run (x : OpV) (h : okOp x = true) (hk : x.k = 1) : 1 ≤ x.n ∧ x.n ≤ 64 := by
  have h0 : checkE x = 0 := by simp [checkE, h]
  rw [checkE_if] at h0
  split at h0
  · omega
  · omega
theorem ok_less (x : OpV) (h : okOp x = true) (hk : x.k = 1) (hn : x.n - 1 ≠ 0) : okOp { x with n := x.n - 1 } = true := by
  have hr := ok_run x h hk
  have h0 : checkE x = 0 := by simp [checkE, h]
  have h1 : checkE { x with n := x.n - 1 } = 0 := by
    rw [checkE_if] at h0 ⊢
    split at h0
    · rw [if_pos]
      refine ⟨by simpa using (by omega : 1 ≤ x.k ∧ x.k ≤ 8), fun _ => by show 1 ≤ x.n - 1 ∧ x.n - 1 ≤ 64; omega, fun hh => ?_, fun hh => ?_, fun hh => ?_, fun hh => ?_⟩
      · have : x.k = 2 ∨ x.k = 6 ∨ x.k = 7 := hh
        omega
      · have : x.k = 3 ∨ x.k = 4 ∨ x.k = 5 := hh
        omega
      · have : x.k = 6 := hh
        omega
      · show x.s.size = 0
        omega
    · omega
  unfold checkE at h1
  split at h1
  · assumption
  · omega
theorem OkRow.tail {x : OpV} {L : List OpV} (h : OkRow (x :: L)) : OkRow L := ⟨by have := h.1; simp at this; omega, fun y hy => h.2 y (by simp [hy])⟩
theorem OkRow.head {x : OpV} {L : List OpV} (h : OkRow (x :: L)) : okOp x = true := h.2 x (by simp)
end Go.Proofs.Ytomadlopljfcmaa
