/- The plain answers of layer 6: levels, uses, ceilings, of no program. -/
import Derived.Test.YtmgcjdedgfiboaaCom
namespace Go.Proofs.Ytmgcjdedgfiboaa
set_option linter.unusedVariables false
open Go.RowKit

def cnt (D : Nat → Nat → Int) (d : Int) : Nat → Nat
  | 0 => 0
  | k + 1 => cnt D d k + if d < D k 1 then 1 else 0
theorem cnt_le (D : Nat → Nat → Int) (d : Int) (k : Nat) : cnt D d k ≤ k := by
  induction k with
  | zero => simp [cnt]
  | succ k ih => simp only [cnt]; split <;> omega
/-- The level of task i among n. -/
def lev (D : Nat → Nat → Int) (n : Nat) (i : Int) : Int := if 0 ≤ i ∧ i < n then 1 + (cnt D (D i.toNat 1) n : Nat) else 0
theorem lev_in (D : Nat → Nat → Int) (n i : Nat) (h : i < n) : lev D n (i : Int) = 1 + (cnt D (D i 1) n : Nat) := by
  unfold lev; rw [if_pos ⟨by omega, by omega⟩]; simp
theorem lev_out (D : Nat → Nat → Int) (n : Nat) (i : Int) (h : ¬ (0 ≤ i ∧ i < n)) : lev D n i = 0 := by
  unfold lev; rw [if_neg h]
theorem lev_bd (D : Nat → Nat → Int) (n : Nat) (i : Int) : 0 ≤ lev D n i ∧ lev D n i ≤ 1 + n := by
  unfold lev; split
  · have := cnt_le D (D i.toNat 1) n; omega
  · omega
/-- Bit r of a number. -/
def bitB (x : Int) (r : Nat) : Bool := bits .and .i64 x (wrap64 (2 ^ r)) != 0
theorem bits_and (x y : Int) : bits .and .i64 x y = wrap64 (((x % 18446744073709551616).toNat &&& (y % 18446744073709551616).toNat : Nat) : Int) := by
  show IntKind.i64.wrap ((BitVec.ofInt 64 x &&& BitVec.ofInt 64 y).toNat : Int) = _
  have h2 : (((2 : Nat) ^ 64 : Nat) : Int) = 18446744073709551616 := by decide
  rw [BitVec.toNat_and, BitVec.toNat_ofInt, BitVec.toNat_ofInt, IntKind.wrap_i64, h2]
  unfold wrap64
  omega
theorem bit_two (m r : Nat) : m &&& 2 ^ r = if m / 2 ^ r % 2 = 1 then 2 ^ r else 0 := by
  apply Nat.eq_of_testBit_eq
  intro j
  rw [Nat.testBit_and, Nat.testBit_two_pow]
  by_cases hj : r = j
  · subst hj
    by_cases h : m / 2 ^ r % 2 = 1
    · simp [h, Nat.testBit_eq_decide_div_mod_eq, Nat.div_self (Nat.two_pow_pos r)]
    · simp [h, Nat.testBit_eq_decide_div_mod_eq]
  · by_cases h : m / 2 ^ r % 2 = 1
    · simp [h, hj]
    · simp [h, hj]
theorem bitB_eq (x : Int) (r : Nat) (h : r < 8) : bitB x r = decide (x / 2 ^ r % 2 = 1) := by
  unfold bitB
  rw [bits_and]
  have hw : (wrap64 (2 ^ r) % 18446744073709551616).toNat = 2 ^ r := by
    unfold wrap64
    match r, h with
    | 0, _ | 1, _ | 2, _ | 3, _ | 4, _ | 5, _ | 6, _ | 7, _ => rfl
  rw [hw, bit_two]
  have e : ((x % 18446744073709551616).toNat / 2 ^ r % 2 = 1) ↔ (x / 2 ^ r % 2 = 1) := by
    match r, h with
    | 0, _ | 1, _ | 2, _ | 3, _ | 4, _ | 5, _ | 6, _ | 7, _ => simp only [Nat.reducePow, Int.reducePow]; omega
  by_cases hx : x / 2 ^ r % 2 = 1
  · rw [if_pos (e.2 hx), decide_eq_true hx]
    match r, h with
    | 0, _ | 1, _ | 2, _ | 3, _ | 4, _ | 5, _ | 6, _ | 7, _ => unfold wrap64; decide
  · rw [if_neg (fun q => hx (e.1 q)), decide_eq_false hx]; unfold wrap64; decide
theorem bitB_shr (x : Int) (r : Nat) (h : r < 8) : (bits .and .i64 (x / 2 ^ r) 1 == 1) = bitB x r := by
  rw [bitB_eq x r h, bits_and]
  generalize x / 2 ^ r = y
  have e : ((y % 18446744073709551616).toNat &&& ((1 : Int) % 18446744073709551616).toNat) = (y % 2).toNat := by
    show ((y % 18446744073709551616).toNat &&& 1) = _
    rw [Nat.and_one_is_mod]; omega
  rw [e]
  unfold wrap64
  by_cases hy : y % 2 = 1
  · rw [decide_eq_true hy, hy]; decide
  · have h0 : y % 2 = 0 := by omega
    rw [decide_eq_false hy, h0]; decide
/-- Whether task i uses resource r. -/
def usesB (D : Nat → Nat → Int) (n : Nat) (i r : Int) : Bool := if 0 ≤ i ∧ i < n ∧ 0 ≤ r ∧ r < 8 then bitB (D i.toNat 3) r.toNat else false
theorem usesB_in (D : Nat → Nat → Int) (n i r : Nat) (hi : i < n) (hr : r < 8) : usesB D n i r = bitB (D i 3) r := by
  unfold usesB; rw [if_pos ⟨by omega, by omega, by omega, by omega⟩]; simp
theorem usesB_out (D : Nat → Nat → Int) (n : Nat) (i r : Int) (h : ¬ (0 ≤ i ∧ i < n ∧ 0 ≤ r ∧ r < 8)) : usesB D n i r = false := by
  unfold usesB; rw [if_neg h]
/-- The ceiling of a resource, over the first k tasks; over all. -/
def ceilK (D : Nat → Nat → Int) (n : Nat) (r : Int) : Nat → Int
  | 0 => 0
  | k + 1 => max (ceilK D n r k) (if usesB D n k r then lev D n k else 0)
def ceil (D : Nat → Nat → Int) (n : Nat) (r : Int) : Int := ceilK D n r n
theorem ceilK_bd (D : Nat → Nat → Int) (n : Nat) (r : Int) (k : Nat) : 0 ≤ ceilK D n r k ∧ ceilK D n r k ≤ 1 + n := by
  induction k with
  | zero => exact ⟨by simp [ceilK], by simp only [ceilK]; omega⟩
  | succ k ih =>
    have := lev_bd D n k
    simp only [ceilK]
    split <;> omega
def highK (D : Nat → Nat → Int) (n : Nat) (R : Nat → Int) : Nat → Int
  | 0 => 0
  | k + 1 => max (highK D n R k) (ceil D n (R k))
theorem highK_bd (D : Nat → Nat → Int) (n : Nat) (R : Nat → Int) (k : Nat) : 0 ≤ highK D n R k ∧ highK D n R k ≤ 1 + n := by
  induction k with
  | zero => exact ⟨by simp [highK], by simp only [highK]; omega⟩
  | succ k ih =>
    have := ceilK_bd D n (R k) n
    simp only [highK, ceil]
    omega
end Go.Proofs.Ytmgcjdedgfiboaa
