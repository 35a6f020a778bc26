/- What is put is read as it was, and the other way round; what is cut. -/
import Derived.Test.YtekcokbpgpeepaaRdD
namespace Go.Proofs.Ytekcokbpgpeepaa
set_option linter.unusedVariables false
open Go.RowKit

theorem enc_small {z : Int} (h : z < 255) : enc z = [UInt8.ofNat z.toNat] := if_pos h
theorem enc_big {z : Int} (h : ¬ z < 255) : enc z = 255 :: beK (z - 254) 8 := if_neg h
theorem ofNat_toNat {z : Int} (h0 : 0 ≤ z) (h : z ≤ 255) : ((UInt8.ofNat z.toNat).toNat : Int) = z := (byte_of z h0 h).symm
/-- The first k bytes of a number are what stands above them. -/
theorem valK_be (m : Int) (h0 : 0 ≤ m) (T : List UInt8) : ∀ k, k ≤ 8 → m < 2 ^ 64 → (valK (beK m 8 ++ T) k : Int) = m / 2 ^ (64 - 8 * k)
  | 0, _, hm => by
    have : m / 2 ^ (64 - 8 * 0) = 0 := Int.ediv_eq_zero_of_lt h0 hm
    rw [this]; rfl
  | k + 1, hk, hm => by
    have ih := valK_be m h0 T k (by omega) hm
    have hg : (beK m 8 ++ T)[k]? = some (bX m k) := by
      rw [List.getElem?_append_left (by rw [beK_length]; omega)]
      unfold beK
      rw [List.getElem?_map, List.getElem?_range (by omega)]
      rfl
    rw [valK_succ _ k _ hg]
    have hb := bX_toNat m k
    rw [Int.natCast_add, Int.natCast_mul, ih, ← hb]
    have e1 : 64 - 8 * k = (56 - 8 * k) + 8 := by omega
    have e2 : 64 - 8 * (k + 1) = 56 - 8 * k := by omega
    have e3 : m / 2 ^ (64 - 8 * k) = m / 2 ^ (56 - 8 * k) / 256 := by
      rw [e1, Int.pow_add, Int.ediv_ediv_of_nonneg (Int.le_of_lt (Int.pow_pos (by omega)))]
      rfl
    rw [e2, e3]
    generalize m / 2 ^ (56 - 8 * k) = q
    show q / 256 * 256 + q % 256 = q
    omega
theorem valK_be8 (m : Int) (h0 : 0 ≤ m) (hm : m < 2 ^ 64) (T : List UInt8) : (valK (beK m 8 ++ T) 8 : Int) = m := by
  rw [valK_be m h0 T 8 (Nat.le_refl _) hm]
  show m / 1 = m
  omega
theorem dec_enc {z : Int} (h : okN z) (T : List UInt8) {most : Int} (hm : z ≤ most) : numE (enc z ++ T) most = 0 ∧ numN (enc z ++ T) = z ∧ numS (enc z ++ T) = (enc z).length := by
  obtain ⟨h0, h1⟩ := h
  by_cases hz : z < 255
  · rw [enc_small hz]
    have hx := ofNat_toNat h0 (by omega)
    have hne : (UInt8.ofNat z.toNat).toNat ≠ 255 := by omega
    refine ⟨?_, ?_, ?_⟩
    · show numE (UInt8.ofNat z.toNat :: T) most = 0
      rw [numE_short hne, hx, if_neg (by omega)]
    · show numN (UInt8.ofNat z.toNat :: T) = z
      simp only [numN]; rw [if_neg hne, hx]
    · show numS (UInt8.ofNat z.toNat :: T) = 1
      simp only [numS]; rw [if_neg hne]
  · rw [enc_big hz]
    have hv := valK_be8 (z - 254) (by omega) (by omega) T
    have hl : (beK (z - 254) 8 ++ T).length = 8 + T.length := by rw [List.length_append, beK_length]
    refine ⟨?_, ?_, ?_⟩
    · show numE (255 :: (beK (z - 254) 8 ++ T)) most = 0
      rw [numE_long rfl, if_neg (by omega), if_neg (by omega), if_neg (by omega)]
    · show numN (255 :: (beK (z - 254) 8 ++ T)) = z
      simp only [numN]; rw [if_pos (show (255 : UInt8).toNat = 255 from rfl)]; omega
    · show numS (255 :: (beK (z - 254) 8 ++ T)) = _
      simp only [numS]; rw [if_pos (show (255 : UInt8).toNat = 255 from rfl), List.length_cons, beK_length]
/-- Cut ahead of its end. -/
theorem cut_enc {z : Int} (h : okN z) {k : Nat} (hk : k < (enc z).length) (most : Int) : numE ((enc z).take k) most = 3 := by
  obtain ⟨h0, h1⟩ := h
  cases k with
  | zero => rfl
  | succ k =>
    by_cases hz : z < 255
    · rw [enc_small hz] at hk; simp at hk
    · rw [enc_big hz] at hk ⊢
      rw [List.length_cons, beK_length] at hk
      rw [List.take_succ_cons, numE_long rfl, if_pos (by rw [List.length_take, beK_length]; omega)]
theorem enc_len (z : Int) : (enc z).length = 1 ∨ (enc z).length = 9 := by
  by_cases hz : z < 255
  · rw [enc_small hz]; exact .inl rfl
  · rw [enc_big hz]; right; rw [List.length_cons, beK_length]
theorem valK_div (R : List UInt8) (k : Nat) : ∀ i, k + i ≤ R.length → valK R (k + i) / 256 ^ i = valK R k
  | 0, _ => by simp
  | i + 1, h => by
    have ih := valK_div R k i (by omega)
    obtain ⟨x, hx⟩ : ∃ x, R[k + i]? = some x := ⟨_, List.getElem?_eq_getElem (by omega)⟩
    have hb := UInt8.toNat_lt x
    rw [show k + (i + 1) = k + i + 1 by omega, valK_succ R _ x hx, Nat.pow_succ', ← Nat.div_div_eq_div_mul, show (valK R (k + i) * 256 + x.toNat) / 256 = valK R (k + i) by omega, ih]
/-- The bytes of a number that was read. -/
theorem be_val (R : List UInt8) (h : 8 ≤ R.length) : beK (valK R 8 : Int) 8 = R.take 8 := by
  apply List.ext_getElem?
  intro j
  by_cases hj : j < 8
  · obtain ⟨x, hx⟩ : ∃ x, R[j]? = some x := ⟨_, List.getElem?_eq_getElem (by omega)⟩
    have hb := UInt8.toNat_lt x
    rw [List.getElem?_take_of_lt hj, hx]
    unfold beK
    rw [List.getElem?_map, List.getElem?_range hj]
    have hd := valK_div R (j + 1) (7 - j) (by omega)
    rw [show j + 1 + (7 - j) = 8 by omega] at hd
    have hp : (2 : Int) ^ (56 - 8 * j) = ((256 ^ (7 - j) : Nat) : Int) := by
      rw [show 56 - 8 * j = 8 * (7 - j) by omega, Int.pow_mul, Int.natCast_pow]
      rfl
    have he : (valK R 8 : Int) / 2 ^ (56 - 8 * j) % 256 = (x.toNat : Int) := by
      rw [hp, ← Int.natCast_ediv, hd, valK_succ R j x hx]
      omega
    show some (UInt8.ofNat ((valK R 8 : Int) / 2 ^ (56 - 8 * j) % 256).toNat) = some x
    rw [he]
    simp
  · rw [List.getElem?_eq_none (by rw [beK_length]; omega), List.getElem?_eq_none (by rw [List.length_take]; omega)]
theorem enc_dec (L : List UInt8) (most : Int) (h : numE L most = 0) : enc (numN L) = L.take (numS L) := by
  cases L with
  | nil => cases h
  | cons x R =>
    have hx := UInt8.toNat_lt x
    by_cases h255 : x.toNat = 255
    · rw [numE_long h255] at h
      have hlen : 8 ≤ R.length := by
        rcases Nat.lt_or_ge R.length 8 with hl | hl
        · rw [if_pos hl] at h; omega
        · exact hl
      rw [if_neg (by omega)] at h
      have hv : valK R 8 ≠ 0 := by
        intro h0
        rw [if_pos (.inl h0)] at h
        omega
      have e1 : numN (x :: R) = 254 + (valK R 8 : Int) := by simp only [numN]; rw [if_pos h255]
      have e2 : numS (x :: R) = 9 := by simp only [numS]; rw [if_pos h255]
      rw [e1, e2, enc_big (by omega), show (254 : Int) + (valK R 8 : Int) - 254 = (valK R 8 : Int) by omega, be_val R hlen, List.take_succ_cons]
      congr 1
      exact (UInt8.toNat_inj.1 (by rw [h255]; rfl)).symm
    · have e1 : numN (x :: R) = x.toNat := by simp only [numN]; rw [if_neg h255]
      have e2 : numS (x :: R) = 1 := by simp only [numS]; rw [if_neg h255]
      rw [e1, e2, enc_small (by omega)]
      simp
theorem numE_max (L : List UInt8) : numE L 9007199254740991 = 0 ∨ numE L 9007199254740991 = 3 ∨ numE L 9007199254740991 = 4 := by
  cases L with
  | nil => exact .inr (.inl rfl)
  | cons x R =>
    have hx := UInt8.toNat_lt x
    by_cases h255 : x.toNat = 255
    · rw [numE_long h255]
      split
      · exact .inr (.inl rfl)
      · split
        · exact .inr (.inr rfl)
        · rw [if_neg (by omega)]; exact .inl rfl
    · rw [numE_short h255, if_neg (by omega)]; exact .inl rfl
end Go.Proofs.Ytekcokbpgpeepaa
