/- escapementref00.Bring: a number, brought to be from 0 to below n. -/
import Derived.Test.YtomadlopljfcmaaCom
namespace Go.Proofs.Ytomadlopljfcmaa
set_option linter.unusedVariables false
open Go.RowKit

theorem tmod_cases (i n : Int) (hn : 0 < n) : (i.tmod n < 0 ∧ i.tmod n + n = i % n) ∨ (0 ≤ i.tmod n ∧ i.tmod n = i % n) := by
  have h1 := Int.emod_nonneg i (show n ≠ 0 by omega)
  have h2 := Int.emod_lt_of_pos i hn
  rw [Int.tmod_eq_emod]
  split
  · right; omega
  · left; omega
theorem bring_c (i n : Int) (w : World) (hn : 0 < n) (hn' : n ≤ 9223372036854775807) :
    Calls Try.prog 21 #[.int .i64 i, .int .i64 n] w fun e w' => e = .returned (.int .i64 (i % n)) ∧ w = w' := by
  have h1 := Int.emod_nonneg i (show n ≠ 0 by omega)
  have h2 := Int.emod_lt_of_pos i hn
  rcases tmod_cases i n hn with ⟨h0, h⟩ | ⟨h0, h⟩
  · have H := Lib.hid h
    have Hw : Hid (wrap64 (i.tmod n + n) = i.tmod n + n) := IntWalk.wrap64_in _ (by omega)
    clear h h1 h2
    go_enter Try.func21, Try.ntmps21
    go_wp2
    go_ret
    exact ⟨ret_int (by rw [← H.out]; first | exact Hw.out | rfl), rfl⟩
  · have H := Lib.hid h
    clear h h1 h2
    go_enter Try.func21, Try.ntmps21
    go_wp2
    go_ret
    exact ⟨ret_int H.out, rfl⟩
/-- .. where n is a natural number: what it is brought to, as one. -/
def bringN (i : Int) (n : Nat) : Nat := (i % n).toNat
theorem bringN_lt (i : Int) (n : Nat) (hn : 0 < n) : bringN i n < n := by
  have h1 := Int.emod_nonneg i (show (n : Int) ≠ 0 by omega)
  have h2 := Int.emod_lt_of_pos i (show 0 < (n : Int) by omega)
  unfold bringN; omega
theorem bringN_eq (i : Int) (n : Nat) (hn : 0 < n) : i % (n : Int) = (bringN i n : Int) := by
  have h1 := Int.emod_nonneg i (show (n : Int) ≠ 0 by omega)
  unfold bringN; omega
theorem bring_n (i : Int) (m : Int) (n : Nat) (w : World) (hm : m = n) (hn : 0 < n) (hn' : n ≤ 9223372036854775807) :
    Calls Try.prog 21 #[.int .i64 i, .int .i64 m] w fun e w' => e = .returned (.int .i64 (bringN i n : Nat)) ∧ w = w' := by
  subst hm
  rw [← bringN_eq i n hn]
  exact bring_c i n w (by omega) (by omega)
end Go.Proofs.Ytomadlopljfcmaa
