/- level.Uses, escapementref06.Uses: whether a task uses a resource. -/
import Derived.Test.YtmgcjdedgfiboaaLevS
namespace Go.Proofs.Ytmgcjdedgfiboaa
set_option linter.unusedVariables false
open Go.RowKit

theorem uses_a_in (b off n c : Nat) (D : Nat → Int) (i r : Nat) (w : World) (hi : i < n) (hr : r < 8) (hn : n ≤ 140737488355328) (ht : RowT w b (off + i * 8) D) :
    Calls Try.prog 22 #[.slice (some ⟨b, off, none⟩) n c, .int .i64 (i : Int), .int .i64 (r : Int)] w fun e w' => e = .returned (.bool (bitB (D 3) r)) ∧ Below w.heap.size w w' := by
  obtain ⟨_, _, _, h3, _⟩ := ht
  go_enter Try.func22, Try.ntmps22
  go_wp2
  go_quiet (fail)
  go_wp2
  go_ret
  exact ⟨rfl, below_drewN (Below.refl _ _) _⟩
theorem uses_b_in (b off n c : Nat) (D : Nat → Int) (i r : Nat) (w : World) (hi : i < n) (hr : r < 8) (hn : n ≤ 140737488355328) (ht : RowT w b (off + i * 8) D) :
    Calls Try.prog 47 #[.slice (some ⟨b, off, none⟩) n c, .int .i64 (i : Int), .int .i64 (r : Int)] w fun e w' => e = .returned (.bool (bitB (D 3) r)) ∧ Below w.heap.size w w' := by
  have hb := bitB_shr (D 3) r hr
  obtain ⟨_, _, _, h3, _⟩ := ht
  have Hb := Lib.hid hb
  clear hb
  go_enter Try.func47, Try.ntmps47
  go_wp2
  go_ret
  exact ⟨ret_bool Hb.out, Below.refl _ _⟩
theorem uses_a_out (A : Option Addr) (n c : Nat) (i r : Int) (w : World) (hn : n ≤ 140737488355328) (h : ¬ (0 ≤ i ∧ i < n ∧ 0 ≤ r ∧ r < 8)) :
    Calls Try.prog 22 #[.slice A n c, .int .i64 i, .int .i64 r] w fun e w' => e = .returned (.bool false) ∧ Below w.heap.size w w' := by
  by_cases h1 : i < 0
  · go_enter Try.func22, Try.ntmps22
    go_wp2
    go_ret
    exact ⟨rfl, Below.refl _ _⟩
  by_cases h2 : (n : Int) ≤ i
  · go_enter Try.func22, Try.ntmps22
    go_wp2
    go_ret
    exact ⟨rfl, Below.refl _ _⟩
  by_cases h3 : r < 0
  · go_enter Try.func22, Try.ntmps22
    go_wp2
    go_ret
    exact ⟨rfl, Below.refl _ _⟩
  · have h4 : 8 ≤ r := by omega
    go_enter Try.func22, Try.ntmps22
    go_wp2
    go_ret
    exact ⟨rfl, Below.refl _ _⟩
theorem uses_b_out (A : Option Addr) (n c : Nat) (i r : Int) (w : World) (hn : n ≤ 140737488355328) (h : ¬ (0 ≤ i ∧ i < n ∧ 0 ≤ r ∧ r < 8)) :
    Calls Try.prog 47 #[.slice A n c, .int .i64 i, .int .i64 r] w fun e w' => e = .returned (.bool false) ∧ Below w.heap.size w w' := by
  by_cases h1 : i < 0
  · go_enter Try.func47, Try.ntmps47
    go_wp2
    go_ret
    exact ⟨rfl, Below.refl _ _⟩
  by_cases h2 : (n : Int) ≤ i
  · go_enter Try.func47, Try.ntmps47
    go_wp2
    go_ret
    exact ⟨rfl, Below.refl _ _⟩
  by_cases h3 : r < 0
  · go_enter Try.func47, Try.ntmps47
    go_wp2
    go_ret
    exact ⟨rfl, Below.refl _ _⟩
  · have h4 : 8 ≤ r := by omega
    go_enter Try.func47, Try.ntmps47
    go_wp2
    go_ret
    exact ⟨rfl, Below.refl _ _⟩
theorem uses_a (A : Option Addr) (n c : Nat) (D : Nat → Nat → Int) (i r : Int) (w : World) (hn : n ≤ 140737488355328) (ht : TasksAt w A n D) :
    Calls Try.prog 22 #[.slice A n c, .int .i64 i, .int .i64 r] w fun e w' => e = .returned (.bool (usesB D n i r)) ∧ Below w.heap.size w w' := by
  by_cases h : 0 ≤ i ∧ i < n ∧ 0 ≤ r ∧ r < 8
  · obtain ⟨i, rfl⟩ := Int.eq_ofNat_of_zero_le h.1
    obtain ⟨r, rfl⟩ := Int.eq_ofNat_of_zero_le h.2.2.1
    obtain ⟨b, off, rfl, hb, hr⟩ := ht (by omega)
    rw [usesB_in D n i r (by omega) (by omega)]
    exact uses_a_in b off n c (D i) i r w (by omega) (by omega) hn (hr i (by omega))
  · rw [usesB_out D n i r h]
    exact uses_a_out A n c i r w hn h
theorem uses_b (A : Option Addr) (n c : Nat) (D : Nat → Nat → Int) (i r : Int) (w : World) (hn : n ≤ 140737488355328) (ht : TasksAt w A n D) :
    Calls Try.prog 47 #[.slice A n c, .int .i64 i, .int .i64 r] w fun e w' => e = .returned (.bool (usesB D n i r)) ∧ Below w.heap.size w w' := by
  by_cases h : 0 ≤ i ∧ i < n ∧ 0 ≤ r ∧ r < 8
  · obtain ⟨i, rfl⟩ := Int.eq_ofNat_of_zero_le h.1
    obtain ⟨r, rfl⟩ := Int.eq_ofNat_of_zero_le h.2.2.1
    obtain ⟨b, off, rfl, hb, hr⟩ := ht (by omega)
    rw [usesB_in D n i r (by omega) (by omega)]
    exact uses_b_in b off n c (D i) i r w (by omega) (by omega) hn (hr i (by omega))
  · rw [usesB_out D n i r h]
    exact uses_b_out A n c i r w hn h
end Go.Proofs.Ytmgcjdedgfiboaa
