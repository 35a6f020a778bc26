/- level.Level, escapementref06.Level: a task's level. -/
import Derived.Test.YtmgcjdedgfiboaaLevS
namespace Go.Proofs.Ytmgcjdedgfiboaa
set_option linter.unusedVariables false
open Go.RowKit

set_option maxHeartbeats 400000 in
theorem level_a_in (b off n c : Nat) (D : Nat → Nat → Int) (i : Nat) (w : World) (hi : i < n) (hn : n ≤ 140737488355328) (hb : b < w.heap.size)
    (ht : ∀ i, i < n → RowT w b (off + i * 8) (D i)) :
    Calls Try.prog 14 #[.slice (some ⟨b, off, none⟩) n c, .int .i64 (i : Int)] w fun e w' => e = .returned (.int .i64 (1 + (cnt D (D i 1) n : Nat))) ∧ Below w.heap.size w w' := by
  go_enter Try.func14, Try.ntmps14
  have Ht := Lib.hid ht
  clear ht
  go_wp2
  go_loopw [5, 18] (fun v x wr => ∃ k : Nat, k ≤ n ∧ x = .int .i64 k ∧ v = .int .i64 (1 + (cnt D (D i 1) k : Nat)) ∧ Below w.heap.size w wr) (fun _ x _ => n - (intOf x).toNat)
  case atStart => exact ⟨0, Nat.zero_le _, rfl, rfl, Below.refl _ _⟩
  case round =>
    obtain ⟨k, hk, rfl, rfl, hB⟩ := hrel
    have hcl := cnt_le D (D i 1) k
    by_cases hlt : k < n
    · obtain ⟨h0, h1, h2, h3, h4, h5, h6, h7⟩ := (Ht.out k hlt).below hB hb
      obtain ⟨_, g1, _⟩ := (Ht.out i hi).below hB hb
      have hbr : b < wr.heap.size := Nat.lt_of_lt_of_le hb hB.size
      go_wp2_with fail
      go_quiet (fail)
      by_cases hc : D i 1 < D k 1
      · have Hc : Hid (cnt D (D i 1) (k + 1) = cnt D (D i 1) k + 1) := by simp [Hid, cnt, hc]
        go_wp2
        go_roundw
        case rel => exact ⟨k + 1, by omega, rfl, by rw [Hc.out]; exact congrArg _ (by omega), below_drewN (hB.alloc hB.size _) _⟩
        case measure => simp [intOf]; omega
      · have Hc : Hid (cnt D (D i 1) (k + 1) = cnt D (D i 1) k) := by simp [Hid, cnt, hc]
        go_wp2
        go_roundw
        case rel => exact ⟨k + 1, by omega, rfl, by rw [Hc.out], below_drewN (hB.alloc hB.size _) _⟩
        case measure => simp [intOf]; omega
    · obtain rfl : k = n := by omega
      go_wp2
      go_ret
      exact ⟨rfl, hB⟩
set_option maxHeartbeats 400000 in
theorem level_b_in (b off n c : Nat) (D : Nat → Nat → Int) (i : Nat) (w : World) (hi : i < n) (hn : n ≤ 140737488355328) (hb : b < w.heap.size)
    (ht : ∀ i, i < n → RowT w b (off + i * 8) (D i)) :
    Calls Try.prog 50 #[.slice (some ⟨b, off, none⟩) n c, .int .i64 (i : Int)] w fun e w' => e = .returned (.int .i64 (1 + (cnt D (D i 1) n : Nat))) ∧ Below w.heap.size w w' := by
  go_enter Try.func50, Try.ntmps50
  have Ht := Lib.hid ht
  clear ht
  go_wp2
  go_loopw [5, 6] (fun v x wr => ∃ k : Nat, k ≤ n ∧ x = .int .i64 k ∧ v = .int .i64 (1 + (cnt D (D i 1) k : Nat)) ∧ Below w.heap.size w wr) (fun _ x _ => n - (intOf x).toNat)
  case atStart => exact ⟨0, Nat.zero_le _, rfl, rfl, Below.refl _ _⟩
  case round =>
    obtain ⟨k, hk, rfl, rfl, hB⟩ := hrel
    have hcl := cnt_le D (D i 1) k
    by_cases hlt : k < n
    · obtain ⟨_, h1, _⟩ := (Ht.out k hlt).below hB hb
      obtain ⟨_, g1, _⟩ := (Ht.out i hi).below hB hb
      have hbr : b < wr.heap.size := Nat.lt_of_lt_of_le hb hB.size
      go_wp2_with fail
      go_quiet (fail)
      by_cases hc : D i 1 < D k 1
      · have Hc : Hid (cnt D (D i 1) (k + 1) = cnt D (D i 1) k + 1) := by simp [Hid, cnt, hc]
        go_wp2
        go_roundw
        case rel => exact ⟨k + 1, by omega, rfl, by rw [Hc.out]; exact congrArg _ (by omega), below_drewN hB _⟩
        case measure => simp [intOf]; omega
      · have Hc : Hid (cnt D (D i 1) (k + 1) = cnt D (D i 1) k) := by simp [Hid, cnt, hc]
        go_wp2
        go_roundw
        case rel => exact ⟨k + 1, by omega, rfl, by rw [Hc.out], below_drewN hB _⟩
        case measure => simp [intOf]; omega
    · obtain rfl : k = n := by omega
      go_wp2
      go_ret
      exact ⟨rfl, hB⟩
theorem level_a_out (A : Option Addr) (n c : Nat) (i : Int) (w : World) (hn : n ≤ 140737488355328) (h : ¬ (0 ≤ i ∧ i < n)) :
    Calls Try.prog 14 #[.slice A n c, .int .i64 i] w fun e w' => e = .returned (.int .i64 0) ∧ Below w.heap.size w w' := by
  by_cases h1 : i < 0
  · go_enter Try.func14, Try.ntmps14
    go_wp2
    go_ret
    exact ⟨rfl, Below.refl _ _⟩
  · have h2 : (n : Int) ≤ i := by omega
    go_enter Try.func14, Try.ntmps14
    go_wp2
    go_ret
    exact ⟨rfl, Below.refl _ _⟩
theorem level_b_out (A : Option Addr) (n c : Nat) (i : Int) (w : World) (hn : n ≤ 140737488355328) (h : ¬ (0 ≤ i ∧ i < n)) :
    Calls Try.prog 50 #[.slice A n c, .int .i64 i] w fun e w' => e = .returned (.int .i64 0) ∧ Below w.heap.size w w' := by
  by_cases h1 : i < 0
  · go_enter Try.func50, Try.ntmps50
    go_wp2
    go_ret
    exact ⟨rfl, Below.refl _ _⟩
  · have h2 : (n : Int) ≤ i := by omega
    go_enter Try.func50, Try.ntmps50
    go_wp2
    go_ret
    exact ⟨rfl, Below.refl _ _⟩
theorem level_a (A : Option Addr) (n c : Nat) (D : Nat → Nat → Int) (i : Int) (w : World) (hn : n ≤ 140737488355328) (ht : TasksAt w A n D) :
    Calls Try.prog 14 #[.slice A n c, .int .i64 i] w fun e w' => e = .returned (.int .i64 (lev D n i)) ∧ Below w.heap.size w w' := by
  by_cases h : 0 ≤ i ∧ i < n
  · obtain ⟨i, rfl⟩ := Int.eq_ofNat_of_zero_le h.1
    obtain ⟨b, off, rfl, hb, hr⟩ := ht (by omega)
    rw [lev_in D n i (by omega)]
    exact level_a_in b off n c D i w (by omega) hn hb hr
  · rw [lev_out D n i h]
    exact level_a_out A n c i w hn h
theorem level_b (A : Option Addr) (n c : Nat) (D : Nat → Nat → Int) (i : Int) (w : World) (hn : n ≤ 140737488355328) (ht : TasksAt w A n D) :
    Calls Try.prog 50 #[.slice A n c, .int .i64 i] w fun e w' => e = .returned (.int .i64 (lev D n i)) ∧ Below w.heap.size w w' := by
  by_cases h : 0 ≤ i ∧ i < n
  · obtain ⟨i, rfl⟩ := Int.eq_ofNat_of_zero_le h.1
    obtain ⟨b, off, rfl, hb, hr⟩ := ht (by omega)
    rw [lev_in D n i (by omega)]
    exact level_b_in b off n c D i w (by omega) hn hb hr
  · rw [lev_out D n i h]
    exact level_b_out A n c i w hn h
end Go.Proofs.Ytmgcjdedgfiboaa
