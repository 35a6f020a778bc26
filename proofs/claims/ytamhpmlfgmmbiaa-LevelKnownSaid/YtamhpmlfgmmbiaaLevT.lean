/- The statements of layer 6, walked. -/
import Derived.Test.YtamhpmlfgmmbiaaLevW
import Derived.Test.YtamhpmlfgmmbiaaBring
namespace Go.Proofs.Ytamhpmlfgmmbiaa
set_option linter.unusedVariables false
open Go.RowKit

set_option maxHeartbeats 400000 in
theorem tells_c (A : Option Addr) (n c : Nat) (D : Nat → Nat → Int) (i r : Int) (w : World) (hn : n ≤ 140737488355328) (hc : n ≤ c) (ht : TasksAt w A n D) :
    Calls Try.prog 3 #[.slice A n c, .int .i64 i, .int .i64 r] w fun e w' => e = .returned (.bool true) ∧ Below w.heap.size w w' := by
  have Ht := Lib.hid ht
  clear ht
  have hB := Below.refl w.heap.size w
  go_enter Try.func3, Try.ntmps3
  go_wp2_with (first
    | (go_at_call 8; refine (lift (a := w) (level_a A _ c D _ _ (by omega) ((Ht.out.mono (by omega)).below hB)) hB).mono ?_; clear hB; rintro e w1 ⟨rfl, hB⟩)
    | (go_at_call 9; refine (lift (a := w) (level_b A _ c D _ _ (by omega) ((Ht.out.mono (by omega)).below hB)) hB).mono ?_; clear hB; rintro e w1 ⟨rfl, hB⟩)
    | (go_at_call 10; refine (lift (a := w) (uses_a A _ c D _ _ _ (by omega) ((Ht.out.mono (by omega)).below hB)) hB).mono ?_; clear hB; rintro e w1 ⟨rfl, hB⟩)
    | (go_at_call 11; refine (lift (a := w) (uses_b A _ c D _ _ _ (by omega) ((Ht.out.mono (by omega)).below hB)) hB).mono ?_; clear hB; rintro e w1 ⟨rfl, hB⟩)
    | (go_at_call 12; refine (lift (a := w) (ceil_a A _ c D _ _ (by omega) ((Ht.out.mono (by omega)).below hB)) hB).mono ?_; clear hB; rintro e w1 ⟨rfl, hB⟩)
    | (go_at_call 13; refine (lift (a := w) (ceil_b A _ c D _ _ (by omega) ((Ht.out.mono (by omega)).below hB)) hB).mono ?_; clear hB; rintro e w1 ⟨rfl, hB⟩)
    | (go_at_call 14; refine (lift (a := w) (works_c _) hB).mono ?_; clear hB; rintro e w1 ⟨rfl, hB⟩))
  all_goals go_ret
  all_goals exact ⟨rfl, hB⟩
set_option maxHeartbeats 400000 in
theorem highest_law_c (A : Option Addr) (n c : Nat) (D : Nat → Nat → Int) (A2 : Option Addr) (m c2 : Nat) (R : Nat → Int) (w : World) (hn : n ≤ 140737488355328) (hc : n ≤ c) (hm : m ≤ 140737488355328) (hc2 : m ≤ c2) (ht : TasksAt w A n D) (hr : IntsAt w A2 m R) :
    Calls Try.prog 4 #[.slice A n c, .slice A2 m c2] w fun e w' => e = .returned (.bool true) ∧ Below w.heap.size w w' := by
  have Ht := Lib.hid ht
  have Hr := Lib.hid hr
  clear ht hr
  have hB := Below.refl w.heap.size w
  by_cases h50 : (50 : Int) < n <;> by_cases h20 : (20 : Int) < m
  all_goals
    go_enter Try.func4, Try.ntmps4
    go_wp2_with fail
    go_quiet (fail)
    have hB' := below_drewN hB nq
    clear hB
    have hB := hB'
    clear hB'
    go_wp2_with (first
      | (go_at_call 15; refine (lift (a := w) (high_a A _ c D A2 _ c2 R _ (by omega) (by omega) ((Ht.out.mono (by omega)).below hB) ((Hr.out.mono (by omega)).below hB)) hB).mono ?_; clear hB; rintro e w1 ⟨rfl, hB⟩)
      | (go_at_call 16; refine (lift (a := w) (high_b A _ c D A2 _ c2 R _ (by omega) (by omega) ((Ht.out.mono (by omega)).below hB) ((Hr.out.mono (by omega)).below hB)) hB).mono ?_; clear hB; rintro e w1 ⟨rfl, hB⟩)
      | (go_at_call 14; refine (lift (a := w) (works_c _) hB).mono ?_; clear hB; rintro e w1 ⟨rfl, hB⟩))
    all_goals go_ret
    all_goals exact ⟨rfl, hB⟩
theorem cnt_lt (D : Nat → Nat → Int) (x y : Int) (n : Nat) (h : x < y) : cnt D y n ≤ cnt D x n ∧ (∀ k, k < n → D k 1 = y → cnt D y n < cnt D x n) := by
  induction n with
  | zero => exact ⟨by simp [cnt], fun k hk => by omega⟩
  | succ n ih =>
    obtain ⟨h1, h2⟩ := ih
    refine ⟨?_, fun k hk he => ?_⟩
    · simp only [cnt]; split <;> split <;> omega
    · simp only [cnt]
      by_cases hkn : k = n
      · subst hkn
        rw [he, if_neg (by omega), if_pos h]
        omega
      · have := h2 k (by omega) he
        split <;> split <;> omega
theorem lev_lt (D : Nat → Nat → Int) (n a b : Nat) (ha : a < n) (hb : b < n) : (lev D n b < lev D n a ↔ D a 1 < D b 1) ∧ (lev D n a = lev D n b ↔ D a 1 = D b 1) := by
  rw [lev_in D n a ha, lev_in D n b hb]
  rcases Int.lt_trichotomy (D a 1) (D b 1) with h | h | h
  · have := (cnt_lt D _ _ n h).2 b hb rfl
    constructor <;> constructor <;> intro <;> omega
  · rw [h]; constructor <;> constructor <;> intro <;> omega
  · have := (cnt_lt D _ _ n h).2 a ha rfl
    constructor <;> constructor <;> intro <;> omega
theorem cnt_self (D : Nat → Nat → Int) (k n : Nat) (h : k < n) : cnt D (D k 1) n < n := by
  induction n with
  | zero => omega
  | succ n ih =>
    simp only [cnt]
    by_cases hkn : k = n
    · subst hkn
      rw [if_neg (by omega)]
      have := cnt_le D (D k 1) k
      omega
    · have := ih (by omega)
      split <;> omega
theorem lev_own (D : Nat → Nat → Int) (n a : Nat) (ha : a < n) : 1 ≤ lev D n a ∧ lev D n a ≤ n := by
  rw [lev_in D n a ha]
  have := cnt_self D a n ha
  omega
set_option maxHeartbeats 800000 in
theorem order_some (b off n c : Nat) (D : Nat → Nat → Int) (i k : Int) (w : World) (hn : n ≤ 140737488355328) (hc : n ≤ c) (h0 : 0 < n) (hb : b < w.heap.size) (ht : ∀ i, i < n → RowT w b (off + i * 8) (D i)) :
    Calls Try.prog 5 #[.slice (some ⟨b, off, none⟩) n c, .int .i64 i, .int .i64 k] w fun e w' => e = .returned (.bool true) ∧ Below w.heap.size w w' := by
  have hT : TasksAt w (some ⟨b, off, none⟩) n D := fun _ => ⟨b, off, rfl, hb, ht⟩
  have Ht := Lib.hid hT
  have Hr := Lib.hid ht
  clear hT ht
  have hB := Below.refl w.heap.size w
  obtain ⟨m, hm0, hm1, hm2, hm3⟩ : ∃ m : Nat, 0 < m ∧ m ≤ 50 ∧ m ≤ n ∧ ((50 < n ∧ m = 50) ∨ (n ≤ 50 ∧ m = n)) := by
    by_cases h : 50 < n
    · exact ⟨50, by omega, by omega, by omega, .inl ⟨h, rfl⟩⟩
    · exact ⟨n, by omega, by omega, by omega, .inr ⟨by omega, rfl⟩⟩
  have hal := bringN_lt i m hm0
  have hbl := bringN_lt k m hm0
  obtain ⟨_, g1, _⟩ := Hr.out (bringN i m) (by omega)
  obtain ⟨_, g2, _⟩ := Hr.out (bringN k m) (by omega)
  have hob := lev_lt D m (bringN i m) (bringN k m) hal hbl
  have hoa := lev_lt D m (bringN k m) (bringN i m) hbl hal
  have hown := lev_own D m (bringN i m) hal
  rcases Int.lt_trichotomy (D (bringN i m) 1) (D (bringN k m) 1) with h | h | h
  · have t1 : lev D m (bringN k m) < lev D m (bringN i m) := hob.1.2 h
    have t2 : (lev D m (bringN i m) == lev D m (bringN k m)) = false := by simp; omega
    have t3 : (D (bringN i m) 1 == D (bringN k m) 1) = false := by simp; omega
    obtain ⟨o1, o2⟩ := hown
    clear hob hoa
    rcases hm3 with ⟨hm4, rfl⟩ | ⟨hm4, rfl⟩
    · skip
      go_enter Try.func5, Try.ntmps5
      go_wp2_with (first
        | (go_at_call 14; refine (lift (a := w) (works_c _) hB).mono ?_; clear hB; rintro e w1 ⟨rfl, hB⟩)
        | (go_at_call 17; refine (bring_n _ _ 50 _ rfl (by omega) (by omega)).mono ?_; rintro e w1 ⟨rfl, rfl⟩)
        | (go_at_call 8; refine (lift (a := w) (level_a _ _ c D _ _ (by omega) ((Ht.out.mono (by omega)).below hB)) hB).mono ?_; clear hB; rintro e w1 ⟨rfl, hB⟩))
      have g1 := (hB.cell hb).trans g1
      have g2 := (hB.cell hb).trans g2
      go_quiet (fail)
      go_wp2
      go_ret
      exact ⟨rfl, below_drewN hB _⟩
    · skip
      go_enter Try.func5, Try.ntmps5
      go_wp2_with (first
        | (go_at_call 14; refine (lift (a := w) (works_c _) hB).mono ?_; clear hB; rintro e w1 ⟨rfl, hB⟩)
        | (go_at_call 17; refine (bring_n _ _ _ _ rfl (by omega) (by omega)).mono ?_; rintro e w1 ⟨rfl, rfl⟩)
        | (go_at_call 8; refine (lift (a := w) (level_a _ _ c D _ _ (by omega) ((Ht.out.mono (by omega)).below hB)) hB).mono ?_; clear hB; rintro e w1 ⟨rfl, hB⟩))
      have g1 := (hB.cell hb).trans g1
      have g2 := (hB.cell hb).trans g2
      go_quiet (fail)
      go_wp2
      go_ret
      exact ⟨rfl, below_drewN hB _⟩
  · have t0 : lev D m (bringN i m) = lev D m (bringN k m) := hob.2.2 h
    have t1 : decide (lev D m (bringN k m) < lev D m (bringN i m)) = false := by simp; omega
    have t2 : (lev D m (bringN i m) == lev D m (bringN k m)) = true := by simp; omega
    have t3 : (D (bringN i m) 1 == D (bringN k m) 1) = true := by simp; omega
    have t4 : decide (D (bringN i m) 1 < D (bringN k m) 1) = false := by simp; omega
    obtain ⟨o1, o2⟩ := hown
    clear hob hoa t0 h
    rcases hm3 with ⟨hm4, rfl⟩ | ⟨hm4, rfl⟩
    · skip
      go_enter Try.func5, Try.ntmps5
      go_wp2_with (first
        | (go_at_call 14; refine (lift (a := w) (works_c _) hB).mono ?_; clear hB; rintro e w1 ⟨rfl, hB⟩)
        | (go_at_call 17; refine (bring_n _ _ 50 _ rfl (by omega) (by omega)).mono ?_; rintro e w1 ⟨rfl, rfl⟩)
        | (go_at_call 8; refine (lift (a := w) (level_a _ _ c D _ _ (by omega) ((Ht.out.mono (by omega)).below hB)) hB).mono ?_; clear hB; rintro e w1 ⟨rfl, hB⟩))
      have g1 := (hB.cell hb).trans g1
      have g2 := (hB.cell hb).trans g2
      go_quiet (fail)
      go_wp2
      go_ret
      exact ⟨rfl, below_drewN hB _⟩
    · skip
      go_enter Try.func5, Try.ntmps5
      go_wp2_with (first
        | (go_at_call 14; refine (lift (a := w) (works_c _) hB).mono ?_; clear hB; rintro e w1 ⟨rfl, hB⟩)
        | (go_at_call 17; refine (bring_n _ _ _ _ rfl (by omega) (by omega)).mono ?_; rintro e w1 ⟨rfl, rfl⟩)
        | (go_at_call 8; refine (lift (a := w) (level_a _ _ c D _ _ (by omega) ((Ht.out.mono (by omega)).below hB)) hB).mono ?_; clear hB; rintro e w1 ⟨rfl, hB⟩))
      have g1 := (hB.cell hb).trans g1
      have g2 := (hB.cell hb).trans g2
      go_quiet (fail)
      go_wp2
      go_ret
      exact ⟨rfl, below_drewN hB _⟩
  · have t0 : lev D m (bringN i m) < lev D m (bringN k m) := hoa.1.2 h
    have t1 : decide (lev D m (bringN k m) < lev D m (bringN i m)) = false := by simp; omega
    have t2 : (lev D m (bringN i m) == lev D m (bringN k m)) = false := by simp; omega
    have t3 : (D (bringN i m) 1 == D (bringN k m) 1) = false := by simp; omega
    have t4 : decide (D (bringN i m) 1 < D (bringN k m) 1) = false := by simp; omega
    obtain ⟨o1, o2⟩ := hown
    clear hob hoa t0 h
    rcases hm3 with ⟨hm4, rfl⟩ | ⟨hm4, rfl⟩
    · skip
      go_enter Try.func5, Try.ntmps5
      go_wp2_with (first
        | (go_at_call 14; refine (lift (a := w) (works_c _) hB).mono ?_; clear hB; rintro e w1 ⟨rfl, hB⟩)
        | (go_at_call 17; refine (bring_n _ _ 50 _ rfl (by omega) (by omega)).mono ?_; rintro e w1 ⟨rfl, rfl⟩)
        | (go_at_call 8; refine (lift (a := w) (level_a _ _ c D _ _ (by omega) ((Ht.out.mono (by omega)).below hB)) hB).mono ?_; clear hB; rintro e w1 ⟨rfl, hB⟩))
      have g1 := (hB.cell hb).trans g1
      have g2 := (hB.cell hb).trans g2
      go_quiet (fail)
      go_wp2
      go_ret
      exact ⟨rfl, below_drewN hB _⟩
    · skip
      go_enter Try.func5, Try.ntmps5
      go_wp2_with (first
        | (go_at_call 14; refine (lift (a := w) (works_c _) hB).mono ?_; clear hB; rintro e w1 ⟨rfl, hB⟩)
        | (go_at_call 17; refine (bring_n _ _ _ _ rfl (by omega) (by omega)).mono ?_; rintro e w1 ⟨rfl, rfl⟩)
        | (go_at_call 8; refine (lift (a := w) (level_a _ _ c D _ _ (by omega) ((Ht.out.mono (by omega)).below hB)) hB).mono ?_; clear hB; rintro e w1 ⟨rfl, hB⟩))
      have g1 := (hB.cell hb).trans g1
      have g2 := (hB.cell hb).trans g2
      go_quiet (fail)
      go_wp2
      go_ret
      exact ⟨rfl, below_drewN hB _⟩

end Go.Proofs.Ytamhpmlfgmmbiaa
