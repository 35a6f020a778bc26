/- LevelOrder at no task, LevelCeilings. -/
import Derived.Test.YtamhpmlfgmmbiaaLevT
namespace Go.Proofs.Ytamhpmlfgmmbiaa
set_option linter.unusedVariables false
open Go.RowKit

theorem order_none (A : Option Addr) (c : Nat) (D : Nat → Nat → Int) (i k : Int) (w : World) :
    Calls Try.prog 5 #[.slice A 0 c, .int .i64 i, .int .i64 k] w fun e w' => e = .returned (.bool true) ∧ Below w.heap.size w w' := by
  have hT : TasksAt w A 0 D := fun h => by omega
  have Ht := Lib.hid hT
  clear hT
  have hB := Below.refl w.heap.size w
  have hl : lev D 0 i = 0 := lev_out D 0 i (by omega)
  go_enter Try.func5, Try.ntmps5
  go_wp2_with (first
    | (go_at_call 14; refine (lift (a := w) (works_c _) hB).mono ?_; clear hB; rintro e w1 ⟨rfl, hB⟩)
    | (go_at_call 8; refine (lift (a := w) (level_a _ 0 c D _ _ (by omega) ((Ht.out.mono (by omega)).below hB)) hB).mono ?_; clear hB; rintro e w1 ⟨rfl, hB⟩))
  go_ret
  exact ⟨rfl, hB⟩
theorem order_c (A : Option Addr) (n c : Nat) (D : Nat → Nat → Int) (i k : Int) (w : World) (hn : n ≤ 140737488355328) (hc : n ≤ c) (ht : TasksAt w A n D) :
    Calls Try.prog 5 #[.slice A n c, .int .i64 i, .int .i64 k] w fun e w' => e = .returned (.bool true) ∧ Below w.heap.size w w' := by
  rcases Nat.eq_zero_or_pos n with rfl | h
  · exact order_none A c D i k w
  · obtain ⟨b, off, rfl, hb, hr⟩ := ht h
    exact order_some b off n c D i k w hn hc h hb hr

theorem ints1 (w : World) (x : Int) : IntsAt (w.alloc (.cells #[.int .i64 x] 3)) (some ⟨w.heap.size, 0, none⟩) 1 (fun _ => x) := fun _ => by
  refine ⟨_, 0, rfl, by simp, fun i hi => ?_⟩
  match i, hi with
  | 0, _ => rw [World.cell?_alloc_at _ _ _ _ rfl]; rfl
theorem ints2 (w : World) (x y : Int) : IntsAt (w.alloc (.cells #[.int .i64 x, .int .i64 y] 3)) (some ⟨w.heap.size, 0, none⟩) 2 (fun i => if i = 0 then x else y) := fun _ => by
  refine ⟨_, 0, rfl, by simp, fun i hi => ?_⟩
  match i, hi with
  | 0, _ | 1, _ => rw [World.cell?_alloc_at _ _ _ _ rfl]; rfl
theorem ceilK_ge (D : Nat → Nat → Int) (n : Nat) (r : Int) (k i : Nat) (hi : i < k) (hu : usesB D n i r = true) : lev D n i ≤ ceilK D n r k := by
  induction k with
  | zero => omega
  | succ k ih =>
    simp only [ceilK]
    by_cases h : i = k
    · subst h; rw [if_pos hu]; omega
    · have := ih (by omega); omega
def metK (D : Nat → Nat → Int) (n : Nat) (r c : Int) : Nat → Bool
  | 0 => c == 0
  | k + 1 => metK D n r c k || (usesB D n k r && (lev D n k == c))
theorem metK_ceil (D : Nat → Nat → Int) (n : Nat) (r : Int) (k : Nat) : metK D n r (ceilK D n r k) k = true := by
  have key : ∀ (k : Nat) (c : Int), (c = 0 ∨ ∃ i, i < k ∧ usesB D n i r = true ∧ lev D n i = c) → metK D n r c k = true := by
    intro k
    induction k with
    | zero => intro c h; rcases h with rfl | ⟨i, hi, _⟩; rfl; omega
    | succ k ih =>
      intro c h
      simp only [metK]
      rcases h with h | ⟨i, hi, hu, hl⟩
      · rw [ih c (.inl h)]; rfl
      · by_cases hk : i = k
        · subst hk; simp [hu, hl]
        · rw [ih c (.inr ⟨i, by omega, hu, hl⟩)]; rfl
  apply key
  induction k with
  | zero => exact .inl rfl
  | succ k ih =>
    simp only [ceilK]
    by_cases hu : usesB D n k r = true
    · rw [if_pos hu]
      by_cases hle : ceilK D n r k ≤ lev D n k
      · right; exact ⟨k, by omega, hu, by omega⟩
      · rw [show max (ceilK D n r k) (lev D n k) = ceilK D n r k by omega]
        rcases ih with h | ⟨i, hi, h⟩
        · exact .inl h
        · exact .inr ⟨i, by omega, h⟩
    · rw [if_neg hu]
      have := (ceilK_bd D n r k).1
      rw [show max (ceilK D n r k) 0 = ceilK D n r k by omega]
      rcases ih with h | ⟨i, hi, h⟩
      · exact .inl h
      · exact .inr ⟨i, by omega, h⟩
theorem metK_end (D : Nat → Nat → Int) (n : Nat) (r : Int) : metK D n r (ceil D n r) n = true := metK_ceil D n r n
theorem high1 (D : Nat → Nat → Int) (n : Nat) (R : Nat → Int) (r : Int) (h : R 0 = r) : highK D n R 1 = ceil D n r := by
  subst h
  have := (ceilK_bd D n (R 0) n).1
  simp only [highK, ceil] at *
  omega
theorem high2 (D : Nat → Nat → Int) (n : Nat) (R : Nat → Int) (r : Int) (h : R 0 = r) (h' : R 1 = r) : highK D n R 2 = ceil D n r := by
  rw [show highK D n R 2 = max (highK D n R 1) (ceil D n (R 1)) from rfl, high1 D n R r h, h']
  omega

set_option maxHeartbeats 800000 in
theorem ceilings_50 (A : Option Addr) (n c : Nat) (D : Nat → Nat → Int) (s : Int) (w : World) (hn : n ≤ 140737488355328) (hc : n ≤ c) (h50 : (50 : Int) < n) (ht : TasksAt w A n D) :
    Calls Try.prog 6 #[.slice A n c, .int .i64 s] w fun e w' => e = .returned (.bool true) ∧ Below w.heap.size w w' := by
  have Ht : Hid (TasksAt w A 50 D) := ht.mono (by omega)
  clear ht
  have hB := Below.refl w.heap.size w
  have hr8 := bringN_lt s 8 (by omega)
  have Hmet := Lib.hid (metK_end D 50 (bringN s 8))
  have hcb := (ceilK_bd D 50 (bringN s 8) 50).1
  go_enter Try.func6, Try.ntmps6
  go_wp2_with (first
    | (go_at_call 17; refine (bring_n _ _ 8 _ rfl (by omega) (by omega)).mono ?_; rintro e w1 ⟨rfl, rfl⟩)
    | (go_at_call 12; refine (lift (a := w) (ceil_a A 50 c D _ _ (by omega) (Ht.out.below hB)) hB).mono ?_; clear hB; rintro e w1 ⟨rfl, hB⟩))
  go_loopw [8, 7] (fun x v wr => ∃ k : Nat, k ≤ 50 ∧ x = .int .i64 k ∧ v = .bool (metK D 50 (bringN s 8) (ceil D 50 (bringN s 8)) k) ∧ Below w.heap.size w wr) (fun x _ _ => 50 - (intOf x).toNat)
  case atStart => exact ⟨0, Nat.zero_le _, rfl, rfl, hB⟩
  case round =>
    clear hB
    obtain ⟨k, hk, rfl, rfl, hB⟩ := hrel
    by_cases hlt : k < 50
    · cases hu : usesB D 50 k (bringN s 8) with
      | false =>
        have Hu := Lib.hid hu
        clear hu
        go_wp2_with (go_at_call 10; refine (lift (a := w) (uses_a A 50 c D k _ _ (by omega) (Ht.out.below hB)) hB).mono ?_; rw [Hu.out]; clear hB; rintro e w1 ⟨rfl, hB⟩)
        go_roundw
        case rel => exact ⟨k + 1, by omega, rfl, by simp [metK, Hu.out], hB⟩
        case measure => simp [intOf]; omega
      | true =>
        have hle := ceilK_ge D 50 (bringN s 8) 50 k hlt hu
        have hle' : lev D 50 k ≤ ceil D 50 (bringN s 8) := hle
        clear hle
        have Hu := Lib.hid hu
        clear hu
        cases hmk : metK D 50 (bringN s 8) (ceil D 50 (bringN s 8)) k with
        | false =>
          go_wp2_with (first
            | (go_at_call 10; refine (lift (a := w) (uses_a A 50 c D k _ _ (by omega) (Ht.out.below hB)) hB).mono ?_; rw [Hu.out]; clear hB; rintro e w1 ⟨rfl, hB⟩)
            | (go_at_call 8; refine (lift (a := w) (level_a A 50 c D k _ (by omega) (Ht.out.below hB)) hB).mono ?_; clear hB; rintro e w1 ⟨rfl, hB⟩))
          go_roundw
          case rel => exact ⟨k + 1, by omega, rfl, by simp [metK, Hu.out, hmk], hB⟩
          case measure => simp [intOf]; omega
        | true =>
          go_wp2_with (first
            | (go_at_call 10; refine (lift (a := w) (uses_a A 50 c D k _ _ (by omega) (Ht.out.below hB)) hB).mono ?_; rw [Hu.out]; clear hB; rintro e w1 ⟨rfl, hB⟩)
            | (go_at_call 8; refine (lift (a := w) (level_a A 50 c D k _ (by omega) (Ht.out.below hB)) hB).mono ?_; clear hB; rintro e w1 ⟨rfl, hB⟩))
          go_roundw
          case rel => exact ⟨k + 1, by omega, rfl, by simp [metK, Hu.out, hmk], hB⟩
          case measure => simp [intOf]; omega
    · obtain rfl : 50 = k := by omega
      rw [Hmet.out]
      go_wp2_with fail
      have hB1 := hB.alloc hB.size (.cells #[.int .i64 (bringN s 8 : Nat)] 3)
      have hR := ints1 wr (bringN s 8 : Nat)
      refine (lift (a := w) (high_a A 50 c D _ 1 1 _ _ (by omega) (by omega) (Ht.out.below hB1) hR) hB1).mono ?_
      rw [high1 D 50 _ _ rfl]
      clear hB hB1 hR
      rintro e w1 ⟨rfl, hB⟩
      go_wp2_with fail
      have hB1 := hB.alloc hB.size (.cells #[.int .i64 (bringN s 8 : Nat), .int .i64 (bringN s 8 : Nat)] 3)
      have hR := ints2 w1 (bringN s 8 : Nat) (bringN s 8 : Nat)
      refine (lift (a := w) (high_a A 50 c D _ 2 2 _ _ (by omega) (by omega) (Ht.out.below hB1) hR) hB1).mono ?_
      rw [high2 D 50 _ _ rfl rfl]
      clear hB hB1 hR
      rintro e w2 ⟨rfl, hB⟩
      go_wp2_with fail
      refine (lift (a := w) (high_a A 50 c D none 0 0 (fun _ => 0) _ (by omega) (by omega) (Ht.out.below hB) (fun h => by omega)) hB).mono ?_
      clear hB
      rintro e w3 ⟨rfl, hB⟩
      have h0 : highK D 50 (fun _ => 0) 0 = 0 := rfl
      go_wp2_with (go_at_call 14; refine (lift (a := w) (works_c _) hB).mono ?_; clear hB; rintro e w1 ⟨rfl, hB⟩)
      go_ret
      exact ⟨rfl, hB⟩

set_option maxHeartbeats 800000 in
theorem ceilings_n (A : Option Addr) (n c : Nat) (D : Nat → Nat → Int) (s : Int) (w : World) (hn : n ≤ 140737488355328) (hc : n ≤ c) (h50 : n ≤ 50) (ht : TasksAt w A n D) :
    Calls Try.prog 6 #[.slice A n c, .int .i64 s] w fun e w' => e = .returned (.bool true) ∧ Below w.heap.size w w' := by
  have Ht : Hid (TasksAt w A n D) := ht.mono (by omega)
  clear ht
  have hB := Below.refl w.heap.size w
  have hr8 := bringN_lt s 8 (by omega)
  have Hmet := Lib.hid (metK_end D n (bringN s 8))
  have hcb := (ceilK_bd D n (bringN s 8) n).1
  go_enter Try.func6, Try.ntmps6
  go_wp2_with (first
    | (go_at_call 17; refine (bring_n _ _ 8 _ rfl (by omega) (by omega)).mono ?_; rintro e w1 ⟨rfl, rfl⟩)
    | (go_at_call 12; refine (lift (a := w) (ceil_a A n c D _ _ (by omega) (Ht.out.below hB)) hB).mono ?_; clear hB; rintro e w1 ⟨rfl, hB⟩))
  go_loopw [8, 7] (fun x v wr => ∃ k : Nat, k ≤ n ∧ x = .int .i64 k ∧ v = .bool (metK D n (bringN s 8) (ceil D n (bringN s 8)) k) ∧ Below w.heap.size w wr) (fun x _ _ => n - (intOf x).toNat)
  case atStart => exact ⟨0, Nat.zero_le _, rfl, rfl, hB⟩
  case round =>
    clear hB
    obtain ⟨k, hk, rfl, rfl, hB⟩ := hrel
    by_cases hlt : k < n
    · cases hu : usesB D n k (bringN s 8) with
      | false =>
        have Hu := Lib.hid hu
        clear hu
        go_wp2_with (go_at_call 10; refine (lift (a := w) (uses_a A n c D k _ _ (by omega) (Ht.out.below hB)) hB).mono ?_; rw [Hu.out]; clear hB; rintro e w1 ⟨rfl, hB⟩)
        go_roundw
        case rel => exact ⟨k + 1, by omega, rfl, by simp [metK, Hu.out], hB⟩
        case measure => simp [intOf]; omega
      | true =>
        have hle := ceilK_ge D n (bringN s 8) n k hlt hu
        have hle' : lev D n k ≤ ceil D n (bringN s 8) := hle
        clear hle
        have Hu := Lib.hid hu
        clear hu
        cases hmk : metK D n (bringN s 8) (ceil D n (bringN s 8)) k with
        | false =>
          go_wp2_with (first
            | (go_at_call 10; refine (lift (a := w) (uses_a A n c D k _ _ (by omega) (Ht.out.below hB)) hB).mono ?_; rw [Hu.out]; clear hB; rintro e w1 ⟨rfl, hB⟩)
            | (go_at_call 8; refine (lift (a := w) (level_a A n c D k _ (by omega) (Ht.out.below hB)) hB).mono ?_; clear hB; rintro e w1 ⟨rfl, hB⟩))
          go_roundw
          case rel => exact ⟨k + 1, by omega, rfl, by simp [metK, Hu.out, hmk], hB⟩
          case measure => simp [intOf]; omega
        | true =>
          go_wp2_with (first
            | (go_at_call 10; refine (lift (a := w) (uses_a A n c D k _ _ (by omega) (Ht.out.below hB)) hB).mono ?_; rw [Hu.out]; clear hB; rintro e w1 ⟨rfl, hB⟩)
            | (go_at_call 8; refine (lift (a := w) (level_a A n c D k _ (by omega) (Ht.out.below hB)) hB).mono ?_; clear hB; rintro e w1 ⟨rfl, hB⟩))
          go_roundw
          case rel => exact ⟨k + 1, by omega, rfl, by simp [metK, Hu.out, hmk], hB⟩
          case measure => simp [intOf]; omega
    · obtain rfl : n = k := by omega
      rw [Hmet.out]
      go_wp2_with fail
      have hB1 := hB.alloc hB.size (.cells #[.int .i64 (bringN s 8 : Nat)] 3)
      have hR := ints1 wr (bringN s 8 : Nat)
      refine (lift (a := w) (high_a A n c D _ 1 1 _ _ (by omega) (by omega) (Ht.out.below hB1) hR) hB1).mono ?_
      rw [high1 D n _ _ rfl]
      clear hB hB1 hR
      rintro e w1 ⟨rfl, hB⟩
      go_wp2_with fail
      have hB1 := hB.alloc hB.size (.cells #[.int .i64 (bringN s 8 : Nat), .int .i64 (bringN s 8 : Nat)] 3)
      have hR := ints2 w1 (bringN s 8 : Nat) (bringN s 8 : Nat)
      refine (lift (a := w) (high_a A n c D _ 2 2 _ _ (by omega) (by omega) (Ht.out.below hB1) hR) hB1).mono ?_
      rw [high2 D n _ _ rfl rfl]
      clear hB hB1 hR
      rintro e w2 ⟨rfl, hB⟩
      go_wp2_with fail
      refine (lift (a := w) (high_a A n c D none 0 0 (fun _ => 0) _ (by omega) (by omega) (Ht.out.below hB) (fun h => by omega)) hB).mono ?_
      clear hB
      rintro e w3 ⟨rfl, hB⟩
      have h0 : highK D n (fun _ => 0) 0 = 0 := rfl
      go_wp2_with (go_at_call 14; refine (lift (a := w) (works_c _) hB).mono ?_; clear hB; rintro e w1 ⟨rfl, hB⟩)
      go_ret
      exact ⟨rfl, hB⟩

theorem ceilings_c (A : Option Addr) (n c : Nat) (D : Nat → Nat → Int) (s : Int) (w : World) (hn : n ≤ 140737488355328) (hc : n ≤ c) (ht : TasksAt w A n D) :
    Calls Try.prog 6 #[.slice A n c, .int .i64 s] w fun e w' => e = .returned (.bool true) ∧ Below w.heap.size w w' := by
  by_cases h : n ≤ 50
  · exact ceilings_n A n c D s w hn hc h ht
  · exact ceilings_50 A n c D s w hn hc (by omega) ht
end Go.Proofs.Ytamhpmlfgmmbiaa
