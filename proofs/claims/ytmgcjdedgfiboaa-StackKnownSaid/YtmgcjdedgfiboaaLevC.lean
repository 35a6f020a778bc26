/- level.Ceiling, Highest and the document's own: ceilings. -/
import Derived.Test.YtmgcjdedgfiboaaLevA
import Derived.Test.YtmgcjdedgfiboaaLevU
namespace Go.Proofs.Ytmgcjdedgfiboaa
set_option linter.unusedVariables false
open Go.RowKit

theorem max_form (a b : Int) : (if a < b then b else a) = max a b := by omega
/-- The function that Ceiling hands to highest. -/
theorem ceil_fn (A : Option Addr) (n c : Nat) (D : Nat → Nat → Int) (r : Int) (g h : Nat) (i : Nat) (x0 x1 x2 x3 x4 x5 x6 x7 : Int) (w : World) (hn : n ≤ 140737488355328) (ht : TasksAt w A n D)
    (hg : w.cell? ⟨g, 0, none⟩ = some (.slice A n c)) (hh : w.cell? ⟨h, 0, none⟩ = some (.int .i64 r)) (hgl : g < w.heap.size) (hhl : h < w.heap.size) :
    Calls Try.prog 46 #[.int .i64 (i : Int), .agg #[.int .i64 x0, .int .i64 x1, .int .i64 x2, .int .i64 x3, .int .i64 x4, .int .i64 x5, .int .i64 x6, .int .i64 x7], .pointer (some ⟨g, 0, none⟩), .pointer (some ⟨h, 0, none⟩)] w fun e w' =>
      e = .returned (.int .i64 (if usesB D n i r then lev D n i else 0)) ∧ Below w.heap.size w w' := by
  cases hu : usesB D n i r with
  | false =>
    have Hu := Lib.hid hu
    clear hu
    go_enter Try.func46, Try.ntmps46
    go_wp2_with (go_at_call 22; refine (lift (a := w) (uses_a A n c D i r _ hn (ht.below ((Below.refl _ _).alloc (Nat.le_refl _) _))) ((Below.refl _ _).alloc (Nat.le_refl _) _)).mono ?_; rw [Hu.out]; rintro e w1 ⟨rfl, hB⟩)
    go_ret
    exact ⟨rfl, hB⟩
  | true =>
    have Hu := Lib.hid hu
    clear hu
    go_enter Try.func46, Try.ntmps46
    go_wp2_with (first
      | (go_at_call 22; refine (lift (a := w) (uses_a A n c D i r _ hn (ht.below ((Below.refl _ _).alloc (Nat.le_refl _) _))) ((Below.refl _ _).alloc (Nat.le_refl _) _)).mono ?_; rw [Hu.out]; rintro e w1 ⟨rfl, hB⟩; have hg1 := (hB.cell (p := ⟨g, 0, none⟩) hgl).trans hg)
      | (go_at_call 14; refine (lift (a := w) (level_a A n c D i _ hn (ht.below hB)) hB).mono ?_; clear hB; rintro e w2 ⟨rfl, hB⟩))
    go_ret
    exact ⟨by simp, hB⟩
set_option maxHeartbeats 400000 in
theorem highest_c (A : Option Addr) (n c : Nat) (D : Nat → Nat → Int) (r : Int) (g h : Nat) (w : World) (hn : n ≤ 140737488355328) (ht : TasksAt w A n D)
    (hg : w.cell? ⟨g, 0, none⟩ = some (.slice A n c)) (hh : w.cell? ⟨h, 0, none⟩ = some (.int .i64 r)) (hgl : g < w.heap.size) (hhl : h < w.heap.size) :
    Calls Try.prog 45 #[.slice A n c, .func (.func 46) #[] #[.pointer (some ⟨g, 0, none⟩), .pointer (some ⟨h, 0, none⟩)]] w fun e w' =>
      e = .returned (.int .i64 (ceil D n r)) ∧ Below w.heap.size w w' := by
  have Ht := Lib.hid ht
  have Hg := Lib.hid hg
  have Hh := Lib.hid hh
  clear ht hg hh
  go_enter Try.func45, Try.ntmps45
  go_wp2
  go_loopw [4, 9] (fun v x wr => ∃ k : Nat, k ≤ n ∧ x = .int .i64 k ∧ v = .int .i64 (ceilK D n r k) ∧ Below w.heap.size w wr) (fun _ x _ => n - (intOf x).toNat)
  case atStart => exact ⟨0, Nat.zero_le _, rfl, rfl, Below.refl _ _⟩
  case round =>
    obtain ⟨k, hk, rfl, rfl, hB⟩ := hrel
    by_cases hlt : k < n
    · obtain ⟨b, off, rfl, hb, hr⟩ := Ht.out (by omega)
      obtain ⟨h0, h1, h2, h3, h4, h5, h6, h7⟩ := (hr k hlt).below hB hb
      clear hr
      have hbr : b < wr.heap.size := Nat.lt_of_lt_of_le hb hB.size
      have hgr : g < wr.heap.size := Nat.lt_of_lt_of_le hgl hB.size
      have hhr : h < wr.heap.size := Nat.lt_of_lt_of_le hhl hB.size
      go_wp2_with fail
      have hB1 := hB.alloc hB.size (.cells #[.int .i64 (D k 0), .int .i64 (D k 1), .int .i64 (D k 2), .int .i64 (D k 3), .int .i64 (D k 4), .int .i64 (D k 5), .int .i64 (D k 6), .int .i64 (D k 7)] 48)
      refine (lift (a := w) (ceil_fn (some ⟨b, off, none⟩) n c D r g h k _ _ _ _ _ _ _ _ _ hn (Ht.out.below hB1) ((hB1.cell (p := ⟨g, 0, none⟩) hgl).trans Hg.out) ((hB1.cell (p := ⟨h, 0, none⟩) hhl).trans Hh.out) (Nat.lt_of_lt_of_le hgl hB1.size) (Nat.lt_of_lt_of_le hhl hB1.size)) hB1).mono ?_
      clear hB hB1 h0 h1 h2 h3 h4 h5 h6 h7 hbr hgr hhr
      rintro e w1 ⟨rfl, hB⟩
      go_wp2
      go_roundw
      case rel => exact ⟨k + 1, by omega, rfl, by rw [max_form]; rfl, hB⟩
      case measure => simp [intOf]; omega
    · obtain rfl : k = n := by omega
      go_wp2
      go_ret
      exact ⟨rfl, hB⟩
theorem ceil_a (A : Option Addr) (n c : Nat) (D : Nat → Nat → Int) (r : Int) (w : World) (hn : n ≤ 140737488355328) (ht : TasksAt w A n D) :
    Calls Try.prog 31 #[.slice A n c, .int .i64 r] w fun e w' => e = .returned (.int .i64 (ceil D n r)) ∧ Below w.heap.size w w' := by
  go_enter Try.func31, Try.ntmps31
  have hmf : ∀ (fn : Fn) (first cap : Array Value) (w : World), (Instr.makeFunc fn first cap).run Try.prog w = .ok (.func fn first cap) w := fun _ _ _ _ => rfl
  go_wp2_with fail
  have hB : Below w.heap.size w ((w.alloc (.cells #[.slice A n c] 22)).alloc (.cells #[.int .i64 r] 3)) := ((Below.refl _ _).alloc (Nat.le_refl _) _).alloc (by simp) _
  refine (lift (a := w) (highest_c A n c D r w.heap.size (w.heap.size + 1) _ hn (ht.below hB) ?h1 ?h2 ?h3 ?h4) hB).mono ?_
  case h1 => rw [World.cell?_alloc_past _ _ _ (by simp), World.cell?_alloc_at _ _ _ _ rfl]; rfl
  case h2 => rw [World.cell?_alloc_at _ _ _ _ (by simp)]; rfl
  case h3 => simp; omega
  case h4 => simp
  clear hB
  rintro e w1 ⟨rfl, hB⟩
  go_wp2
  go_ret
  exact ⟨rfl, hB⟩
set_option maxHeartbeats 400000 in
theorem ceil_b (A : Option Addr) (n c : Nat) (D : Nat → Nat → Int) (r : Int) (w : World) (hn : n ≤ 140737488355328) (ht : TasksAt w A n D) :
    Calls Try.prog 48 #[.slice A n c, .int .i64 r] w fun e w' => e = .returned (.int .i64 (ceil D n r)) ∧ Below w.heap.size w w' := by
  go_enter Try.func48, Try.ntmps48
  go_wp2
  go_loopw [5, 6] (fun v x wr => ∃ k : Nat, k ≤ n ∧ x = .int .i64 k ∧ v = .int .i64 (ceilK D n r k) ∧ Below w.heap.size w wr) (fun _ x _ => n - (intOf x).toNat)
  case atStart => exact ⟨0, Nat.zero_le _, rfl, rfl, Below.refl _ _⟩
  case round =>
    obtain ⟨k, hk, rfl, rfl, hB⟩ := hrel
    have hbd := ceilK_bd D n r k
    by_cases hlt : k < n
    · cases hu : usesB D n k r with
      | false =>
        have Hu := Lib.hid hu
        clear hu
        go_wp2_with (go_at_call 47; refine (lift (a := w) (uses_b A n c D k r _ hn (ht.below hB)) hB).mono ?_; rw [Hu.out]; clear hB; rintro e w1 ⟨rfl, hB⟩)
        go_roundw
        case rel => exact ⟨k + 1, by omega, rfl, by simp only [ceilK, Hu.out]; exact congrArg _ (by simp; omega), hB⟩
        case measure => simp [intOf]; omega
      | true =>
        have Hu := Lib.hid hu
        clear hu
        go_wp2_with (first
          | (go_at_call 47; refine (lift (a := w) (uses_b A n c D k r _ hn (ht.below hB)) hB).mono ?_; rw [Hu.out]; clear hB; rintro e w1 ⟨rfl, hB⟩)
          | (go_at_call 50; refine (lift (a := w) (level_b A n c D k _ hn (ht.below hB)) hB).mono ?_; clear hB; rintro e w1 ⟨rfl, hB⟩))
        go_roundw
        case rel => exact ⟨k + 1, by omega, rfl, by simp only [ceilK, Hu.out, max_form]; rfl, hB⟩
        case measure => simp [intOf]; omega
    · obtain rfl : k = n := by omega
      go_wp2
      go_ret
      exact ⟨rfl, hB⟩
/-- The function that Highest hands to highest. -/
theorem high_fn (A : Option Addr) (n c : Nat) (D : Nat → Nat → Int) (r : Int) (g : Nat) (i : Nat) (w : World) (hn : n ≤ 140737488355328) (ht : TasksAt w A n D)
    (hg : w.cell? ⟨g, 0, none⟩ = some (.slice A n c)) :
    Calls Try.prog 33 #[.int .i64 (i : Int), .int .i64 r, .pointer (some ⟨g, 0, none⟩)] w fun e w' =>
      e = .returned (.int .i64 (ceil D n r)) ∧ Below w.heap.size w w' := by
  go_enter Try.func33, Try.ntmps33
  go_wp2_with (go_at_call 31; refine (ceil_a A n c D r _ hn ht).mono ?_; rintro e w1 ⟨rfl, hB⟩)
  go_ret
  exact ⟨rfl, hB⟩
set_option maxHeartbeats 400000 in
theorem highest_h (A : Option Addr) (n c : Nat) (D : Nat → Nat → Int) (A2 : Option Addr) (m c2 : Nat) (R : Nat → Int) (g : Nat) (w : World) (hn : n ≤ 140737488355328) (hm : m ≤ 140737488355328) (ht : TasksAt w A n D)
    (hr : IntsAt w A2 m R) (hg : w.cell? ⟨g, 0, none⟩ = some (.slice A n c)) (hgl : g < w.heap.size) :
    Calls Try.prog 32 #[.slice A2 m c2, .func (.func 33) #[] #[.pointer (some ⟨g, 0, none⟩)]] w fun e w' =>
      e = .returned (.int .i64 (highK D n R m)) ∧ Below w.heap.size w w' := by
  have Ht := Lib.hid ht
  have Hr := Lib.hid hr
  have Hg := Lib.hid hg
  clear ht hg hr
  go_enter Try.func32, Try.ntmps32
  go_wp2
  go_loopw [4, 9] (fun v x wr => ∃ k : Nat, k ≤ m ∧ x = .int .i64 k ∧ v = .int .i64 (highK D n R k) ∧ Below w.heap.size w wr) (fun _ x _ => m - (intOf x).toNat)
  case atStart => exact ⟨0, Nat.zero_le _, rfl, rfl, Below.refl _ _⟩
  case round =>
    obtain ⟨k, hk, rfl, rfl, hB⟩ := hrel
    by_cases hlt : k < m
    · obtain ⟨b, off, rfl, hb, hr⟩ := Hr.out (by omega)
      have h0 := (hB.cell (p := ⟨b, off + k, none⟩) hb).trans (hr k hlt)
      clear hr
      go_wp2_with fail
      refine (lift (a := w) (high_fn A n c D (R k) g k _ hn (Ht.out.below hB) ((hB.cell (p := ⟨g, 0, none⟩) hgl).trans Hg.out)) hB).mono ?_
      clear hB h0
      rintro e w1 ⟨rfl, hB⟩
      go_wp2
      go_roundw
      case rel => exact ⟨k + 1, by omega, rfl, by rw [max_form]; rfl, hB⟩
      case measure => simp [intOf]; omega
    · obtain rfl : k = m := by omega
      go_wp2
      go_ret
      exact ⟨rfl, hB⟩
theorem high_a (A : Option Addr) (n c : Nat) (D : Nat → Nat → Int) (A2 : Option Addr) (m c2 : Nat) (R : Nat → Int) (w : World) (hn : n ≤ 140737488355328) (hm : m ≤ 140737488355328) (ht : TasksAt w A n D) (hr : IntsAt w A2 m R) :
    Calls Try.prog 17 #[.slice A n c, .slice A2 m c2] w fun e w' => e = .returned (.int .i64 (highK D n R m)) ∧ Below w.heap.size w w' := by
  go_enter Try.func17, Try.ntmps17
  have hmf : ∀ (fn : Fn) (first cap : Array Value) (w : World), (Instr.makeFunc fn first cap).run Try.prog w = .ok (.func fn first cap) w := fun _ _ _ _ => rfl
  go_wp2_with fail
  have hB : Below w.heap.size w (w.alloc (.cells #[.slice A n c] 22)) := (Below.refl _ _).alloc (Nat.le_refl _) _
  refine (lift (a := w) (highest_h A n c D A2 m c2 R w.heap.size _ hn hm (ht.below hB) (hr.below hB) ?h1 ?h3) hB).mono ?_
  case h1 => rw [World.cell?_alloc_at _ _ _ _ rfl]; rfl
  case h3 => simp
  clear hB
  rintro e w1 ⟨rfl, hB⟩
  go_wp2
  go_ret
  exact ⟨rfl, hB⟩
end Go.Proofs.Ytmgcjdedgfiboaa
