/- New of both jobs, of rows of acts of any length; the law's calls in memory. -/
import Derived.Test.YtomadlopljfcmaaTwo17
import Derived.Test.YtomadlopljfcmaaJobW
import Derived.Test.YtomadlopljfcmaaBring
namespace Go.Proofs.Ytomadlopljfcmaa
set_option linter.unusedVariables false
open Go.RowKit

theorem act_long (A : Option Addr) (n c : Nat) (w : World) (hn : 32 < n) : Calls Try.prog 29 #[.slice A n c] w fun e w' => e = .returned (.tuple #[.pointer none, .int .i64 5]) ∧ w = w' := by
  have hn1 : (32 : Int) < (n : Int) := by omega
  go_enter Try.func29, Try.ntmps29
  go_wp2
  go_ret2
  exact ⟨rfl, rfl⟩
theorem ref_long (A : Option Addr) (n c : Nat) (w : World) (hn : 32 < n) : Calls Try.prog 38 #[.slice A n c] w fun e w' => e = .returned (.tuple #[.pointer none, .int .i64 5]) ∧ w = w' := by
  have hn1 : (32 : Int) < (n : Int) := by omega
  go_enter Try.func38, Try.ntmps38
  go_wp2
  go_ret2
  exact ⟨rfl, rfl⟩
theorem newbad_any {A : Option Addr} {n c : Nat} {L : List OpV} {w : World} (h : n = L.length ∧ OpsR w A L) {v : Int} (hv : newE L = v) (h0 : v ≠ 0) : Calls Try.prog 29 #[.slice A n c] w fun e w' => e = .returned (.tuple #[.pointer none, .int .i64 v]) ∧ Below w.heap.size w w' := by
  obtain ⟨rfl, h1⟩ := h
  by_cases hl : L.length ≤ 65536
  · exact (newbad_s hl h1 hv h0 (Below.refl _ _) (Nat.le_refl _)).mono fun e w' ⟨k1, k2, k3⟩ => ⟨k1, k3⟩
  · obtain rfl : 5 = v := by rw [← hv]; unfold newE; rw [if_pos (by omega)]
    exact (act_long A L.length c w (by omega)).mono fun e w' ⟨k1, k2⟩ => ⟨k1, k2 ▸ Below.refl _ _⟩
theorem newbadr_any {A : Option Addr} {n c : Nat} {L : List OpV} {w : World} (h : n = L.length ∧ OpsR w A L) {v : Int} (hv : newE L = v) (h0 : v ≠ 0) : Calls Try.prog 38 #[.slice A n c] w fun e w' => e = .returned (.tuple #[.pointer none, .int .i64 v]) ∧ Below w.heap.size w w' := by
  obtain ⟨rfl, h1⟩ := h
  by_cases hl : L.length ≤ 65536
  · exact (newbadr_s hl h1 hv h0 (Below.refl _ _) (Nat.le_refl _)).mono fun e w' ⟨k1, k2, k3⟩ => ⟨k1, k3⟩
  · obtain rfl : 5 = v := by rw [← hv]; unfold newE; rw [if_pos (by omega)]
    exact (ref_long A L.length c w (by omega)).mono fun e w' ⟨k1, k2⟩ => ⟨k1, k2 ▸ Below.refl _ _⟩
set_option maxHeartbeats 400000 in
theorem jnew_bad2 (t : TV) (A : Option Addr) (n c : Nat) (L : List OpV) (now : Int) (w : World) (h : n = L.length ∧ OpsR w A L) {v : Int} (hv : jnewE t L now = v) (h0 : v ≠ 0) :
    Calls Try.prog 6 #[.agg (tCells t), .slice A n c, .int .i64 now] w fun e w' => e = .returned (.tuple #[.pointer none, .int .i64 v]) ∧ Below w.heap.size w w' := by
  unfold tCells
  have HH := Lib.hid h
  clear h
  unfold jnewE at hv
  by_cases h1 : mayB t = false
  · rw [if_pos (.inl h1)] at hv
    subst hv
    have hC := check_no w t h1
    clear h1
    go_enter Try.func6, Try.ntmps6
    go_wp2_with (first
      | (go_at_call 28; with_reducible refine hC.mono ?_; rintro e w1 ⟨rfl, hb1, hT1⟩))
    go_ret2
    exact ⟨rfl, hb1⟩
  · have h1' : mayB t = true := by simpa using h1
    have hC := check_yes w t h1'
    by_cases h2 : now < 0
    · rw [if_pos (.inr h2)] at hv
      subst hv
      clear h1 h1'
      go_enter Try.func6, Try.ntmps6
      go_wp2_with (first
        | (go_at_call 28; with_reducible refine hC.mono ?_; rintro e w1 ⟨rfl, hb1, hT1⟩))
      go_ret2
      exact ⟨rfl, hb1⟩
    · rw [if_neg (by rintro (h | h); exact h1 h; exact h2 h)] at hv
      by_cases h3 : 1099511627776 < now
      · rw [if_pos h3] at hv
        subst hv
        clear h1 h1'
        go_enter Try.func6, Try.ntmps6
        go_wp2_with (first
          | (go_at_call 28; with_reducible refine hC.mono ?_; rintro e w1 ⟨rfl, hb1, hT1⟩))
        go_ret2
        exact ⟨rfl, hb1⟩
      · rw [if_neg h3] at hv
        have hN : ∀ W : World, Below w.heap.size w W → Calls Try.prog 29 #[.slice A n c] W fun e w' => e = .returned (.tuple #[.pointer none, .int .i64 v]) ∧ Below W.heap.size W w' := fun W hW => by
          exact newbad_any ⟨HH.out.1, HH.out.2.below hW⟩ hv h0
        have hvb : (v != 0) = true := by simp [h0]
        clear h1 h1' hv
        go_enter Try.func6, Try.ntmps6
        go_wp2_with (first
          | (go_at_call 28; with_reducible refine hC.mono ?_; rintro e w1 ⟨rfl, hb1, hT1⟩)
          | (go_at_call 29; with_reducible refine (hN _ hb1).mono ?_; rintro e w2 ⟨rfl, hb2⟩))
        go_ret2
        exact ⟨rfl, below_lift hb1 hb2 hb1.size⟩
set_option maxHeartbeats 400000 in
theorem mnew_bad2 (t : TV) (A : Option Addr) (n c : Nat) (L : List OpV) (now : Int) (w : World) (h : n = L.length ∧ OpsR w A L) {v : Int} (hv : jnewE t L now = v) (h0 : v ≠ 0) :
    Calls Try.prog 22 #[.agg (tCells t), .slice A n c, .int .i64 now] w fun e w' => e = .returned (.tuple #[.pointer none, .int .i64 v]) ∧ Below w.heap.size w w' := by
  unfold tCells
  have HH := Lib.hid h
  clear h
  unfold jnewE at hv
  by_cases h1 : mayB t = false
  · rw [if_pos (.inl h1)] at hv
    subst hv
    have hC := tasks_n w t h1
    clear h1
    go_enter Try.func22, Try.ntmps22
    go_wp2_with (go_at_call 37; with_reducible refine hC.mono ?_; rintro e w1 ⟨rfl, hb1, hT1⟩)
    go_ret2
    exact ⟨rfl, hb1⟩
  · have h1' : mayB t = true := by simpa using h1
    have hC := tasks_n w t h1'
    by_cases h2 : now < 0
    · rw [if_pos (.inr h2)] at hv
      subst hv
      clear h1 h1'
      go_enter Try.func22, Try.ntmps22
      go_wp2_with (go_at_call 37; with_reducible refine hC.mono ?_; rintro e w1 ⟨rfl, hb1, hT1⟩)
      go_ret2
      exact ⟨rfl, hb1⟩
    · rw [if_neg (by rintro (h | h); exact h1 h; exact h2 h)] at hv
      by_cases h3 : 1099511627776 < now
      · rw [if_pos h3] at hv
        subst hv
        clear h1 h1'
        go_enter Try.func22, Try.ntmps22
        go_wp2_with (go_at_call 37; with_reducible refine hC.mono ?_; rintro e w1 ⟨rfl, hb1, hT1⟩)
        go_ret2
        exact ⟨rfl, hb1⟩
      · rw [if_neg h3] at hv
        have hN : ∀ W : World, Below w.heap.size w W → Calls Try.prog 38 #[.slice A n c] W fun e w' => e = .returned (.tuple #[.pointer none, .int .i64 v]) ∧ Below W.heap.size W w' := fun W hW => by
          exact newbadr_any ⟨HH.out.1, HH.out.2.below hW⟩ hv h0
        have hvb : (v != 0) = true := by simp [h0]
        clear h1 h1' hv
        go_enter Try.func22, Try.ntmps22
        go_wp2_with (first
          | (go_at_call 37; with_reducible refine hC.mono ?_; rintro e w1 ⟨rfl, hb1, hT1⟩)
          | (go_at_call 38; with_reducible refine (hN _ hb1).mono ?_; rintro e w2 ⟨rfl, hb2⟩))
        go_ret2
        exact ⟨rfl, below_lift hb1 hb2 hb1.size⟩
/-- The law's calls in memory. -/
def D2At (w : World) (A : Option Addr) (n : Nat) (D : Nat → Nat → Int) : Prop :=
  0 < n → ∃ b off, A = some ⟨b, off, none⟩ ∧ b < w.heap.size ∧ ∀ i, i < n → w.cell? ⟨b, off + i * 2, none⟩ = some (.int .i64 (D i 0)) ∧ w.cell? ⟨b, off + i * 2 + 1, none⟩ = some (.int .i64 (D i 1))
theorem D2At.below {w w' : World} {A : Option Addr} {n : Nat} {D : Nat → Nat → Int} (h : D2At w A n D) (hB : Below w.heap.size w w') : D2At w' A n D := fun hn => by
  obtain ⟨b, off, hA, hb, hr⟩ := h hn
  refine ⟨b, off, hA, Nat.lt_of_lt_of_le hb hB.size, fun i hi => ?_⟩
  obtain ⟨h0, h1⟩ := hr i hi
  exact ⟨(hB.cell (p := ⟨b, _, none⟩) hb).trans h0, (hB.cell (p := ⟨b, _, none⟩) hb).trans h1⟩
/-- How far the counters can be behind i calls. -/
structure Bnd (x : JV) (i : Nat) : Prop where
  r : 0 ≤ x.ran ∧ x.ran ≤ i
  t : 0 ≤ x.tk ∧ x.tk ≤ i
  k : 0 ≤ x.tkn ∧ x.tkn ≤ i
section
variable {x : JV} {i : Nat} {L : List OpV}
theorem bnd_new (t : TV) (now : Int) : Bnd (newX t now) 0 := ⟨⟨Int.le_refl 0, Int.le_refl 0⟩, ⟨Int.le_refl 0, Int.le_refl 0⟩, ⟨Int.le_refl 0, Int.le_refl 0⟩⟩
theorem Bnd.sm (h : Bnd x i) (hi : i ≤ 60) : sm x.ran ∧ sm x.tk ∧ sm x.tkn := by
  obtain ⟨⟨a, b⟩, ⟨c, d⟩, ⟨e, f⟩⟩ := h
  exact ⟨⟨by omega, by omega⟩, ⟨by omega, by omega⟩, ⟨by omega, by omega⟩⟩
theorem Bnd.did (h : Bnd x i) : Bnd (didX x L) (i + 1) := by
  obtain ⟨⟨a, b⟩, ⟨c, d⟩, ⟨e, f⟩⟩ := h
  exact ⟨⟨a, by show x.ran ≤ _; omega⟩, ⟨c, by show x.tk ≤ _; omega⟩, ⟨e, by show x.tkn ≤ _; omega⟩⟩
theorem Bnd.leave (h : Bnd x i) : Bnd (leaveX x) (i + 1) := by
  obtain ⟨⟨a, b⟩, ⟨c, d⟩, ⟨e, f⟩⟩ := h
  unfold leaveX
  split
  · exact ⟨⟨a, by omega⟩, ⟨c, by omega⟩, ⟨e, by omega⟩⟩
  · exact ⟨⟨a, by show x.ran ≤ _; omega⟩, ⟨Int.le_refl 0, by show (0 : Int) ≤ _; omega⟩, ⟨e, by show x.tkn ≤ _; omega⟩⟩
theorem Bnd.run (h : Bnd x i) : Bnd (runX x L) (i + 1) := by
  obtain ⟨⟨a, b⟩, ⟨c, d⟩, ⟨e, f⟩⟩ := h
  unfold runX
  (repeat' split)
  · exact ⟨⟨a, by omega⟩, ⟨c, by omega⟩, ⟨e, by omega⟩⟩
  · exact ⟨⟨a, by omega⟩, ⟨c, by omega⟩, ⟨e, by omega⟩⟩
  · exact ⟨⟨by show 0 ≤ x.ran + 1; omega, by show x.ran + 1 ≤ _; omega⟩, ⟨by show 0 ≤ x.tk + 1; omega, by show x.tk + 1 ≤ _; omega⟩, ⟨e, by show x.tkn ≤ _; omega⟩⟩
  · exact ⟨⟨by show 0 ≤ x.ran + 1; omega, by show x.ran + 1 ≤ _; omega⟩, ⟨c, by show x.tk ≤ _; omega⟩, ⟨e, by show x.tkn ≤ _; omega⟩⟩
theorem Bnd.enter (h : Bnd x i) (s : Int) : Bnd (enterX x s) (i + 1) := by
  obtain ⟨⟨a, b⟩, ⟨c, d⟩, ⟨e, f⟩⟩ := h
  unfold enterX
  (repeat' split)
  · exact ⟨⟨a, by omega⟩, ⟨c, by omega⟩, ⟨e, by omega⟩⟩
  · exact ⟨⟨a, by show x.ran ≤ _; omega⟩, ⟨c, by show x.tk ≤ _; omega⟩, ⟨e, by show x.tkn ≤ _; omega⟩⟩
  · exact ⟨⟨a, by omega⟩, ⟨c, by omega⟩, ⟨e, by omega⟩⟩
  · exact ⟨⟨a, by omega⟩, ⟨c, by omega⟩, ⟨e, by omega⟩⟩
  · exact ⟨⟨a, by show x.ran ≤ _; omega⟩, ⟨Int.le_refl 0, by show (0 : Int) ≤ _; omega⟩, ⟨by show 0 ≤ x.tkn + 1; omega, by show x.tkn + 1 ≤ _; omega⟩⟩
  · exact ⟨⟨a, by show x.ran ≤ _; omega⟩, ⟨Int.le_refl 0, by show (0 : Int) ≤ _; omega⟩, ⟨e, by show x.tkn ≤ _; omega⟩⟩
end
theorem two_start {W0 w1 w2 : World} {j g b m h c : Nat} {x : JV} {L : List OpV} (a : JobS W0.heap.size w1 j g b x L) (hb1 : Below W0.heap.size W0 w1) (r : JobM w1.heap.size w2 m h c x L) (hb2 : Below w1.heap.size w1 w2) : Two W0 w1.heap.size w2 j g b m h c x L x L :=
  ⟨a.below hb2, r, Blk.lt a.blk, a.row.gl, a.row.bl, hb1.size, below_lift hb1 hb2 hb1.size⟩
theorem bring_5 (i : Int) : ∃ v : Int, (v = 0 ∨ v = 1 ∨ v = 2 ∨ v = 3 ∨ v = 4) ∧ ∀ W, Calls Try.prog 21 #[.int .i64 i, .int .i64 5] W fun e w' => e = .returned (.int .i64 v) ∧ W = w' :=
  ⟨i % 5, by omega, fun W => bring_c i 5 W (by omega) (by omega)⟩
end Go.Proofs.Ytomadlopljfcmaa
