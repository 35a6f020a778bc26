/- StackPlays: what the walk needs. -/
import Derived.Test.YtmgcjdedgfiboaaStep13
import Derived.Test.YtmgcjdedgfiboaaSame13
namespace Go.Proofs.Ytmgcjdedgfiboaa
set_option linter.unusedVariables false
open Go.RowKit

theorem snew_bad (A : Option Addr) (n c : Nat) (w : World) (hn : 4 < n) :
    Calls Try.prog 8 #[.slice A n c] w fun e w' => e = .returned (.tuple #[.pointer none, .int .i64 5]) ∧ w = w' := by
  have h4 : (4 : Int) < (n : Nat) := by omega
  go_enter Try.func8, Try.ntmps8
  go_wp2_with fail
  go_ret2
  exact ⟨rfl, rfl⟩
theorem dnew_bad (A : Option Addr) (n c : Nat) (w : World) (hn : 4 < n) :
    Calls Try.prog 19 #[.slice A n c] w fun e w' => e = .returned (.tuple #[.pointer none, .int .i64 5]) ∧ w = w' := by
  have h4 : (4 : Int) < (n : Nat) := by omega
  go_enter Try.func19, Try.ntmps19
  go_wp2_with fail
  go_ret2
  exact ⟨rfl, rfl⟩
/-- The row that was made of the tasks: from place k on it holds them still. -/
def InR (b0 : Nat) (w : World) (A : Option Addr) (n k : Nat) (D : Nat → Nat → Int) : Prop :=
  0 < n → ∃ g cur, A = some ⟨g, 0, none⟩ ∧ b0 ≤ g ∧ Blk w g 48 cur ∧ n * 8 ≤ cur.size ∧ ∀ i j, k ≤ i → i < n → j < 8 → cur[i * 8 + j]? = some (.int .i64 (D i j))
section
variable {B b0 s m n tc tc2 : Nat} {w w' w0 : World} {A TA TA2 : Option Addr} {D : Nat → Nat → Int} {v v' v2 : Value} {E E' E2 : List Ent} {k : Nat}
theorem InR.below (h : InR b0 w A n k D) (hB : Below w.heap.size w w') : InR b0 w' A n k D := fun hn => by
  obtain ⟨g, cur, hA, hg, hk, hs, hx⟩ := h hn
  exact ⟨g, cur, hA, hg, hk.below hB hk.lt, hs, hx⟩
theorem InR.of_own (h : w.ownsRow b0 48 8 v n (tcs D n)) : ∃ A c, v = .slice A n c ∧ n ≤ c ∧ TasksAt w A n D ∧ InR b0 w A n 0 D ∧ (∀ a, A = some a → a.block < w.heap.size) := by
  obtain ⟨A, c, rfl, k1, k2, k3, k4⟩ := own_form h
  refine ⟨A, c, rfl, k1, fun hn => ?_, fun hn => ?_, fun a ha => ?_⟩
  · cases A with
    | none => have := (k3 rfl).1; omega
    | some a =>
      obtain ⟨g, cur, rfl, hg, hk, hs, ht⟩ := k4 a rfl
      exact tasks_of hk ht hn
  · cases A with
    | none => have := (k3 rfl).1; omega
    | some a =>
      obtain ⟨g, cur, rfl, hg, hk, hs, ht⟩ := k4 a rfl
      have h8 : n * 8 ≤ c * 8 := Nat.mul_le_mul_right 8 k1
      refine ⟨g, cur, rfl, hg, hk, by omega, fun i j _ hi hj => ?_⟩
      exact take_at ht (tcs_at D hi hj)
  · obtain ⟨g, cur, rfl, hg, hk, hs, ht⟩ := k4 a ha
    exact hk.lt
/-- One place of the row that is read no more is written. -/
theorem InR.set_ {g : Nat} (h : InR b0 w (some ⟨g, 0, none⟩) n (k + 1) D) {j : Nat} (hj : j < (k + 1) * 8) (u : Value) : InR b0 (w.setCell ⟨g, j, none⟩ u) (some ⟨g, 0, none⟩) n (k + 1) D := fun hn => by
  obtain ⟨g', cur, hA, hg, hk, hs, hx⟩ := h hn
  injection hA with hA
  injection hA with hA
  subst hA
  refine ⟨g, _, rfl, hg, hk.set_ j u, by simpa using hs, fun i j' hi hn' hj' => ?_⟩
  rw [Array.getElem?_setIfInBounds_ne (by omega)]
  exact hx i j' hi hn' hj'
theorem InR.next (h : InR b0 w A n k D) : InR b0 w A n (k + 1) D := fun hn => by
  obtain ⟨g', cur, hA, hg, hk, hs, hx⟩ := h hn
  exact ⟨g', cur, hA, hg, hk, hs, fun i j hi => hx i j (by omega)⟩
theorem InR.at_ (h : InR b0 w A n k D) (hk : k < n) : ∃ g, A = some ⟨g, 0, none⟩ ∧ b0 ≤ g ∧ RowT w g (k * 8) (D k) ∧ ∀ j, w.frozen? ⟨g, j, none⟩ = false := by
  obtain ⟨g, cur, hA, hg, hb, hs, hx⟩ := h (by omega)
  exact ⟨g, hA, hg, RowT.of fun j hj => (hb.cell _).trans (hx k j (Nat.le_refl _) hk hj), hb.frozen⟩
/-- Blocks below the stacks are written. -/
theorem StA.high (h : StA B w s TA n tc D v E) (hs : w.heap.size ≤ w'.heap.size) (k : ∀ b, B ≤ b → b < w.heap.size → w'.heap[b]? = w.heap[b]?) : StA B w' s TA n tc D v E := by
  refine ⟨(k _ h.sB h.blk.lt).trans h.blk, h.sB, h.own.keep fun b hb => ?_, h.len, h.n4, fun hn => ?_, fun a ha => ?_⟩
  · obtain ⟨h1, h2, cur, hc⟩ := h.own.lt b hb
    exact k b h1 h2
  · obtain ⟨b, off, hA, hbl, hr⟩ := h.tasks hn
    obtain ⟨cs, h1, h2⟩ := h.tb _ hA
    exact ⟨b, off, hA, Nat.lt_of_lt_of_le hbl hs, fun i hi => (hr i hi).keep fun p hp => World.cell?_of_block (w := w) (by rw [hp]; exact k _ h1 hbl)⟩
  · obtain ⟨cs, h2, h3⟩ := h.tb a ha
    exact ⟨cs, h2, (k _ h2 h3.lt).trans h3⟩
theorem StM.high (h : StM B w s TA n tc D v E) (hs : w.heap.size ≤ w'.heap.size) (k : ∀ b, B ≤ b → b < w.heap.size → w'.heap[b]? = w.heap[b]?) : StM B w' s TA n tc D v E := by
  refine ⟨(k _ h.sB h.blk.lt).trans h.blk, h.sB, h.own.keep fun b hb => ?_, h.len, h.n4, fun hn => ?_, fun a ha => ?_⟩
  · obtain ⟨h1, h2, cur, hc⟩ := h.own.lt b hb
    exact k b h1 h2
  · obtain ⟨b, off, hA, hbl, hr⟩ := h.tasks hn
    obtain ⟨cs, h1, h2⟩ := h.tb _ hA
    exact ⟨b, off, hA, Nat.lt_of_lt_of_le hbl hs, fun i hi => (hr i hi).keep fun p hp => World.cell?_of_block (w := w) (by rw [hp]; exact k _ h1 hbl)⟩
  · obtain ⟨cs, h2, h3⟩ := h.tb a ha
    exact ⟨cs, h2, (k _ h2 h3.lt).trans h3⟩
theorem StM.mono {B' : Nat} (h : StM B w s TA n tc D v E) (hB : B' ≤ B) : StM B' w s TA n tc D v E :=
  ⟨h.blk, Nat.le_trans hB h.sB, h.own.mono hB, h.len, h.n4, h.tasks, fun a ha => by obtain ⟨cs, h1, h2⟩ := h.tb a ha; exact ⟨cs, Nat.le_trans hB h1, h2⟩⟩
theorem Two.low (h : Two B w s m n D E E2) {g j : Nat} (hg : g < B) (u : Value) : Two B (w.setCell ⟨g, j, none⟩ u) s m n D E E2 := by
  obtain ⟨⟨_, _, _, h1⟩, _, _, _, h2⟩ := h
  have k : ∀ b, B ≤ b → b < w.heap.size → (w.setCell ⟨g, j, none⟩ u).heap[b]? = w.heap[b]? := fun b hb _ => Below.heap_setCell w ⟨g, j, none⟩ u b (by show b ≠ g; omega)
  have hs : w.heap.size ≤ (w.setCell ⟨g, j, none⟩ u).heap.size := (Below.setCell (B := 0) (p := ⟨g, j, none⟩) (Below.refl 0 w) (Nat.zero_le _) u).size
  exact ⟨⟨_, _, _, h1.high hs k⟩, _, _, _, h2.high hs k⟩
theorem two_new {TA TA2 : Option Addr} (h1 : StA w.heap.size w0 s TA n tc D v []) (hB : Below w.heap.size w w0) (h2 : StM w0.heap.size w' m TA2 n tc2 D v2 []) (hB2 : Below w0.heap.size w0 w') : Two w.heap.size w' s m n D [] [] :=
  ⟨⟨_, _, _, h1.below hB2⟩, _, _, _, h2.mono hB.size⟩
end
end Go.Proofs.Ytmgcjdedgfiboaa
