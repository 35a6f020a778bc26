/- Common words: what a call that only makes memory of its own leaves; slices of tasks and of numbers that lie in memory. -/
import Derived.Test.YtomadlopljfcmaaRows
import Derived.WalkKit
import Derived.ProofKit
import Derived.LoopTactic
import Derived.Deep.QuietTactic
import Derived.Deep.Draws
import Derived.Deep.LoopGhost
import Derived.BigQuiet
import Derived.Outline
import Derived.WalkSpells
import Derived.WalkLawsBesides
import Derived.Lib.Hide
namespace Go.Proofs.Ytomadlopljfcmaa
set_option linter.unusedVariables false
open Go.RowKit

theorem below_drewN {B : Nat} {a w : World} (h : Below B a w) (n : Nat) : Below B a (w.drewN n) := ⟨h.os, h.tape, h.output, h.size, h.block⟩
theorem below_of_drew {B : Nat} {a w : World} (h : Below B a.drew w) : Below B a w := ⟨h.os, h.tape, h.output, h.size, h.block⟩
theorem below_lift {B : Nat} {a w w' : World} (h : Below B a w) (k : Below w.heap.size w w') (hB : B ≤ w.heap.size) : Below B a w' := h.trans (k.mono hB)
/-- A callee's contract, lifted to what the caller has kept. -/
theorem lift {P : Program} {f : FuncId} {args : Array Value} {a w : World} {v : Value} (h : Calls P f args w fun e w' => e = .returned v ∧ Below w.heap.size w w')
    (hB : Below a.heap.size a w) : Calls P f args w fun e w' => e = .returned v ∧ Below a.heap.size a w' :=
  h.mono fun _ _ ⟨he, hb⟩ => ⟨he, below_lift hB hb hB.size⟩
theorem same_below {P : Program} {f : FuncId} {args : Array Value} {w : World} {v : Value} (h : Calls P f args w fun e w' => e = .returned v ∧ w = w') :
    Calls P f args w fun e w' => e = .returned v ∧ Below w.heap.size w w' := h.mono fun _ _ ⟨he, hw⟩ => ⟨he, hw ▸ Below.refl _ _⟩
theorem ret_int {k : IntKind} {a b : Int} (h : a = b) : Ending.returned (.int k a) = .returned (.int k b) := by rw [h]
theorem ret_bool {a b : Bool} (h : a = b) : Ending.returned (.bool a) = .returned (.bool b) := by rw [h]

/-- The cells of one task. -/
def RowT (w : World) (b o : Nat) (D : Nat → Int) : Prop :=
  w.cell? ⟨b, o, none⟩ = some (.int .i64 (D 0)) ∧ w.cell? ⟨b, o + 1, none⟩ = some (.int .i64 (D 1)) ∧ w.cell? ⟨b, o + 2, none⟩ = some (.int .i64 (D 2)) ∧ w.cell? ⟨b, o + 3, none⟩ = some (.int .i64 (D 3)) ∧
  w.cell? ⟨b, o + 4, none⟩ = some (.int .i64 (D 4)) ∧ w.cell? ⟨b, o + 5, none⟩ = some (.int .i64 (D 5)) ∧ w.cell? ⟨b, o + 6, none⟩ = some (.int .i64 (D 6)) ∧ w.cell? ⟨b, o + 7, none⟩ = some (.int .i64 (D 7))
theorem RowT.keep {w w' : World} {b o : Nat} {D : Nat → Int} (h : RowT w b o D) (hb : ∀ p : Addr, p.block = b → w'.cell? p = w.cell? p) : RowT w' b o D := by
  obtain ⟨h0, h1, h2, h3, h4, h5, h6, h7⟩ := h
  exact ⟨(hb _ rfl).trans h0, (hb _ rfl).trans h1, (hb _ rfl).trans h2, (hb _ rfl).trans h3, (hb _ rfl).trans h4, (hb _ rfl).trans h5, (hb _ rfl).trans h6, (hb _ rfl).trans h7⟩
theorem RowT.below {w w' : World} {b o B : Nat} {D : Nat → Int} (h : RowT w b o D) (hB : Below B w w') (hb : b < B) : RowT w' b o D := h.keep fun _ hp => hB.cell (by rw [hp]; exact hb)

/-- A slice value that holds n tasks. -/
def TasksAt (w : World) (A : Option Addr) (n : Nat) (D : Nat → Nat → Int) : Prop :=
  0 < n → ∃ b off, A = some ⟨b, off, none⟩ ∧ b < w.heap.size ∧ ∀ i, i < n → RowT w b (off + i * 8) (D i)
theorem TasksAt.below {w w' : World} {A : Option Addr} {n : Nat} {D : Nat → Nat → Int} (h : TasksAt w A n D) (hB : Below w.heap.size w w') : TasksAt w' A n D := fun hn => by
  obtain ⟨b, off, hA, hb, hr⟩ := h hn
  exact ⟨b, off, hA, Nat.lt_of_lt_of_le hb hB.size, fun i hi => (hr i hi).below hB hb⟩
theorem TasksAt.zero {w : World} {A : Option Addr} {D : Nat → Nat → Int} : TasksAt w A 0 D := fun h => absurd h (by omega)
theorem TasksAt.mono {w : World} {A : Option Addr} {n m : Nat} {D : Nat → Nat → Int} (h : TasksAt w A n D) (hm : m ≤ n) : TasksAt w A m D := fun h0 => by
  obtain ⟨b, off, hA, hb, hr⟩ := h (by omega)
  exact ⟨b, off, hA, hb, fun i hi => hr i (by omega)⟩
/-- A slice value that holds n numbers. -/
def IntsAt (w : World) (A : Option Addr) (n : Nat) (R : Nat → Int) : Prop :=
  0 < n → ∃ b off, A = some ⟨b, off, none⟩ ∧ b < w.heap.size ∧ ∀ i, i < n → w.cell? ⟨b, off + i, none⟩ = some (.int .i64 (R i))
theorem IntsAt.below {w w' : World} {A : Option Addr} {n : Nat} {D : Nat → Int} (h : IntsAt w A n D) (hB : Below w.heap.size w w') : IntsAt w' A n D := fun hn => by
  obtain ⟨b, off, hA, hb, hr⟩ := h hn
  exact ⟨b, off, hA, Nat.lt_of_lt_of_le hb hB.size, fun i hi => (hB.cell hb).trans (hr i hi)⟩
theorem IntsAt.zero {w : World} {A : Option Addr} {D : Nat → Int} : IntsAt w A 0 D := fun h => absurd h (by omega)
theorem IntsAt.mono {w : World} {A : Option Addr} {n m : Nat} {D : Nat → Int} (h : IntsAt w A n D) (hm : m ≤ n) : IntsAt w A m D := fun h0 => by
  obtain ⟨b, off, hA, hb, hr⟩ := h (by omega)
  exact ⟨b, off, hA, hb, fun i hi => hr i (by omega)⟩
end Go.Proofs.Ytomadlopljfcmaa
