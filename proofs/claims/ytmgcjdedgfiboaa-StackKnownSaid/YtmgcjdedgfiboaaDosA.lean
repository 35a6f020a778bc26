/- A slice of calls of layer 21. -/
import Derived.Test.YtmgcjdedgfiboaaCom
namespace Go.Proofs.Ytmgcjdedgfiboaa
set_option linter.unusedVariables false
open Go.RowKit

def DosAt (w : World) (A : Option Addr) (n : Nat) (D : Nat → Nat → Int) : Prop :=
  0 < n → ∃ b off, A = some ⟨b, off, none⟩ ∧ b < w.heap.size ∧ ∀ i, i < n → w.cell? ⟨b, off + i * 3, none⟩ = some (.int .i64 (D i 0)) ∧ w.cell? ⟨b, off + i * 3 + 1, none⟩ = some (.int .i64 (D i 1)) ∧ w.cell? ⟨b, off + i * 3 + 2, none⟩ = some (.int .i64 (D i 2))
theorem DosAt.below {w w' : World} {A : Option Addr} {n : Nat} {D : Nat → Nat → Int} (h : DosAt w A n D) (hB : Below w.heap.size w w') : DosAt w' A n D := fun hn => by
  obtain ⟨b, off, hA, hb, hr⟩ := h hn
  refine ⟨b, off, hA, Nat.lt_of_lt_of_le hb hB.size, fun i hi => ?_⟩
  obtain ⟨h0, h1, h2⟩ := hr i hi
  exact ⟨(hB.cell (p := ⟨b, _, none⟩) hb).trans h0, (hB.cell (p := ⟨b, _, none⟩) hb).trans h1, (hB.cell (p := ⟨b, _, none⟩) hb).trans h2⟩
end Go.Proofs.Ytmgcjdedgfiboaa
