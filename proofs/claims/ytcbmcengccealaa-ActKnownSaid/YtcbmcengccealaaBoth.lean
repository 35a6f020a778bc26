/- Both rows at once; places that may be written; truths in memory. -/
import Derived.Test.YtcbmcengccealaaRefD
import Derived.Test.YtcbmcengccealaaWorks
namespace Go.Proofs.Ytcbmcengccealaa
set_option linter.unusedVariables false
open Go.RowKit

/-- The program's row and the document's, apart from each other. -/
structure Both (B : Nat) (w : World) (g b g' b' : Nat) (L L' : List OpV) : Prop where
  a : Std B w g b L
  r : StdR B w g' b' L'
  d1 : ¬ two g b g'
  d2 : ¬ two g b b'
  d3 : ¬ two g' b' g
  d4 : ¬ two g' b' b
section
variable {B g b g' b' : Nat} {L L' M : List OpV} {w0 w w' : World}
theorem Both.alloc (h : Both B w g b g' b' L L') (o : Obj) : Both B (w.alloc o) g b g' b' L L' := ⟨h.a.alloc o, h.r.alloc o, h.d1, h.d2, h.d3, h.d4⟩
theorem Both.below (h : Both B w g b g' b' L L') (k : Below w.heap.size w w') : Both B w' g b g' b' L L' := ⟨h.a.below k, h.r.below k, h.d1, h.d2, h.d3, h.d4⟩
theorem Both.left (h : Both B w g b g' b' L L') (s : Std B w' g b M) (k : Keeps (two g b) w w') : Both B w' g b g' b' M L' := ⟨s, h.r.keeps k h.d1 h.d2, h.d1, h.d2, h.d3, h.d4⟩
theorem Both.right (h : Both B w g b g' b' L L') (s : StdR B w' g' b' M) (k : Keeps (two g' b') w w') : Both B w' g b g' b' L M := ⟨h.a.keeps k h.d3 h.d4, s, h.d1, h.d2, h.d3, h.d4⟩
/-- A block that is none of the rows'. -/
def Both.Off (g b g' b' : Nat) (k : Nat) : Prop := g ≠ k ∧ b ≠ k ∧ g' ≠ k ∧ b' ≠ k
theorem Both.off (h : Both B w g b g' b' L L') {k : Nat} (hk : w.heap.size ≤ k) : Both.Off g b g' b' k := by
  have := h.a.gl; have := h.a.bl; have := h.r.gl; have := h.r.bl
  exact ⟨by omega, by omega, by omega, by omega⟩
theorem Both.setCell (h : Both B w g b g' b' L L') {p : Addr} (hp : Both.Off g b g' b' p.block) (u : Value) : Both B (w.setCell p u) g b g' b' L L' :=
  ⟨h.a.setCell hp.1 hp.2.1 u, h.r.setCell hp.2.2.1 hp.2.2.2 u, h.d1, h.d2, h.d3, h.d4⟩
end
/-- A slice's places, from block B on. -/
def Slots (w : World) (B : Nat) (A : Option Addr) (n b : Nat) : Prop := 0 < n → ∃ off C, A = some ⟨b, off, none⟩ ∧ B ≤ b ∧ Blk w b 23 C ∧ off + n * 3 ≤ C.size
section
variable {w w' : World} {B b n c : Nat} {A : Option Addr} {L : List OpV}
theorem FreshOps.slots (h : FreshOps w B A c b L) : Slots w B A L.length b := fun hn => by
  have hL : L ≠ [] := by intro e; simp [e] at hn
  have hA : A ≠ none := fun e => hL (h.2.2.1 e).1
  obtain ⟨h1, h2, ⟨C, hC⟩, h3⟩ := h.2.2.2 hA
  refine ⟨0, C, h2, h1, hC, ?_⟩
  have hx : L[L.length - 1]? = some L[L.length - 1] := List.getElem?_eq_getElem (by omega)
  have := (h3 _ _ hx).2.2
  rw [hC.cell] at this
  have hlt := (Array.getElem?_eq_some_iff.1 this).1
  omega
theorem Slots.below (h : Slots w B A n b) (k : Below w.heap.size w w') : Slots w' B A n b := fun hn => by
  obtain ⟨off, C, h1, h2, h3, h4⟩ := h hn
  exact ⟨off, C, h1, h2, h3.below k h3.lt, h4⟩
theorem Slots.at_ (h : Slots w B A n b) {k : Nat} (hk : k < n) : ∃ off v0 v1 v2, A = some ⟨b, off, none⟩ ∧ B ≤ b ∧
    w.cell? ⟨b, off + k * 3, none⟩ = some v0 ∧ w.cell? ⟨b, off + k * 3 + 1, none⟩ = some v1 ∧ w.cell? ⟨b, off + k * 3 + 2, none⟩ = some v2 ∧
    w.frozen? ⟨b, off + k * 3, none⟩ = false ∧ w.frozen? ⟨b, off + k * 3 + 1, none⟩ = false ∧ w.frozen? ⟨b, off + k * 3 + 2, none⟩ = false := by
  obtain ⟨off, C, h1, h2, h3, h4⟩ := h (by omega)
  have hc : ∀ j, j < C.size → w.cell? ⟨b, j, none⟩ = some (C.getD j undef) := fun j hj => by rw [h3.cell, Array.getD_eq_getD_getElem?, Array.getElem?_eq_getElem hj]; rfl
  exact ⟨off, _, _, _, h1, h2, hc _ (by omega), hc _ (by omega), hc _ (by omega), h3.frozen _, h3.frozen _, h3.frozen _⟩
theorem Slots.set_ (h : Slots w B A n b) (i : Nat) (u : Value) : Slots (w.setCell ⟨b, i, none⟩ u) B A n b := fun hn => by
  obtain ⟨off, C, h1, h2, h3, h4⟩ := h hn
  exact ⟨off, _, h1, h2, h3.set_ i u, by simpa using h4⟩
end
/-- A slice value that holds n truths. -/
def BoolsAt (w : World) (A : Option Addr) (n : Nat) (R : Nat → Bool) : Prop :=
  0 < n → ∃ b off, A = some ⟨b, off, none⟩ ∧ b < w.heap.size ∧ ∀ i, i < n → w.cell? ⟨b, off + i, none⟩ = some (.bool (R i))
theorem BoolsAt.below {w w' : World} {A : Option Addr} {n : Nat} {R : Nat → Bool} (h : BoolsAt w A n R) (hB : Below w.heap.size w w') : BoolsAt w' A n R := fun hn => by
  obtain ⟨b, off, hA, hb, hr⟩ := h hn
  exact ⟨b, off, hA, Nat.lt_of_lt_of_le hb hB.size, fun i hi => (hB.cell hb).trans (hr i hi)⟩
/-- The first acts of a list. -/
theorem OpsR.take {w : World} {A : Option Addr} {L : List OpV} (h : OpsR w A L) (k : Nat) : OpsR w A (L.take k) := fun hL => by
  have hL' : L ≠ [] := by intro e; subst e; simp at hL
  obtain ⟨b, off, hA, hb, hx⟩ := h hL'
  refine ⟨b, off, hA, hb, fun i x hi => hx i x ?_⟩
  rw [List.getElem?_take] at hi
  split at hi
  · exact hi
  · cases hi
theorem next_v {g b : Nat} {L : List OpV} {w : World} (h : RowA w g b L) {x : OpV} {is : Bool} (hx : headOf L = x) (hi : (!L.isEmpty) = is) :
    Calls Try.prog 18 #[.pointer (some ⟨g, 0, none⟩)] w fun e w' => e = .returned (.tuple #[.agg #[.int .i64 x.k, .int .i64 x.n, .string x.s], .bool is]) ∧ Below w.heap.size w w' :=
  (next_a g b L w h).mono fun e w' ⟨he, hb⟩ => ⟨by rw [he, hx, hi]; rfl, hb⟩
theorem next_vr {g b : Nat} {L : List OpV} {w : World} (h : RowR w g b L) {x : OpV} {is : Bool} (hx : headOf L = x) (hi : (!L.isEmpty) = is) :
    Calls Try.prog 19 #[.pointer (some ⟨g, 0, none⟩)] w fun e w' => e = .returned (.tuple #[.agg #[.int .i64 x.k, .int .i64 x.n, .string x.s], .bool is]) ∧ Below w.heap.size w w' :=
  (next_r g b L w h).mono fun e w' ⟨he, hb⟩ => ⟨by rw [he, hx, hi]; rfl, hb⟩
end Go.Proofs.Ytcbmcengccealaa
