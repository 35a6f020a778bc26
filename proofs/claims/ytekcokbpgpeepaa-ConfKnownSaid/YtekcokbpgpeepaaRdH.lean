/- The document's reader: fail, Num, End, Read. -/
import Derived.Test.YtekcokbpgpeepaaRdG
namespace Go.Proofs.Ytekcokbpgpeepaa
set_option linter.unusedVariables false
open Go.RowKit

/-- The document's reader, whose bytes lie below block B. -/
structure RdDA (B : Nat) (w : World) (g : Nat) (A : Option Addr) (c : Nat) (L : List UInt8) (e : Int) : Prop where
  blk : Blk w g 82 #[.slice A L.length c, .int .i64 e]
  src : L ≠ [] → ∃ b off, A = some ⟨b, off, none⟩ ∧ b < B ∧ b < w.heap.size ∧ b ≠ g ∧ ∀ i x, L[i]? = some x → w.cell? ⟨b, off + i, none⟩ = some (.int .u8 (x.toNat : Int))
  cap : L.length ≤ c
  lim : c ≤ 9223372036854775807
def RdD (B : Nat) (w : World) (g : Nat) (L : List UInt8) (e : Int) : Prop := ∃ A c, RdDA B w g A c L e
theorem RdD.blk {B g : Nat} {w : World} {L : List UInt8} {e : Int} (h : RdD B w g L e) : ∃ v, Blk w g 82 #[v, .int .i64 e] := by
  obtain ⟨A, c, h⟩ := h
  exact ⟨_, h.blk⟩
theorem RdD.keep {B g : Nat} {w w' : World} {L : List UInt8} {e : Int} {S : Nat → Prop} (h : RdD B w g L e) (k : Keeps S w w') (hg : ¬ S g) (hS : ∀ i, i < B → ¬ S i) : RdD B w' g L e := by
  obtain ⟨A, c, h⟩ := h
  refine ⟨A, c, (k.block g h.blk.lt hg).trans h.blk, fun hL => ?_, h.cap, h.lim⟩
  obtain ⟨b, off, h1, h2, h3, h4, h5⟩ := h.src hL
  exact ⟨b, off, h1, h2, Nat.lt_of_lt_of_le h3 k.size, h4, fun i x hi => (k.cell (p := ⟨b, off + i, none⟩) h3 (hS b h2)).trans (h5 i x hi)⟩
theorem RdD.below {B g : Nat} {w w' : World} {L : List UInt8} {e : Int} (h : RdD B w g L e) (k : Below w.heap.size w w') : RdD B w' g L e := by
  obtain ⟨A, c, h⟩ := h
  refine ⟨A, c, h.blk.below k h.blk.lt, fun hL => ?_, h.cap, h.lim⟩
  obtain ⟨b, off, h1, h2, h3, h4, h5⟩ := h.src hL
  exact ⟨b, off, h1, h2, Nat.lt_of_lt_of_le h3 k.size, h4, fun i x hi => (k.cell (p := ⟨b, off + i, none⟩) h3).trans (h5 i x hi)⟩
theorem fail_c (g : Nat) (A : Option Addr) (n c : Nat) (e0 E : Int) (w : World) (h : Blk w g 82 #[.slice A n c, .int .i64 e0]) :
    Calls Try.prog 54 #[.pointer (some ⟨g, 0, none⟩), .int .i64 E] w fun e w' => e = .returned (.int .i64 0) ∧ (∀ B, RdD B w' g [] E) ∧ Keeps (fun i => i = g) w w' := by
  have c0 : w.cell? ⟨g, 0, none⟩ = some (.slice A n c) := (h.cell 0).trans rfl
  have c1 : w.cell? ⟨g, 1, none⟩ = some (.int .i64 e0) := (h.cell 1).trans rfl
  have f0 := h.frozen 0
  have f1 := h.frozen 1
  have HH := Lib.hid h
  clear h
  go_enter Try.func54, Try.ntmps54
  go_wp2_with fail
  go_ret
  exact ⟨rfl, fun B => ⟨none, 0, (HH.out.set_ 1 (.int .i64 E)).set_ 0 (.slice none 0 0), fun h => absurd rfl h, Nat.le_refl _, by omega⟩, (Keeps.setCell (S := fun i => i = g) (p := ⟨g, 1, none⟩) (Keeps.refl _ _) (.inl rfl) _).setCell (.inl rfl) _⟩
/-- Its slice, cut ahead. -/
theorem RdDA.sliced {B : Nat} {w : World} {g b off c s o' c' : Nat} {L : List UInt8} (h : RdDA B w g (some ⟨b, off, none⟩) c L 0) (hs : s ≤ L.length) (hc : c' = c - s) (ho : s < c → o' = off + s) :
    RdD B (w.setCell ⟨g, 0, none⟩ (.slice (some ⟨b, o', none⟩) (L.length - s) c')) g (L.drop s) 0 := by
  have hcap := h.cap
  have hlim := h.lim
  refine ⟨some ⟨b, o', none⟩, c', ?_, fun hL => ?_, by rw [List.length_drop]; omega, by omega⟩
  · rw [List.length_drop]
    exact h.blk.set_ 0 _
  · have hsl : s < L.length := by
      rcases Nat.lt_or_ge s L.length with hlt | hge
      · exact hlt
      · exact absurd (List.drop_eq_nil_of_le hge) hL
    obtain ⟨b2, off2, h1, h2, h3, h4, h5⟩ := h.src (by intro e; rw [e] at hsl; simp at hsl)
    obtain ⟨rfl, rfl⟩ : b = b2 ∧ off = off2 := by simpa using h1
    refine ⟨b, o', rfl, h2, by simpa using h3, h4, fun i x hi => ?_⟩
    rw [World.cell?_setCell_other _ _ _ _ (by simp [h4]), ho (by omega), Nat.add_assoc]
    exact h5 (s + i) x (by rwa [List.getElem?_drop] at hi)
theorem RdDA.cut {B : Nat} {w : World} {g b off c s o' c' m : Nat} {L : List UInt8} (h : RdDA B w g (some ⟨b, off, none⟩) c L 0) (hs : s ≤ L.length) (hm : m = L.length - s) (hc : c' = c - s) (ho : s < c → o' = off + s) :
    RdD B (w.setCell ⟨g, 0, none⟩ (.slice (some ⟨b, o', none⟩) m c')) g (L.drop s) 0 := by
  subst hm
  exact h.sliced hs hc ho
end Go.Proofs.Ytekcokbpgpeepaa
