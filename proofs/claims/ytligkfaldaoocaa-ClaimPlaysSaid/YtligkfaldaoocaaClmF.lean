/- The program's claims, with blocks of others beside: what a call leaves. -/
import Derived.Test.YtligkfaldaoocaaClmW
namespace Go.Proofs.Ytligkfaldaoocaa
set_option linter.unusedVariables false
open Go.RowKit

/-- Claims in memory; F: blocks that are not theirs. -/
def ClF (B : Nat) (w : World) (g : Nat) (S : CS) (F : Nat → Prop) : Prop := ∃ V, ClA B w g V S ∧ ∀ b, F b → b < w.heap.size ∧ ¬ foot g V b
/-- What a call leaves. -/
structure FQ (B : Nat) (w0 w : World) (g : Nat) (S : CS) (F : Nat → Prop) (w' : World) : Prop where
  c : ClF B w' g S F
  k : Keeps (fun b => ¬ F b) w w'
  b : Below B w0 w'
section
variable {B g : Nat} {S S' : CS} {V V' : Nat → Value} {F F' : Nat → Prop} {w0 w w' : World} {p r : Int}
theorem ClF.turn (h : ClA B w g V S) (hF : ∀ b, F b → b < w.heap.size ∧ ¬ foot g V b) (h' : ClA B w' g V' S') (hT : Turn g V V' w w') (hB : Below B w0 w) : FQ B w0 w g S' F w' :=
  ⟨⟨V', h', fun b hb => ⟨Nat.lt_of_lt_of_le (hF b hb).1 hT.1.size, fun e => by
    rcases hT.2 b e with h1 | h1
    · exact (hF b hb).2 h1
    · exact absurd (hF b hb).1 (by omega)⟩⟩, hT.1.mono fun b hb hFb => (hF b hFb).2 hb, h.bel hT hB⟩
theorem ClF.keep (h : ClF B w g S F) (k : Keeps F w w') (hF' : ∀ b, F' b → (F b ∨ w.heap.size ≤ b) ∧ b < w'.heap.size) : ClF B w' g S F' := by
  obtain ⟨V, h, hF⟩ := h
  refine ⟨V, h.keeps k fun b hb hF1 => (hF b hF1).2 hb, fun b hb => ⟨(hF' b hb).2, fun e => ?_⟩⟩
  rcases (hF' b hb).1 with h1 | h1
  · exact (hF b h1).2 e
  · exact absurd (h.footB b e).2 (by omega)
theorem ClF.below (h : ClF B w g S F) (k : Below w.heap.size w w') : ClF B w' g S F := h.keep (Keeps.of_below k) fun b hb => ⟨.inl hb, by
  obtain ⟨V, h, hF⟩ := h
  exact Nat.lt_of_lt_of_le (hF b hb).1 k.size⟩
theorem ClF.belowQ (h : ClF B w g S F) (k : Below w.heap.size w w') (hB : Below B w0 w) : FQ B w0 w g S F w' := ⟨h.below k, Keeps.of_below k, below_lift hB k (by
  obtain ⟨V, h, hF⟩ := h
  exact h.hs)⟩
theorem ClF.hs (h : ClF B w g S F) : B ≤ w.heap.size := by
  obtain ⟨V, h, hF⟩ := h
  exact h.hs
theorem ClF.x (h : ClF B w g S F) : ClX B w g S := by
  obtain ⟨V, h, hF⟩ := h
  exact ⟨V, h⟩
theorem ClX.f (h : ClX B w g S) : ClF B w g S (fun _ => False) := by
  obtain ⟨V, h⟩ := h
  exact ⟨V, h, fun b hb => hb.elim⟩
theorem OwnI.stay {v : Value} {L : List Int} (h : OwnI w B v L) (k : Keeps (fun b => ¬ F b) w w') (hF : ∀ b, v.ownBlock = some b → F b) : OwnI w' B v L :=
  h.keep fun b hb => k.block b (h.lt b hb).2.1 fun e => e (hF b hb)
theorem ask_f (h : ClF B w g S F) (hB : Below B w0 w) (hl : ∀ k, k < 4 → (S.l k).length < 1000000) {b : Bool} {n : Int} (hb : askB S p r = b) (hn : askE S p r = n) (hc : askC S p r = S') :
    Calls Try.prog 10 #[.pointer (some ⟨g, 0, none⟩), .int .i64 p, .int .i64 r] w fun e w' => e = .returned (.tuple #[.bool b, .int .i64 n]) ∧ FQ B w0 w g S' F w' := by
  obtain ⟨V, h, hF⟩ := h
  subst hb hn hc
  exact (ask_c B g V S p r w h hl).mono fun e w' ⟨h1, V', h2, h3⟩ => ⟨h1, ClF.turn h hF h2 h3 hB⟩
theorem hold_f (h : ClF B w g S F) (hB : Below B w0 w) {n : Int} (hn : holdE S p r = n) (hc : holdC S p r = S') :
    Calls Try.prog 12 #[.pointer (some ⟨g, 0, none⟩), .int .i64 p, .int .i64 r] w fun e w' => e = .returned (.int .i64 n) ∧ FQ B w0 w g S' F w' := by
  obtain ⟨V, h, hF⟩ := h
  subst hn hc
  exact (hold_c B g V S p r w h).mono fun e w' ⟨h1, h2, h3⟩ => ⟨h1, ClF.turn h hF h2 h3 hB⟩
theorem give_f (h : ClF B w g S F) (hB : Below B w0 w) {n : Int} (hn : giveE S p r = n) (hc : giveC S p r = S') :
    Calls Try.prog 14 #[.pointer (some ⟨g, 0, none⟩), .int .i64 p, .int .i64 r] w fun e w' => e = .returned (.int .i64 n) ∧ FQ B w0 w g S' F w' := by
  obtain ⟨V, h, hF⟩ := h
  subst hn hc
  exact (give_c B g V S p r w h).mono fun e w' ⟨h1, V', h2, h3⟩ => ⟨h1, ClF.turn h hF h2 h3 hB⟩
theorem drop_f (h : ClF B w g S F) (hB : Below B w0 w) {v : Value} (hv : inV (inE S p) = v) (hc : dropC S p = S') :
    Calls Try.prog 16 #[.pointer (some ⟨g, 0, none⟩), .int .i64 p] w fun e w' => e = .returned (v) ∧ FQ B w0 w g S' F w' := by
  obtain ⟨V, h, hF⟩ := h
  subst hv hc
  exact (drop_c B g V S p w h).mono fun e w' ⟨h1, V', h2, h3⟩ => ⟨h1, ClF.turn h hF h2 h3 hB⟩
theorem line_f (h : ClF B w g S F) (hB : Below B w0 w) {L : List Int} (hL : lineL S r = L) :
    Calls Try.prog 20 #[.pointer (some ⟨g, 0, none⟩), .int .i64 r] w fun e w' => ∃ A c, e = .returned (.slice A L.length c) ∧ L.length ≤ c ∧ IntsR w' A L ∧ OwnI w' w.heap.size (.slice A L.length c) L ∧ Below w.heap.size w w' ∧ FQ B w0 w g S F w' := by
  obtain ⟨V, h, hF⟩ := h
  subst hL
  refine (line_c B g V S r w h).mono fun e w' ⟨v, h1, h2, h3⟩ => ?_
  obtain ⟨A, c, rfl, k1, k2, k3, _⟩ := h2.form
  exact ⟨A, c, h1, k1, k3, h2, h3, ClF.belowQ ⟨V, h, hF⟩ h3 hB⟩
theorem holder_f (h : ClF B w g S F) (hB : Below B w0 w) {n : Int} {b : Bool} (hn : holdN S r = n) (hb : holdB S r = b) :
    Calls Try.prog 21 #[.pointer (some ⟨g, 0, none⟩), .int .i64 r] w fun e w' => e = .returned (.tuple #[.int .i64 n, .bool b]) ∧ Below w.heap.size w w' ∧ FQ B w0 w g S F w' := by
  obtain ⟨V, h, hF⟩ := h
  subst hn hb
  exact (holder_c B g V S r w h).mono fun e w' ⟨h1, h2⟩ => ⟨h1, h2, ClF.belowQ ⟨V, h, hF⟩ h2 hB⟩
end
theorem lenI_le {v : Value} {w : World} {B : Nat} {L : List Int} (h : OwnI w B v L) : L.length ≤ 9223372036854775807 := by
  obtain ⟨A, c, rfl, h1, h2, h3, h4, h5⟩ := h.form
  omega
/-- append of one number, made a row last, onto a row of the call's own. -/
theorem wpList_append_int {ops : Array Oper} {rest : List Oper} {o : Oper} {a : Act} {Q : Exit → Act → World → Prop} {w0 w : World} {B : Nat} {v : Value} {L : List Int} (hgd : o.guard = none) (s x : Operand)
    (ho : o.op = .call { callee := .builtin .append, args := #[s, x], argTypes := #[39, 39] }) (hs : a.eval s = v) (hO : OwnI w B v L) (hB : Below B w0 w) (hBw : B ≤ w.heap.size) (z : Int)
    (hx : a.eval x = .slice (some ⟨w.heap.size, 0, none⟩) 1 1) (hl : L.length + 1 ≤ 10000000000000)
    (h : ∀ v' w', OwnI w' B v' (L ++ [z]) → (w.alloc (.cells #[.int .i64 z] 3)).grownBy w' v.ownBlock → (v'.ownBlock = v.ownBlock ∨ v'.ownBlock = some (w.alloc (.cells #[.int .i64 z] 3)).heap.size) → Below B w0 w' → wpList Try.prog ops Q rest (a.put o.dst v') w') : wpList Try.prog ops Q (o :: rest) a (w.alloc (.cells #[.int .i64 z] 3)) := by
  obtain ⟨i0, hi0, hz0, hz1, hz2⟩ := info_parts' int_info
  have hsrc : SrcR (w.alloc (.cells #[.int .i64 z] 3)) 1 (some ⟨w.heap.size, 0, none⟩) 1 1 (ics [z]) := (intsR_new (w := w) (t := 3) (cs := #[.int .i64 z]) (L := [z]) rfl).src (c := 1) (fun e => by cases e)
  refine wpList_append_src hgd s x _ ho B 3 i0 _ 1 8 Try.underlying39 hi0 hz0 hz1 hz2 rfl (by omega) v L.length (ics L) hs (hO.below ((Below.refl _ _).alloc (Nat.le_refl _) _)) _ _ _ (ics [z]) hx hsrc (ics_one _) (by simp only [maxLen]; omega) (by omega) (by simp; omega) ?_
  intro v' w' hown hg hf
  exact h v' w' (OwnI.of (by rw [ics_append]; exact hown)) hg hf (below_grown (hB.alloc hBw _) hg (by simp; omega) (own_from hO))
end Go.Proofs.Ytligkfaldaoocaa
