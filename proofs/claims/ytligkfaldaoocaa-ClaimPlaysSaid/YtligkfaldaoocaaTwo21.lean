/- The program's and the document's claims at once. -/
import Derived.Test.YtligkfaldaoocaaDocC
namespace Go.Proofs.Ytligkfaldaoocaa
set_option linter.unusedVariables false
open Go.RowKit

structure Two (B : Nat) (w : World) (g m : Nat) (S S2 : CS) (V V2 : Nat → Value) : Prop where
  a : ClA B w g V S
  d : ClM B w m V2 S2
  x : ∀ b, foot g V b → ¬ foot m V2 b
def TwoX (B : Nat) (w : World) (g m : Nat) (S S2 : CS) : Prop := ∃ V V2, Two B w g m S S2 V V2
structure TQ (B : Nat) (w0 : World) (g m : Nat) (S S2 : CS) (w' : World) : Prop where
  t : TwoX B w' g m S S2
  b : Below B w0 w'
section
variable {B g m : Nat} {S S' S2 : CS} {V V' V2 : Nat → Value} {w0 w w' : World} {p r : Int}
theorem Two.prog (h : Two B w g m S S2 V V2) (h' : ClA B w' g V' S') (hT : Turn g V V' w w') (hB : Below B w0 w) : TQ B w0 g m S' S2 w' :=
  ⟨⟨V', V2, h', h.d.keeps hT.1 fun b hb hg => h.x b hg hb, fun b hb hm => by
    rcases hT.2 b hb with h1 | h1
    · exact h.x b h1 hm
    · exact absurd (h.d.footB b hm).2 (by omega)⟩, h.a.bel hT hB⟩
theorem Two.doc (h : Two B w g m S S2 V V2) (h' : ClM B w' m V' S') (hT : Turn m V2 V' w w') (hB : Below B w0 w) : TQ B w0 g m S S' w' :=
  ⟨⟨V, V', h.a.keeps hT.1 fun b hb hg => h.x b hb hg, h', fun b hb hm => by
    rcases hT.2 b hm with h1 | h1
    · exact h.x b hb h1
    · exact absurd (h.a.footB b hb).2 (by omega)⟩, Below.keeps hB hT.1 h.d.hs (fun i hi => (h.d.footB i hi).1)⟩
theorem TwoX.below (h : TwoX B w g m S S2) (k : Below w.heap.size w w') : TwoX B w' g m S S2 := by
  obtain ⟨V, V2, h⟩ := h
  exact ⟨V, V2, h.a.below k, h.d.below k, h.x⟩
theorem TwoX.hs (h : TwoX B w g m S S2) : B ≤ w.heap.size := by
  obtain ⟨V, V2, h⟩ := h
  exact h.a.hs
theorem ask_2 (h : TwoX B w g m S S2) (hB : Below B w0 w) (hl : ∀ k, k < 4 → (S.l k).length < 1000000) :
    Calls Try.prog 10 #[.pointer (some ⟨g, 0, none⟩), .int .i64 p, .int .i64 r] w fun e w' => e = .returned (.tuple #[.bool (askB S p r), .int .i64 (askE S p r)]) ∧ TQ B w0 g m (askC S p r) S2 w' := by
  obtain ⟨V, V2, h⟩ := h
  exact (ask_c B g V S p r w h.a hl).mono fun e w' ⟨h1, V', h2, h3⟩ => ⟨h1, h.prog h2 h3 hB⟩
theorem dask_2 (h : TwoX B w g m S S2) (hB : Below B w0 w) (hl : ∀ k, k < 4 → (S2.l k).length < 1000000) :
    Calls Try.prog 11 #[.pointer (some ⟨m, 0, none⟩), .int .i64 p, .int .i64 r] w fun e w' => e = .returned (.tuple #[.bool (askB S2 p r), .int .i64 (askE S2 p r)]) ∧ TQ B w0 g m S (askC S2 p r) w' := by
  obtain ⟨V, V2, h⟩ := h
  exact (dask_c B m V2 S2 p r w h.d hl).mono fun e w' ⟨h1, V', h2, h3⟩ => ⟨h1, h.doc h2 h3 hB⟩
theorem hold_2 (h : TwoX B w g m S S2) (hB : Below B w0 w) :
    Calls Try.prog 12 #[.pointer (some ⟨g, 0, none⟩), .int .i64 p, .int .i64 r] w fun e w' => e = .returned (.int .i64 (holdE S p r)) ∧ TQ B w0 g m (holdC S p r) S2 w' := by
  obtain ⟨V, V2, h⟩ := h
  exact (hold_c B g V S p r w h.a).mono fun e w' ⟨h1, h2, h3⟩ => ⟨h1, h.prog h2 h3 hB⟩
theorem dhold_2 (h : TwoX B w g m S S2) (hB : Below B w0 w) :
    Calls Try.prog 13 #[.pointer (some ⟨m, 0, none⟩), .int .i64 p, .int .i64 r] w fun e w' => e = .returned (.int .i64 (holdE S2 p r)) ∧ TQ B w0 g m S (holdC S2 p r) w' := by
  obtain ⟨V, V2, h⟩ := h
  exact (dhold_c B m V2 S2 p r w h.d).mono fun e w' ⟨h1, V', h2, h3⟩ => ⟨h1, h.doc h2 h3 hB⟩
theorem give_2 (h : TwoX B w g m S S2) (hB : Below B w0 w) :
    Calls Try.prog 14 #[.pointer (some ⟨g, 0, none⟩), .int .i64 p, .int .i64 r] w fun e w' => e = .returned (.int .i64 (giveE S p r)) ∧ TQ B w0 g m (giveC S p r) S2 w' := by
  obtain ⟨V, V2, h⟩ := h
  exact (give_c B g V S p r w h.a).mono fun e w' ⟨h1, V', h2, h3⟩ => ⟨h1, h.prog h2 h3 hB⟩
theorem dgive_2 (h : TwoX B w g m S S2) (hB : Below B w0 w) :
    Calls Try.prog 15 #[.pointer (some ⟨m, 0, none⟩), .int .i64 p, .int .i64 r] w fun e w' => e = .returned (.int .i64 (giveE S2 p r)) ∧ TQ B w0 g m S (giveC S2 p r) w' := by
  obtain ⟨V, V2, h⟩ := h
  exact (dgive_c B m V2 S2 p r w h.d).mono fun e w' ⟨h1, V', h2, h3⟩ => ⟨h1, h.doc h2 h3 hB⟩
theorem drop_2 (h : TwoX B w g m S S2) (hB : Below B w0 w) :
    Calls Try.prog 16 #[.pointer (some ⟨g, 0, none⟩), .int .i64 p] w fun e w' => e = .returned (inV (inE S p)) ∧ TQ B w0 g m (dropC S p) S2 w' := by
  obtain ⟨V, V2, h⟩ := h
  exact (drop_c B g V S p w h.a).mono fun e w' ⟨h1, V', h2, h3⟩ => ⟨h1, h.prog h2 h3 hB⟩
theorem ddrop_2 (h : TwoX B w g m S S2) (hB : Below B w0 w) :
    Calls Try.prog 17 #[.pointer (some ⟨m, 0, none⟩), .int .i64 p] w fun e w' => e = .returned (inV (inE S2 p)) ∧ TQ B w0 g m S (dropC S2 p) w' := by
  obtain ⟨V, V2, h⟩ := h
  exact (ddrop_c B m V2 S2 p w h.d).mono fun e w' ⟨h1, V', h2, h3⟩ => ⟨h1, h.doc h2 h3 hB⟩
theorem len_ask (S : CS) (p r : Int) {n : Nat} (h : ∀ k, k < 4 → (S.l k).length ≤ n) : ∀ k, k < 4 → ((askC S p r).l k).length ≤ n + 1 := by
  intro k hk
  have := h k hk
  unfold askC
  split
  · show (upd S.l (kOf r) (S.l (kOf r) ++ [p]) k).length ≤ n + 1
    by_cases e : k = kOf r
    · subst e; rw [upd_self]; simp; omega
    · rw [upd_other _ _ e]; omega
  · omega
theorem len_drop (S : CS) (p : Int) {n : Nat} (h : ∀ k, k < 4 → (S.l k).length ≤ n) : ∀ k, k < 4 → ((dropC S p).l k).length ≤ n + 1 := by
  intro k hk
  have := h k hk
  unfold dropC
  split
  · omega
  · next j hj =>
    show (upd S.l j (others (S.l j) p) k).length ≤ n + 1
    by_cases e : k = j
    · subst e
      rw [upd_self]
      exact Nat.le_trans (List.length_filter_le _ _) (by omega)
    · rw [upd_other _ _ e]; omega
theorem len_give (S : CS) (p r : Int) {n : Nat} (h : ∀ k, k < 4 → (S.l k).length ≤ n) : ∀ k, k < 4 → ((giveC S p r).l k).length ≤ n + 1 := by
  unfold giveC
  split
  · exact len_drop S p h
  · intro k hk
    have := h k hk
    omega
theorem len_hold (S : CS) (p r : Int) {n : Nat} (h : ∀ k, k < 4 → (S.l k).length ≤ n) : ∀ k, k < 4 → ((holdC S p r).l k).length ≤ n + 1 := by
  intro k hk
  have := h k hk
  unfold holdC
  split <;> (show (S.l k).length ≤ n + 1) <;> omega
theorem lineL_len (S : CS) (r : Int) {n : Nat} (h : ∀ k, k < 4 → (S.l k).length ≤ n) : (lineL S r).length ≤ n := by
  unfold lineL
  split
  · exact h _ (by omega)
  · exact Nat.zero_le _
theorem two_new (w w1 w2 : World) (h1 : ClA w.heap.size w1 w.heap.size noV noC) (hB1 : Below w.heap.size w w1) (h2 : ClM w1.heap.size w2 w1.heap.size noV noC) (hB2 : Below w1.heap.size w1 w2) : TwoX w.heap.size w2 w.heap.size w1.heap.size noC noC := by
  refine ⟨noV, noV, h1.below hB2, ⟨h2.blk, hB1.size, fun k hk => OwnI.nil, h2.sep, h2.len, h2.held⟩, fun b hb hm => ?_⟩
  have := h1.blk.lt
  rcases hb with rfl | ⟨i, _, hb⟩
  · rcases hm with hm | ⟨i, _, hm⟩
    · omega
    · simp [noV, Value.ownBlock] at hm
  · simp [noV, Value.ownBlock] at hb
end
end Go.Proofs.Ytligkfaldaoocaa
