/- The program's stack as a caller sees it: values by equations. -/
import Derived.Test.YtmgcjdedgfiboaaTskC
namespace Go.Proofs.Ytmgcjdedgfiboaa
set_option linter.unusedVariables false
open Go.RowKit

/-- The stack in memory, from block B on. -/
def StX (B : Nat) (w : World) (s : Nat) (n : Nat) (D : Nat → Nat → Int) (E : List Ent) : Prop := ∃ TA tc v, StA B w s TA n tc D v E
theorem unl_val {n : Nat} {E : List Ent} {t : Int} (ha : askE n t = 0) {k : Nat} {x : Ent} (hx : E[k]? = some x) (hxt : x.1 = t) (hd : ∀ y ∈ E.drop (k + 1), y.1 ≠ t) {r z : Int} {E' : List Ent} (h : UnlQ n E t r z E') :
    r = x.2 ∧ z = 0 ∧ E' = E.take k ++ E.drop (k + 1) := by
  rcases h with ⟨h1, _⟩ | ⟨_, h2, _⟩ | ⟨_, k2, x2, hx2, hxt2, hd2, hr, hz, hE⟩
  · exact absurd ha h1
  · exact absurd hxt (h2 x (List.mem_of_getElem? hx))
  · have : k2 = k := by
      rcases Nat.lt_trichotomy k2 k with hlt | heq | hgt
      · exact absurd hxt (hd2 x (List.mem_of_getElem? (i := k - (k2 + 1)) (by rw [List.getElem?_drop, show k2 + 1 + (k - (k2 + 1)) = k by omega]; exact hx)))
      · exact heq
      · exact absurd hxt2 (hd x2 (List.mem_of_getElem? (i := k2 - (k + 1)) (by rw [List.getElem?_drop, show k + 1 + (k2 - (k + 1)) = k2 by omega]; exact hx2)))
    subst this
    rw [hx] at hx2
    injection hx2 with hx2
    subst hx2
    exact ⟨hr, hz, hE⟩
theorem unl_none {n : Nat} {E : List Ent} {t : Int} (ha : askE n t = 0) (hd : ∀ y ∈ E, y.1 ≠ t) {r z : Int} {E' : List Ent} (h : UnlQ n E t r z E') : r = 0 ∧ z = 132 ∧ E' = E := by
  rcases h with ⟨h1, _⟩ | ⟨_, h2, h3, h4, h5⟩ | ⟨_, k2, x2, hx2, hxt2, _⟩
  · exact absurd ha h1
  · exact ⟨h3, h4, h5⟩
  · exact absurd hxt2 (hd x2 (List.mem_of_getElem? hx2))
section
variable {B s n : Nat} {w w' w0 : World} {D : Nat → Nat → Int} {E E' : List Ent} {t r : Int}
theorem StX.below (h : StX B w s n D E) (k : Below w.heap.size w w') : StX B w' s n D E := by
  obtain ⟨TA, tc, v, h⟩ := h
  exact ⟨TA, tc, v, h.below k⟩
theorem StX.hs (h : StX B w s n D E) : B ≤ w.heap.size := by
  obtain ⟨TA, tc, v, h⟩ := h
  exact h.hs
theorem SQ.x {TA : Option Addr} {tc : Nat} {v : Value} (h : StA B w s TA n tc D v E) (hQ : SQ B s TA n tc D v E' w w') (hB : Below B w0 w) : StX B w' s n D E' ∧ Below B w0 w' := by
  obtain ⟨v', h1, h2⟩ := hQ
  exact ⟨⟨_, _, _, h1⟩, h2.belowB h hB⟩
theorem lock_x (h : StX B w s n D E) (hB : Below B w0 w) (hl : E.length < 100000) {z : Int} (hz : lockE n D E t r = z) (hE : lockC n D E t r = E') :
    Calls Try.prog 10 #[.pointer (some ⟨s, 0, none⟩), .int .i64 t, .int .i64 r] w fun e w' => e = .returned (.int .i64 z) ∧ StX B w' s n D E' ∧ Below B w0 w' := by
  obtain ⟨TA, tc, v, h⟩ := h
  subst hz hE
  exact (lock_c h hl t r).mono fun e w' ⟨h1, h2⟩ => ⟨h1, SQ.x h h2 hB⟩
theorem unlock_x (h : StX B w s n D E) (hB : Below B w0 w) {a z : Int} (hv : ∀ r' z' E'', UnlQ n E t r' z' E'' → r' = a ∧ z' = z ∧ E'' = E') :
    Calls Try.prog 11 #[.pointer (some ⟨s, 0, none⟩), .int .i64 t] w fun e w' => e = .returned (.tuple #[.int .i64 a, .int .i64 z]) ∧ StX B w' s n D E' ∧ Below B w0 w' := by
  obtain ⟨TA, tc, v, h⟩ := h
  refine (unlock_c h t).mono fun e w' ⟨r', z', E'', h1, h2, h3⟩ => ?_
  obtain ⟨rfl, rfl, rfl⟩ := hv _ _ _ h2
  exact ⟨h1, SQ.x h h3 hB⟩
theorem ceil_x (h : StX B w s n D E) (hB : Below B w0 w) {z : Int} (hz : ceilE n D E = z) :
    Calls Try.prog 15 #[.pointer (some ⟨s, 0, none⟩)] w fun e w' => e = .returned (.int .i64 z) ∧ StX B w' s n D E ∧ Below B w0 w' := by
  have hs := h.hs
  obtain ⟨TA, tc, v, h⟩ := h
  subst hz
  exact (ceiling_c h).mono fun e w' ⟨h1, h2⟩ => ⟨h1, ⟨_, _, _, h.below h2⟩, below_lift hB h2 hs⟩
theorem top_x (h : StX B w s n D E) (hB : Below B w0 w) {z : Int} {b : Bool} (hz : topE E = z) (hb : (!E.isEmpty) = b) :
    Calls Try.prog 16 #[.pointer (some ⟨s, 0, none⟩)] w fun e w' => e = .returned (.tuple #[.int .i64 z, .bool b]) ∧ StX B w' s n D E ∧ Below B w0 w' := by
  have hs := h.hs
  obtain ⟨TA, tc, v, h⟩ := h
  subst hz hb
  exact (top_c h).mono fun e w' ⟨h1, h2⟩ => ⟨h1, ⟨_, _, _, h.below h2⟩, below_lift hB h2 hs⟩
theorem held_x (h : StX B w s n D E) (hB : Below B w0 w) {L : List Int} {m : Nat} (hL : heldE E t = L) (hm : L.length = m) :
    Calls Try.prog 13 #[.pointer (some ⟨s, 0, none⟩), .int .i64 t] w fun e w' => ∃ A c, e = .returned (.slice A m c) ∧ m ≤ c ∧ IntsR w' A L ∧ OwnI w' w.heap.size (.slice A m c) L ∧ (A = none → c = 0) ∧ StX B w' s n D E ∧ Below B w0 w' ∧ Below w.heap.size w w' := by
  have hs := h.hs
  obtain ⟨TA, tc, v, h⟩ := h
  subst hL hm
  refine (held_c h t).mono fun e w' ⟨u, h1, h2, h3⟩ => ?_
  obtain ⟨A, c, rfl, k1, k2, k3, _⟩ := h2.form
  exact ⟨A, c, h1, k1, k3, h2, k2, ⟨_, _, _, h.below h3⟩, below_lift hB h3 hs, h3⟩
theorem drop_x (h : StX B w s n D E) (hB : Below B w0 w) :
    Calls Try.prog 12 #[.pointer (some ⟨s, 0, none⟩), .int .i64 t] w fun e w' => ∃ o, e = .returned o ∧ OwnI w' w.heap.size o (dropL n E t) ∧ StX B w' s n D (dropC n E t) ∧ Below B w0 w' := by
  obtain ⟨TA, tc, v, h⟩ := h
  exact (drop_c h t).mono fun e w' ⟨o, h1, h2, h3⟩ => ⟨o, h1, h2, SQ.x h h3 hB⟩
/-- EqInts of a row and of one that was made last. -/
theorem eqlast_x {A : Option Addr} {L M : List Int} {k c m : Nat} {cs : Array Value} (h : StX B w s n D E) (hB : Below B w0 w) (hR : IntsR w A L) (hn : L.length = k) (hm : M.length = m) (hc : cs.toList = ics M) (hl : k ≤ 1000000) {b : Bool} (hb : decide (L = M) = b) :
    Calls Try.prog 23 #[.slice A k c, .slice (some ⟨w.heap.size, 0, none⟩) m m] (w.alloc (.cells cs 3)) fun e w' => e = .returned (.bool b) ∧ StX B w' s n D E ∧ Below B w0 w' := by
  have hA : Below w.heap.size w (w.alloc (.cells cs 3)) := (Below.refl _ _).alloc (Nat.le_refl _) _
  have hs := h.hs
  subst hn hm
  refine (eqints_c A _ c L (some ⟨w.heap.size, 0, none⟩) _ M.length M _ ⟨rfl, hR.below hA⟩ ⟨rfl, intsR_new hc⟩ (by omega)).mono fun e w' ⟨h1, h2⟩ => ⟨by rw [h1, hb], (h.below hA).below h2, ?_⟩
  exact below_lift (below_lift hB hA hs) h2 (Nat.le_trans hs hA.size)
end
def chD (i j : Nat) : Int := ([[0, 5, 0, 1, 0, 0, 0, 0], [0, 9, 0, 3, 0, 0, 0, 0], [0, 9, 0, 4, 0, 0, 0, 0]].getD i []).getD j 0
theorem chapter_c (w : World) : Calls Try.prog 34 #[] w fun e w' =>
    ∃ b, e = .returned (.slice (some ⟨b, 0, none⟩) 3 3) ∧ TasksAt w' (some ⟨b, 0, none⟩) 3 chD ∧ Below w.heap.size w w' := by
  go_enter Try.func34, Try.ntmps34
  go_wp2
  go_ret
  refine ⟨_, rfl, ?_, (Below.refl _ _).alloc (Nat.le_refl _) _⟩
  intro _
  refine ⟨w.heap.size, 0, rfl, by simp, fun i hi => ?_⟩
  unfold RowT
  match i, hi with
  | 0, _ | 1, _ | 2, _ =>
    refine ⟨?_, ?_, ?_, ?_, ?_, ?_, ?_, ?_⟩ <;> (rw [World.cell?_alloc_at _ _ _ _ rfl]; rfl)
end Go.Proofs.Ytmgcjdedgfiboaa
