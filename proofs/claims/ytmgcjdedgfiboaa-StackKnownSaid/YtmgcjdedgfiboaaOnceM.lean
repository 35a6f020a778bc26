/- StackOnce in memory: the rows of what is held, and what is locked. -/
import Derived.Test.YtmgcjdedgfiboaaOnceL
import Derived.Test.YtmgcjdedgfiboaaAppI
namespace Go.Proofs.Ytmgcjdedgfiboaa
set_option linter.unusedVariables false
open Go.RowKit

def upd {α : Type} (f : Nat → α) (k : Nat) (x : α) : Nat → α := fun i => if i = k then x else f i
theorem upd_self {α : Type} (f : Nat → α) (k : Nat) (x : α) : upd f k x k = x := if_pos rfl
theorem upd_other {α : Type} (f : Nat → α) {k i : Nat} (x : α) (h : i ≠ k) : upd f k x i = f i := if_neg h
def rowC (V : Nat → Value) : Array Value := #[V 0, V 1, V 2, V 3]
def lckC (f : Nat → Bool) : Array Value := #[.bool (f 0), .bool (f 1), .bool (f 2), .bool (f 3), .bool (f 4), .bool (f 5), .bool (f 6), .bool (f 7)]
theorem rowC_get (V : Nat → Value) {k : Nat} (hk : k < 4) : (rowC V)[k]? = some (V k) := by
  rcases (by omega : k = 0 ∨ k = 1 ∨ k = 2 ∨ k = 3) with rfl | rfl | rfl | rfl <;> rfl
theorem rowC_put (V : Nat → Value) {k : Nat} (hk : k < 4) (v : Value) : (rowC V).setIfInBounds k v = rowC (upd V k v) := by
  rcases (by omega : k = 0 ∨ k = 1 ∨ k = 2 ∨ k = 3) with rfl | rfl | rfl | rfl <;> rfl
theorem lckC_get (f : Nat → Bool) {k : Nat} (hk : k < 8) : (lckC f)[k]? = some (.bool (f k)) := by
  rcases (by omega : k = 0 ∨ k = 1 ∨ k = 2 ∨ k = 3 ∨ k = 4 ∨ k = 5 ∨ k = 6 ∨ k = 7) with rfl | rfl | rfl | rfl | rfl | rfl | rfl | rfl <;> rfl
theorem lckC_put (f : Nat → Bool) {k : Nat} (hk : k < 8) (b : Bool) : (lckC f).setIfInBounds k (.bool b) = lckC (upd f k b) := by
  rcases (by omega : k = 0 ∨ k = 1 ∨ k = 2 ∨ k = 3 ∨ k = 4 ∨ k = 5 ∨ k = 6 ∨ k = 7) with rfl | rfl | rfl | rfl | rfl | rfl | rfl | rfl <;> rfl
theorem lckC_eq {f g : Nat → Bool} (h : ∀ k, k < 8 → f k = g k) : lckC f = lckC g := by
  unfold lckC
  rw [h 0 (by omega), h 1 (by omega), h 2 (by omega), h 3 (by omega), h 4 (by omega), h 5 (by omega), h 6 (by omega), h 7 (by omega)]
section
variable {B s g1 g2 m n c : Nat} {w w' w0 : World} {A : Option Addr} {D : Nat → Nat → Int} {E E' : List Ent} {V : Nat → Value} {f : Nat → Bool} {L : List Int} {v : Value} {T R : Int}
theorem OwnI.cut (h : OwnI w B (.slice A n c) L) {k : Nat} (hk : k ≤ L.length) : OwnI w B (.slice A k c) (L.take k) := by
  have hkl : (L.take k).length = k := by simp; omega
  unfold OwnI
  rw [hkl]
  obtain ⟨A', c', e, h1, h2, h3, h4⟩ := own_form h
  injection e with e1 e2 e3
  subst e1 e2 e3
  have hx : (ics (L.take k)).length = k * 1 := by simp [ics]; omega
  cases A with
  | none =>
    obtain ⟨h5, h6⟩ := h3 rfl
    obtain rfl : k = 0 := by omega
    subst h6
    exact ⟨by simp [ics], .inl ⟨rfl, rfl⟩⟩
  | some a =>
    obtain ⟨g, cur, rfl, hg, hb, hs, ht⟩ := h4 a rfl
    refine ⟨hx, .inr ⟨g, c, cur, rfl, hg, hb, by omega, h2, hs, ?_⟩⟩
    have : (cur.toList.take (L.length * 1)).take (k * 1) = (ics L).take (k * 1) := by rw [ht]
    rw [List.take_take, show min (k * 1) (L.length * 1) = k * 1 by omega] at this
    rw [this]
    simp [ics, List.map_take]
theorem OwnI.nilOf : OwnI w B (.slice none 0 0) [] := OwnI.nil
/-- What a call of the stack leaves: blocks of other types stand. -/
structure SK (B : Nat) (w0 w : World) (s : Nat) (D : Nat → Nat → Int) (E' : List Ent) (w' : World) : Prop where
  st : StX B w' s 4 D E'
  b : Below B w0 w'
  k : ∀ b t cs, Blk w b t cs → t ≠ 57 → t ≠ 60 → w'.heap[b]? = w.heap[b]?
  z : w.heap.size ≤ w'.heap.size
theorem SK.of {TA : Option Addr} {tc : Nat} (h : StA B w s TA 4 tc D v E) (hQ : SQ B s TA 4 tc D v E' w w') (hB : Below B w0 w) : SK B w0 w s D E' w' := by
  obtain ⟨v', h1, h2⟩ := hQ
  refine ⟨⟨_, _, _, h1⟩, h2.belowB h hB, fun b t cs hb n1 n2 => h2.1.block b hb.lt fun e => ?_, h2.1.size⟩
  rcases e with rfl | e
  · exact Blk.ne_ hb h.blk n1 rfl
  · obtain ⟨_, _, cur, hc⟩ := h.own.lt b e
    exact Blk.ne_ hb hc n2 rfl
theorem SK.below (h : SK B w0 w s D E' w') {w2 : World} (k : Below w'.heap.size w' w2) : SK B w0 w s D E' w2 :=
  ⟨h.st.below k, below_lift h.b k h.st.hs, fun b t cs hb n1 n2 => (k.block b (Nat.lt_of_lt_of_le hb.lt h.z)).trans (h.k b t cs hb n1 n2), Nat.le_trans h.z k.size⟩
theorem lock_k (h : StX B w s 4 D E) (hB : Below B w0 w) (hl : E.length < 100000) {z : Int} (hz : lockE 4 D E T R = z) (hE : lockC 4 D E T R = E') :
    Calls Try.prog 10 #[.pointer (some ⟨s, 0, none⟩), .int .i64 T, .int .i64 R] w fun e w' => e = .returned (.int .i64 z) ∧ SK B w0 w s D E' w' := by
  obtain ⟨TA, tc, v, h⟩ := h
  subst hz hE
  exact (lock_c h hl T R).mono fun e w' ⟨h1, h2⟩ => ⟨h1, SK.of h h2 hB⟩
theorem unlock_k (h : StX B w s 4 D E) (hB : Below B w0 w) :
    Calls Try.prog 11 #[.pointer (some ⟨s, 0, none⟩), .int .i64 T] w fun e w' => ∃ r z E', e = .returned (.tuple #[.int .i64 r, .int .i64 z]) ∧ UnlQ 4 E T r z E' ∧ SK B w0 w s D E' w' := by
  obtain ⟨TA, tc, v, h⟩ := h
  exact (unlock_c h T).mono fun e w' ⟨r, z, E', h1, h2, h3⟩ => ⟨r, z, E', h1, h2, SK.of h h3 hB⟩
theorem drop_k (h : StX B w s 4 D E) (hB : Below B w0 w) :
    Calls Try.prog 12 #[.pointer (some ⟨s, 0, none⟩), .int .i64 T] w fun e w' => ∃ o, e = .returned o ∧ OwnI w' w.heap.size o (dropL 4 E T) ∧ SK B w0 w s D (dropC 4 E T) w' := by
  obtain ⟨TA, tc, v, h⟩ := h
  exact (drop_c h T).mono fun e w' ⟨o, h1, h2, h3⟩ => ⟨o, h1, h2, SK.of h h3 hB⟩
/-- The stack, where blocks of the law's own are written. -/
theorem StX.far2 {F : Nat → Prop} (h : StX B w s n D E) (k : Keeps F w w') (hF : ∀ b, F b → b < w.heap.size → ∃ t cs, Blk w b t cs ∧ t ≠ 57 ∧ t ≠ 60 ∧ t ≠ 48) : StX B w' s n D E := by
  obtain ⟨TA, tc, v, h⟩ := h
  have h1 : ∀ {b : Nat} {t : TypeId} {cs : Array Value}, Blk w b t cs → (t = 57 ∨ t = 60 ∨ t = 48) → w'.heap[b]? = w.heap[b]? := fun {b t cs} hb ht => k.block b hb.lt fun e => by
    obtain ⟨t2, cs2, h2, n1, n2, n3⟩ := hF b e hb.lt
    refine Blk.ne_ hb h2 ?_ rfl
    rintro rfl
    rcases ht with ht | ht | ht
    · exact n1 ht
    · exact n2 ht
    · exact n3 ht
  refine ⟨TA, tc, v, (h1 h.blk (.inl rfl)).trans h.blk, h.sB, h.own.keep fun b hb => ?_, h.len, h.n4, fun hn => ?_, fun a ha => ?_⟩
  · obtain ⟨_, _, cur, hc⟩ := h.own.lt b hb
    exact h1 hc (.inr (.inl rfl))
  · obtain ⟨b, off, hA, hbl, hr⟩ := h.tasks hn
    obtain ⟨cs, _, h2⟩ := h.tb _ hA
    exact ⟨b, off, hA, Nat.lt_of_lt_of_le hbl k.size, fun i hi => (hr i hi).keep fun p hp => World.cell?_of_block (w := w) (by rw [hp]; exact h1 h2 (.inr (.inr rfl)))⟩
  · obtain ⟨cs, h2, h3⟩ := h.tb a ha
    exact ⟨cs, h2, (h1 h3 (.inr (.inr rfl))).trans h3⟩
/-- The law's own rows: what is held by each (as HE says), what is locked (as f says). -/
structure Rows4 (B : Nat) (w : World) (g1 g2 : Nat) (V : Nat → Value) (H : Nat → List Int) (f : Nat → Bool) : Prop where
  rows : Blk w g1 51 (rowC V)
  lck : Blk w g2 52 (lckC f)
  own : ∀ k, k < 4 → OwnI w B (V k) (H k)
  sep : ∀ j k, j < 4 → k < 4 → j ≠ k → ∀ b, (V j).ownBlock = some b → (V k).ownBlock ≠ some b
  b1 : B ≤ g1
  b2 : B ≤ g2
variable {H : Nat → List Int}
theorem Rows4.keep (h : Rows4 B w g1 g2 V H f) (k : ∀ b t cs, Blk w b t cs → t ≠ 57 → t ≠ 60 → w'.heap[b]? = w.heap[b]?) : Rows4 B w' g1 g2 V H f :=
  ⟨(k _ _ _ h.rows (by decide) (by decide)).trans h.rows, (k _ _ _ h.lck (by decide) (by decide)).trans h.lck, fun j hj => (h.own j hj).keep fun b hb => by
    obtain ⟨_, _, cur, hc⟩ := (h.own j hj).lt b hb
    exact k _ _ _ hc (by decide) (by decide), h.sep, h.b1, h.b2⟩
theorem Rows4.below (h : Rows4 B w g1 g2 V H f) (k : Below w.heap.size w w') : Rows4 B w' g1 g2 V H f := h.keep fun b _ _ hb _ _ => k.block b hb.lt
theorem Rows4.ne (h : Rows4 B w g1 g2 V H f) : g1 ≠ g2 := Blk.ne_ h.rows h.lck (by decide)
/-- A truth is written. -/
theorem Rows4.put2 (h : Rows4 B w g1 g2 V H f) {X : Nat} (hX : X < 8) (b : Bool) : Rows4 B (w.setCell ⟨g2, X, none⟩ (.bool b)) g1 g2 V H (upd f X b) :=
  ⟨h.rows.far h.ne _, by have := h.lck.set_ X (.bool b); rwa [lckC_put f hX] at this, fun k hk => (h.own k hk).keep fun b2 hb2 => by
    obtain ⟨_, _, cur, hc⟩ := (h.own k hk).lt b2 hb2
    exact Below.heap_setCell w ⟨g2, X, none⟩ _ b2 (Blk.ne_ hc h.lck (by decide)), h.sep, h.b1, h.b2⟩
/-- A row is written anew. -/
theorem Rows4.put1 (h : Rows4 B w g1 g2 V H f) {t : Nat} (ht : t < 4) {w2 : World} {v2 : Value} {L2 : List Int} (hO : OwnI w2 B v2 L2) (hK : Keeps (fun b => (V t).ownBlock = some b) w w2)
    (hv : ∀ b, v2.ownBlock = some b → (V t).ownBlock = some b ∨ w.heap.size ≤ b) : Rows4 B (w2.setCell ⟨g1, t, none⟩ v2) g1 g2 (upd V t v2) (upd H t L2) f := by
  have hni : ∀ {b : Nat} {ty : TypeId} {cs : Array Value}, Blk w b ty cs → ty ≠ 3 → ¬ (V t).ownBlock = some b := fun {b ty cs} hb hty e => by
    obtain ⟨_, _, cur, hc⟩ := (h.own t ht).lt b e
    exact Blk.ne_ hb hc hty rfl
  have h1 : Blk w2 g1 51 (rowC V) := hK.blk h.rows (hni h.rows (by decide))
  have h2 : Blk w2 g2 52 (lckC f) := hK.blk h.lck (hni h.lck (by decide))
  have hO4 : ∀ k, k < 4 → k ≠ t → OwnI w2 B (V k) (H k) := fun k hk e => (h.own k hk).keep fun b hb => hK.block b ((h.own k hk).lt b hb).2.1 fun e2 => h.sep t k ht hk (fun e3 => e e3.symm) b e2 hb
  have hfar : ∀ {v : Value} {L : List Int}, OwnI w2 B v L → OwnI (w2.setCell ⟨g1, t, none⟩ v2) B v L := fun {v L} hv => hv.keep fun b hb => by
    obtain ⟨_, _, cur, hc⟩ := hv.lt b hb
    exact Below.heap_setCell w2 ⟨g1, t, none⟩ _ b (Blk.ne_ hc h1 (by decide))
  refine ⟨by have := h1.set_ t v2; rwa [rowC_put V ht] at this, h2.far (fun e => h.ne e.symm) _, fun k hk => ?_, fun j k hj hk hjk b hb => ?_, h.b1, h.b2⟩
  · by_cases e : k = t
    · subst e
      rw [upd_self, upd_self]
      exact hfar hO
    · rw [upd_other _ _ e, upd_other _ _ e]
      exact hfar (hO4 k hk e)
  · by_cases e : j = t
    · subst e
      rw [upd_self] at hb
      rw [upd_other _ _ (fun e => hjk e.symm)]
      rcases hv b hb with h3 | h3
      · exact h.sep j k hj hk hjk b h3
      · intro e
        have := ((h.own k hk).lt b e).2.1
        omega
    · rw [upd_other _ _ e] at hb
      by_cases e2 : k = t
      · subst e2
        rw [upd_self]
        intro e3
        rcases hv b e3 with h3 | h3
        · exact h.sep j k hj hk hjk b hb h3
        · have := ((h.own j hj).lt b hb).2.1
          omega
      · rw [upd_other _ _ e2]
        exact h.sep j k hj hk hjk b hb
end
end Go.Proofs.Ytmgcjdedgfiboaa
