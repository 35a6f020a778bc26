/- The program's stack and the document's at once. -/
import Derived.Test.YtmgcjdedgfiboaaDocW
import Derived.Test.YtmgcjdedgfiboaaStkX
namespace Go.Proofs.Ytmgcjdedgfiboaa
set_option linter.unusedVariables false
open Go.RowKit

section
variable {B s m n tc tc2 : Nat} {w w' w0 : World} {TA TA2 : Option Addr} {D : Nat → Nat → Int} {v v' v2 : Value} {E E' E2 : List Ent} {F : Nat → Prop}
theorem StM.far2 (h : StM B w m TA n tc D v E) (k : Keeps F w w') (hF : ∀ b, F b → b < w.heap.size → ∃ t cs, Blk w b t cs ∧ t ≠ 69 ∧ t ≠ 77 ∧ t ≠ 48) : StM B w' m TA n tc D v E := by
  have h1 : ∀ {b : Nat} {t : TypeId} {cs : Array Value}, Blk w b t cs → (t = 69 ∨ t = 77 ∨ t = 48) → w'.heap[b]? = w.heap[b]? := fun {b t cs} hb ht => k.block b hb.lt fun e => by
    obtain ⟨t2, cs2, h2, n1, n2, n3⟩ := hF b e hb.lt
    refine Blk.ne_ hb h2 ?_ rfl
    rintro rfl
    rcases ht with ht | ht | ht
    · exact n1 ht
    · exact n2 ht
    · exact n3 ht
  refine ⟨(h1 h.blk (.inl rfl)).trans h.blk, h.sB, h.own.keep fun b hb => ?_, h.len, h.n4, fun hn => ?_, fun a ha => ?_⟩
  · obtain ⟨_, _, cur, hc⟩ := h.own.lt b hb
    exact h1 hc (.inr (.inl rfl))
  · obtain ⟨b, off, hA, hbl, hr⟩ := h.tasks hn
    obtain ⟨cs, _, h2⟩ := h.tb _ hA
    exact ⟨b, off, hA, Nat.lt_of_lt_of_le hbl k.size, fun i hi => (hr i hi).keep fun p hp => World.cell?_of_block (w := w) (by rw [hp]; exact h1 h2 (.inr (.inr rfl)))⟩
  · obtain ⟨cs, h2, h3⟩ := h.tb a ha
    exact ⟨cs, h2, (h1 h3 (.inr (.inr rfl))).trans h3⟩
theorem StA.far2 (h : StA B w s TA n tc D v E) (k : Keeps F w w') (hF : ∀ b, F b → b < w.heap.size → ∃ t cs, Blk w b t cs ∧ t ≠ 57 ∧ t ≠ 60 ∧ t ≠ 48) : StA B w' s TA n tc D v E := by
  have h1 : ∀ {b : Nat} {t : TypeId} {cs : Array Value}, Blk w b t cs → (t = 57 ∨ t = 60 ∨ t = 48) → w'.heap[b]? = w.heap[b]? := fun {b t cs} hb ht => k.block b hb.lt fun e => by
    obtain ⟨t2, cs2, h2, n1, n2, n3⟩ := hF b e hb.lt
    refine Blk.ne_ hb h2 ?_ rfl
    rintro rfl
    rcases ht with ht | ht | ht
    · exact n1 ht
    · exact n2 ht
    · exact n3 ht
  refine ⟨(h1 h.blk (.inl rfl)).trans h.blk, h.sB, h.own.keep fun b hb => ?_, h.len, h.n4, fun hn => ?_, fun a ha => ?_⟩
  · obtain ⟨_, _, cur, hc⟩ := h.own.lt b hb
    exact h1 hc (.inr (.inl rfl))
  · obtain ⟨b, off, hA, hbl, hr⟩ := h.tasks hn
    obtain ⟨cs, _, h2⟩ := h.tb _ hA
    exact ⟨b, off, hA, Nat.lt_of_lt_of_le hbl k.size, fun i hi => (hr i hi).keep fun p hp => World.cell?_of_block (w := w) (by rw [hp]; exact h1 h2 (.inr (.inr rfl)))⟩
  · obtain ⟨cs, h2, h3⟩ := h.tb a ha
    exact ⟨cs, h2, (h1 h3 (.inr (.inr rfl))).trans h3⟩
theorem StM.turnA (h : StM B w m TA2 n tc2 D v2 E2) (hS : StA B w s TA n tc D v E) (hT : STurn s v v' w w') : StM B w' m TA2 n tc2 D v2 E2 :=
  h.far2 hT.1 fun b hb _ => by
    rcases hb with rfl | hb
    · exact ⟨_, _, hS.blk, by decide, by decide, by decide⟩
    · obtain ⟨_, _, cur, hc⟩ := hS.own.lt b hb
      exact ⟨_, _, hc, by decide, by decide, by decide⟩
theorem StA.turnM (h : StA B w s TA n tc D v E) (hS : StM B w m TA2 n tc2 D v2 E2) (hT : STurn m v2 v' w w') : StA B w' s TA n tc D v E :=
  h.far2 hT.1 fun b hb _ => by
    rcases hb with rfl | hb
    · exact ⟨_, _, hS.blk, by decide, by decide, by decide⟩
    · obtain ⟨_, _, cur, hc⟩ := hS.own.lt b hb
      exact ⟨_, _, hc, by decide, by decide, by decide⟩
/-- Both in memory, from block B on. -/
structure Two (B : Nat) (w : World) (s m n : Nat) (D : Nat → Nat → Int) (E E2 : List Ent) : Prop where
  a : ∃ TA tc v, StA B w s TA n tc D v E
  d : ∃ TA tc v, StM B w m TA n tc D v E2
/-- The calls that stand in memory stand. -/
def DoK (w w' : World) : Prop := ∀ b cs, Blk w b 31 cs → Blk w' b 31 cs
/-- What a call of one leaves. -/
structure TQ (B : Nat) (w0 : World) (s m n : Nat) (D : Nat → Nat → Int) (E E2 : List Ent) (w' : World) : Prop where
  t : Two B w' s m n D E E2
  b : Below B w0 w'
  o : DoK w0 w'
theorem Two.below (h : Two B w s m n D E E2) (k : Below w.heap.size w w') : Two B w' s m n D E E2 := by
  obtain ⟨⟨_, _, _, h1⟩, _, _, _, h2⟩ := h
  exact ⟨⟨_, _, _, h1.below k⟩, _, _, _, h2.below k⟩
theorem Two.hs (h : Two B w s m n D E E2) : B ≤ w.heap.size := by
  obtain ⟨⟨_, _, _, h1⟩, _⟩ := h
  exact h1.hs
theorem Two.prog (h2 : ∃ TA tc v, StM B w m TA n tc D v E2) (h1 : StA B w s TA n tc D v E) (hQ : SQ B s TA n tc D v E' w w') (hB : Below B w0 w) (hD : DoK w0 w) : TQ B w0 s m n D E' E2 w' := by
  obtain ⟨_, _, _, h2⟩ := h2
  obtain ⟨v', h3, h4⟩ := hQ
  exact ⟨⟨⟨_, _, _, h3⟩, _, _, _, h2.turnA h1 h4⟩, h4.belowB h1 hB, fun b cs hb => (h4.1.block b (hD b cs hb).lt fun e => by
    rcases e with rfl | e
    · exact Blk.ne_ (hD _ cs hb) h1.blk (by decide) rfl
    · obtain ⟨_, _, cur, hc⟩ := h1.own.lt b e
      exact Blk.ne_ (hD b cs hb) hc (by decide) rfl).trans (hD b cs hb)⟩
theorem Two.doc (h1 : ∃ TA tc v, StA B w s TA n tc D v E) (h2 : StM B w m TA n tc D v E2) (hQ : DQ B m TA n tc D v E' w w') (hB : Below B w0 w) (hD : DoK w0 w) : TQ B w0 s m n D E E' w' := by
  obtain ⟨_, _, _, h1⟩ := h1
  obtain ⟨v', h3, h4⟩ := hQ
  exact ⟨⟨⟨_, _, _, h1.turnM h2 h4⟩, _, _, _, h3⟩, h4.belowM h2 hB, fun b cs hb => (h4.1.block b (hD b cs hb).lt fun e => by
    rcases e with rfl | e
    · exact Blk.ne_ (hD _ cs hb) h2.blk (by decide) rfl
    · obtain ⟨_, _, cur, hc⟩ := h2.own.lt b e
      exact Blk.ne_ (hD b cs hb) hc (by decide) rfl).trans (hD b cs hb)⟩
variable {t r z : Int}
theorem lock_2 (h : Two B w s m n D E E2) (hB : Below B w0 w) (hD : DoK w0 w) (hl : E.length < 100000) :
    Calls Try.prog 10 #[.pointer (some ⟨s, 0, none⟩), .int .i64 t, .int .i64 r] w fun e w' => e = .returned (.int .i64 (lockE n D E t r)) ∧ TQ B w0 s m n D (lockC n D E t r) E2 w' := by
  obtain ⟨⟨_, _, _, h1⟩, h2⟩ := h
  exact (lock_c h1 hl t r).mono fun e w' ⟨k1, k2⟩ => ⟨k1, Two.prog h2 h1 k2 hB hD⟩
theorem dlock_2 (h : Two B w s m n D E E2) (hB : Below B w0 w) (hD : DoK w0 w) (hl : E2.length < 100000) :
    Calls Try.prog 35 #[.pointer (some ⟨m, 0, none⟩), .int .i64 t, .int .i64 r] w fun e w' => e = .returned (.int .i64 (dlockE n D E2 t r)) ∧ TQ B w0 s m n D E (dlockC n D E2 t r) w' := by
  obtain ⟨h1, _, _, _, h2⟩ := h
  exact (dlock_c h2 hl t r).mono fun e w' ⟨k1, k2⟩ => ⟨k1, Two.doc h1 h2 k2 hB hD⟩
theorem unlock_2 (h : Two B w s m n D E E2) (hB : Below B w0 w) (hD : DoK w0 w) :
    Calls Try.prog 11 #[.pointer (some ⟨s, 0, none⟩), .int .i64 t] w fun e w' => ∃ r z E', e = .returned (.tuple #[.int .i64 r, .int .i64 z]) ∧ UnlQ n E t r z E' ∧ TQ B w0 s m n D E' E2 w' := by
  obtain ⟨⟨_, _, _, h1⟩, h2⟩ := h
  exact (unlock_c h1 t).mono fun e w' ⟨r, z, E', k1, k3, k2⟩ => ⟨r, z, E', k1, k3, Two.prog h2 h1 k2 hB hD⟩
theorem dunlock_2 (h : Two B w s m n D E E2) (hB : Below B w0 w) (hD : DoK w0 w) :
    Calls Try.prog 36 #[.pointer (some ⟨m, 0, none⟩), .int .i64 t] w fun e w' => ∃ r z E', e = .returned (.tuple #[.int .i64 r, .int .i64 z]) ∧ UnlQ n E2 t r z E' ∧ TQ B w0 s m n D E E' w' := by
  obtain ⟨h1, _, _, _, h2⟩ := h
  exact (dunlock_q h2 t).mono fun e w' ⟨r, z, E', k1, k3, k2⟩ => ⟨r, z, E', k1, k3, Two.doc h1 h2 k2 hB hD⟩
theorem drop_2 (h : Two B w s m n D E E2) (hB : Below B w0 w) (hD : DoK w0 w) :
    Calls Try.prog 12 #[.pointer (some ⟨s, 0, none⟩), .int .i64 t] w fun e w' => ∃ o, e = .returned o ∧ OwnI w' w.heap.size o (dropL n E t) ∧ TQ B w0 s m n D (dropC n E t) E2 w' := by
  obtain ⟨⟨_, _, _, h1⟩, h2⟩ := h
  exact (drop_c h1 t).mono fun e w' ⟨o, k1, k3, k2⟩ => ⟨o, k1, k3, Two.prog h2 h1 k2 hB hD⟩
/-- The document's Drop, with a row of numbers beside. -/
theorem ddrop_2 (h : Two B w s m n D E E2) (hB : Below B w0 w) (hD : DoK w0 w) (hX : askE n t ≠ 0 → heldE E2 t = []) {B1 : Nat} {u : Value} {L : List Int} (hO : OwnI w B1 u L) :
    Calls Try.prog 37 #[.pointer (some ⟨m, 0, none⟩), .int .i64 t] w fun e w' => ∃ o, e = .returned o ∧ OwnI w' w.heap.size o (dropL n E2 t) ∧ OwnI w' B1 u L ∧ TQ B w0 s m n D E (dropC n E2 t) w' := by
  obtain ⟨h1, _, _, _, h2⟩ := h
  exact (ddrop_c h2 t hX).mono fun e w' ⟨o, k1, k3, k2⟩ => ⟨o, k1, k3, by obtain ⟨v', _, k4⟩ := k2; exact hO.turnM h2 k4, Two.doc h1 h2 k2 hB hD⟩
theorem unl_uniq {r1 r2 z1 z2 : Int} {E1 E2' : List Ent} (h1 : UnlQ n E t r1 z1 E1) (h2 : UnlQ n E t r2 z2 E2') : r2 = r1 ∧ z2 = z1 ∧ E2' = E1 := by
  rcases h1 with ⟨a1, a2, a3, a4⟩ | ⟨a1, a2, a3, a4, a5⟩ | ⟨a1, k, x, hx, hxt, hd, hr, hz, hE⟩
  · rcases h2 with ⟨_, b2, b3, b4⟩ | ⟨b1, _⟩ | ⟨b1, _⟩
    · exact ⟨b2.trans a2.symm, b3.trans a3.symm, b4.trans a4.symm⟩
    · exact absurd b1 a1
    · exact absurd b1 a1
  · obtain ⟨b1, b2, b3⟩ := unl_none a1 a2 h2
    exact ⟨b1.trans a3.symm, b2.trans a4.symm, b3.trans a5.symm⟩
  · obtain ⟨b1, b2, b3⟩ := unl_val a1 hx hxt hd h2
    exact ⟨b1.trans hr.symm, b2.trans hz.symm, b3.trans hE.symm⟩
/-- What stands in a stack: every entry's task is one of the tasks; no task has more than four. -/
structure Inv (n : Nat) (E : List Ent) : Prop where
  r : ∀ x ∈ E, askE n x.1 = 0
  l : ∀ t, (heldE E t).length ≤ 4
theorem Inv.nil : Inv n [] := ⟨by simp, fun t => by simp [heldE]⟩
theorem Inv.sub (h : Inv n E) (hs : E'.Sublist E) : Inv n E' :=
  ⟨fun x hx => h.r x (hs.subset hx), fun t => Nat.le_trans (by unfold heldE; rw [List.length_map, List.length_map]; exact (hs.filter _).length_le) (h.l t)⟩
theorem Inv.none (h : Inv n E) (ha : askE n t ≠ 0) : heldE E t = [] := heldE_no fun x hx e => ha (e ▸ h.r x hx)
theorem Inv.eqE (h : Inv n E) : dlockE n D E t r = lockE n D E t r := by
  unfold dlockE lockE
  have := h.l t
  by_cases h4 : (heldE E t).length = 4
  · rw [if_pos h4, if_pos (by omega : 4 ≤ (heldE E t).length)]
  · rw [if_neg h4, if_neg (by omega : ¬ 4 ≤ (heldE E t).length)]
theorem Inv.eqC (h : Inv n E) : dlockC n D E t r = lockC n D E t r := by
  unfold dlockC lockC
  rw [h.eqE]
theorem Inv.put (h : Inv n E) : Inv n (lockC n D E t r) ∧ (lockC n D E t r).length ≤ E.length + 1 := by
  unfold lockC
  split
  · next e =>
    have ha : askE n t = 0 := by
      apply Classical.byContradiction
      intro ha
      unfold lockE at e
      rw [if_pos ha] at e
      exact ha e
    have h4 : (heldE E t).length < 4 := by
      apply Classical.byContradiction
      intro h4
      unfold lockE at e
      rw [if_neg (by simpa using ha), if_pos (by omega : 4 ≤ (heldE E t).length)] at e
      split at e
      · cases e
      · split at e <;> cases e
    refine ⟨⟨fun x hx => ?_, fun t' => ?_⟩, by simp⟩
    · rcases List.mem_append.1 hx with hx | hx
      · exact h.r x hx
      · obtain rfl := List.mem_singleton.1 hx
        exact ha
    · rw [heldE_app, List.length_append]
      by_cases e : t = t'
      · subst e
        have : (heldE [(t, r)] t).length = 1 := by simp [heldE]
        omega
      · have : heldE [(t, r)] t' = [] := heldE_no (by intro x hx; obtain rfl := List.mem_singleton.1 hx; exact e)
        rw [this]
        exact h.l t'
  · exact ⟨h, by omega⟩
theorem Inv.unl (h : Inv n E) {z : Int} (hq : UnlQ n E t r z E') : Inv n E' ∧ E'.length ≤ E.length := by
  have hs : E'.Sublist E := by
    rcases hq with ⟨_, _, _, rfl⟩ | ⟨_, _, _, _, rfl⟩ | ⟨_, k, x, hx, _, _, _, _, rfl⟩
    · exact List.Sublist.refl _
    · exact List.Sublist.refl _
    · conv => rhs; rw [split_at hx]
      exact List.Sublist.append (List.Sublist.refl _) (List.sublist_cons_self _ _)
  exact ⟨h.sub hs, hs.length_le⟩
theorem Inv.drop (h : Inv n E) : Inv n (dropC n E t) ∧ (dropC n E t).length ≤ E.length := by
  have hs : (dropC n E t).Sublist E := by
    unfold dropC
    split
    · exact List.filter_sublist
    · exact List.Sublist.refl _
  exact ⟨h.sub hs, hs.length_le⟩
end
end Go.Proofs.Ytmgcjdedgfiboaa
