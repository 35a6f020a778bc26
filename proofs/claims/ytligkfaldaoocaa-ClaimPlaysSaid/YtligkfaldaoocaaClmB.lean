/- The program's claims: New, Line, Holder; what a write leaves. -/
import Derived.Test.YtligkfaldaoocaaClmA
namespace Go.Proofs.Ytligkfaldaoocaa
set_option linter.unusedVariables false
open Go.RowKit

def upd {α : Type} (f : Nat → α) (k : Nat) (x : α) : Nat → α := fun i => if i = k then x else f i
theorem upd_self {α : Type} (f : Nat → α) (k : Nat) (x : α) : upd f k x k = x := if_pos rfl
theorem upd_other {α : Type} (f : Nat → α) {k i : Nat} (x : α) (h : i ≠ k) : upd f k x i = f i := if_neg h
theorem cc_put_who (V : Nat → Value) (f : Nat → Bool) {k : Nat} (hk : k < 4) (v : Value) : (cCells V f).setIfInBounds (1 + k * 2) v = cCells (upd V k v) f := by
  rcases (by omega : k = 0 ∨ k = 1 ∨ k = 2 ∨ k = 3) with rfl | rfl | rfl | rfl <;> rfl
theorem cc_put_held (V : Nat → Value) (f : Nat → Bool) {k : Nat} (hk : k < 4) (x : Bool) : (cCells V f).setIfInBounds (1 + k * 2 + 1) (.bool x) = cCells V (upd f k x) := by
  rcases (by omega : k = 0 ∨ k = 1 ∨ k = 2 ∨ k = 3) with rfl | rfl | rfl | rfl <;> rfl
/-- What a call leaves: only the claim's blocks and new ones are other. -/
def Turn (g : Nat) (V V' : Nat → Value) (w w' : World) : Prop := Keeps (foot g V) w w' ∧ ∀ b, foot g V' b → foot g V b ∨ w.heap.size ≤ b
section
variable {B g : Nat} {V V' V'' : Nat → Value} {S : CS} {w0 w w' w'' : World}
theorem Turn.refl (g : Nat) (V : Nat → Value) (w : World) : Turn g V V w w := ⟨Keeps.refl _ _, fun _ h => .inl h⟩
theorem Turn.below (k : Below w.heap.size w w') : Turn g V V w w' := ⟨Keeps.of_below k, fun _ h => .inl h⟩
theorem Turn.trans (h : Turn g V V' w w') (k : Turn g V' V'' w' w'') : Turn g V V'' w w'' :=
  ⟨h.1.trans k.1 h.2, fun b hb => by
    rcases k.2 b hb with h1 | h1
    · exact h.2 b h1
    · exact .inr (Nat.le_trans h.1.size h1)⟩
theorem keeps_grown {v : Value} (h : w.grownBy w' v.ownBlock) : Keeps (fun b => v.ownBlock = some b) w w' := ⟨h.os, h.tape, h.output, h.size, fun k hk hn => h.block k hk fun e => hn e.symm⟩
theorem ClA.put_held (h : ClA B w g V S) {k : Nat} (hk : k < 4) (x : Bool) (hx : x = true → S.l k ≠ []) :
    ClA B (w.setCell ⟨g, 1 + k * 2 + 1, none⟩ (.bool x)) g V ⟨S.l, upd S.h k x⟩ ∧ Turn g V V w (w.setCell ⟨g, 1 + k * 2 + 1, none⟩ (.bool x)) := by
  have hK : Keeps (fun b => b = g) w (w.setCell ⟨g, 1 + k * 2 + 1, none⟩ (.bool x)) := Keeps.setCell (S := fun b => b = g) (Keeps.refl _ _) (.inl rfl) _
  have hb := h.blk.set_ (1 + k * 2 + 1) (.bool x)
  rw [cc_put_held _ _ hk] at hb
  refine ⟨⟨hb, h.gB, fun i hi => (h.own i hi).keep fun b he => hK.block b ((h.own i hi).lt b he).2.1 ?_, h.sep, h.len, fun i hi hh => ?_⟩, hK.mono fun i hi => .inl hi, fun b hb => .inl hb⟩
  · rintro rfl
    obtain ⟨_, _, cur, hc⟩ := (h.own i hi).lt _ he
    exact Blk.ne_ hc h.blk (by decide) rfl
  · by_cases e : i = k
    · subst e
      exact hx (by simpa [upd] using hh)
    · exact h.held i hi (by simpa [upd, e] using hh)
theorem ClA.put_who (h : ClA B w g V S) {k : Nat} (hk : k < 4) {v : Value} {L : List Int} (hown : OwnI w' B v L) (hK : Keeps (fun b => (V k).ownBlock = some b) w w')
    (hv : v.ownBlock = (V k).ownBlock ∨ ∃ b, v.ownBlock = some b ∧ w.heap.size ≤ b) (hlen : L.length ≤ 1000000) (hheld : S.h k = true → L ≠ []) :
    ClA B (w'.setCell ⟨g, 1 + k * 2, none⟩ v) g (upd V k v) ⟨upd S.l k L, S.h⟩ ∧ Turn g V (upd V k v) w (w'.setCell ⟨g, 1 + k * 2, none⟩ v) := by
  have hg : (V k).ownBlock ≠ some g := by
    intro e
    obtain ⟨_, _, cur, hc⟩ := (h.own k hk).lt _ e
    exact Blk.ne_ hc h.blk (by decide) rfl
  have hb1 : Blk w' g 51 (cCells V S.h) := hK.blk h.blk hg
  have hb := hb1.set_ (1 + k * 2) v
  rw [cc_put_who _ _ hk] at hb
  have hfar : ∀ i b, i < 4 → i ≠ k → (V i).ownBlock = some b → w'.heap[b]? = w.heap[b]? ∧ b ≠ g ∧ v.ownBlock ≠ some b := by
    intro i b hi hik he
    have hl := (h.own i hi).lt b he
    refine ⟨hK.block b hl.2.1 fun e => h.sep i k b hi hk hik he e, ?_, ?_⟩
    · rintro rfl
      obtain ⟨_, _, cur, hc⟩ := hl
      exact Blk.ne_ hc h.blk (by decide) rfl
    · intro e
      rcases hv with hv | ⟨b', hv, hb'⟩
      · exact h.sep i k b hi hk hik he (hv ▸ e)
      · rw [hv] at e
        injection e with e
        omega
  have hvg : ∀ b, v.ownBlock = some b → b ≠ g := by
    rintro b he rfl
    rcases hv with hv | ⟨b', hv, hb'⟩
    · exact hg (hv ▸ he)
    · rw [hv] at he
      injection he with he
      have := h.blk.lt
      omega
  refine ⟨⟨hb, h.gB, fun i hi => ?_, fun i j b hi hj hij h1 h2 => ?_, fun i hi => ?_, fun i hi hh => ?_⟩, ?_, fun b hb => ?_⟩
  · by_cases e : i = k
    · subst e
      rw [upd_self]
      show OwnI _ B v (upd S.l i L i)
      rw [upd_self]
      exact hown.keep fun b he => Below.heap_setCell _ _ _ _ (hvg b he)
    · rw [upd_other _ _ e]
      show OwnI _ B (V i) (upd S.l k L i)
      rw [upd_other _ _ e]
      refine (h.own i hi).keep fun b he => ?_
      have := hfar i b hi e he
      exact (Below.heap_setCell _ _ _ _ this.2.1).trans this.1
  · by_cases e1 : i = k
    · subst e1
      rw [upd_self] at h1
      rw [upd_other _ _ (fun e => hij e.symm)] at h2
      exact (hfar j b hj (fun e => hij e.symm) h2).2.2 h1
    · rw [upd_other _ _ e1] at h1
      by_cases e2 : j = k
      · subst e2
        rw [upd_self] at h2
        exact (hfar i b hi e1 h1).2.2 h2
      · rw [upd_other _ _ e2] at h2
        exact h.sep i j b hi hj hij h1 h2
  · show (upd S.l k L i).length ≤ _
    by_cases e : i = k
    · subst e; rw [upd_self]; exact hlen
    · rw [upd_other _ _ e]; exact h.len i hi
  · show upd S.l k L i ≠ []
    by_cases e : i = k
    · subst e; rw [upd_self]; exact hheld hh
    · rw [upd_other _ _ e]; exact h.held i hi hh
  · exact Keeps.setCell (S := foot g V) (hK.mono fun i hi => .inr ⟨k, hk, hi⟩) (.inl (.inl rfl)) _
  · rcases hb with rfl | ⟨i, hi, he⟩
    · exact .inl (.inl rfl)
    · by_cases e : i = k
      · subst e
        rw [upd_self] at he
        rcases hv with hv | ⟨b', hv, hb'⟩
        · exact .inl (.inr ⟨i, hi, hv ▸ he⟩)
        · rw [hv] at he
          injection he with he
          exact .inr (by omega)
      · rw [upd_other _ _ e] at he
        exact .inl (.inr ⟨i, hi, he⟩)
end
theorem inE_some {S : CS} {p : Int} {k : Nat} (h : inE S p = some k) : k < 4 ∧ p ∈ S.l k := by
  unfold inE at h
  simp only [inFrom] at h
  split at h
  · cases h; exact ⟨by omega, by assumption⟩
  · split at h
    · cases h; exact ⟨by omega, by assumption⟩
    · split at h
      · cases h; exact ⟨by omega, by assumption⟩
      · split at h
        · cases h; exact ⟨by omega, by assumption⟩
        · cases h
theorem inE_none {S : CS} {p : Int} (h : inE S p = none) : ∀ k, k < 4 → p ∉ S.l k := by
  unfold inE at h
  simp only [inFrom] at h
  split at h
  · cases h
  · split at h
    · cases h
    · split at h
      · cases h
      · split at h
        · cases h
        · intro k hk
          rcases (by omega : k = 0 ∨ k = 1 ∨ k = 2 ∨ k = 3) with rfl | rfl | rfl | rfl <;> assumption
def noC : CS := ⟨fun _ => [], fun _ => false⟩
def noV : Nat → Value := fun _ => .slice none 0 0
theorem cnew_c (w : World) : Calls Try.prog 7 #[] w fun e w' => e = .returned (.pointer (some ⟨w.heap.size, 0, none⟩)) ∧ ClA w.heap.size w' w.heap.size noV noC ∧ Below w.heap.size w w' := by
  go_enter Try.func7, Try.ntmps7
  go_wp2
  go_ret
  refine ⟨rfl, ⟨?_, Nat.le_refl _, fun k hk => OwnI.nil, fun i j b _ _ _ h => by simp [noV, Value.ownBlock] at h, fun k hk => by simp [noC], fun k hk h => by simp [noC] at h⟩, (Below.refl _ _).alloc (Nat.le_refl _) _⟩
  exact Blk.new _ _ _
def lineL (S : CS) (r : Int) : List Int := if 1 ≤ r ∧ r ≤ 4 then S.l (r.toNat - 1) else []
theorem line_c (B g : Nat) (V : Nat → Value) (S : CS) (r : Int) (w : World) (h : ClA B w g V S) :
    Calls Try.prog 20 #[.pointer (some ⟨g, 0, none⟩), .int .i64 r] w fun e w' => ∃ v, e = .returned v ∧ OwnI w' w.heap.size v (lineL S r) ∧ Below w.heap.size w w' := by
  have hO := of_c g r w h.made
  by_cases hr : 1 ≤ r ∧ r ≤ 4
  · have hk : r.toNat - 1 < 4 := by omega
    rw [show lineL S r = S.l (r.toNat - 1) from if_pos hr]
    rw [show lineV g r = .pointer (some ⟨g, 1 + (r.toNat - 1) * 2, none⟩) from if_pos hr] at hO
    obtain ⟨A, c, hv, h1, h2, h3, h4, h5⟩ := (h.own _ hk).form
    have cw := h.who hk
    rw [hv] at cw
    have hl := h.len _ hk
    have HC := Lib.hid (cloneints_c A _ c (S.l (r.toNat - 1)) w (by omega) ⟨rfl, h3⟩ h2 h1)
    have HO := Lib.hid hO
    clear hO hr hv h1 h2 h3 h4 h5 hl h
    obtain ⟨o, ho⟩ : ∃ o, 1 + (r.toNat - 1) * 2 = o := ⟨_, rfl⟩
    rw [ho] at HO cw
    go_enter Try.func20, Try.ntmps20
    go_wp2_with (first
      | (go_at_call 29; refine HO.out.mono ?_; rintro e w1 ⟨rfl, rfl⟩)
      | (go_at_call 35; refine HC.out.mono ?_; rintro e w1 ⟨v, rfl, hv, hB⟩))
    go_ret
    exact ⟨v, rfl, hv, hB⟩
  · rw [show lineL S r = [] from if_neg hr]
    rw [show lineV g r = .pointer none from if_neg hr] at hO
    have HO := Lib.hid hO
    clear hO hr h
    go_enter Try.func20, Try.ntmps20
    go_wp2_with (go_at_call 29; refine HO.out.mono ?_; rintro e w1 ⟨rfl, rfl⟩)
    go_ret
    exact ⟨_, rfl, OwnI.nil, Below.refl _ _⟩
def holdN (S : CS) (r : Int) : Int := if 1 ≤ r ∧ r ≤ 4 ∧ S.h (r.toNat - 1) = true then (S.l (r.toNat - 1)).headD 0 else 0
def holdB (S : CS) (r : Int) : Bool := decide (1 ≤ r ∧ r ≤ 4) && S.h (r.toNat - 1)
theorem holder_c (B g : Nat) (V : Nat → Value) (S : CS) (r : Int) (w : World) (h : ClA B w g V S) :
    Calls Try.prog 21 #[.pointer (some ⟨g, 0, none⟩), .int .i64 r] w fun e w' => e = .returned (.tuple #[.int .i64 (holdN S r), .bool (holdB S r)]) ∧ Below w.heap.size w w' := by
  have hO := of_c g r w h.made
  by_cases hr : 1 ≤ r ∧ r ≤ 4
  · have hk : r.toNat - 1 < 4 := by omega
    rw [show lineV g r = .pointer (some ⟨g, 1 + (r.toNat - 1) * 2, none⟩) from if_pos hr] at hO
    have cw := h.who hk
    have ch := h.hld hk
    obtain ⟨A, c, hv, h1, h2, h3, h4, h5⟩ := (h.own _ hk).form
    rw [hv] at cw
    cases hh : S.h (r.toNat - 1) with
    | true =>
      have hne := h.held _ hk hh
      obtain ⟨x, L, hL⟩ : ∃ x L, S.l (r.toNat - 1) = x :: L := by
        cases hl : S.l (r.toNat - 1) with
        | nil => exact absurd hl hne
        | cons x L => exact ⟨x, L, rfl⟩
      obtain ⟨b, off, rfl, hb, hx⟩ := h3 hne
      have c1 := hx 0 x (by rw [hL]; rfl)
      simp only [Nat.add_zero] at c1
      have hpos : (0 : Int) < ((S.l (r.toNat - 1)).length : Nat) := by rw [hL]; simp <;> omega
      rw [show holdN S r = x by unfold holdN; rw [if_pos ⟨hr.1, hr.2, hh⟩, hL]; rfl, show holdB S r = true by unfold holdB; rw [hh]; simp [hr]]
      rw [hh] at ch
      have HO := Lib.hid hO
      clear hO hr hv h1 h2 h3 h4 h5 h hL hh hx hne
      obtain ⟨o, ho⟩ : ∃ o, 1 + (r.toNat - 1) * 2 = o := ⟨_, rfl⟩
      rw [ho] at HO cw ch
      go_enter Try.func21, Try.ntmps21
      go_wp2_with (go_at_call 29; refine HO.out.mono ?_; rintro e w1 ⟨rfl, rfl⟩)
      go_ret2
      exact ⟨rfl, Below.refl _ _⟩
    | false =>
      rw [show holdN S r = 0 by unfold holdN; rw [if_neg]; simp [hh], show holdB S r = false by unfold holdB; rw [hh]; simp]
      rw [hh] at ch
      have HO := Lib.hid hO
      clear hO hr hv h1 h2 h3 h4 h5 h hh
      obtain ⟨o, ho⟩ : ∃ o, 1 + (r.toNat - 1) * 2 = o := ⟨_, rfl⟩
      rw [ho] at HO cw ch
      go_enter Try.func21, Try.ntmps21
      go_wp2_with (go_at_call 29; refine HO.out.mono ?_; rintro e w1 ⟨rfl, rfl⟩)
      go_ret2
      exact ⟨rfl, Below.refl _ _⟩
  · rw [show lineV g r = .pointer none from if_neg hr] at hO
    rw [show holdN S r = 0 by unfold holdN; rw [if_neg]; intro h; exact hr ⟨h.1, h.2.1⟩, show holdB S r = false by unfold holdB; simp [hr]]
    have HO := Lib.hid hO
    clear hO hr h
    go_enter Try.func21, Try.ntmps21
    go_wp2_with (go_at_call 29; refine HO.out.mono ?_; rintro e w1 ⟨rfl, rfl⟩)
    go_ret2
    exact ⟨rfl, Below.refl _ _⟩
end Go.Proofs.Ytligkfaldaoocaa
