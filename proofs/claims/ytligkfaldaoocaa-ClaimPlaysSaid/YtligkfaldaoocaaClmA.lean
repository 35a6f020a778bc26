/- The program's claims in memory; the methods that only read. -/
import Derived.Test.YtligkfaldaoocaaDelF
import Derived.BigQuiet
import Derived.Deep.RegionHeld3
namespace Go.Proofs.Ytligkfaldaoocaa
set_option linter.unusedVariables false
open Go.RowKit

/-- Lines, and whether the first one holds. -/
structure CS where
  l : Nat → List Int
  h : Nat → Bool
def cCells (V : Nat → Value) (h : Nat → Bool) : Array Value := #[.bool true, V 0, .bool (h 0), V 1, .bool (h 1), V 2, .bool (h 2), V 3, .bool (h 3)]
structure ClA (B : Nat) (w : World) (g : Nat) (V : Nat → Value) (S : CS) : Prop where
  blk : Blk w g 51 (cCells V S.h)
  gB : B ≤ g
  own : ∀ k, k < 4 → OwnI w B (V k) (S.l k)
  sep : ∀ i j b, i < 4 → j < 4 → i ≠ j → (V i).ownBlock = some b → (V j).ownBlock ≠ some b
  len : ∀ k, k < 4 → (S.l k).length ≤ 1000000
  held : ∀ k, k < 4 → S.h k = true → S.l k ≠ []
/-- Whose blocks these are. -/
def foot (g : Nat) (V : Nat → Value) (b : Nat) : Prop := b = g ∨ ∃ i, i < 4 ∧ (V i).ownBlock = some b
/-- The line of a partition, from k on. -/
def inFrom (S : CS) (p : Int) : Nat → Nat → Option Nat
  | 0, _ => none
  | n + 1, k => if p ∈ S.l k then some k else inFrom S p n (k + 1)
def inE (S : CS) (p : Int) : Option Nat := inFrom S p 4 0
def inV (o : Option Nat) : Value := match o with
  | some k => .tuple #[.int .i64 ((k : Int) + 1), .bool true]
  | none => .tuple #[.int .i64 0, .bool false]
section
variable {B g : Nat} {V : Nat → Value} {S : CS} {w0 w w' : World}
theorem OwnI.lt {v : Value} {L : List Int} (h : OwnI w B v L) : ∀ b, v.ownBlock = some b → B ≤ b ∧ b < w.heap.size ∧ ∃ cur, Blk w b 3 cur := by
  intro b hb
  obtain ⟨A, c, rfl, h1, h2, h3, h4⟩ := own_form h
  cases A with
  | none => simp [Value.ownBlock] at hb
  | some a =>
    obtain ⟨g, cur, rfl, hg, hk, _⟩ := h4 a rfl
    simp [Value.ownBlock] at hb
    subst hb
    exact ⟨hg, hk.lt, cur, hk⟩
theorem OwnI.keep {v : Value} {L : List Int} (h : OwnI w B v L) (hb : ∀ b, v.ownBlock = some b → w'.heap[b]? = w.heap[b]?) : OwnI w' B v L := by
  obtain ⟨h1, h2⟩ := h
  refine ⟨h1, ?_⟩
  rcases h2 with h2 | ⟨g, cap, cur, e1, e0, e3⟩
  · exact .inl h2
  · exact .inr ⟨g, cap, cur, e1, e0, (hb g (by rw [e1]; rfl)).trans e3.1, e3.2⟩
theorem ClA.below (h : ClA B w g V S) (k : Below w.heap.size w w') : ClA B w' g V S := ⟨h.blk.below k h.blk.lt, h.gB, fun i hi => (h.own i hi).below k, h.sep, h.len, h.held⟩
theorem ClA.keeps {F : Nat → Prop} (h : ClA B w g V S) (k : Keeps F w w') (hF : ∀ b, foot g V b → ¬ F b) : ClA B w' g V S :=
  ⟨k.blk h.blk (hF g (.inl rfl)), h.gB, fun i hi => (h.own i hi).keep fun b hb => k.block b ((h.own i hi).lt b hb).2.1 (hF b (.inr ⟨i, hi, hb⟩)), h.sep, h.len, h.held⟩
theorem ClA.hs (h : ClA B w g V S) : B ≤ w.heap.size := Nat.le_trans h.gB (Nat.le_of_lt h.blk.lt)
theorem ClA.footB (h : ClA B w g V S) : ∀ b, foot g V b → B ≤ b ∧ b < w.heap.size := by
  intro b hb
  rcases hb with rfl | ⟨i, hi, hb⟩
  · exact ⟨h.gB, h.blk.lt⟩
  · exact ⟨((h.own i hi).lt b hb).1, ((h.own i hi).lt b hb).2.1⟩
theorem ClA.made (h : ClA B w g V S) : w.cell? ⟨g, 0, none⟩ = some (.bool true) := (h.blk.cell 0).trans rfl
theorem cc_who (V : Nat → Value) (f : Nat → Bool) {k : Nat} (hk : k < 4) : (cCells V f)[1 + k * 2]? = some (V k) := by
  rcases (by omega : k = 0 ∨ k = 1 ∨ k = 2 ∨ k = 3) with rfl | rfl | rfl | rfl <;> rfl
theorem cc_held (V : Nat → Value) (f : Nat → Bool) {k : Nat} (hk : k < 4) : (cCells V f)[1 + k * 2 + 1]? = some (.bool (f k)) := by
  rcases (by omega : k = 0 ∨ k = 1 ∨ k = 2 ∨ k = 3) with rfl | rfl | rfl | rfl <;> rfl
theorem ClA.who (h : ClA B w g V S) {k : Nat} (hk : k < 4) : w.cell? ⟨g, 1 + k * 2, none⟩ = some (V k) := (h.blk.cell _).trans (cc_who _ _ hk)
theorem ClA.hld (h : ClA B w g V S) {k : Nat} (hk : k < 4) : w.cell? ⟨g, 1 + k * 2 + 1, none⟩ = some (.bool (S.h k)) := (h.blk.cell _).trans (cc_held _ _ hk)
end
theorem cnone_c (g : Nat) (w : World) (h : w.cell? ⟨g, 0, none⟩ = some (.bool true)) :
    Calls Try.prog 36 #[.pointer (some ⟨g, 0, none⟩)] w fun e w' => e = .returned (.bool false) ∧ w = w' := by
  go_enter Try.func36, Try.ntmps36
  go_wp2
  go_ret
  exact ⟨rfl, rfl⟩
/-- A line's address. -/
def lineV (g : Nat) (r : Int) : Value := if 1 ≤ r ∧ r ≤ 4 then .pointer (some ⟨g, 1 + (r.toNat - 1) * 2, none⟩) else .pointer none
theorem of_c (g : Nat) (r : Int) (w : World) (h : w.cell? ⟨g, 0, none⟩ = some (.bool true)) :
    Calls Try.prog 29 #[.pointer (some ⟨g, 0, none⟩), .int .i64 r] w fun e w' => e = .returned (lineV g r) ∧ w = w' := by
  by_cases hr : 1 ≤ r ∧ r ≤ 4
  · have hL : Hid (lineV g r = .pointer (some ⟨g, 1 + (r.toNat - 1) * 2, none⟩)) := if_pos hr
    rw [hL.out]
    clear hL
    rcases (by omega : r = 1 ∨ r = 2 ∨ r = 3 ∨ r = 4) with rfl | rfl | rfl | rfl
    all_goals
      clear hr
      go_enter Try.func29, Try.ntmps29
      go_wp2_with (go_at_call 36; refine (cnone_c g _ h).mono ?_; rintro e w1 ⟨rfl, rfl⟩)
      go_ret
      exact ⟨rfl, rfl⟩
  · have hL : Hid (lineV g r = .pointer none) := if_neg hr
    rw [hL.out]
    clear hL
    by_cases h1 : r < 1
    · clear hr
      go_enter Try.func29, Try.ntmps29
      go_wp2_with (go_at_call 36; refine (cnone_c g _ h).mono ?_; rintro e w1 ⟨rfl, rfl⟩)
      go_ret
      exact ⟨rfl, rfl⟩
    · have h2 : 4 < r := by omega
      clear hr
      go_enter Try.func29, Try.ntmps29
      go_wp2_with (go_at_call 36; refine (cnone_c g _ h).mono ?_; rintro e w1 ⟨rfl, rfl⟩)
      go_ret
      exact ⟨rfl, rfl⟩
def okPR (p r : Int) : Prop := 0 ≤ p ∧ p < 4 ∧ 1 ≤ r ∧ r ≤ 4
theorem asked_ok (g : Nat) (p r : Int) (w : World) (h : w.cell? ⟨g, 0, none⟩ = some (.bool true)) (hok : okPR p r) :
    Calls Try.prog 24 #[.pointer (some ⟨g, 0, none⟩), .int .i64 p, .int .i64 r] w fun e w' => e = .returned (.tuple #[.pointer (some ⟨g, 1 + (r.toNat - 1) * 2, none⟩), .int .i64 0]) ∧ w = w' := by
  obtain ⟨h1, h2, h3, h4⟩ := hok
  have hO := of_c g r w h
  rw [show lineV g r = .pointer (some ⟨g, 1 + (r.toNat - 1) * 2, none⟩) from if_pos ⟨h3, h4⟩] at hO
  have HO := Lib.hid hO
  clear hO
  have q1 : ¬ p < 0 := by omega
  have q2 : ¬ 4 ≤ p := by omega
  obtain ⟨o, ho⟩ : ∃ o, 1 + (r.toNat - 1) * 2 = o := ⟨_, rfl⟩
  rw [ho] at HO ⊢
  go_enter Try.func24, Try.ntmps24
  go_wp2_with (first
    | (go_at_call 36; refine (cnone_c g _ h).mono ?_; rintro e w1 ⟨rfl, rfl⟩)
    | (go_at_call 29; refine HO.out.mono ?_; rintro e w1 ⟨rfl, rfl⟩))
  go_ret2
  exact ⟨rfl, rfl⟩
theorem asked_bad (g : Nat) (p r : Int) (w : World) (h : w.cell? ⟨g, 0, none⟩ = some (.bool true)) (hok : ¬ okPR p r) :
    Calls Try.prog 24 #[.pointer (some ⟨g, 0, none⟩), .int .i64 p, .int .i64 r] w fun e w' => e = .returned (.tuple #[.pointer none, .int .i64 9]) ∧ w = w' := by
  have hO := of_c g r w h
  by_cases hr : 1 ≤ r ∧ r ≤ 4
  · rw [show lineV g r = .pointer (some ⟨g, 1 + (r.toNat - 1) * 2, none⟩) from if_pos hr] at hO
    have HO := Lib.hid hO
    clear hO
    obtain ⟨o, ho⟩ : ∃ o, 1 + (r.toNat - 1) * 2 = o := ⟨_, rfl⟩
    rw [ho] at HO
    by_cases hp : p < 0
    · clear hok hr ho
      go_enter Try.func24, Try.ntmps24
      go_wp2_with (first
        | (go_at_call 36; refine (cnone_c g _ h).mono ?_; rintro e w1 ⟨rfl, rfl⟩)
        | (go_at_call 29; refine HO.out.mono ?_; rintro e w1 ⟨rfl, rfl⟩))
      go_ret2
      exact ⟨rfl, rfl⟩
    · have q2 : 4 ≤ p := by unfold okPR at hok; omega
      clear hok hr ho
      go_enter Try.func24, Try.ntmps24
      go_wp2_with (first
        | (go_at_call 36; refine (cnone_c g _ h).mono ?_; rintro e w1 ⟨rfl, rfl⟩)
        | (go_at_call 29; refine HO.out.mono ?_; rintro e w1 ⟨rfl, rfl⟩))
      go_ret2
      exact ⟨rfl, rfl⟩
  · rw [show lineV g r = .pointer none from if_neg hr] at hO
    have HO := Lib.hid hO
    clear hO hr hok
    go_enter Try.func24, Try.ntmps24
    go_wp2_with (first
      | (go_at_call 36; refine (cnone_c g _ h).mono ?_; rintro e w1 ⟨rfl, rfl⟩)
      | (go_at_call 29; refine HO.out.mono ?_; rintro e w1 ⟨rfl, rfl⟩))
    go_ret2
    exact ⟨rfl, rfl⟩
def isFirst (L : List Int) (p : Int) : Bool := L.head? == some p
theorem first_c (g o c : Nat) (A : Option Addr) (L : List Int) (p : Int) (w : World) (h : w.cell? ⟨g, o, none⟩ = some (.slice A L.length c)) (hR : IntsR w A L) :
    Calls Try.prog 25 #[.pointer (some ⟨g, o, none⟩), .int .i64 p] w fun e w' => e = .returned (.bool (isFirst L p)) ∧ w = w' := by
  cases L with
  | nil =>
    clear hR
    go_enter Try.func25, Try.ntmps25
    go_wp2
    go_ret
    exact ⟨rfl, rfl⟩
  | cons x L =>
    obtain ⟨b, off, rfl, hb, hx⟩ := hR (by simp)
    have c1 := hx 0 x rfl
    simp only [Nat.add_zero] at c1
    have hpos : (0 : Int) < ((x :: L).length : Nat) := by simp <;> omega
    have HI : Hid (isFirst (x :: L) p = (x == p)) := by show isFirst (x :: L) p = _; simp [isFirst]
    clear hR hx
    go_enter Try.func25, Try.ntmps25
    go_wp2
    go_ret
    exact ⟨ret_bool HI.out.symm, rfl⟩
theorem inFrom_step (S : CS) (p : Int) (n k : Nat) : inFrom S p (n + 1) k = if p ∈ S.l k then some k else inFrom S p n (k + 1) := rfl
set_option maxHeartbeats 400000 in
theorem in_c (B g : Nat) (V : Nat → Value) (S : CS) (p : Int) (w : World) (h : ClA B w g V S) :
    Calls Try.prog 23 #[.pointer (some ⟨g, 0, none⟩), .int .i64 p] w fun e w' => e = .returned (inV (inE S p)) ∧ w = w' := by
  have c0 := h.made
  have HH := Lib.hid h
  have HE : Hid (inE S p = inFrom S p (4 - 0) 0) := (show inE S p = _ from rfl)
  clear h
  go_enter Try.func23, Try.ntmps23
  go_wp2_with (go_at_call 36; refine (cnone_c g _ c0).mono ?_; rintro e w1 ⟨rfl, rfl⟩)
  go_loopw [9] (fun x wr => ∃ k : Nat, x = .int .i64 k ∧ Hid (k ≤ 4 ∧ inE S p = inFrom S p (4 - k) k) ∧ Hid (w = wr)) (fun x _ => 4 - (intOf x).toNat)
  case atStart => exact ⟨0, rfl, Lib.hid ⟨by omega, HE.out⟩, Lib.hid rfl⟩
  case round =>
    obtain ⟨k, rfl, HK, hww⟩ := hrel
    obtain rfl := hww.out
    by_cases hk : k < 4
    · obtain ⟨A, c, hv, h1, h2, h3, h4, h5⟩ := (HH.out.own k hk).form
      have cw := HH.out.who hk
      rw [hv] at cw
      have hl := HH.out.len k hk
      have HC := Lib.hid (contains_c A c (S.l k) p w h3 (by omega))
      have HS := Lib.hid (inFrom_step S p (4 - (k + 1)) k)
      rw [show 4 - (k + 1) + 1 = 4 - k by omega] at HS
      have kI : (k : Int) < 4 := by omega
      have hw : wrap64 ((k : Int) + 1) = ((k + 1 : Nat) : Int) := by rw [IntWalk.wrap64_in _ (by omega)]; omega
      obtain ⟨bb, hbb⟩ : ∃ bb, decide (p ∈ S.l k) = bb := ⟨_, rfl⟩
      rw [hbb] at HC
      have HB := Lib.hid hbb
      clear hv h1 h2 h3 h4 h5 hl hbb
      cases bb with
      | true =>
        go_wp2_with (go_at_call 37; refine HC.out.mono ?_; rintro e w1 ⟨rfl, rfl⟩)
        go_ret2
        refine ⟨?_, rfl⟩
        rw [HK.out.2, HS.out, if_pos (of_decide_eq_true HB.out)]
        rfl
      | false =>
        go_wp2_with (go_at_call 37; refine HC.out.mono ?_; rintro e w1 ⟨rfl, rfl⟩)
        go_roundw
        case rel => exact ⟨k + 1, rfl, Lib.hid ⟨by omega, by rw [HK.out.2, HS.out, if_neg (of_decide_eq_false HB.out)]⟩, Lib.hid trivial⟩
        case measure => simp [intOf]; omega
    · have kI : ¬ (k : Int) < 4 := by omega
      obtain rfl : k = 4 := by have := HK.out.1; omega
      go_wp2
      go_ret2
      exact ⟨by rw [HK.out.2]; rfl, rfl⟩
end Go.Proofs.Ytligkfaldaoocaa
