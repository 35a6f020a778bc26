/- The program's claims as a caller sees them: one word for their memory, values by equations. -/
import Derived.Test.YtligkfaldaoocaaClmD
namespace Go.Proofs.Ytligkfaldaoocaa
set_option linter.unusedVariables false
open Go.RowKit

/-- Claims in memory, from block B on. -/
def ClX (B : Nat) (w : World) (g : Nat) (S : CS) : Prop := ∃ V, ClA B w g V S
section
variable {B g : Nat} {S S' : CS} {w0 w w' : World} {p r : Int}
theorem ClX.below (h : ClX B w g S) (k : Below w.heap.size w w') : ClX B w' g S := by
  obtain ⟨V, h⟩ := h
  exact ⟨V, h.below k⟩
theorem ClX.alloc (h : ClX B w g S) (o : Obj) : ClX B (w.alloc o) g S := h.below ((Below.refl _ _).alloc (Nat.le_refl _) _)
theorem ClX.drewN (h : ClX B w g S) (n : Nat) : ClX B (w.drewN n) g S := h.below (below_drewN (Below.refl _ _) _)
theorem ClX.hs (h : ClX B w g S) : B ≤ w.heap.size := by
  obtain ⟨V, h⟩ := h
  exact h.hs
theorem ClA.bel {V V' : Nat → Value} (h : ClA B w g V S) (hT : Turn g V V' w w') (hB : Below B w0 w) : Below B w0 w' := Below.keeps hB hT.1 h.hs (fun i hi => (h.footB i hi).1)
theorem new_x (w : World) (hB : Below B w0 w) (hs : B ≤ w.heap.size) : Calls Try.prog 7 #[] w fun e w' => ∃ g, e = .returned (.pointer (some ⟨g, 0, none⟩)) ∧ ClX B w' g noC ∧ Below B w0 w' :=
  (cnew_c w).mono fun e w' ⟨h1, h2, h3⟩ => ⟨_, h1, ⟨noV, ⟨h2.blk, hs, fun k hk => OwnI.nil, h2.sep, h2.len, h2.held⟩⟩, below_lift hB h3 hs⟩
theorem ask_x (h : ClX B w g S) (hB : Below B w0 w) (hl : ∀ k, k < 4 → (S.l k).length < 1000000) {b : Bool} {n : Int} (hb : askB S p r = b) (hn : askE S p r = n) (hc : askC S p r = S') :
    Calls Try.prog 10 #[.pointer (some ⟨g, 0, none⟩), .int .i64 p, .int .i64 r] w fun e w' => e = .returned (.tuple #[.bool b, .int .i64 n]) ∧ ClX B w' g S' ∧ Below B w0 w' := by
  obtain ⟨V, h⟩ := h
  subst hb hn hc
  exact (ask_c B g V S p r w h hl).mono fun e w' ⟨h1, V', h2, h3⟩ => ⟨h1, ⟨V', h2⟩, h.bel h3 hB⟩
theorem hold_x (h : ClX B w g S) (hB : Below B w0 w) {n : Int} (hn : holdE S p r = n) (hc : holdC S p r = S') :
    Calls Try.prog 12 #[.pointer (some ⟨g, 0, none⟩), .int .i64 p, .int .i64 r] w fun e w' => e = .returned (.int .i64 n) ∧ ClX B w' g S' ∧ Below B w0 w' := by
  obtain ⟨V, h⟩ := h
  subst hn hc
  exact (hold_c B g V S p r w h).mono fun e w' ⟨h1, h2, h3⟩ => ⟨h1, ⟨V, h2⟩, h.bel h3 hB⟩
theorem give_x (h : ClX B w g S) (hB : Below B w0 w) {n : Int} (hn : giveE S p r = n) (hc : giveC S p r = S') :
    Calls Try.prog 14 #[.pointer (some ⟨g, 0, none⟩), .int .i64 p, .int .i64 r] w fun e w' => e = .returned (.int .i64 n) ∧ ClX B w' g S' ∧ Below B w0 w' := by
  obtain ⟨V, h⟩ := h
  subst hn hc
  exact (give_c B g V S p r w h).mono fun e w' ⟨h1, V', h2, h3⟩ => ⟨h1, ⟨V', h2⟩, h.bel h3 hB⟩
theorem drop_x (h : ClX B w g S) (hB : Below B w0 w) {o : Option Nat} {v : Value} (hn : inE S p = o) (hv : inV o = v) (hc : dropC S p = S') :
    Calls Try.prog 16 #[.pointer (some ⟨g, 0, none⟩), .int .i64 p] w fun e w' => e = .returned v ∧ ClX B w' g S' ∧ Below B w0 w' := by
  obtain ⟨V, h⟩ := h
  subst hn hv hc
  exact (drop_c B g V S p w h).mono fun e w' ⟨h1, V', h2, h3⟩ => ⟨h1, ⟨V', h2⟩, h.bel h3 hB⟩
theorem in_x (h : ClX B w g S) {o : Option Nat} {v : Value} (hn : inE S p = o) (hv : inV o = v) :
    Calls Try.prog 23 #[.pointer (some ⟨g, 0, none⟩), .int .i64 p] w fun e w' => e = .returned v ∧ w = w' := by
  obtain ⟨V, h⟩ := h
  subst hn hv
  exact in_c B g V S p w h
theorem holder_x (h : ClX B w g S) (hB : Below B w0 w) {n : Int} {b : Bool} (hn : holdN S r = n) (hb : holdB S r = b) :
    Calls Try.prog 21 #[.pointer (some ⟨g, 0, none⟩), .int .i64 r] w fun e w' => e = .returned (.tuple #[.int .i64 n, .bool b]) ∧ ClX B w' g S ∧ Below B w0 w' := by
  have hs := h.hs
  obtain ⟨V, h⟩ := h
  subst hn hb
  exact (holder_c B g V S r w h).mono fun e w' ⟨h1, h2⟩ => ⟨h1, ⟨V, h.below h2⟩, below_lift hB h2 hs⟩
theorem line_x (h : ClX B w g S) (hB : Below B w0 w) {L : List Int} {n : Nat} (hL : lineL S r = L) (hn : L.length = n) :
    Calls Try.prog 20 #[.pointer (some ⟨g, 0, none⟩), .int .i64 r] w fun e w' => ∃ A c, e = .returned (.slice A n c) ∧ n ≤ c ∧ IntsR w' A L ∧ OwnI w' w.heap.size (.slice A n c) L ∧ ClX B w' g S ∧ Below B w0 w' ∧ Below w.heap.size w w' := by
  have hs := h.hs
  obtain ⟨V, h⟩ := h
  subst hn hL
  refine (line_c B g V S r w h).mono fun e w' ⟨v, h1, h2, h3⟩ => ?_
  obtain ⟨A, c, rfl, k1, k2, k3, _⟩ := h2.form
  exact ⟨A, c, h1, k1, k3, h2, ⟨V, h.below h3⟩, below_lift hB h3 hs, h3⟩
end
/-- asks, where that is what Ask answers. -/
theorem asks_x {B g : Nat} {S S' : CS} {w0 w : World} {p r : Int} (h : ClX B w g S) (hB : Below B w0 w) (hl : ∀ k, k < 4 → (S.l k).length < 1000000) {b : Bool} {n : Int} (hb : askB S p r = b) (hn : askE S p r = n) (hc : askC S p r = S') :
    Calls Try.prog 22 #[.pointer (some ⟨g, 0, none⟩), .int .i64 p, .int .i64 r, .bool b, .int .i64 n] w fun e w' => e = .returned (.bool true) ∧ ClX B w' g S' ∧ Below B w0 w' := by
  have HA := Lib.hid (ask_x h hB hl hb hn hc)
  clear h hB hl hb hn hc
  go_enter Try.func22, Try.ntmps22
  go_wp2_with (go_at_call 10; refine HA.out.mono ?_; rintro e w1 ⟨rfl, h1, hB1⟩)
  go_ret
  exact ⟨by simp, h1, hB1⟩
/-- EqInts of a line and of a row that was made last. -/
theorem eqlast_x {B g : Nat} {S : CS} {w0 w : World} {A : Option Addr} {L M : List Int} {n c m : Nat} {cs : Array Value} (h : ClX B w g S) (hB : Below B w0 w) (hR : IntsR w A L) (hn : L.length = n) (hm : M.length = m) (hc : cs.toList = ics M) (hl : n ≤ 1000000) {b : Bool} (hb : decide (L = M) = b) :
    Calls Try.prog 33 #[.slice A n c, .slice (some ⟨w.heap.size, 0, none⟩) m m] (w.alloc (.cells cs 3)) fun e w' => e = .returned (.bool b) ∧ ClX B w' g S ∧ Below B w0 w' := by
  have hA : Below w.heap.size w (w.alloc (.cells cs 3)) := (Below.refl _ _).alloc (Nat.le_refl _) _
  have hs := h.hs
  subst hn hm
  refine (eqints_c A _ c L (some ⟨w.heap.size, 0, none⟩) _ M.length M _ ⟨rfl, hR.below hA⟩ ⟨rfl, intsR_new hc⟩ (by omega)).mono fun e w' ⟨h1, h2⟩ => ⟨by rw [h1, hb], (h.below hA).below h2, ?_⟩
  exact below_lift (below_lift hB hA hs) h2 (Nat.le_trans hs hA.size)
end Go.Proofs.Ytligkfaldaoocaa
