/- Layer 5: what reader.into reads: a part's numbers, a task's, a port's. -/
import Derived.Test.YtekcokbpgpeepaaCnfI
namespace Go.Proofs.Ytekcokbpgpeepaa
set_option linter.unusedVariables false
open Go.RowKit

def tkOf (s : RS) : TV := ⟨rdN s, rdN (rdAt s 1), rdN (rdAt s 2), rdN (rdAt s 3), rdN (rdAt s 4), rdN (rdAt s 5), rdN (rdAt s 6), rdN (rdAt s 7)⟩
def ptOf (s : RS) : PV := ⟨rdN s, rdN (rdAt s 1), rdN (rdAt s 2), rdN (rdAt s 3), rdN (rdAt s 4), rdN (rdAt s 5)⟩
def tCells (t : TV) : Array Value := #[.int .i64 t.p, .int .i64 t.d, .int .i64 t.b, .int .i64 t.ls, .int .i64 t.l, .int .i64 t.g, .int .i64 t.lg, .int .i64 t.lk]
def qCells (q : PV) : Array Value := #[.int .i64 q.k, .int .i64 q.f, .int .i64 q.t, .int .i64 q.s, .int .i64 q.d, .int .i64 q.a]
def c8 (val : Nat → Int) (k : Nat) : Array Value := #[.int .i64 (if 0 < k then val 0 else 0), .int .i64 (if 1 < k then val 1 else 0), .int .i64 (if 2 < k then val 2 else 0), .int .i64 (if 3 < k then val 3 else 0), .int .i64 (if 4 < k then val 4 else 0), .int .i64 (if 5 < k then val 5 else 0), .int .i64 (if 6 < k then val 6 else 0), .int .i64 (if 7 < k then val 7 else 0)]
def St8 (b q : Nat) (val : Nat → Int) (k : Nat) (w : World) : Prop := Blk w b 51 #[.pointer (some ⟨q, 0, none⟩), .pointer (some ⟨q, 1, none⟩), .pointer (some ⟨q, 2, none⟩), .pointer (some ⟨q, 3, none⟩), .pointer (some ⟨q, 4, none⟩), .pointer (some ⟨q, 5, none⟩), .pointer (some ⟨q, 6, none⟩), .pointer (some ⟨q, 7, none⟩)] ∧ Blk w q 46 (c8 val k)
theorem tgt8 {B g b q : Nat} {val : Nat → Int} (h1 : q ≠ g) (h2 : B ≤ q) (h3 : b ≠ g) (h4 : b ≠ q) : Tgt B g b 8 (fun _ => q) (fun k => k) val (St8 b q val) where
  ptr := fun k w hk h => by
    rw [h.1.cell]
    rcases (by omega : k = 0 ∨ k = 1 ∨ k = 2 ∨ k = 3 ∨ k = 4 ∨ k = 5 ∨ k = 6 ∨ k = 7) with rfl | rfl | rfl | rfl | rfl | rfl | rfl | rfl <;> rfl
  cell := fun k w hk h => by
    rw [h.2.cell]
    rcases (by omega : k = 0 ∨ k = 1 ∨ k = 2 ∨ k = 3 ∨ k = 4 ∨ k = 5 ∨ k = 6 ∨ k = 7) with rfl | rfl | rfl | rfl | rfl | rfl | rfl | rfl <;> exact ⟨_, rfl⟩
  free := fun k w hk h => h.2.frozen k
  ne := fun k hk => ⟨h1, h2⟩
  step := fun k w hk h => by
    refine ⟨h.1.far h4 _, ?_⟩
    have := h.2.set_ k (.int .i64 (val k))
    have e : (c8 val k).setIfInBounds k (.int .i64 (val k)) = c8 val (k + 1) := by
      rcases (by omega : k = 0 ∨ k = 1 ∨ k = 2 ∨ k = 3 ∨ k = 4 ∨ k = 5 ∨ k = 6 ∨ k = 7) with rfl | rfl | rfl | rfl | rfl | rfl | rfl | rfl <;> simp [c8]
    rw [e] at this
    exact this
  keep := fun k w w' h hk => ⟨hk.blk h.1 h3, hk.blk h.2 h1⟩
theorem into8_c (B g b q : Nat) (s : RS) (w : World) (h : RdB B w g s.1 s.2) (hb : Blk w b 51 #[.pointer (some ⟨q, 0, none⟩), .pointer (some ⟨q, 1, none⟩), .pointer (some ⟨q, 2, none⟩), .pointer (some ⟨q, 3, none⟩), .pointer (some ⟨q, 4, none⟩), .pointer (some ⟨q, 5, none⟩), .pointer (some ⟨q, 6, none⟩), .pointer (some ⟨q, 7, none⟩)]) (hq : Blk w q 46 #[.int .i64 0, .int .i64 0, .int .i64 0, .int .i64 0, .int .i64 0, .int .i64 0, .int .i64 0, .int .i64 0]) (hB : B ≤ q) :
    Calls Try.prog 37 #[.agg #[.pointer (some ⟨g, 0, none⟩)], .slice (some ⟨b, 0, none⟩) 8 8] w fun e w' => e = .returned (.tuple #[]) ∧ RdB B w' g (rdAt s 8).1 (rdAt s 8).2 ∧ Blk w' q 46 (tCells (tkOf s)) ∧ Keeps (fun i => i = g ∨ i = q) w w' := by
  obtain ⟨vg, hgb⟩ := h.blk
  have h1 : q ≠ g := hq.ne_ hgb (by decide)
  have h3 : b ≠ g := hb.ne_ hgb (by decide)
  have h4 : b ≠ q := hb.ne_ hq (by decide)
  refine (into_c B g b 8 s (fun _ => q) (fun k => k) _ w (tgt8 h1 hB h3 h4) h ⟨hb, hq⟩ (by omega) (fun k _ => hq.lt)).mono fun e w' ⟨k1, k2, k3, k4⟩ => ⟨k1, k2, k3.2, k4.mono fun i hi => ?_⟩
  rcases hi with hi | ⟨k, _, hi⟩
  · exact .inl hi
  · exact .inr hi
def c6 (val : Nat → Int) (k : Nat) : Array Value := #[.int .i64 (if 0 < k then val 0 else 0), .int .i64 (if 1 < k then val 1 else 0), .int .i64 (if 2 < k then val 2 else 0), .int .i64 (if 3 < k then val 3 else 0), .int .i64 (if 4 < k then val 4 else 0), .int .i64 (if 5 < k then val 5 else 0)]
def St6 (b q : Nat) (val : Nat → Int) (k : Nat) (w : World) : Prop := Blk w b 51 #[.pointer (some ⟨q, 0, none⟩), .pointer (some ⟨q, 1, none⟩), .pointer (some ⟨q, 2, none⟩), .pointer (some ⟨q, 3, none⟩), .pointer (some ⟨q, 4, none⟩), .pointer (some ⟨q, 5, none⟩)] ∧ Blk w q 48 (c6 val k)
theorem tgt6 {B g b q : Nat} {val : Nat → Int} (h1 : q ≠ g) (h2 : B ≤ q) (h3 : b ≠ g) (h4 : b ≠ q) : Tgt B g b 6 (fun _ => q) (fun k => k) val (St6 b q val) where
  ptr := fun k w hk h => by
    rw [h.1.cell]
    rcases (by omega : k = 0 ∨ k = 1 ∨ k = 2 ∨ k = 3 ∨ k = 4 ∨ k = 5) with rfl | rfl | rfl | rfl | rfl | rfl <;> rfl
  cell := fun k w hk h => by
    rw [h.2.cell]
    rcases (by omega : k = 0 ∨ k = 1 ∨ k = 2 ∨ k = 3 ∨ k = 4 ∨ k = 5) with rfl | rfl | rfl | rfl | rfl | rfl <;> exact ⟨_, rfl⟩
  free := fun k w hk h => h.2.frozen k
  ne := fun k hk => ⟨h1, h2⟩
  step := fun k w hk h => by
    refine ⟨h.1.far h4 _, ?_⟩
    have := h.2.set_ k (.int .i64 (val k))
    have e : (c6 val k).setIfInBounds k (.int .i64 (val k)) = c6 val (k + 1) := by
      rcases (by omega : k = 0 ∨ k = 1 ∨ k = 2 ∨ k = 3 ∨ k = 4 ∨ k = 5) with rfl | rfl | rfl | rfl | rfl | rfl <;> simp [c6]
    rw [e] at this
    exact this
  keep := fun k w w' h hk => ⟨hk.blk h.1 h3, hk.blk h.2 h1⟩
theorem into6_c (B g b q : Nat) (s : RS) (w : World) (h : RdB B w g s.1 s.2) (hb : Blk w b 51 #[.pointer (some ⟨q, 0, none⟩), .pointer (some ⟨q, 1, none⟩), .pointer (some ⟨q, 2, none⟩), .pointer (some ⟨q, 3, none⟩), .pointer (some ⟨q, 4, none⟩), .pointer (some ⟨q, 5, none⟩)]) (hq : Blk w q 48 #[.int .i64 0, .int .i64 0, .int .i64 0, .int .i64 0, .int .i64 0, .int .i64 0]) (hB : B ≤ q) :
    Calls Try.prog 37 #[.agg #[.pointer (some ⟨g, 0, none⟩)], .slice (some ⟨b, 0, none⟩) 6 6] w fun e w' => e = .returned (.tuple #[]) ∧ RdB B w' g (rdAt s 6).1 (rdAt s 6).2 ∧ Blk w' q 48 (qCells (ptOf s)) ∧ Keeps (fun i => i = g ∨ i = q) w w' := by
  obtain ⟨vg, hgb⟩ := h.blk
  have h1 : q ≠ g := hq.ne_ hgb (by decide)
  have h3 : b ≠ g := hb.ne_ hgb (by decide)
  have h4 : b ≠ q := hb.ne_ hq (by decide)
  refine (into_c B g b 6 s (fun _ => q) (fun k => k) _ w (tgt6 h1 hB h3 h4) h ⟨hb, hq⟩ (by omega) (fun k _ => hq.lt)).mono fun e w' ⟨k1, k2, k3, k4⟩ => ⟨k1, k2, k3.2, k4.mono fun i hi => ?_⟩
  rcases hi with hi | ⟨k, _, hi⟩
  · exact .inl hi
  · exact .inr hi
def St3 (b q m : Nat) (val : Nat → Int) (k : Nat) (w : World) : Prop := Blk w b 51 #[.pointer (some ⟨q, 0, none⟩), .pointer (some ⟨q, 1, none⟩), .pointer (some ⟨m, 0, none⟩)] ∧ Blk w q 41 #[.int .i64 (if 0 < k then val 0 else 0), .int .i64 (if 1 < k then val 1 else 0), .slice none 0 0] ∧ Blk w m 3 #[.int .i64 (if 2 < k then val 2 else 0)]
theorem tgt3 {B g b q m : Nat} {val : Nat → Int} (h1 : q ≠ g) (h1' : m ≠ g) (h2 : B ≤ q) (h2' : B ≤ m) (h3 : b ≠ g) (h4 : b ≠ q) (h5 : b ≠ m) (h6 : q ≠ m) : Tgt B g b 3 (fun k => if k = 2 then m else q) (fun k => if k = 2 then 0 else k) val (St3 b q m val) where
  ptr := fun k w hk h => by
    rw [h.1.cell]
    rcases (by omega : k = 0 ∨ k = 1 ∨ k = 2) with rfl | rfl | rfl <;> rfl
  cell := fun k w hk h => by
    rcases (by omega : k = 0 ∨ k = 1 ∨ k = 2) with rfl | rfl | rfl
    · exact ⟨_, h.2.1.cell 0⟩
    · exact ⟨_, h.2.1.cell 1⟩
    · exact ⟨_, h.2.2.cell 0⟩
  free := fun k w hk h => by
    rcases (by omega : k = 0 ∨ k = 1 ∨ k = 2) with rfl | rfl | rfl
    · exact h.2.1.frozen 0
    · exact h.2.1.frozen 1
    · exact h.2.2.frozen 0
  ne := fun k hk => by
    rcases (by omega : k = 0 ∨ k = 1 ∨ k = 2) with rfl | rfl | rfl
    · exact ⟨h1, h2⟩
    · exact ⟨h1, h2⟩
    · exact ⟨h1', h2'⟩
  step := fun k w hk h => by
    rcases (by omega : k = 0 ∨ k = 1 ∨ k = 2) with rfl | rfl | rfl
    · exact ⟨h.1.far h4 _, h.2.1.set_ 0 _, h.2.2.far h6.symm _⟩
    · exact ⟨h.1.far h4 _, h.2.1.set_ 1 _, h.2.2.far h6.symm _⟩
    · exact ⟨h.1.far h5 _, h.2.1.far h6 _, h.2.2.set_ 0 _⟩
  keep := fun k w w' h hk => ⟨hk.blk h.1 h3, hk.blk h.2.1 h1, hk.blk h.2.2 h1'⟩
theorem into3_c (B g b q m : Nat) (s : RS) (w : World) (h : RdB B w g s.1 s.2) (hb : Blk w b 51 #[.pointer (some ⟨q, 0, none⟩), .pointer (some ⟨q, 1, none⟩), .pointer (some ⟨m, 0, none⟩)]) (hq : Blk w q 41 #[.int .i64 0, .int .i64 0, .slice none 0 0]) (hm : Blk w m 3 #[.int .i64 0]) (hB : B ≤ q) (hB' : B ≤ m) :
    Calls Try.prog 37 #[.agg #[.pointer (some ⟨g, 0, none⟩)], .slice (some ⟨b, 0, none⟩) 3 3] w fun e w' => e = .returned (.tuple #[]) ∧ RdB B w' g (rdAt s 3).1 (rdAt s 3).2 ∧ Blk w' q 41 #[.int .i64 (rdN s), .int .i64 (rdN (rdAt s 1)), .slice none 0 0] ∧ Blk w' m 3 #[.int .i64 (rdN (rdAt s 2))] ∧ Keeps (fun i => i = g ∨ i = q ∨ i = m) w w' := by
  obtain ⟨vg, hgb⟩ := h.blk
  have h1 : q ≠ g := hq.ne_ hgb (by decide)
  have h1' : m ≠ g := hm.ne_ hgb (by decide)
  have h3 : b ≠ g := hb.ne_ hgb (by decide)
  have h4 : b ≠ q := hb.ne_ hq (by decide)
  have h5 : b ≠ m := hb.ne_ hm (by decide)
  have h6 : q ≠ m := hq.ne_ hm (by decide)
  refine (into_c B g b 3 s (fun k => if k = 2 then m else q) (fun k => if k = 2 then 0 else k) _ w (tgt3 h1 h1' hB hB' h3 h4 h5 h6) h ⟨hb, hq, hm⟩ (by omega) (fun k _ => by split <;> first | exact hm.lt | exact hq.lt)).mono fun e w' ⟨k1, k2, k3, k4⟩ => ⟨k1, k2, k3.2.1, k3.2.2, k4.mono fun i hi => ?_⟩
  rcases hi with hi | ⟨k, _, hi⟩
  · exact .inl hi
  · split at hi
    · exact .inr (.inr hi)
    · exact .inr (.inl hi)
end Go.Proofs.Ytekcokbpgpeepaa
