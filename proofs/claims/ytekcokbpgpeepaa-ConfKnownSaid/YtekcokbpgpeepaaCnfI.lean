/- Layer 5: reader.into: numbers, one behind the other, into cells. -/
import Derived.Test.YtekcokbpgpeepaaRdG
import Derived.Test.YtekcokbpgpeepaaCnfH
namespace Go.Proofs.Ytekcokbpgpeepaa
set_option linter.unusedVariables false
open Go.RowKit

/-- Cells that numbers are read into: St k tells the memory when k of them are. -/
structure Tgt (B g b n : Nat) (tb to : Nat → Nat) (val : Nat → Int) (St : Nat → World → Prop) : Prop where
  ptr : ∀ k w, k < n → St k w → w.cell? ⟨b, k, none⟩ = some (.pointer (some ⟨tb k, to k, none⟩))
  cell : ∀ k w, k < n → St k w → ∃ u, w.cell? ⟨tb k, to k, none⟩ = some u
  free : ∀ k w, k < n → St k w → w.frozen? ⟨tb k, to k, none⟩ = false
  ne : ∀ k, k < n → tb k ≠ g ∧ B ≤ tb k
  step : ∀ k w, k < n → St k w → St (k + 1) (w.setCell ⟨tb k, to k, none⟩ (.int .i64 (val k)))
  keep : ∀ k w w', St k w → Keeps (fun i => i = g) w w' → St k w'
theorem into_c (B g b n : Nat) (s : RS) (tb to : Nat → Nat) (St : Nat → World → Prop) (w : World) (hT : Tgt B g b n tb to (fun k => rdN (rdAt s k)) St) (h : RdB B w g s.1 s.2) (hs : St 0 w) (hn : n ≤ 8) (hlt : ∀ k, k < n → tb k < w.heap.size) :
    Calls Try.prog 37 #[.agg #[.pointer (some ⟨g, 0, none⟩)], .slice (some ⟨b, 0, none⟩) n n] w fun e w' => e = .returned (.tuple #[]) ∧ RdB B w' g (rdAt s n).1 (rdAt s n).2 ∧ St n w' ∧ Keeps (fun i => i = g ∨ ∃ k, k < n ∧ i = tb k) w w' := by
  obtain ⟨vg, hgb⟩ := h.blk
  have hgl : ¬ w.heap.size = g := Nat.ne_of_gt hgb.lt
  have HG := Lib.hid hgb.lt
  have HB : Hid (Below w.heap.size w (w.alloc (.cells #[.pointer (some ⟨g, 0, none⟩)] 64))) := (Below.refl _ _).alloc (Nat.le_refl _) _
  have HX : Hid (Blk (w.alloc (.cells #[.pointer (some ⟨g, 0, none⟩)] 64)) w.heap.size 64 #[.pointer (some ⟨g, 0, none⟩)]) := Blk.new _ _ _
  have HR := Lib.hid (h.below HB.out)
  have HS := Lib.hid (hT.keep 0 w _ hs (Keeps.of_below HB.out))
  have HL := Lib.hid hlt
  have HT := Lib.hid hT
  clear h hs hgb hlt hT vg
  go_enter Try.func37, Try.ntmps37
  go_wp2_with fail
  go_loopw [8] (fun y wr => ∃ k : Nat, k ≤ n ∧ y = .int .i64 k ∧ RdB B wr g (rdAt s k).1 (rdAt s k).2 ∧ St k wr ∧ Blk wr w.heap.size 64 #[.pointer (some ⟨g, 0, none⟩)] ∧ Keeps (fun i => i = g ∨ ∃ k, k < n ∧ i = tb k) w wr) (fun y _ => n - (intOf y).toNat)
  case atStart => exact ⟨0, Nat.zero_le _, rfl, HR.out, HS.out, HX.out, Keeps.of_below HB.out⟩
  case round =>
    obtain ⟨k, hk, rfl, hR, hS, hb, hK⟩ := hrel
    have q0 : wr.cell? ⟨w.heap.size, 0, none⟩ = some (.pointer (some ⟨g, 0, none⟩)) := (hb.cell 0).trans rfl
    by_cases hlt : k < n
    · have hk1 : (k : Int) < (n : Int) := by omega
      have p0 := HT.out.ptr k wr hlt hS
      have HRR := Lib.hid hR
      have HSS := Lib.hid hS
      have HKK := Lib.hid hK
      have HBB := Lib.hid hb
      obtain ⟨hn1, hn2⟩ := HT.out.ne k hlt
      have HN1 := Lib.hid hn1
      have HN2 := Lib.hid hn2
      have HLT := Lib.hid hlt
      clear hR hS hK hb hn1 hn2
      go_wp2_with (go_at_call 36; with_reducible refine (one_c B g (rdAt s k) _ HRR.out).mono ?_; rintro e w1 ⟨rfl, hR1, hK1⟩; have hS1 := HT.out.keep k _ _ HSS.out hK1; obtain ⟨u0, c0⟩ := HT.out.cell k w1 HLT.out hS1; have f0 := HT.out.free k w1 HLT.out hS1; have HR1 := Lib.hid hR1; have HS1 := Lib.hid hS1; have HK1 := Lib.hid hK1; clear hR1 hS1 hK1)
      go_roundw
      case rel =>
        refine ⟨k + 1, by omega, rfl, ?_, HT.out.step k w1 HLT.out HS1.out, ?_, ?_⟩
        · exact HR1.out.keep (Keeps.setCell (S := fun i => i = tb k) (p := ⟨tb k, to k, none⟩) (Keeps.refl _ _) (.inl rfl) _) (fun e => HN1.out e.symm) (fun i hi e => by have := HN2.out; omega)
        · exact (HK1.out.blk HBB.out (by omega)).far (by have := HL.out k HLT.out; show w.heap.size ≠ tb k; omega) _
        · exact (HKK.out.trans HK1.out fun i hi => .inl (.inl hi)).setCell (.inl (.inr ⟨k, HLT.out, rfl⟩)) _
      case measure => simp [intOf]; omega
    · obtain rfl : n = k := by omega
      have hk1 : ¬ (n : Int) < (n : Int) := by omega
      go_wp2_with fail
      go_end0
      exact ⟨rfl, hR, hS, hK⟩
end Go.Proofs.Ytekcokbpgpeepaa
