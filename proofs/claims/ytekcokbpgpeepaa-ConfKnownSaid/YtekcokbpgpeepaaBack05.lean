/- ConfBack, walked. -/
import Derived.Test.YtekcokbpgpeepaaAgain05
import Derived.Test.YtekcokbpgpeepaaCnfV
namespace Go.Proofs.Ytekcokbpgpeepaa
set_option linter.unusedVariables false
open Go.RowKit

theorem check_w (A A2 : Option Addr) (n1 n2 : Nat) (c : Cfg) (w : World) (h : CfA w A n1 A2 n2 c) (hc : checkB c = false) :
    Calls Try.prog 12 #[.agg #[.slice A c.ps.length n1, .slice A2 c.qs.length n2]] w fun e w' => e = .returned (.int .i64 50) ∧ Below w.heap.size w w' :=
  check_c A A2 n1 n2 c w h (by unfold checkE; rw [hc]; rfl)
theorem back_c (A A2 : Option Addr) (n1 n2 : Nat) (c : Cfg) (w : World) (h : CfA w A n1 A2 n2 c) :
    Calls Try.prog 5 #[.agg #[.slice A c.ps.length n1, .slice A2 c.qs.length n2]] w fun e w' => e = .returned (.bool true) ∧ Below w.heap.size w w' := by
  have HB : Hid (Below w.heap.size w (w.alloc (.cells #[.slice A c.ps.length n1, .slice A2 c.qs.length n2] 25))) := (Below.refl _ _).alloc (Nat.le_refl _) _
  have HK : Hid (Blk (w.alloc (.cells #[.slice A c.ps.length n1, .slice A2 c.qs.length n2] 25)) w.heap.size 25 #[.slice A c.ps.length n1, .slice A2 c.qs.length n2]) := Blk.new w _ _
  have HH := Lib.hid (h.below HB.out)
  clear h
  cases hb : checkB c with
  | false =>
    have Hb := Lib.hid hb
    clear hb
    go_enter Try.func5, Try.ntmps5
    go_wp2_with (first
      | (go_at_call 12; with_reducible refine (check_w A A2 n1 n2 c _ (HC1.out.below hb2) Hb.out).mono ?_; rintro e w3 ⟨rfl, hb3⟩)
      | (go_at_call 10; with_reducible refine (bytes_n A A2 n1 n2 c _ HC1.out Hb.out).mono ?_; rintro e w2 ⟨rfl, hb2⟩; have x0 := (hb2.cell (p := ⟨w.heap.size, 0, none⟩) hl1).trans c0; have x1 := (hb2.cell (p := ⟨w.heap.size, 1, none⟩) hl1).trans c1)
      | (go_at_call 16; with_reducible refine (works_c _).mono ?_; rintro e w1 ⟨rfl, hb1⟩; have c0 : w1.cell? ⟨w.heap.size, 0, none⟩ = some (.slice A c.ps.length n1) := ((HK.out.below hb1 HK.out.lt).cell 0).trans rfl; have c1 : w1.cell? ⟨w.heap.size, 1, none⟩ = some (.slice A2 c.qs.length n2) := ((HK.out.below hb1 HK.out.lt).cell 1).trans rfl; have hl1 : w.heap.size < w1.heap.size := Nat.lt_of_lt_of_le HK.out.lt hb1.size; have HC1 := Lib.hid (HH.out.below hb1); have HB1 := Lib.hid (below_lift HB.out hb1 HB.out.size); clear hb1))
    go_ret
    have h2 := below_lift HB1.out hb2 HB1.out.size
    exact ⟨by simp, below_lift h2 hb3 h2.size⟩
  | true =>
    have Hb := Lib.hid hb
    have HL := Lib.hid (back_law hb)
    clear hb
    go_enter Try.func5, Try.ntmps5
    go_wp2_with (first
      | (go_at_call 12; with_reducible refine (check_v A A2 n1 n2 c _ (HC4.out.below hb5) Hb.out).mono ?_; rintro e w6 ⟨rfl, hb6⟩)
      | (go_at_call 20; with_reducible refine (same_c P1 P2 A A2 k1 k2 n1 n2 c _ HX4.out HC4.out).mono ?_; rintro e w5 ⟨rfl, hb5⟩; have z0 := (hb5.cell (p := ⟨w.heap.size, 0, none⟩) hl4).trans y0; have z1 := (hb5.cell (p := ⟨w.heap.size, 1, none⟩) hl4).trans y1)
      | (go_at_call 18; with_reducible refine (parse_x AB (bytesL c).length cB (bytesL c) _ ⟨rfl, hR2⟩ hA2 hc2 hl2 HL.out).mono ?_; rintro e w3 ⟨P1, k1, P2, k2, rfl, hC3, hb3⟩; have hx4 := hb3.alloc hb3.size (.cells #[.slice P1 c.ps.length k1, .slice P2 c.qs.length k2] 25); have HX4 := Lib.hid (hC3.below ((Below.refl _ _).alloc (Nat.le_refl _) (.cells #[.slice P1 c.ps.length k1, .slice P2 c.qs.length k2] 25))); have HC4 := Lib.hid (HC2.out.below hx4); have y0 := (hx4.cell (p := ⟨w.heap.size, 0, none⟩) hl2w).trans x0; have y1 := (hx4.cell (p := ⟨w.heap.size, 1, none⟩) hl2w).trans x1; have hl3 : w.heap.size < w3.heap.size := Nat.lt_of_lt_of_le hl2w hb3.size; have hl4 : w.heap.size < (w3.alloc (.cells #[.slice P1 c.ps.length k1, .slice P2 c.qs.length k2] 25)).heap.size := Nat.lt_of_lt_of_le hl2w hx4.size; have HB4 := Lib.hid (below_lift HB2.out hx4 HB2.out.size); clear hC3 hb3 hx4 hR2 hA2 hc2 hl2)
      | (go_at_call 10; with_reducible refine (bytes_x A A2 n1 n2 c _ HC1.out Hb.out).mono ?_; rintro e w2 ⟨AB, cB, rfl, hR2, hc2, hA2, hl2, hb2⟩; have x0 := (hb2.cell (p := ⟨w.heap.size, 0, none⟩) hl1).trans c0; have x1 := (hb2.cell (p := ⟨w.heap.size, 1, none⟩) hl1).trans c1; have hl2w : w.heap.size < w2.heap.size := Nat.lt_of_lt_of_le hl1 hb2.size; have HC2 := Lib.hid (HC1.out.below hb2); have HB2 := Lib.hid (below_lift HB1.out hb2 HB1.out.size); clear hb2)
      | (go_at_call 16; with_reducible refine (works_c _).mono ?_; rintro e w1 ⟨rfl, hb1⟩; have c0 : w1.cell? ⟨w.heap.size, 0, none⟩ = some (.slice A c.ps.length n1) := ((HK.out.below hb1 HK.out.lt).cell 0).trans rfl; have c1 : w1.cell? ⟨w.heap.size, 1, none⟩ = some (.slice A2 c.qs.length n2) := ((HK.out.below hb1 HK.out.lt).cell 1).trans rfl; have hl1 : w.heap.size < w1.heap.size := Nat.lt_of_lt_of_le HK.out.lt hb1.size; have HC1 := Lib.hid (HH.out.below hb1); have HB1 := Lib.hid (below_lift HB.out hb1 HB.out.size); clear hb1))
    go_ret
    have h5 := below_lift HB4.out hb5 HB4.out.size
    exact ⟨by simp, below_lift h5 hb6 h5.size⟩
end Go.Proofs.Ytekcokbpgpeepaa
