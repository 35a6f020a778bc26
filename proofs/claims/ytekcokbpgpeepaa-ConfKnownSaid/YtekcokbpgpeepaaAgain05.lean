/- ConfAgain, walked. -/
import Derived.Test.YtekcokbpgpeepaaCnfW
import Derived.Test.YtekcokbpgpeepaaCnfU
namespace Go.Proofs.Ytekcokbpgpeepaa
set_option linter.unusedVariables false
open Go.RowKit

theorem check_v (A A2 : Option Addr) (n1 n2 : Nat) (c : Cfg) (w : World) (h : CfA w A n1 A2 n2 c) (hc : checkB c = true) :
    Calls Try.prog 12 #[.agg #[.slice A c.ps.length n1, .slice A2 c.qs.length n2]] w fun e w' => e = .returned (.int .i64 0) ∧ Below w.heap.size w w' :=
  check_c A A2 n1 n2 c w h (by unfold checkE; rw [hc]; rfl)
theorem parse_no (A : Option Addr) (n c : Nat) (L : List UInt8) (w : World) (h : n = L.length ∧ BytesR w A L) (hA : A = none → c = 0) (hc : n ≤ c) (hl : c ≤ 9223372036854775807) {z : Int} (hr : readC L = (z, noCfg)) :
    Calls Try.prog 18 #[.slice A n c] w fun e w' => ∃ A1 n1 A2 n2, e = .returned (.tuple #[.agg #[.slice A1 0 n1, .slice A2 0 n2], .int .i64 z]) ∧ Below w.heap.size w w' :=
  (parse_x A n c L w h hA hc hl hr).mono fun e w' ⟨A1, n1, A2, n2, h1, _, h3⟩ => ⟨A1, n1, A2, n2, h1, h3⟩
theorem again_c (A : Option Addr) (n c : Nat) (L : List UInt8) (w : World) (h : n = L.length ∧ BytesR w A L) (hA : A = none → c = 0) (hc : n ≤ c) (hl : c ≤ 9223372036854775807) :
    Calls Try.prog 6 #[.slice A n c] w fun e w' => e = .returned (.bool true) ∧ Below w.heap.size w w' := by
  obtain ⟨⟨z, cf⟩, hr⟩ : ∃ r, readC L = r := ⟨_, rfl⟩
  have he := readC_e L
  rw [hr] at he
  have HH := Lib.hid h
  rcases he with hz | ⟨hcf, hz⟩
  · have hz : z = 0 := hz
    subst hz
    obtain ⟨hck, hby⟩ := again_law hr
    have HP := Lib.hid (parse_x A n c L w h hA hc hl hr)
    have HCK := Lib.hid hck
    have HBY : Hid ((bytesL cf == L) = true) := by show _ = true; rw [hby]; exact beq_self_eq_true _
    clear h hA hc hl hr hck hby
    go_enter Try.func6, Try.ntmps6
    go_wp2_with (first
      | (go_at_call 16; with_reducible refine (works_c _).mono ?_; rintro e w4 ⟨rfl, hb4⟩)
      | (go_at_call 12; with_reducible refine (check_v A1 A2 n1 n2 cf _ (HCF.out.below hb2) HCK.out).mono ?_; rintro e w3 ⟨rfl, hb3⟩)
      | (go_at_call 14; with_reducible refine (eq_v AB (bytesL cf).length cB (bytesL cf) A n c L _ ⟨rfl, hR2⟩ ⟨HH.out.1, HL1.out.below hb2⟩ HBY.out).mono ?_; rintro e w9 ⟨rfl, rfl⟩)
      | (go_at_call 10; with_reducible refine (bytes_x A1 A2 n1 n2 cf _ HCF.out HCK.out).mono ?_; rintro e w2 ⟨AB, cB, rfl, hR2, hc2, hA2, hl2, hb2⟩; have c0 : w2.cell? ⟨w1.heap.size, 0, none⟩ = some (.slice A1 cf.ps.length n1) := ((HZ.out.below hb2 HZ.out.lt).cell 0).trans rfl; have c1 : w2.cell? ⟨w1.heap.size, 1, none⟩ = some (.slice A2 cf.qs.length n2) := ((HZ.out.below hb2 HZ.out.lt).cell 1).trans rfl)
      | (go_at_call 18; with_reducible refine HP.out.mono ?_; rintro e w1 ⟨A1, n1, A2, n2, rfl, hC1, hb1⟩; have HL1 := Lib.hid ((HH.out.2.below hb1).below ((Below.refl _ _).alloc (Nat.le_refl _) (.cells #[.slice A1 cf.ps.length n1, .slice A2 cf.qs.length n2] 25))); have HCF := Lib.hid (hC1.below ((Below.refl _ _).alloc (Nat.le_refl _) (.cells #[.slice A1 cf.ps.length n1, .slice A2 cf.qs.length n2] 25))); have HZ := Lib.hid (Blk.new w1 25 #[.slice A1 cf.ps.length n1, .slice A2 cf.qs.length n2]); have HB1 := Lib.hid (hb1.alloc hb1.size (.cells #[.slice A1 cf.ps.length n1, .slice A2 cf.qs.length n2] 25)); clear hC1 hb1))
    go_ret
    have h2 := below_lift HB1.out hb2 HB1.out.size
    have h3 := below_lift h2 hb3 h2.size
    exact ⟨by simp, below_lift h3 hb4 h3.size⟩
  · have hcf : cf = noCfg := hcf
    subst hcf
    have HP := Lib.hid (parse_no A n c L w h hA hc hl hr)
    clear h hA hc hl hr HH
    have hz : z = 3 ∨ z = 4 ∨ z = 50 := hz
    rcases hz with rfl | rfl | rfl
    · go_enter Try.func6, Try.ntmps6
      go_wp2_with (first
        | (go_at_call 16; with_reducible refine (works_c _).mono ?_; rintro e w4 ⟨rfl, hb4⟩)
        | (go_at_call 18; with_reducible refine HP.out.mono ?_; rintro e w1 ⟨A1, n1, A2, n2, rfl, hb1⟩))
      go_ret
      exact ⟨by simp, below_lift (hb1.alloc hb1.size _) hb4 (hb1.alloc hb1.size _).size⟩
    · go_enter Try.func6, Try.ntmps6
      go_wp2_with (first
        | (go_at_call 16; with_reducible refine (works_c _).mono ?_; rintro e w4 ⟨rfl, hb4⟩)
        | (go_at_call 18; with_reducible refine HP.out.mono ?_; rintro e w1 ⟨A1, n1, A2, n2, rfl, hb1⟩))
      go_ret
      exact ⟨by simp, below_lift (hb1.alloc hb1.size _) hb4 (hb1.alloc hb1.size _).size⟩
    · go_enter Try.func6, Try.ntmps6
      go_wp2_with (first
        | (go_at_call 16; with_reducible refine (works_c _).mono ?_; rintro e w4 ⟨rfl, hb4⟩)
        | (go_at_call 18; with_reducible refine HP.out.mono ?_; rintro e w1 ⟨A1, n1, A2, n2, rfl, hb1⟩))
      go_ret
      exact ⟨by simp, below_lift (hb1.alloc hb1.size _) hb4 (hb1.alloc hb1.size _).size⟩
end Go.Proofs.Ytekcokbpgpeepaa
