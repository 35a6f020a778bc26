/- Layer 5: the program's Check. -/
import Derived.Test.YtekcokbpgpeepaaCnfC
namespace Go.Proofs.Ytekcokbpgpeepaa
set_option linter.unusedVariables false
open Go.RowKit

set_option maxHeartbeats 2000000 in
theorem check_c (A A2 : Option Addr) (n1 n2 : Nat) (c : Cfg) (w : World) (h : CfA w A n1 A2 n2 c) {z : Int} (hz : checkE c = z) :
    Calls Try.prog 12 #[.agg #[.slice A c.ps.length n1, .slice A2 c.qs.length n2]] w fun e w' => e = .returned (.int .i64 z) ∧ Below w.heap.size w w' := by
  have HB : Hid (Below w.heap.size w (w.alloc (.cells #[.slice A c.ps.length n1, .slice A2 c.qs.length n2] 25))) := (Below.refl _ _).alloc (Nat.le_refl _) _
  have HK : Hid (Blk (w.alloc (.cells #[.slice A c.ps.length n1, .slice A2 c.qs.length n2] 25)) w.heap.size 25 #[.slice A c.ps.length n1, .slice A2 c.qs.length n2]) := Blk.new w _ _
  have K0 := Lib.hid ((HK.out.cell 0).trans rfl : _ = some (.slice A c.ps.length n1))
  have K1 := Lib.hid ((HK.out.cell 1).trans rfl : _ = some (.slice A2 c.qs.length n2))
  have HC1 := Lib.hid (fun (v : Bool) (hv : c.ps.all partB = v) => con_parts A n1 c.ps _ (h.ps.below HB.out) (Nat.le_trans h.s1 (by decide)) hv)
  have HC2 := Lib.hid (fun W (hb : Below (w.alloc (.cells #[.slice A c.ps.length n1, .slice A2 c.qs.length n2] 25)).heap.size (w.alloc (.cells #[.slice A c.ps.length n1, .slice A2 c.qs.length n2] 25)) W) (v : Bool) (hv : c.qs.all (fun t => portB t c.ps.length) = v) => con_ports A2 n2 c.qs w.heap.size A c.ps.length n1 W ((h.qs.below HB.out).below hb) (Nat.le_trans h.s2 (by decide)) ⟨(hb.cell (p := ⟨w.heap.size, 0, none⟩) HK.out.lt).trans K0.out, Nat.lt_of_lt_of_le HK.out.lt hb.size, Nat.le_trans h.s1 (by decide)⟩ hv)
  unfold c1F at HC1
  unfold c2F at HC2
  clear h
  cases hp : c.ps.all partB with
  | false =>
    have HV : Hid (z = 50) := by show z = 50; rw [← hz]; unfold checkE checkB; simp [hp]
    clear hz
    go_enter Try.func12, Try.ntmps12
    go_wp2_with (first | (go_at_call 25; with_reducible refine (HC1.out _ hp).mono ?_; rintro e w1 ⟨rfl, hb1⟩; have hb2 := below_lift HB.out hb1 HB.out.size; have c0 := (hb1.cell (p := ⟨w.heap.size, 0, none⟩) HK.out.lt).trans K0.out; have c1 := (hb1.cell (p := ⟨w.heap.size, 1, none⟩) HK.out.lt).trans K1.out))
    go_ret
    exact ⟨by rw [HV.out]; rfl, hb2⟩
  | true =>
    cases hq : c.qs.all fun t => portB t c.ps.length with
    | false =>
      have HV : Hid (z = 50) := by show z = 50; rw [← hz]; unfold checkE checkB; simp [hp, hq]
      clear hz
      go_enter Try.func12, Try.ntmps12
      go_wp2_with (first | (go_at_call 28; with_reducible refine (HC2.out _ hb1 _ hq).mono ?_; rintro e w3 ⟨rfl, hb3⟩; have hb4 := below_lift hb2 hb3 hb2.size; have d0 := (hb3.cell (p := ⟨w.heap.size, 0, none⟩) (Nat.lt_of_lt_of_le HK.out.lt hb1.size)).trans c0; have d1 := (hb3.cell (p := ⟨w.heap.size, 1, none⟩) (Nat.lt_of_lt_of_le HK.out.lt hb1.size)).trans c1) | (go_at_call 25; with_reducible refine (HC1.out _ hp).mono ?_; rintro e w1 ⟨rfl, hb1⟩; have hb2 := below_lift HB.out hb1 HB.out.size; have c0 := (hb1.cell (p := ⟨w.heap.size, 0, none⟩) HK.out.lt).trans K0.out; have c1 := (hb1.cell (p := ⟨w.heap.size, 1, none⟩) HK.out.lt).trans K1.out))
      go_ret
      exact ⟨by rw [HV.out]; rfl, hb4⟩
    | true =>
      cases h1 : wi c.ps.length 1 4 with
      | false =>
        have HV : Hid (z = 50) := by show z = 50; rw [← hz]; unfold checkE checkB; simp [hp, hq, h1]
        clear hz
        go_enter Try.func12, Try.ntmps12
        go_wp2_with (first | (go_at_call 28; with_reducible refine (HC2.out _ hb1 _ hq).mono ?_; rintro e w3 ⟨rfl, hb3⟩; have hb4 := below_lift hb2 hb3 hb2.size; have d0 := (hb3.cell (p := ⟨w.heap.size, 0, none⟩) (Nat.lt_of_lt_of_le HK.out.lt hb1.size)).trans c0; have d1 := (hb3.cell (p := ⟨w.heap.size, 1, none⟩) (Nat.lt_of_lt_of_le HK.out.lt hb1.size)).trans c1) | (go_at_call 25; with_reducible refine (HC1.out _ hp).mono ?_; rintro e w1 ⟨rfl, hb1⟩; have hb2 := below_lift HB.out hb1 HB.out.size; have c0 := (hb1.cell (p := ⟨w.heap.size, 0, none⟩) HK.out.lt).trans K0.out; have c1 := (hb1.cell (p := ⟨w.heap.size, 1, none⟩) HK.out.lt).trans K1.out) | (go_at_call 31; with_reducible refine (within_c _ _ _ _).mono ?_; rintro e w9 ⟨rfl, rfl⟩))
        go_ret
        exact ⟨by rw [HV.out]; rfl, hb4⟩
      | true =>
        by_cases hl : (8 : Int) < (c.qs.length : Nat)
        · have hl2 : ¬ c.qs.length ≤ 8 := by omega
          have HV : Hid (z = 50) := by show z = 50; rw [← hz]; unfold checkE checkB; simp [hp, hq, h1, hl2]
          clear hz
          go_enter Try.func12, Try.ntmps12
          go_wp2_with (first | (go_at_call 28; with_reducible refine (HC2.out _ hb1 _ hq).mono ?_; rintro e w3 ⟨rfl, hb3⟩; have hb4 := below_lift hb2 hb3 hb2.size; have d0 := (hb3.cell (p := ⟨w.heap.size, 0, none⟩) (Nat.lt_of_lt_of_le HK.out.lt hb1.size)).trans c0; have d1 := (hb3.cell (p := ⟨w.heap.size, 1, none⟩) (Nat.lt_of_lt_of_le HK.out.lt hb1.size)).trans c1) | (go_at_call 25; with_reducible refine (HC1.out _ hp).mono ?_; rintro e w1 ⟨rfl, hb1⟩; have hb2 := below_lift HB.out hb1 HB.out.size; have c0 := (hb1.cell (p := ⟨w.heap.size, 0, none⟩) HK.out.lt).trans K0.out; have c1 := (hb1.cell (p := ⟨w.heap.size, 1, none⟩) HK.out.lt).trans K1.out) | (go_at_call 31; with_reducible refine (within_c _ _ _ _).mono ?_; rintro e w9 ⟨rfl, rfl⟩))
          go_ret
          exact ⟨by rw [HV.out]; rfl, hb4⟩
        · have hl2 : c.qs.length ≤ 8 := by omega
          have HV : Hid (z = 0) := by show z = 0; rw [← hz]; unfold checkE checkB; simp [hp, hq, h1, hl2]
          clear hz
          go_enter Try.func12, Try.ntmps12
          go_wp2_with (first | (go_at_call 28; with_reducible refine (HC2.out _ hb1 _ hq).mono ?_; rintro e w3 ⟨rfl, hb3⟩; have hb4 := below_lift hb2 hb3 hb2.size; have d0 := (hb3.cell (p := ⟨w.heap.size, 0, none⟩) (Nat.lt_of_lt_of_le HK.out.lt hb1.size)).trans c0; have d1 := (hb3.cell (p := ⟨w.heap.size, 1, none⟩) (Nat.lt_of_lt_of_le HK.out.lt hb1.size)).trans c1) | (go_at_call 25; with_reducible refine (HC1.out _ hp).mono ?_; rintro e w1 ⟨rfl, hb1⟩; have hb2 := below_lift HB.out hb1 HB.out.size; have c0 := (hb1.cell (p := ⟨w.heap.size, 0, none⟩) HK.out.lt).trans K0.out; have c1 := (hb1.cell (p := ⟨w.heap.size, 1, none⟩) HK.out.lt).trans K1.out) | (go_at_call 31; with_reducible refine (within_c _ _ _ _).mono ?_; rintro e w9 ⟨rfl, rfl⟩))
          go_ret
          exact ⟨by rw [HV.out]; rfl, hb4⟩
end Go.Proofs.Ytekcokbpgpeepaa
