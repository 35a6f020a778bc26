/- ConfBytes, walked. -/
import Derived.Test.YtekcokbpgpeepaaBack05
import Derived.Test.YtekcokbpgpeepaaCnfH2
import Derived.Test.YtekcokbpgpeepaaCnfS2
import Derived.Test.YtekcokbpgpeepaaCnfZ
import Derived.Deep.RegionHeld3
namespace Go.Proofs.Ytekcokbpgpeepaa
set_option linter.unusedVariables false
open Go.RowKit

theorem checkr_v (A A2 : Option Addr) (n1 n2 : Nat) (c : Cfg) (w : World) (h : CfA w A n1 A2 n2 c) (hc : checkB c = true) :
    Calls Try.prog 13 #[.agg #[.slice A c.ps.length n1, .slice A2 c.qs.length n2]] w fun e w' => e = .returned (.int .i64 0) ∧ Below w.heap.size w w' :=
  checkr_c A A2 n1 n2 c w h (by unfold checkE; rw [hc]; rfl)
theorem checkr_w (A A2 : Option Addr) (n1 n2 : Nat) (c : Cfg) (w : World) (h : CfA w A n1 A2 n2 c) (hc : checkB c = false) :
    Calls Try.prog 13 #[.agg #[.slice A c.ps.length n1, .slice A2 c.qs.length n2]] w fun e w' => e = .returned (.int .i64 50) ∧ Below w.heap.size w w' :=
  checkr_c A A2 n1 n2 c w h (by unfold checkE; rw [hc]; rfl)
theorem bytesr_x (A A2 : Option Addr) (n1 n2 : Nat) (c : Cfg) (w : World) (h : CfA w A n1 A2 n2 c) (hc : checkB c = true) :
    Calls Try.prog 11 #[.agg #[.slice A c.ps.length n1, .slice A2 c.qs.length n2]] w fun e w' => ∃ A' c', e = .returned (.tuple #[.slice A' (bytesL c).length c', .int .i64 0]) ∧ BytesR w' A' (bytesL c) ∧ Below w.heap.size w w' := by
  refine (bytesr_c A A2 n1 n2 c w h).mono fun e w' ⟨hq, hB⟩ => ?_
  obtain ⟨v, h1, h2⟩ := hq.ok hc
  obtain ⟨A', c', rfl, k1, k2, k3, k4, _⟩ := h2.form
  exact ⟨A', c', h1, k3, hB⟩
theorem bytesr_n (A A2 : Option Addr) (n1 n2 : Nat) (c : Cfg) (w : World) (h : CfA w A n1 A2 n2 c) (hc : checkB c = false) :
    Calls Try.prog 11 #[.agg #[.slice A c.ps.length n1, .slice A2 c.qs.length n2]] w fun e w' => e = .returned (.tuple #[.slice none 0 0, .int .i64 50]) ∧ Below w.heap.size w w' :=
  (bytesr_c A A2 n1 n2 c w h).mono fun e w' ⟨hq, hB⟩ => ⟨hq.no hc, hB⟩
set_option maxRecDepth 40000 in
set_option maxHeartbeats 2000000 in
theorem cbytes_c (A A2 : Option Addr) (n1 n2 : Nat) (c : Cfg) (w : World) (h : CfA w A n1 A2 n2 c) :
    Calls Try.prog 3 #[.agg #[.slice A c.ps.length n1, .slice A2 c.qs.length n2]] w fun e w' => e = .returned (.bool true) ∧ Below w.heap.size w w' := by
  have HB : Hid (Below w.heap.size w (w.alloc (.cells #[.slice A c.ps.length n1, .slice A2 c.qs.length n2] 25))) := (Below.refl _ _).alloc (Nat.le_refl _) _
  have HK : Hid (Blk (w.alloc (.cells #[.slice A c.ps.length n1, .slice A2 c.qs.length n2] 25)) w.heap.size 25 #[.slice A c.ps.length n1, .slice A2 c.qs.length n2]) := Blk.new w _ _
  have HH := Lib.hid (h.below HB.out)
  clear h
  cases hb : checkB c with
  | true =>
    have Hb := Lib.hid hb
    clear hb
    go_enter Try.func3, Try.ntmps3
    go_upto_region 4 with (first
      | (go_at_call 11; with_reducible refine (bytesr_x A A2 n1 n2 c _ (HH1.out.below hb2) Hb.out).mono ?_; rintro e w3 ⟨AD, cD, rfl, hR3, hb3⟩)
      | (go_at_call 10; with_reducible refine (bytes_x P1 P2 k1 k2 c _ HC1.out Hb.out).mono ?_; rintro e w2 ⟨AB, cB, rfl, hR2, -, -, -, hb2⟩; have x0 := (hb2.cell (p := ⟨w.heap.size, 0, none⟩) HLA1.out).trans c0; have x1 := (hb2.cell (p := ⟨w.heap.size, 1, none⟩) HLA1.out).trans c1)
      | (go_at_call 9; with_reducible refine (copyr_c A A2 n1 n2 c _ HH.out).mono ?_; rintro e w1 ⟨P1, k1, P2, k2, rfl, hC1, hb1⟩; have HA1 := Lib.hid ((HK.out.below hb1 HK.out.lt).alloc (.cells #[.slice P1 c.ps.length k1, .slice P2 c.qs.length k2] 25)); have HZ1 := Lib.hid (Blk.new w1 25 #[.slice P1 c.ps.length k1, .slice P2 c.qs.length k2]); have HC1 := Lib.hid (hC1.below ((Below.refl _ _).alloc (Nat.le_refl _) (.cells #[.slice P1 c.ps.length k1, .slice P2 c.qs.length k2] 25))); have HH1 := Lib.hid ((HH.out.below hb1).below ((Below.refl _ _).alloc (Nat.le_refl _) (.cells #[.slice P1 c.ps.length k1, .slice P2 c.qs.length k2] 25))); have HB1 := Lib.hid ((below_lift HB.out hb1 HB.out.size).alloc (below_lift HB.out hb1 HB.out.size).size (.cells #[.slice P1 c.ps.length k1, .slice P2 c.qs.length k2] 25)); have hla : w.heap.size < w1.heap.size := Nat.lt_of_lt_of_le HK.out.lt hb1.size; have HLA1 := Lib.hid HA1.out.lt; have c0 : (w1.alloc (.cells #[.slice P1 c.ps.length k1, .slice P2 c.qs.length k2] 25)).cell? ⟨w.heap.size, 0, none⟩ = some (.slice A c.ps.length n1) := (HA1.out.cell 0).trans rfl; have c1 : (w1.alloc (.cells #[.slice P1 c.ps.length k1, .slice P2 c.qs.length k2] 25)).cell? ⟨w.heap.size, 1, none⟩ = some (.slice A2 c.qs.length n2) := (HA1.out.cell 1).trans rfl; clear hC1 hb1))
    have hB3 := below_lift (below_lift HB1.out hb2 HB1.out.size) hb3 (below_lift HB1.out hb2 HB1.out.size).size
    have hx3 := below_lift hb2 hb3 hb2.size
    have HB3 := Lib.hid hB3
    have HR2 := Lib.hid (hR2.below hb3)
    have HR3 := Lib.hid hR3
    have HCC := Lib.hid (HC1.out.below hx3)
    have HAA := Lib.hid (HH1.out.below hx3)
    have a010 : w3.drew.cell? ⟨w.heap.size, 0, none⟩ = some (.slice A c.ps.length n1) := ((HA1.out.below hx3 HA1.out.lt).cell 0).trans rfl
    have a110 : w3.drew.cell? ⟨w.heap.size, 1, none⟩ = some (.slice A2 c.qs.length n2) := ((HA1.out.below hx3 HA1.out.lt).cell 1).trans rfl
    have b010 : w3.drew.cell? ⟨w1.heap.size, 0, none⟩ = some (.slice P1 c.ps.length k1) := ((HZ1.out.below hx3 HZ1.out.lt).cell 0).trans rfl
    have b110 : w3.drew.cell? ⟨w1.heap.size, 1, none⟩ = some (.slice P2 c.qs.length k2) := ((HZ1.out.below hx3 HZ1.out.lt).cell 1).trans rfl
    have HLA : Hid (w.heap.size < w3.heap.size) := Nat.lt_of_lt_of_le HA1.out.lt hx3.size
    have HLB : Hid (w1.heap.size < w3.heap.size) := Nat.lt_of_lt_of_le HZ1.out.lt hx3.size
    have hz10 : Below w3.heap.size w3 w3.drew := (Below.refl _ _).drew
    clear hB3 hx3 hb2 hb3 x0 x1 c0 c1
    go_region_held3 (fun w' => w'.cell? ⟨w.heap.size, 0, none⟩ = some (.slice A c.ps.length n1) ∧ w'.cell? ⟨w.heap.size, 1, none⟩ = some (.slice A2 c.qs.length n2) ∧ w'.cell? ⟨w1.heap.size, 0, none⟩ = some (.slice P1 c.ps.length k1) ∧ w'.cell? ⟨w1.heap.size, 1, none⟩ = some (.slice P2 c.qs.length k2)) (go_keep)
      (first
        | (go_at_call 16; with_reducible refine (works_c _).mono ?_; rintro e w14 ⟨rfl, hb14⟩; have hz14 := below_lift hz13 hb14 hz13.size; have a014 := ((hb14).cell (p := ⟨w.heap.size, 0, none⟩) (Nat.lt_of_lt_of_le HLA.out hz13.size)).trans a013; have a114 := ((hb14).cell (p := ⟨w.heap.size, 1, none⟩) (Nat.lt_of_lt_of_le HLA.out hz13.size)).trans a113; have b014 := ((hb14).cell (p := ⟨w1.heap.size, 0, none⟩) (Nat.lt_of_lt_of_le HLB.out hz13.size)).trans b013; have b114 := ((hb14).cell (p := ⟨w1.heap.size, 1, none⟩) (Nat.lt_of_lt_of_le HLB.out hz13.size)).trans b113; clear a013 a113 b013 b113)
        | (go_at_call 15; with_reducible refine (samer_c P1 P2 A A2 k1 k2 n1 n2 c _ (HCC.out.below hz12) (HAA.out.below hz12)).mono ?_; rintro e w13 ⟨rfl, hb13⟩; have hz13 := below_lift hz12 hb13 hz12.size; have a013 := ((hb13).cell (p := ⟨w.heap.size, 0, none⟩) (Nat.lt_of_lt_of_le HLA.out hz12.size)).trans a012; have a113 := ((hb13).cell (p := ⟨w.heap.size, 1, none⟩) (Nat.lt_of_lt_of_le HLA.out hz12.size)).trans a112; have b013 := ((hb13).cell (p := ⟨w1.heap.size, 0, none⟩) (Nat.lt_of_lt_of_le HLB.out hz12.size)).trans b012; have b113 := ((hb13).cell (p := ⟨w1.heap.size, 1, none⟩) (Nat.lt_of_lt_of_le HLB.out hz12.size)).trans b112; clear a012 a112 b012 b112)
        | (go_at_call 14; with_reducible refine (eq_v AB (bytesL c).length cB (bytesL c) AD (bytesL c).length cD (bytesL c) _ ⟨rfl, HR2.out.below hz12⟩ ⟨rfl, HR3.out.below hz12⟩ (beq_self_eq_true _)).mono ?_; rintro e w9 ⟨rfl, rfl⟩)
        | (go_at_call 13; with_reducible refine (checkr_v A A2 n1 n2 c _ (HAA.out.below hz11) Hb.out).mono ?_; rintro e w12 ⟨rfl, hb12⟩; have hz12 := below_lift hz11 hb12 hz11.size; have a012 := ((hb12).cell (p := ⟨w.heap.size, 0, none⟩) (Nat.lt_of_lt_of_le HLA.out hz11.size)).trans a011; have a112 := ((hb12).cell (p := ⟨w.heap.size, 1, none⟩) (Nat.lt_of_lt_of_le HLA.out hz11.size)).trans a111; have b012 := ((hb12).cell (p := ⟨w1.heap.size, 0, none⟩) (Nat.lt_of_lt_of_le HLB.out hz11.size)).trans b011; have b112 := ((hb12).cell (p := ⟨w1.heap.size, 1, none⟩) (Nat.lt_of_lt_of_le HLB.out hz11.size)).trans b111; clear a011 a111 b011 b111)
        | (go_at_call 12; with_reducible refine (check_v P1 P2 k1 k2 c _ (HCC.out.below hz10) Hb.out).mono ?_; rintro e w11 ⟨rfl, hb11⟩; have hz11 := below_lift hz10 hb11 hz10.size; have a011 := ((hb11).cell (p := ⟨w.heap.size, 0, none⟩) (Nat.lt_of_lt_of_le HLA.out hz10.size)).trans a010; have a111 := ((hb11).cell (p := ⟨w.heap.size, 1, none⟩) (Nat.lt_of_lt_of_le HLA.out hz10.size)).trans a110; have b011 := ((hb11).cell (p := ⟨w1.heap.size, 0, none⟩) (Nat.lt_of_lt_of_le HLB.out hz10.size)).trans b010; have b111 := ((hb11).cell (p := ⟨w1.heap.size, 1, none⟩) (Nat.lt_of_lt_of_le HLB.out hz10.size)).trans b110; clear a010 a110 b010 b110))
    go_wp2
    go_ret
    exact ⟨by simp, below_lift HB3.out hz14 HB3.out.size⟩
  | false =>
    have Hb := Lib.hid hb
    clear hb
    go_enter Try.func3, Try.ntmps3
    go_upto_region 4 with (first
      | (go_at_call 11; with_reducible refine (bytesr_n A A2 n1 n2 c _ (HH1.out.below hb2) Hb.out).mono ?_; rintro e w3 ⟨rfl, hb3⟩)
      | (go_at_call 10; with_reducible refine (bytes_n P1 P2 k1 k2 c _ HC1.out Hb.out).mono ?_; rintro e w2 ⟨rfl, hb2⟩; have x0 := (hb2.cell (p := ⟨w.heap.size, 0, none⟩) HLA1.out).trans c0; have x1 := (hb2.cell (p := ⟨w.heap.size, 1, none⟩) HLA1.out).trans c1)
      | (go_at_call 9; with_reducible refine (copyr_c A A2 n1 n2 c _ HH.out).mono ?_; rintro e w1 ⟨P1, k1, P2, k2, rfl, hC1, hb1⟩; have HA1 := Lib.hid ((HK.out.below hb1 HK.out.lt).alloc (.cells #[.slice P1 c.ps.length k1, .slice P2 c.qs.length k2] 25)); have HZ1 := Lib.hid (Blk.new w1 25 #[.slice P1 c.ps.length k1, .slice P2 c.qs.length k2]); have HC1 := Lib.hid (hC1.below ((Below.refl _ _).alloc (Nat.le_refl _) (.cells #[.slice P1 c.ps.length k1, .slice P2 c.qs.length k2] 25))); have HH1 := Lib.hid ((HH.out.below hb1).below ((Below.refl _ _).alloc (Nat.le_refl _) (.cells #[.slice P1 c.ps.length k1, .slice P2 c.qs.length k2] 25))); have HB1 := Lib.hid ((below_lift HB.out hb1 HB.out.size).alloc (below_lift HB.out hb1 HB.out.size).size (.cells #[.slice P1 c.ps.length k1, .slice P2 c.qs.length k2] 25)); have hla : w.heap.size < w1.heap.size := Nat.lt_of_lt_of_le HK.out.lt hb1.size; have HLA1 := Lib.hid HA1.out.lt; have c0 : (w1.alloc (.cells #[.slice P1 c.ps.length k1, .slice P2 c.qs.length k2] 25)).cell? ⟨w.heap.size, 0, none⟩ = some (.slice A c.ps.length n1) := (HA1.out.cell 0).trans rfl; have c1 : (w1.alloc (.cells #[.slice P1 c.ps.length k1, .slice P2 c.qs.length k2] 25)).cell? ⟨w.heap.size, 1, none⟩ = some (.slice A2 c.qs.length n2) := (HA1.out.cell 1).trans rfl; clear hC1 hb1))
    have hB3 := below_lift (below_lift HB1.out hb2 HB1.out.size) hb3 (below_lift HB1.out hb2 HB1.out.size).size
    have hx3 := below_lift hb2 hb3 hb2.size
    have HB3 := Lib.hid hB3
    have HCC := Lib.hid (HC1.out.below hx3)
    have HAA := Lib.hid (HH1.out.below hx3)
    have a010 : w3.drew.cell? ⟨w.heap.size, 0, none⟩ = some (.slice A c.ps.length n1) := ((HA1.out.below hx3 HA1.out.lt).cell 0).trans rfl
    have a110 : w3.drew.cell? ⟨w.heap.size, 1, none⟩ = some (.slice A2 c.qs.length n2) := ((HA1.out.below hx3 HA1.out.lt).cell 1).trans rfl
    have b010 : w3.drew.cell? ⟨w1.heap.size, 0, none⟩ = some (.slice P1 c.ps.length k1) := ((HZ1.out.below hx3 HZ1.out.lt).cell 0).trans rfl
    have b110 : w3.drew.cell? ⟨w1.heap.size, 1, none⟩ = some (.slice P2 c.qs.length k2) := ((HZ1.out.below hx3 HZ1.out.lt).cell 1).trans rfl
    have HLA : Hid (w.heap.size < w3.heap.size) := Nat.lt_of_lt_of_le HA1.out.lt hx3.size
    have HLB : Hid (w1.heap.size < w3.heap.size) := Nat.lt_of_lt_of_le HZ1.out.lt hx3.size
    have hz10 : Below w3.heap.size w3 w3.drew := (Below.refl _ _).drew
    clear hB3 hx3 hb2 hb3 x0 x1 c0 c1
    go_region_held3 (fun w' => w'.cell? ⟨w.heap.size, 0, none⟩ = some (.slice A c.ps.length n1) ∧ w'.cell? ⟨w.heap.size, 1, none⟩ = some (.slice A2 c.qs.length n2) ∧ w'.cell? ⟨w1.heap.size, 0, none⟩ = some (.slice P1 c.ps.length k1) ∧ w'.cell? ⟨w1.heap.size, 1, none⟩ = some (.slice P2 c.qs.length k2)) (go_keep)
      (first
        | (go_at_call 16; with_reducible refine (works_c _).mono ?_; rintro e w14 ⟨rfl, hb14⟩; have hz14 := below_lift hz13 hb14 hz13.size; have a014 := ((hb14).cell (p := ⟨w.heap.size, 0, none⟩) (Nat.lt_of_lt_of_le HLA.out hz13.size)).trans a013; have a114 := ((hb14).cell (p := ⟨w.heap.size, 1, none⟩) (Nat.lt_of_lt_of_le HLA.out hz13.size)).trans a113; have b014 := ((hb14).cell (p := ⟨w1.heap.size, 0, none⟩) (Nat.lt_of_lt_of_le HLB.out hz13.size)).trans b013; have b114 := ((hb14).cell (p := ⟨w1.heap.size, 1, none⟩) (Nat.lt_of_lt_of_le HLB.out hz13.size)).trans b113; clear a013 a113 b013 b113)
        | (go_at_call 15; with_reducible refine (samer_c P1 P2 A A2 k1 k2 n1 n2 c _ (HCC.out.below hz12) (HAA.out.below hz12)).mono ?_; rintro e w13 ⟨rfl, hb13⟩; have hz13 := below_lift hz12 hb13 hz12.size; have a013 := ((hb13).cell (p := ⟨w.heap.size, 0, none⟩) (Nat.lt_of_lt_of_le HLA.out hz12.size)).trans a012; have a113 := ((hb13).cell (p := ⟨w.heap.size, 1, none⟩) (Nat.lt_of_lt_of_le HLA.out hz12.size)).trans a112; have b013 := ((hb13).cell (p := ⟨w1.heap.size, 0, none⟩) (Nat.lt_of_lt_of_le HLB.out hz12.size)).trans b012; have b113 := ((hb13).cell (p := ⟨w1.heap.size, 1, none⟩) (Nat.lt_of_lt_of_le HLB.out hz12.size)).trans b112; clear a012 a112 b012 b112)
        | (go_at_call 14; with_reducible refine (eq_v none 0 0 [] none 0 0 [] _ ⟨rfl, BytesR.nil⟩ ⟨rfl, BytesR.nil⟩ rfl).mono ?_; rintro e w9 ⟨rfl, rfl⟩)
        | (go_at_call 13; with_reducible refine (checkr_w A A2 n1 n2 c _ (HAA.out.below hz11) Hb.out).mono ?_; rintro e w12 ⟨rfl, hb12⟩; have hz12 := below_lift hz11 hb12 hz11.size; have a012 := ((hb12).cell (p := ⟨w.heap.size, 0, none⟩) (Nat.lt_of_lt_of_le HLA.out hz11.size)).trans a011; have a112 := ((hb12).cell (p := ⟨w.heap.size, 1, none⟩) (Nat.lt_of_lt_of_le HLA.out hz11.size)).trans a111; have b012 := ((hb12).cell (p := ⟨w1.heap.size, 0, none⟩) (Nat.lt_of_lt_of_le HLB.out hz11.size)).trans b011; have b112 := ((hb12).cell (p := ⟨w1.heap.size, 1, none⟩) (Nat.lt_of_lt_of_le HLB.out hz11.size)).trans b111; clear a011 a111 b011 b111)
        | (go_at_call 12; with_reducible refine (check_w P1 P2 k1 k2 c _ (HCC.out.below hz10) Hb.out).mono ?_; rintro e w11 ⟨rfl, hb11⟩; have hz11 := below_lift hz10 hb11 hz10.size; have a011 := ((hb11).cell (p := ⟨w.heap.size, 0, none⟩) (Nat.lt_of_lt_of_le HLA.out hz10.size)).trans a010; have a111 := ((hb11).cell (p := ⟨w.heap.size, 1, none⟩) (Nat.lt_of_lt_of_le HLA.out hz10.size)).trans a110; have b011 := ((hb11).cell (p := ⟨w1.heap.size, 0, none⟩) (Nat.lt_of_lt_of_le HLB.out hz10.size)).trans b010; have b111 := ((hb11).cell (p := ⟨w1.heap.size, 1, none⟩) (Nat.lt_of_lt_of_le HLB.out hz10.size)).trans b110; clear a010 a110 b010 b110))
    go_wp2
    go_ret
    exact ⟨by simp, below_lift HB3.out hz14 HB3.out.size⟩
end Go.Proofs.Ytekcokbpgpeepaa
