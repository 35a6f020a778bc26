/- Layer 5: works. -/
import Derived.Test.YtekcokbpgpeepaaCnfT
import Derived.Deep.RegionHeld3
namespace Go.Proofs.Ytekcokbpgpeepaa
set_option linter.unusedVariables false
open Go.RowKit

theorem eq_v (A : Option Addr) (n c : Nat) (L : List UInt8) (A' : Option Addr) (n' c' : Nat) (L' : List UInt8) (w : World) (h : n = L.length ∧ BytesR w A L) (h' : n' = L'.length ∧ BytesR w A' L') {v : Bool} (hv : (L == L') = v) :
    Calls Try.prog 14 #[.slice A n c, .slice A' n' c'] w fun e w' => e = .returned (.bool v) ∧ w = w' := by
  subst hv
  exact eq_c A n c L A' n' c' L' w h h'
theorem check_no (w : World) : Calls Try.prog 12 #[.agg #[.slice none 0 0, .slice none 0 0]] w fun e w' => e = .returned (.int .i64 50) ∧ Below w.heap.size w w' :=
  check_c none none 0 0 noCfg w ⟨CpsAt.nil, PtsAt.nil, Nat.le_refl _, Nat.le_refl _, fun _ => rfl, fun _ => rfl, Nat.zero_le _, Nat.zero_le _⟩ (by unfold checkE; rw [chk_no]; rfl)
theorem check_13 (A A2 : Option Addr) (n1 n2 : Nat) (w : World) (h : CfA w A n1 A2 n2 (chC 13)) : Calls Try.prog 12 #[.agg #[.slice A (chC 13).ps.length n1, .slice A2 (chC 13).qs.length n2]] w fun e w' => e = .returned (.int .i64 50) ∧ Below w.heap.size w w' :=
  check_c A A2 n1 n2 (chC 13) w h (by unfold checkE; rw [chk_13]; rfl)
theorem OwnB.formB {w : World} {B : Nat} {v : Value} {L : List UInt8} (h : OwnB w B v L) : ∃ A c, v = .slice A L.length c ∧ L.length ≤ c ∧ (A = none → c = 0) ∧ BytesR w A L ∧ c ≤ 9223372036854775807 := by
  obtain ⟨A, c, h1, h2, h3, h4, h5, _⟩ := h.form
  exact ⟨A, c, h1, h2, h3, h4, h5⟩
theorem OwnB.formS {w : World} {B : Nat} {v : Value} {L : List UInt8} {x : UInt8} (h : OwnB w B v (L ++ [x])) : ∃ A c, v = .slice A (L.length + 1) c ∧ L.length + 1 ≤ c ∧ (A = none → c = 0) ∧ (L.length + 1 = (L ++ [x]).length ∧ BytesR w A (L ++ [x])) ∧ c ≤ 9223372036854775807 := by
  obtain ⟨A, c, h1, h2, h3, h4, h5⟩ := h.formB
  have e : (L ++ [x]).length = L.length + 1 := by simp
  rw [e] at h1 h2
  exact ⟨A, c, h1, h2, h3, ⟨e.symm, h4⟩, h5⟩
theorem want_new (w : World) (t : TypeId) : BytesR (w.alloc (.cells #[.int .u8 1, .int .u8 10, .int .u8 4, .int .u8 1, .int .u8 20, .int .u8 12, .int .u8 3, .int .u8 0, .int .u8 0, .int .u8 0, .int .u8 0, .int .u8 0, .int .u8 0] t)) (some ⟨w.heap.size, 0, none⟩) wantL := bytesR_new rfl
theorem five_new (w : World) (t : TypeId) : BytesR (w.alloc (.cells #[.int .u8 5] t)) (some ⟨w.heap.size, 0, none⟩) [5] := bytesR_new rfl
theorem five_at (w : World) (o : Obj) (t : TypeId) : BytesR ((w.alloc o).alloc (.cells #[.int .u8 5] t)) (some ⟨w.heap.size + 1, 0, none⟩) [5] := by
  have := five_new (w.alloc o) t
  rwa [show (w.alloc o).heap.size = w.heap.size + 1 by simp] at this
theorem eq_want : (bytesL (chC 3) == wantL) = true := by rw [want_b]; decide +kernel
set_option maxRecDepth 40000 in
set_option maxHeartbeats 2000000 in
theorem works_c (w : World) : Calls Try.prog 16 #[] w fun e w' => e = .returned (.bool true) ∧ Below w.heap.size w w' := by
  go_enter Try.func16, Try.ntmps16
  go_upto_region 7 with (first
    | (go_at_call 18; with_reducible refine (parse_x (some ⟨w7.heap.size + 1, 0, none⟩) 1 1 [5] _ ⟨rfl, five_at _ _ _⟩ (fun e => by cases e) (Nat.le_refl _) (by omega) want_5).mono ?_; rintro e w8 ⟨T1, l1, T2, l2, rfl, -, hB8⟩; have hd8 := below_lift (hd7.alloc hd7.size _) hB8 (hd7.alloc hd7.size _).size)
    | (go_at_call 18; with_reducible refine (parse_x A6 (wantL.length + 1) c6 (wantL ++ [0]) _ hR6.out hA6 hc6 hl6 want_0).mono ?_; rintro e w7 ⟨S1, s1, S2, s2, rfl, -, hB7⟩; have hd7 := (below_lift hd6 hB7 hd6.size).alloc (below_lift hd6 hB7 hd6.size).size (.cells #[.slice S1 noCfg.ps.length s1, .slice S2 noCfg.qs.length s2] 25); clear hR6 hA6 hc6 hl6)
    | (at_builtin; refine wpList_append_byte (w0 := w4.alloc (.cells #[.slice R1 noCfg.ps.length r1, .slice R2 noCfg.qs.length r2] 25)) rfl (.tmp 31) (.tmp 32) rfl rfl hO5 hB5 hB5.size 0 0 rfl rfl (by decide) ?_; intro v6 w6 hO6 hB6; obtain ⟨A6, c6, rfl, hc6, hA6, hR6, hl6⟩ := hO6.formS; replace hR6 := Lib.hid hR6; have hd6 := below_lift hd4 hB6 hd4.size; clear hO6 hO5 hB5)
    | (go_at_call 17; with_reducible refine (copy_c (some ⟨w2.heap.size, 0, none⟩) 13 13 wantL _ (by omega) ⟨rfl, HW3.out.below hd4⟩ (fun e => by cases e)).mono ?_; rintro e w5 ⟨v5, rfl, hO5, hB5⟩)
    | (go_at_call 18; with_reducible refine (parse_x (some ⟨w2.heap.size, 0, none⟩) 12 13 (wantL.take 12) _ ⟨rfl, HW3.out.take 12⟩ (fun e => by cases e) (by omega) (by omega) want_12).mono ?_; rintro e w4 ⟨R1, r1, R2, r2, rfl, -, hB4⟩; have hd4 := hB4.alloc hB4.size (.cells #[.slice R1 noCfg.ps.length r1, .slice R2 noCfg.qs.length r2] 25))
    | (go_at_call 18; with_reducible refine (parse_x (some ⟨w2.heap.size, 0, none⟩) 13 13 wantL _ ⟨rfl, want_new w2 _⟩ (fun e => by cases e) (Nat.le_refl _) (by omega) want_r).mono ?_; rintro e w3 ⟨P1, k1, P2, k2, rfl, hC3, hB3⟩; have hx3 := hB3.alloc hB3.size (.cells #[.slice P1 (chC 3).ps.length k1, .slice P2 (chC 3).qs.length k2] 25); have HW3 := Lib.hid ((want_new w2 _).below hx3); have HR3 := Lib.hid ((hR2.below ((Below.refl _ _).alloc (Nat.le_refl _) (.cells #[.int .u8 1, .int .u8 10, .int .u8 4, .int .u8 1, .int .u8 20, .int .u8 12, .int .u8 3, .int .u8 0, .int .u8 0, .int .u8 0, .int .u8 0, .int .u8 0, .int .u8 0] 5))).below hx3); have HC3 := Lib.hid (hC3.below ((Below.refl _ _).alloc (Nat.le_refl _) (.cells #[.slice P1 (chC 3).ps.length k1, .slice P2 (chC 3).qs.length k2] 25))); have HZ := Lib.hid (Blk.new w3 25 #[.slice P1 (chC 3).ps.length k1, .slice P2 (chC 3).qs.length k2]); have HB3 := Lib.hid (below_lift HB2.out hx3 HB2.out.size); clear hx3 hC3 hB3 hR2 hc2 hA2 hl2)
    | (go_at_call 10; with_reducible refine (bytes_x A1 A2 n1 n2 (chC 3) _ h1 chk_3).mono ?_; rintro e w2 ⟨AB, cB, rfl, hR2, hc2, hA2, hl2, hB2⟩; have HB2 := Lib.hid ((below_lift hB1 hB2 hB1.size).alloc (below_lift hB1 hB2 hB1.size).size (.cells #[.int .u8 1, .int .u8 10, .int .u8 4, .int .u8 1, .int .u8 20, .int .u8 12, .int .u8 3, .int .u8 0, .int .u8 0, .int .u8 0, .int .u8 0, .int .u8 0, .int .u8 0] 5)); clear hB1 hB2 h1)
    | (go_at_call 22; with_reducible refine (chapter_c 3 _).mono ?_; rintro e w1 ⟨A1, n1, A2, n2, rfl, h1, hB1⟩))
  generalize hwz : w8.alloc (.cells #[.slice T1 noCfg.ps.length l1, .slice T2 noCfg.qs.length l2] 25) = wz at *
  have HB8 : Hid (Below (w3.alloc (.cells #[.slice P1 (chC 3).ps.length k1, .slice P2 (chC 3).qs.length k2] 25)).heap.size (w3.alloc (.cells #[.slice P1 (chC 3).ps.length k1, .slice P2 (chC 3).qs.length k2] 25)) wz) := hwz ▸ hd8.alloc hd8.size _
  have HZ9 : Hid (Blk wz w3.heap.size 25 #[.slice P1 (chC 3).ps.length k1, .slice P2 (chC 3).qs.length k2]) := HZ.out.below HB8.out HZ.out.lt
  have hz10 : Below (w3.alloc (.cells #[.slice P1 (chC 3).ps.length k1, .slice P2 (chC 3).qs.length k2] 25)).heap.size (w3.alloc (.cells #[.slice P1 (chC 3).ps.length k1, .slice P2 (chC 3).qs.length k2] 25)) wz.drew := HB8.out.drew
  have z010 : wz.drew.cell? ⟨w3.heap.size, 0, none⟩ = some (.slice P1 (chC 3).ps.length k1) := (HZ9.out.cell 0).trans rfl
  have z110 : wz.drew.cell? ⟨w3.heap.size, 1, none⟩ = some (.slice P2 (chC 3).qs.length k2) := (HZ9.out.cell 1).trans rfl
  clear hwz hd4 hd6 hd7 hd8
  go_region_held3 (fun w' => w'.cell? ⟨w3.heap.size, 0, none⟩ = some (.slice P1 (chC 3).ps.length k1) ∧ w'.cell? ⟨w3.heap.size, 1, none⟩ = some (.slice P2 (chC 3).qs.length k2)) (go_keep)
    (first
      | (go_at_call 12; with_reducible refine (check_13 E1 E2 i1 i2 _ hC13).mono ?_; rintro e w15 ⟨rfl, hb15⟩; have hz15 := below_lift hz14 hb15 hz14.size; have z015 := ((hb15).cell (p := ⟨w3.heap.size, 0, none⟩) (Nat.lt_of_lt_of_le HZ.out.lt hz14.size)).trans z014; have z115 := ((hb15).cell (p := ⟨w3.heap.size, 1, none⟩) (Nat.lt_of_lt_of_le HZ.out.lt hz14.size)).trans z114; clear z014 z114)
      | (go_at_call 22; with_reducible refine (chapter_c 13 _).mono ?_; rintro e w14 ⟨E1, i1, E2, i2, rfl, hC13, hb14⟩; have hz14 := below_lift hz13 hb14 hz13.size; have z014 := ((hb14).cell (p := ⟨w3.heap.size, 0, none⟩) (Nat.lt_of_lt_of_le HZ.out.lt hz13.size)).trans z013; have z114 := ((hb14).cell (p := ⟨w3.heap.size, 1, none⟩) (Nat.lt_of_lt_of_le HZ.out.lt hz13.size)).trans z113; clear z013 z113)
      | (go_at_call 12; with_reducible refine (check_no _).mono ?_; rintro e w13 ⟨rfl, hb13⟩; have hz13 := below_lift hz12 hb13 hz12.size; have z013 := ((hb13).cell (p := ⟨w3.heap.size, 0, none⟩) (Nat.lt_of_lt_of_le HZ.out.lt hz12.size)).trans z012; have z113 := ((hb13).cell (p := ⟨w3.heap.size, 1, none⟩) (Nat.lt_of_lt_of_le HZ.out.lt hz12.size)).trans z112; clear z012 z112)
      | (go_at_call 20; with_reducible refine (same_c P1 P2 D1 D2 k1 k2 j1 j2 (chC 3) _ (HC3.out.below hz11) hC12).mono ?_; rintro e w12 ⟨rfl, hb12⟩; have hz12 := below_lift hz11 hb12 hz11.size; have z012 := ((hb12).cell (p := ⟨w3.heap.size, 0, none⟩) (Nat.lt_of_lt_of_le HZ.out.lt hz11.size)).trans z011; have z112 := ((hb12).cell (p := ⟨w3.heap.size, 1, none⟩) (Nat.lt_of_lt_of_le HZ.out.lt hz11.size)).trans z111; clear z011 z111)
      | (go_at_call 22; with_reducible refine (chapter_c 3 _).mono ?_; rintro e w11 ⟨D1, j1, D2, j2, rfl, hC12, hb11⟩; have hz11 := below_lift hz10 hb11 hz10.size; have z011 := ((hb11).cell (p := ⟨w3.heap.size, 0, none⟩) (Nat.lt_of_lt_of_le HZ.out.lt hz10.size)).trans z010; have z111 := ((hb11).cell (p := ⟨w3.heap.size, 1, none⟩) (Nat.lt_of_lt_of_le HZ.out.lt hz10.size)).trans z110; clear z010 z110)
      | (go_at_call 14; with_reducible refine (eq_v AB (bytesL (chC 3)).length cB (bytesL (chC 3)) (some ⟨w2.heap.size, 0, none⟩) 13 13 wantL _ ⟨rfl, HR3.out.below hz10⟩ ⟨rfl, HW3.out.below hz10⟩ eq_want).mono ?_; rintro e w10 ⟨rfl, rfl⟩))
  go_wp2
  go_ret
  exact ⟨rfl, below_lift HB3.out (hz15) HB3.out.size⟩
end Go.Proofs.Ytekcokbpgpeepaa
