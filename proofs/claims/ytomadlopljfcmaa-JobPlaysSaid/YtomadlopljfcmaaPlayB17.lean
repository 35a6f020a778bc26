/- JobPlays, walked. -/
import Derived.Test.YtomadlopljfcmaaPlayA17
import Derived.Deep.CutBlock
namespace Go.Proofs.Ytomadlopljfcmaa
set_option linter.unusedVariables false
open Go.RowKit

theorem cells9 {w : World} {g : Nat} {ty : TypeId} {t : TV} {u : Value} (h : Blk w g ty #[.int .i64 t.p, .int .i64 t.d, .int .i64 t.b, .int .i64 t.ls, .int .i64 t.l, .int .i64 t.g, .int .i64 t.lg, .int .i64 t.lk, u]) : w.cell? ⟨g, 0, none⟩ = some (.int .i64 t.p) ∧ w.cell? ⟨g, 1, none⟩ = some (.int .i64 t.d) ∧ w.cell? ⟨g, 2, none⟩ = some (.int .i64 t.b) ∧ w.cell? ⟨g, 3, none⟩ = some (.int .i64 t.ls) ∧ w.cell? ⟨g, 4, none⟩ = some (.int .i64 t.l) ∧ w.cell? ⟨g, 5, none⟩ = some (.int .i64 t.g) ∧ w.cell? ⟨g, 6, none⟩ = some (.int .i64 t.lg) ∧ w.cell? ⟨g, 7, none⟩ = some (.int .i64 t.lk) ∧ w.cell? ⟨g, 8, none⟩ = some u :=
  ⟨(h.cell 0).trans rfl, (h.cell 1).trans rfl, (h.cell 2).trans rfl, (h.cell 3).trans rfl, (h.cell 4).trans rfl, (h.cell 5).trans rfl, (h.cell 6).trans rfl, (h.cell 7).trans rfl, (h.cell 8).trans rfl⟩
set_option maxRecDepth 20000 in
set_option maxHeartbeats 2000000 in
theorem plays_bad (t : TV) (A : Option Addr) (n c : Nat) (L : List OpV) (now : Int) (A2 : Option Addr) (n2 c2 : Nat) (w : World) (h : n = L.length ∧ OpsR w A L) {v : Int} (hv : jnewE t L now = v) (h0 : v ≠ 0) (hn2 : n2 ≤ 1152921504606846976) :
    Calls Try.prog 5 #[.agg #[.int .i64 t.p, .int .i64 t.d, .int .i64 t.b, .int .i64 t.ls, .int .i64 t.l, .int .i64 t.g, .int .i64 t.lg, .int .i64 t.lk, .slice A n c], .int .i64 now, .slice A2 n2 c2] w fun e w' => e = .returned (.bool true) ∧ Below w.heap.size w w' := by
  have hb0 : Below w.heap.size w (w.alloc (.cells #[.int .i64 t.p, .int .i64 t.d, .int .i64 t.b, .int .i64 t.ls, .int .i64 t.l, .int .i64 t.g, .int .i64 t.lg, .int .i64 t.lk, .slice A n c] 48)) := (Below.refl _ _).alloc (Nat.le_refl _) _
  have hK := Blk.new w 48 #[.int .i64 t.p, .int .i64 t.d, .int .i64 t.b, .int .i64 t.ls, .int .i64 t.l, .int .i64 t.g, .int .i64 t.lg, .int .i64 t.lk, .slice A n c]
  have HN : ∀ W, Below w.heap.size w W → Calls Try.prog 6 #[.agg #[.int .i64 t.p, .int .i64 t.d, .int .i64 t.b, .int .i64 t.ls, .int .i64 t.l, .int .i64 t.g, .int .i64 t.lg, .int .i64 t.lk], .slice A n c, .int .i64 now] W fun e w' => e = .returned (.tuple #[.pointer none, .int .i64 v]) ∧ Below W.heap.size W w' := fun W hW => jnew_bad2 t A n c L now W ⟨h.1, h.2.below hW⟩ hv h0
  have HM : ∀ W, Below w.heap.size w W → Calls Try.prog 22 #[.agg #[.int .i64 t.p, .int .i64 t.d, .int .i64 t.b, .int .i64 t.ls, .int .i64 t.l, .int .i64 t.g, .int .i64 t.lg, .int .i64 t.lk], .slice A n c, .int .i64 now] W fun e w' => e = .returned (.tuple #[.pointer none, .int .i64 v]) ∧ Below W.heap.size W w' := fun W hW => mnew_bad2 t A n c L now W ⟨h.1, h.2.below hW⟩ hv h0
  have hvb : (v != 0) = true := by simp [h0]
  have hvf : (v == 0) = false := by simp [h0]
  have HB0 := Lib.hid hb0
  have HK := Lib.hid hK
  clear h hv h0 hK hb0
  obtain ⟨z0, z1, z2, z3, z4, z5, z6, z7, z8⟩ := cells9 HK.out
  go_enter Try.func5, Try.ntmps5
  go_wp2_with (first
    | (go_at_call 22; with_reducible refine (HM _ HB1.out).mono ?_; rintro e w2 ⟨rfl, hb2⟩; have HB2 := Lib.hid (below_lift HB1.out hb2 HB1.out.size); clear hb2)
    | (go_at_call 6; with_reducible refine (HN _ HB0.out).mono ?_; rintro e w1 ⟨rfl, hb1⟩; have HB1 := Lib.hid (below_lift HB0.out hb1 HB0.out.size); clear z0 z1 z2 z3 z4 z5 z6 z7 z8; obtain ⟨z0, z1, z2, z3, z4, z5, z6, z7, z8⟩ := cells9 (HK.out.on hb1); clear hb1))
  clear z0 z1 z2 z3 z4 z5 z6 z7 z8
  go_loopw [11] (fun y wr => y = .int .i64 0 ∧ Below w.heap.size w wr) (fun y _ => 1 - (intOf y).toNat)
  case atStart => exact ⟨rfl, HB2.out⟩
  case round =>
    obtain ⟨rfl, hB⟩ := hrel
    have HB := Lib.hid hB
    clear hB
    by_cases hz : 0 < n2
    · have hz1 : (0 : Int) < (n2 : Int) := by omega
      go_wp2_with (go_at_call 19; with_reducible refine (works_c _).mono ?_; rintro e w7 ⟨rfl, hb7⟩)
      go_ret
      exact ⟨rfl, below_lift HB.out hb7 HB.out.size⟩
    · have hz1 : ¬ (0 : Int) < (n2 : Int) := by omega
      go_wp2_with (go_at_call 19; with_reducible refine (works_c _).mono ?_; rintro e w7 ⟨rfl, hb7⟩)
      go_ret
      exact ⟨rfl, below_lift HB.out hb7 HB.out.size⟩
theorem two_cell {W0 w : World} {M j g b m h c : Nat} {x y : JV} {L K : List OpV} {p : Addr} {v : Value} (hT : Two W0 M w j g b m h c x L y K) (hp : p.block < W0.heap.size) (hc : W0.cell? p = some v) : w.cell? p = some v := (hT.b0.cell hp).trans hc
set_option maxRecDepth 20000 in
set_option maxHeartbeats 4000000 in
theorem plays_good (t : TV) (A : Option Addr) (n c : Nat) (L : List OpV) (now : Int) (A2 : Option Addr) (n2 c2 : Nat) (D : Nat → Nat → Int) (w : World) (h : n = L.length ∧ OpsR w A L) (hA : A = none → c = 0) (hv : jnewE t L now = 0) (hD : D2At w A2 n2 D) (hn2 : n2 ≤ 1152921504606846976) :
    Calls Try.prog 5 #[.agg #[.int .i64 t.p, .int .i64 t.d, .int .i64 t.b, .int .i64 t.ls, .int .i64 t.l, .int .i64 t.g, .int .i64 t.lg, .int .i64 t.lk, .slice A n c], .int .i64 now, .slice A2 n2 c2] w fun e w' => e = .returned (.bool true) ∧ Below w.heap.size w w' := by
  obtain ⟨-, hnow1, hnow2, -⟩ := jnew_parts t L now hv
  have hb0 : Below w.heap.size w (w.alloc (.cells #[.int .i64 t.p, .int .i64 t.d, .int .i64 t.b, .int .i64 t.ls, .int .i64 t.l, .int .i64 t.g, .int .i64 t.lg, .int .i64 t.lk, .slice A n c] 48)) := (Below.refl _ _).alloc (Nat.le_refl _) _
  have hK := Blk.new w 48 #[.int .i64 t.p, .int .i64 t.d, .int .i64 t.b, .int .i64 t.ls, .int .i64 t.l, .int .i64 t.g, .int .i64 t.lg, .int .i64 t.lk, .slice A n c]
  have HN : ∀ W, Below w.heap.size w W → Calls Try.prog 6 #[.agg #[.int .i64 t.p, .int .i64 t.d, .int .i64 t.b, .int .i64 t.ls, .int .i64 t.l, .int .i64 t.g, .int .i64 t.lg, .int .i64 t.lk], .slice A n c, .int .i64 now] W fun e w' => ∃ j g b, e = .returned (.tuple #[.pointer (some ⟨j, 0, none⟩), .int .i64 0]) ∧ JobS W.heap.size w' j g b (newX t now) L ∧ Below W.heap.size W w' := fun W hW => jnew_ok _ t A n c L now W W (Below.refl _ _) (Nat.le_refl _) ⟨h.1, h.2.below hW⟩ hA hv
  have HM : ∀ W, Below w.heap.size w W → Calls Try.prog 22 #[.agg #[.int .i64 t.p, .int .i64 t.d, .int .i64 t.b, .int .i64 t.ls, .int .i64 t.l, .int .i64 t.g, .int .i64 t.lg, .int .i64 t.lk], .slice A n c, .int .i64 now] W fun e w' => ∃ j g b, e = .returned (.tuple #[.pointer (some ⟨j, 0, none⟩), .int .i64 0]) ∧ JobM W.heap.size w' j g b (newX t now) L ∧ Below W.heap.size W w' := fun W hW => mnew_ok t A n c L now W ⟨h.1, h.2.below hW⟩ hA hv
  have HB0 := Lib.hid hb0
  have HK := Lib.hid hK
  clear h hv hK hb0 hA
  obtain ⟨z0, z1, z2, z3, z4, z5, z6, z7, z8⟩ := cells9 HK.out
  have HDD := Lib.hid hD
  clear hD
  go_enter Try.func5, Try.ntmps5
  go_wp2_with (first
    | (go_at_call 22; with_reducible refine (HM _ HB1.out).mono ?_; rintro e w2 ⟨m, h, b', rfl, hr, hb2⟩; have HT0 := Lib.hid (two_start HJ.out HBJ.out hr hb2); clear hr hb2)
    | (go_at_call 6; with_reducible refine (HN _ HB0.out).mono ?_; rintro e w1 ⟨j, g, b, rfl, hj, hb1⟩; have HJ := Lib.hid hj; have HBJ := Lib.hid hb1; have HB1 := Lib.hid (below_lift HB0.out hb1 HB0.out.size); clear z0 z1 z2 z3 z4 z5 z6 z7 z8; obtain ⟨z0, z1, z2, z3, z4, z5, z6, z7, z8⟩ := cells9 (HK.out.on hb1); clear hb1 hj))
  clear z0 z1 z2 z3 z4 z5 z6 z7 z8 HN HM HJ HBJ HB1 HK
  generalize w1.heap.size = M at *
  generalize w.alloc (.cells #[.int .i64 t.p, .int .i64 t.d, .int .i64 t.b, .int .i64 t.ls, .int .i64 t.l, .int .i64 t.g, .int .i64 t.lg, .int .i64 t.lk, .slice A n c] 48) = W0 at *
  go_loopw [11] (fun y wr => ∃ (i : Nat) (x : JV) (K : List OpV), i ≤ 60 ∧ i ≤ n2 ∧ y = .int .i64 i ∧ Two W0 M wr j g b m h b' x K x K ∧ Bnd x i) (fun y _ => 60 - (intOf y).toNat)
  case atStart => exact ⟨0, _, _, by omega, by omega, rfl, HT0.out, bnd_new t now⟩
  case round =>
    clear HT0
    obtain ⟨i, x, K, hi, hi2, rfl, hT, hbn⟩ := hrel
    have hD := HDD.out
    by_cases hlt : i < n2
    · have hlt1 : (i : Int) < (n2 : Int) := by omega
      by_cases hlt6 : i < 60
      · have hlt2 : (i : Int) < 60 := by omega
        obtain ⟨db, doff, hA2, hdb, hcs⟩ := hD (by omega)
        obtain ⟨hc0, hc1⟩ := hcs i hlt
        have d0 := (hT.b0.cell (p := ⟨db, doff + i * 2, none⟩) (Nat.lt_of_lt_of_le hdb HB0.out.size)).trans ((HB0.out.cell (p := ⟨db, doff + i * 2, none⟩) hdb).trans hc0)
        have d1 := (hT.b0.cell (p := ⟨db, doff + i * 2 + 1, none⟩) (Nat.lt_of_lt_of_le hdb HB0.out.size)).trans ((HB0.out.cell (p := ⟨db, doff + i * 2 + 1, none⟩) hdb).trans hc1)
        have hdl : db < wr.heap.size := Nat.lt_of_lt_of_le (Nat.lt_of_lt_of_le hdb HB0.out.size) hT.b0.size
        have HDB : Hid (db < W0.heap.size) := Nat.lt_of_lt_of_le hdb HB0.out.size
        have HC : Hid (W0.cell? ⟨db, doff + i * 2 + 1, none⟩ = some (.int .i64 (D i 1))) := (HB0.out.cell (p := ⟨db, doff + i * 2 + 1, none⟩) hdb).trans hc1
        subst hA2
        obtain ⟨q, hq, HQ⟩ := bring_5 (D i 0)
        have HT := Lib.hid hT
        have HSM := Lib.hid (hbn.sm (by omega))
        have HBN := Lib.hid hbn
        have HD := Lib.hid hD
        clear hT hbn hD hcs hc0 hc1 hdb
        rcases hq with rfl | rfl | rfl | rfl | rfl
        · obtain ⟨u, hu⟩ : ∃ u, didE K = u := ⟨_, rfl⟩
          have HU := Lib.hid hu
          clear hu
          go_wp2_with (first
            | (go_at_call 24; with_reducible refine (r_did HT2.out HU.out).mono ?_; rintro e w3 ⟨rfl, hT3⟩; have HT3 := Lib.hid hT3; clear hT3)
            | (go_at_call 9; with_reducible refine (l_did HT1.out HU.out).mono ?_; rintro e w2 ⟨rfl, hT2⟩; have HT2 := Lib.hid hT2; clear hT2)
            | (go_at_call 21; with_reducible refine (HQ _).mono ?_; rintro e wz ⟨rfl, rfl⟩)
            | (go_at_call 23; with_reducible refine (same17_c HT.out).mono ?_; rintro e w1 ⟨rfl, hb1⟩; have HT1 := Lib.hid (HT.out.below hb1); have k0 := (hb1.cell (p := ⟨db, doff + i * 2, none⟩) hdl).trans d0; have hdl1 := Nat.lt_of_lt_of_le hdl hb1.size; clear d0 hb1))
          go_roundw
          case rel => exact ⟨i + 1, didX x K, didL K, by omega, by omega, rfl, HT3.out, HBN.out.did⟩
          case measure => simp [intOf]; omega
        · obtain ⟨u, hu⟩ : ∃ u, runE x K = u := ⟨_, rfl⟩
          have HU := Lib.hid hu
          clear hu
          go_wp2_with (first
            | (go_at_call 25; with_reducible refine (r_run HT2.out HU.out HSM.out.1 HSM.out.2.1).mono ?_; rintro e w3 ⟨rfl, hT3⟩; have HT3 := Lib.hid hT3; clear hT3)
            | (go_at_call 12; with_reducible refine (l_run HT1.out HU.out HSM.out.1 HSM.out.2.1).mono ?_; rintro e w2 ⟨rfl, hT2⟩; have HT2 := Lib.hid hT2; clear hT2)
            | (go_at_call 21; with_reducible refine (HQ _).mono ?_; rintro e wz ⟨rfl, rfl⟩)
            | (go_at_call 23; with_reducible refine (same17_c HT.out).mono ?_; rintro e w1 ⟨rfl, hb1⟩; have HT1 := Lib.hid (HT.out.below hb1); have k0 := (hb1.cell (p := ⟨db, doff + i * 2, none⟩) hdl).trans d0; have hdl1 := Nat.lt_of_lt_of_le hdl hb1.size; clear d0 hb1))
          go_roundw
          case rel => exact ⟨i + 1, runX x K, runL x K, by omega, by omega, rfl, HT3.out, HBN.out.run⟩
          case measure => simp [intOf]; omega
        · obtain ⟨u, hu⟩ : ∃ u, runE x K = u := ⟨_, rfl⟩
          have HU := Lib.hid hu
          clear hu
          go_wp2_with (first
            | (go_at_call 25; with_reducible refine (r_run HT2.out HU.out HSM.out.1 HSM.out.2.1).mono ?_; rintro e w3 ⟨rfl, hT3⟩; have HT3 := Lib.hid hT3; clear hT3)
            | (go_at_call 12; with_reducible refine (l_run HT1.out HU.out HSM.out.1 HSM.out.2.1).mono ?_; rintro e w2 ⟨rfl, hT2⟩; have HT2 := Lib.hid hT2; clear hT2)
            | (go_at_call 21; with_reducible refine (HQ _).mono ?_; rintro e wz ⟨rfl, rfl⟩)
            | (go_at_call 23; with_reducible refine (same17_c HT.out).mono ?_; rintro e w1 ⟨rfl, hb1⟩; have HT1 := Lib.hid (HT.out.below hb1); have k0 := (hb1.cell (p := ⟨db, doff + i * 2, none⟩) hdl).trans d0; have hdl1 := Nat.lt_of_lt_of_le hdl hb1.size; clear d0 hb1))
          go_roundw
          case rel => exact ⟨i + 1, runX x K, runL x K, by omega, by omega, rfl, HT3.out, HBN.out.run⟩
          case measure => simp [intOf]; omega
        · obtain ⟨u, hu⟩ : ∃ u, enterE x (D i 1) = u := ⟨_, rfl⟩
          have HU := Lib.hid hu
          clear hu
          go_wp2_with (first
            | (go_at_call 21; with_reducible refine (HQ _).mono ?_; rintro e wz ⟨rfl, rfl⟩)
            | (go_at_call 23; with_reducible refine (same17_c HT.out).mono ?_; rintro e w1 ⟨rfl, hb1⟩; have HT1 := Lib.hid (HT.out.below hb1); have k0 := (hb1.cell (p := ⟨db, doff + i * 2, none⟩) hdl).trans d0; have k1 := (hb1.cell (p := ⟨db, doff + i * 2 + 1, none⟩) hdl).trans d1; have hdl1 := Nat.lt_of_lt_of_le hdl hb1.size; clear d0 hb1))
          have HT1d := Lib.hid (HT1.out.below ((Below.refl _ _).drew))
          have k1d : w1.drew.cell? ⟨db, doff + i * 2 + 1, none⟩ = some (.int .i64 (D i 1)) := k1
          go_region_held3 (fun w' => w'.cell? ⟨db, doff + i * 2 + 1, none⟩ = some (.int .i64 (D i 1))) (go_keep)
            (first
              | (go_at_call 26; with_reducible refine (r_enter HT2.out HU.out HSM.out.2.2).mono ?_; rintro e w3 ⟨rfl, hT3, -⟩; have HT3 := Lib.hid hT3; clear k1e; have k1f := two_cell hT3 HDB.out HC.out; clear hT3)
              | (go_at_call 7; with_reducible refine (l_enter HT1d.out HU.out HSM.out.2.2).mono ?_; rintro e w2 ⟨rfl, hT2, -⟩; have HT2 := Lib.hid hT2; clear k1 k1d; have k1e := two_cell hT2 HDB.out HC.out; clear hT2))
          go_wp2_with fail
          go_roundw
          case rel => exact ⟨i + 1, enterX x (D i 1), K, by omega, by omega, rfl, HT3.out, HBN.out.enter _⟩
          case measure => simp [intOf]; omega
        · obtain ⟨u, hu⟩ : ∃ u, leaveE x = u := ⟨_, rfl⟩
          have HU := Lib.hid hu
          clear hu
          go_wp2_with (first
            | (go_at_call 27; with_reducible refine (r_leave HT2.out HU.out).mono ?_; rintro e w3 ⟨rfl, hT3⟩; have HT3 := Lib.hid hT3; clear hT3)
            | (go_at_call 8; with_reducible refine (l_leave HT1.out HU.out).mono ?_; rintro e w2 ⟨rfl, hT2⟩; have HT2 := Lib.hid hT2; clear hT2)
            | (go_at_call 21; with_reducible refine (HQ _).mono ?_; rintro e wz ⟨rfl, rfl⟩)
            | (go_at_call 23; with_reducible refine (same17_c HT.out).mono ?_; rintro e w1 ⟨rfl, hb1⟩; have HT1 := Lib.hid (HT.out.below hb1); have k0 := (hb1.cell (p := ⟨db, doff + i * 2, none⟩) hdl).trans d0; have hdl1 := Nat.lt_of_lt_of_le hdl hb1.size; clear d0 hb1))
          go_roundw
          case rel => exact ⟨i + 1, leaveX x, K, by omega, by omega, rfl, HT3.out, HBN.out.leave⟩
          case measure => simp [intOf]; omega
      · obtain rfl : 60 = i := by omega
        have hlt2 : ¬ ((60 : Nat) : Int) < 60 := by omega
        have HT := Lib.hid hT
        clear hT hbn hD
        go_wp2_with (first
          | (go_at_call 19; with_reducible refine (works_c _).mono ?_; rintro e w3 ⟨rfl, hb3⟩; have hB3 := below_lift HT2.out.b0 hb3 HT2.out.b0.size)
          | (go_at_call 23; with_reducible refine (same17_c HT1.out).mono ?_; rintro e w2 ⟨rfl, hb2⟩; have HT2 := Lib.hid (HT1.out.below hb2); clear hb2)
          | (go_at_call 23; with_reducible refine (same17_c HT.out).mono ?_; rintro e w1 ⟨rfl, hb1⟩; have HT1 := Lib.hid (HT.out.below hb1); obtain ⟨m9, m10, m11, m12, m13, m14⟩ := HT1.out.mcells; clear hb1))
        go_ret
        exact ⟨rfl, below_lift HB0.out hB3 HB0.out.size⟩
    · have hlt1 : ¬ (i : Int) < (n2 : Int) := by omega
      have HT := Lib.hid hT
      clear hT hbn hD
      go_wp2_with (first
        | (go_at_call 19; with_reducible refine (works_c _).mono ?_; rintro e w3 ⟨rfl, hb3⟩; have hB3 := below_lift HT2.out.b0 hb3 HT2.out.b0.size)
        | (go_at_call 23; with_reducible refine (same17_c HT1.out).mono ?_; rintro e w2 ⟨rfl, hb2⟩; have HT2 := Lib.hid (HT1.out.below hb2); clear hb2)
        | (go_at_call 23; with_reducible refine (same17_c HT.out).mono ?_; rintro e w1 ⟨rfl, hb1⟩; have HT1 := Lib.hid (HT.out.below hb1); obtain ⟨m9, m10, m11, m12, m13, m14⟩ := HT1.out.mcells; clear hb1))
      go_ret
      exact ⟨rfl, below_lift HB0.out hB3 HB0.out.size⟩
theorem plays17_c (t : TV) (A : Option Addr) (n c : Nat) (L : List OpV) (now : Int) (A2 : Option Addr) (n2 c2 : Nat) (D : Nat → Nat → Int) (w : World) (h : n = L.length ∧ OpsR w A L) (hA : A = none → c = 0) (hD : D2At w A2 n2 D) (hn2 : n2 ≤ 1152921504606846976) :
    Calls Try.prog 5 #[.agg #[.int .i64 t.p, .int .i64 t.d, .int .i64 t.b, .int .i64 t.ls, .int .i64 t.l, .int .i64 t.g, .int .i64 t.lg, .int .i64 t.lk, .slice A n c], .int .i64 now, .slice A2 n2 c2] w fun e w' => e = .returned (.bool true) ∧ Below w.heap.size w w' := by
  by_cases h0 : jnewE t L now = 0
  · exact plays_good t A n c L now A2 n2 c2 D w h hA h0 hD hn2
  · exact plays_bad t A n c L now A2 n2 c2 w h rfl h0 hn2
end Go.Proofs.Ytomadlopljfcmaa
