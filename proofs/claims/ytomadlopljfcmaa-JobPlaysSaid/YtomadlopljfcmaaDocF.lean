/- The document's job: Fault. -/
import Derived.Test.YtomadlopljfcmaaDocJ
namespace Go.Proofs.Ytomadlopljfcmaa
set_option linter.unusedVariables false
open Go.RowKit

set_option maxHeartbeats 2000000 in
theorem mfault_c (B j g b : Nat) (x : JV) (L : List OpV) (now : Int) (w : World) (h : JobM B w j g b x L) :
    Calls Try.prog 40 #[.pointer (some ⟨j, 0, none⟩), .int .i64 now] w fun e w' => e = .returned (.int .i64 (faultE x L now)) ∧ Below w.heap.size w w' := by
  have HH := Lib.hid h
  have HJB0 : Hid (Blk w j 58 (mCells (.pointer (some ⟨g, 0, none⟩)) x)) := h.blk
  have hjl := HJB0.out.lt
  have c8 := mc8 HJB0.out
  clear h
  obtain ⟨y, hy0⟩ : ∃ y, headOf L = y := ⟨_, rfl⟩
  have HY := Lib.hid hy0
  obtain ⟨is, his0⟩ : ∃ s, (!L.isEmpty) = s := ⟨_, rfl⟩
  have HN : Hid (Calls Try.prog 55 #[.pointer (some ⟨g, 0, none⟩)] w fun e w' => e = .returned (.tuple #[.agg #[.int .i64 y.k, .int .i64 y.n, .string y.s], .bool is]) ∧ Below w.heap.size w w') := (next_r g b L w HH.out.row.row).mono fun e w' ⟨he, hb⟩ => ⟨by rw [he, hy0, his0]; rfl, hb⟩
  by_cases hL : L = []
  · obtain rfl : is = false := by rw [← his0, hL]; rfl
    have hv : Hid (faultE x L now = 0) := if_pos hL
    clear hL hy0 his0
    go_enter Try.func40, Try.ntmps40
    go_wp2_with (go_at_call 55; with_reducible refine HN.out.mono ?_; rintro e w1 ⟨rfl, hb1⟩; have hJ1 := Blk.below HJB0.out hb1 hjl; have hjl1 := hJ1.lt; have c9 := mc9 hJ1)
    go_ret
    exact ⟨by rw [hv.out]; rfl, hb1.alloc hb1.size _⟩
  · obtain rfl : is = true := by
      rw [← his0]
      cases L with
      | nil => exact absurd rfl hL
      | cons a b => rfl
    by_cases hn : x.ends ≤ now
    · have hv : Hid (faultE x L now = 3) := by show faultE x L now = 3; unfold faultE; rw [if_neg hL, if_pos hn]
      clear hL hy0 his0
      go_enter Try.func40, Try.ntmps40
      go_wp2_with (go_at_call 55; with_reducible refine HN.out.mono ?_; rintro e w1 ⟨rfl, hb1⟩; have hJ1 := Blk.below HJB0.out hb1 hjl; have hjl1 := hJ1.lt; have c9 := mc9 hJ1)
      go_ret
      exact ⟨by rw [hv.out]; rfl, hb1.alloc hb1.size _⟩
    · have HL := Lib.hid hL
      have HNN : Hid (¬ x.ends ≤ now) := hn
      clear hL hy0 his0
      go_enter Try.func40, Try.ntmps40
      go_wp2_with (go_at_call 55; with_reducible refine HN.out.mono ?_; rintro e w1 ⟨rfl, hb1⟩; have hJ1 := Blk.below HJB0.out hb1 hjl; have hjl1 := hJ1.lt; have c9 := mc9 hJ1)
      have HS2 := Lib.hid ((HH.out.below hb1).alloc (.cells #[.int .i64 y.k, .int .i64 y.n, .string y.s] 29))
      have HA2 := Lib.hid (Blk.new w1 29 #[.int .i64 y.k, .int .i64 y.n, .string y.s])
      have hB2 := hb1.alloc hb1.size (.cells #[.int .i64 y.k, .int .i64 y.n, .string y.s] 29)
      clear c8 c9 hJ1 hjl1 hb1 HN HJB0 hjl HH
      have hne : w1.heap.size < (w1.alloc (.cells #[.int .i64 y.k, .int .i64 y.n, .string y.s] 29)).heap.size := by simp
      generalize w1.alloc (.cells #[.int .i64 y.k, .int .i64 y.n, .string y.s] 29) = w2 at *
      have c2 := mc2 HS2.out.blk
      have c10 := mc10 HS2.out.blk
      have c8 := mc8 HS2.out.blk
      have hjl : j < w2.heap.size := Blk.lt HS2.out.blk
      by_cases hr : x.t.b ≤ x.ran
      · obtain ⟨lf, hlf⟩ : ∃ v, leftOf L = v := ⟨_, rfl⟩
        have HLF := Lib.hid hlf
        have hC : Below w2.heap.size w2 w2.drew := (Below.refl _ _).drew
        have HSd := Lib.hid (HS2.out.below hC)
        have HQ : Hid (Calls Try.prog 56 #[.pointer (some ⟨g, 0, none⟩)] w2.drew fun e w' => e = .returned (.int .i64 lf) ∧ Below w2.drew.heap.size w2.drew w') := (left_r g b L _ HSd.out.row.row HSd.out.row.ok).mono fun e w' ⟨he, hb⟩ => ⟨by rw [he, HLF.out], hb⟩
        have K2 : Hid (w2.cell? ⟨j, 2, none⟩ = some (.int .i64 x.t.b)) := c2
        have K8 : Hid (w2.cell? ⟨j, 8, none⟩ = some (.pointer (some ⟨g, 0, none⟩))) := c8
        have K10 : Hid (w2.cell? ⟨j, 10, none⟩ = some (.int .i64 x.ran)) := c10
        have e2 := (hC.cell (p := ⟨j, 2, none⟩) hjl).trans K2.out
        have e8 := (hC.cell (p := ⟨j, 8, none⟩) hjl).trans K8.out
        have e10 := (hC.cell (p := ⟨j, 10, none⟩) hjl).trans K10.out
        clear c2 c8 c10 hlf
        have hr2 : decide (x.t.b ≤ x.ran) = true := decide_eq_true hr
        by_cases hl0 : 0 < lf
        · have E : Hid (faultE x L now = 1) := by show _ = _; unfold faultE; rw [if_neg HL.out, if_neg (by have := HNN.out; omega), if_pos ⟨hr, by rw [HLF.out]; exact hl0⟩]
          go_region_held3 (fun w' => w'.cell? ⟨j, 2, none⟩ = some (.int .i64 x.t.b) ∧ w'.cell? ⟨j, 8, none⟩ = some (.pointer (some ⟨g, 0, none⟩)) ∧ w'.cell? ⟨j, 10, none⟩ = some (.int .i64 x.ran)) (go_keep)
            (first
              | (go_at_call 56; with_reducible refine HQ.out.mono ?_; rintro e w3 ⟨rfl, hb3⟩; have hC3 := below_lift hC hb3 hC.size; clear e2 e8 e10; have e2 := (hC3.cell (p := ⟨j, 2, none⟩) hjl).trans K2.out; have e8 := (hC3.cell (p := ⟨j, 8, none⟩) hjl).trans K8.out; have e10 := (hC3.cell (p := ⟨j, 10, none⟩) hjl).trans K10.out))
          go_wp2
          go_ret
          exact ⟨by rw [E.out]; rfl, below_lift hB2 hC3 hB2.size⟩
        · have HV : Hid (faultE x L now = if overB x y.k = true then 2 else 0) := by show faultE x L now = _; unfold faultE; rw [if_neg HL.out, if_neg (by have := HNN.out; omega), if_neg (by rw [HLF.out]; omega), HY.out]
          go_region_held3 (fun w' => w'.cell? ⟨j, 2, none⟩ = some (.int .i64 x.t.b) ∧ w'.cell? ⟨j, 8, none⟩ = some (.pointer (some ⟨g, 0, none⟩)) ∧ w'.cell? ⟨j, 10, none⟩ = some (.int .i64 x.ran)) (go_keep)
            (first
              | (go_at_call 56; with_reducible refine HQ.out.mono ?_; rintro e w3 ⟨rfl, hb3⟩; have hC3 := below_lift hC hb3 hC.size; clear e2 e8 e10; have e2 := (hC3.cell (p := ⟨j, 2, none⟩) hjl).trans K2.out; have e8 := (hC3.cell (p := ⟨j, 8, none⟩) hjl).trans K8.out; have e10 := (hC3.cell (p := ⟨j, 10, none⟩) hjl).trans K10.out))
          go_wp2_with fail
          have HS3 := Lib.hid (HS2.out.below hC3)
          have HA3 := Lib.hid (HA2.out.below hC3 hne)
          have hB3 := below_lift hB2 hC3 hB2.size
          clear hC hb3 hC3 e2 e8 e10 K2 K8 K10 HQ HSd HS2 HA2 hB2 hjl hr hr2 hne
          obtain ⟨w2, rfl⟩ : ∃ x : World, x = w3 := ⟨_, rfl⟩
          obtain ⟨HS2, HA2, hB2⟩ : Hid (JobM B w2 j g b x L) ∧ Hid (Blk w2 w1.heap.size 29 #[.int .i64 y.k, .int .i64 y.n, .string y.s]) ∧ Below w.heap.size w w2 := ⟨HS3, HA3, hB3⟩
          clear HS3 HA3 hB3
          have c11 := mc11 HS2.out.blk
          have c12 := mc12 HS2.out.blk
          have c6 := mc6 HS2.out.blk
          have c4 := mc4 HS2.out.blk
          have a0 := cell3a HA2.out
          have f2l : j < w2.heap.size := Blk.lt HS2.out.blk
          by_cases s2 : x.sec = 2
          · have b2 : (x.sec == 2) = true := by simp [s2]
            have b1 : (x.sec == 1) = false := by simp [s2]
            by_cases hl : x.t.lg ≤ x.tk
            · have E : Hid (faultE x L now = 2) := by show _ = _; rw [HV.out, if_pos (by unfold overB; rw [if_pos s2]; simp [hl])]
              have d1 : decide (x.t.lg ≤ x.tk) = true := by simp [hl]
              clear s2
              go_quiet (fail)
              go_wp2
              go_ret
              exact ⟨by rw [E.out]; rfl, below_drewN hB2 nq⟩
            · have E : Hid (faultE x L now = 0) := by show _ = _; rw [HV.out, if_neg (by unfold overB; rw [if_pos s2]; simp [hl])]
              have d1 : decide (x.t.lg ≤ x.tk) = false := by simp [hl]
              clear s2
              go_quiet (fail)
              have HS3 := Lib.hid (HS2.out.below (below_drewN (Below.refl _ _) nq))
              have HA3 := Lib.hid (HA2.out.drewN nq)
              have hB3 := below_drewN hB2 nq
              clear HS2 HA2 hB2 a0 c11 c12 c6 c4 f2l
              generalize w2.drewN nq = w2 at *
              obtain ⟨HS2, HA2, hB2⟩ : Hid (JobM B w2 j g b x L) ∧ Hid (Blk w2 w1.heap.size 29 #[.int .i64 y.k, .int .i64 y.n, .string y.s]) ∧ Below w.heap.size w w2 := ⟨HS3, HA3, hB3⟩
              clear HS3 HA3 hB3
              have c11 := mc11 HS2.out.blk
              have c12 := mc12 HS2.out.blk
              have c6 := mc6 HS2.out.blk
              have c4 := mc4 HS2.out.blk
              have a0 := cell3a HA2.out
              have f2l : j < w2.heap.size := Blk.lt HS2.out.blk
              go_wp2_with fail
              go_quiet (fail)
              go_wp2
              go_ret
              exact ⟨by rw [E.out]; rfl, below_drewN hB2 nq⟩
          · have b2 : (x.sec == 2) = false := by simp [s2]
            go_quiet (fail)
            have HS3 := Lib.hid (HS2.out.below (below_drewN (Below.refl _ _) nq))
            have HA3 := Lib.hid (HA2.out.drewN nq)
            have hB3 := below_drewN hB2 nq
            clear HS2 HA2 hB2 a0 c11 c12 c6 c4 f2l
            generalize w2.drewN nq = w2 at *
            obtain ⟨HS2, HA2, hB2⟩ : Hid (JobM B w2 j g b x L) ∧ Hid (Blk w2 w1.heap.size 29 #[.int .i64 y.k, .int .i64 y.n, .string y.s]) ∧ Below w.heap.size w w2 := ⟨HS3, HA3, hB3⟩
            clear HS3 HA3 hB3
            have c11 := mc11 HS2.out.blk
            have c12 := mc12 HS2.out.blk
            have c6 := mc6 HS2.out.blk
            have c4 := mc4 HS2.out.blk
            have a0 := cell3a HA2.out
            have f2l : j < w2.heap.size := Blk.lt HS2.out.blk
            go_wp2_with fail
            by_cases s1 : x.sec = 1
            · have b1 : (x.sec == 1) = true := by simp [s1]
              by_cases hl : x.t.l ≤ x.tk
              · have d1 : decide (x.t.l ≤ x.tk) = true := by simp [hl]
                by_cases hk : y.k = 1
                · have bk : (y.k == 1) = true := by simp [hk]
                  have E : Hid (faultE x L now = 2) := by show _ = _; rw [HV.out, if_pos (by unfold overB; rw [if_neg s2, if_pos s1]; simp [hl, hk])]
                  clear s2 s1 hk
                  go_quiet (fail)
                  go_wp2
                  go_ret
                  exact ⟨by rw [E.out]; rfl, below_drewN hB2 nq⟩
                · have bk : (y.k == 1) = false := by simp [hk]
                  have E : Hid (faultE x L now = 0) := by show _ = _; rw [HV.out, if_neg (by unfold overB; rw [if_neg s2, if_pos s1]; simp [hk])]
                  clear s2 s1 hk
                  go_quiet (fail)
                  go_wp2
                  go_ret
                  exact ⟨by rw [E.out]; rfl, below_drewN hB2 nq⟩
              · have d1 : decide (x.t.l ≤ x.tk) = false := by simp [hl]
                have E : Hid (faultE x L now = 0) := by show _ = _; rw [HV.out, if_neg (by unfold overB; rw [if_neg s2, if_pos s1]; simp [hl])]
                clear s2 s1
                go_quiet (fail)
                go_wp2
                go_ret
                exact ⟨by rw [E.out]; rfl, below_drewN hB2 nq⟩
            · have b1 : (x.sec == 1) = false := by simp [s1]
              have E : Hid (faultE x L now = 0) := by show _ = _; rw [HV.out, if_neg (by unfold overB; rw [if_neg s2, if_neg s1]; simp)]
              clear s2 s1
              go_quiet (fail)
              go_wp2
              go_ret
              exact ⟨by rw [E.out]; rfl, below_drewN hB2 nq⟩
      · have hr2 : decide (x.t.b ≤ x.ran) = false := decide_eq_false hr
        have HV : Hid (faultE x L now = if overB x y.k = true then 2 else 0) := by show faultE x L now = _; unfold faultE; rw [if_neg HL.out, if_neg (by have := HNN.out; omega), if_neg (by omega), HY.out]
        go_quiet (fail)
        have HS3 := Lib.hid (HS2.out.below (below_drewN (Below.refl _ _) nq))
        have HA3 := Lib.hid (HA2.out.drewN nq)
        have hB3 := below_drewN hB2 nq
        clear HS2 HA2 hB2 c2 c10 c8 hjl hne hr hr2
        generalize w2.drewN nq = w2 at *
        obtain ⟨HS2, HA2, hB2⟩ : Hid (JobM B w2 j g b x L) ∧ Hid (Blk w2 w1.heap.size 29 #[.int .i64 y.k, .int .i64 y.n, .string y.s]) ∧ Below w.heap.size w w2 := ⟨HS3, HA3, hB3⟩
        clear HS3 HA3 hB3
        go_wp2_with fail
        have c11 := mc11 HS2.out.blk
        have c12 := mc12 HS2.out.blk
        have c6 := mc6 HS2.out.blk
        have c4 := mc4 HS2.out.blk
        have a0 := cell3a HA2.out
        have f2l : j < w2.heap.size := Blk.lt HS2.out.blk
        by_cases s2 : x.sec = 2
        · have b2 : (x.sec == 2) = true := by simp [s2]
          have b1 : (x.sec == 1) = false := by simp [s2]
          by_cases hl : x.t.lg ≤ x.tk
          · have E : Hid (faultE x L now = 2) := by show _ = _; rw [HV.out, if_pos (by unfold overB; rw [if_pos s2]; simp [hl])]
            have d1 : decide (x.t.lg ≤ x.tk) = true := by simp [hl]
            clear s2
            go_quiet (fail)
            go_wp2
            go_ret
            exact ⟨by rw [E.out]; rfl, below_drewN hB2 nq⟩
          · have E : Hid (faultE x L now = 0) := by show _ = _; rw [HV.out, if_neg (by unfold overB; rw [if_pos s2]; simp [hl])]
            have d1 : decide (x.t.lg ≤ x.tk) = false := by simp [hl]
            clear s2
            go_quiet (fail)
            have HS3 := Lib.hid (HS2.out.below (below_drewN (Below.refl _ _) nq))
            have HA3 := Lib.hid (HA2.out.drewN nq)
            have hB3 := below_drewN hB2 nq
            clear HS2 HA2 hB2 a0 c11 c12 c6 c4 f2l
            generalize w2.drewN nq = w2 at *
            obtain ⟨HS2, HA2, hB2⟩ : Hid (JobM B w2 j g b x L) ∧ Hid (Blk w2 w1.heap.size 29 #[.int .i64 y.k, .int .i64 y.n, .string y.s]) ∧ Below w.heap.size w w2 := ⟨HS3, HA3, hB3⟩
            clear HS3 HA3 hB3
            have c11 := mc11 HS2.out.blk
            have c12 := mc12 HS2.out.blk
            have c6 := mc6 HS2.out.blk
            have c4 := mc4 HS2.out.blk
            have a0 := cell3a HA2.out
            have f2l : j < w2.heap.size := Blk.lt HS2.out.blk
            go_wp2_with fail
            go_quiet (fail)
            go_wp2
            go_ret
            exact ⟨by rw [E.out]; rfl, below_drewN hB2 nq⟩
        · have b2 : (x.sec == 2) = false := by simp [s2]
          go_quiet (fail)
          have HS3 := Lib.hid (HS2.out.below (below_drewN (Below.refl _ _) nq))
          have HA3 := Lib.hid (HA2.out.drewN nq)
          have hB3 := below_drewN hB2 nq
          clear HS2 HA2 hB2 a0 c11 c12 c6 c4 f2l
          generalize w2.drewN nq = w2 at *
          obtain ⟨HS2, HA2, hB2⟩ : Hid (JobM B w2 j g b x L) ∧ Hid (Blk w2 w1.heap.size 29 #[.int .i64 y.k, .int .i64 y.n, .string y.s]) ∧ Below w.heap.size w w2 := ⟨HS3, HA3, hB3⟩
          clear HS3 HA3 hB3
          have c11 := mc11 HS2.out.blk
          have c12 := mc12 HS2.out.blk
          have c6 := mc6 HS2.out.blk
          have c4 := mc4 HS2.out.blk
          have a0 := cell3a HA2.out
          have f2l : j < w2.heap.size := Blk.lt HS2.out.blk
          go_wp2_with fail
          by_cases s1 : x.sec = 1
          · have b1 : (x.sec == 1) = true := by simp [s1]
            by_cases hl : x.t.l ≤ x.tk
            · have d1 : decide (x.t.l ≤ x.tk) = true := by simp [hl]
              by_cases hk : y.k = 1
              · have bk : (y.k == 1) = true := by simp [hk]
                have E : Hid (faultE x L now = 2) := by show _ = _; rw [HV.out, if_pos (by unfold overB; rw [if_neg s2, if_pos s1]; simp [hl, hk])]
                clear s2 s1 hk
                go_quiet (fail)
                go_wp2
                go_ret
                exact ⟨by rw [E.out]; rfl, below_drewN hB2 nq⟩
              · have bk : (y.k == 1) = false := by simp [hk]
                have E : Hid (faultE x L now = 0) := by show _ = _; rw [HV.out, if_neg (by unfold overB; rw [if_neg s2, if_pos s1]; simp [hk])]
                clear s2 s1 hk
                go_quiet (fail)
                go_wp2
                go_ret
                exact ⟨by rw [E.out]; rfl, below_drewN hB2 nq⟩
            · have d1 : decide (x.t.l ≤ x.tk) = false := by simp [hl]
              have E : Hid (faultE x L now = 0) := by show _ = _; rw [HV.out, if_neg (by unfold overB; rw [if_neg s2, if_pos s1]; simp [hl])]
              clear s2 s1
              go_quiet (fail)
              go_wp2
              go_ret
              exact ⟨by rw [E.out]; rfl, below_drewN hB2 nq⟩
          · have b1 : (x.sec == 1) = false := by simp [s1]
            have E : Hid (faultE x L now = 0) := by show _ = _; rw [HV.out, if_neg (by unfold overB; rw [if_neg s2, if_neg s1]; simp)]
            clear s2 s1
            go_quiet (fail)
            go_wp2
            go_ret
            exact ⟨by rw [E.out]; rfl, below_drewN hB2 nq⟩
end Go.Proofs.Ytomadlopljfcmaa
