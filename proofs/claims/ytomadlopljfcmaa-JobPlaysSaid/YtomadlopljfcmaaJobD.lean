/- The program's job: over, Fault. -/
import Derived.Test.YtomadlopljfcmaaJobC
namespace Go.Proofs.Ytomadlopljfcmaa
set_option linter.unusedVariables false
open Go.RowKit

def overB (x : JV) (k : Int) : Bool := if x.sec = 2 then decide (x.t.lg ≤ x.tk) else if x.sec = 1 then decide (x.t.l ≤ x.tk ∧ k = 1) else false
def faultE (x : JV) (L : List OpV) (now : Int) : Int := if L = [] then 0 else if x.ends ≤ now then 3 else if x.t.b ≤ x.ran ∧ 0 < leftOf L then 1 else if overB x (headOf L).k = true then 2 else 0
set_option maxHeartbeats 400000 in
theorem over_c (j g : Nat) (x : JV) (k n : Int) (s : ByteArray) (w : World) (h : JB w j g x) {v : Bool} (hv : overB x k = v) :
    Calls Try.prog 33 #[.pointer (some ⟨j, 0, none⟩), .agg #[.int .i64 k, .int .i64 n, .string s]] w fun e w' => e = .returned (.bool v) ∧ Below w.heap.size w w' := by
  have HBk : Blk w j 42 (jCells (.pointer (some ⟨g, 0, none⟩)) x) := h
  have hjl := HBk.lt
  have c11 := jc11 HBk
  have c12 := jc12 HBk
  have c7 := jc7 HBk
  have c5 := jc5 HBk
  have HV := Lib.hid hv
  clear h HBk hv
  by_cases h2 : x.sec = 2
  · have hb2 : (x.sec == 2) = true := by simp [h2]
    have HD : Hid (v = decide (x.t.lg ≤ x.tk)) := by show v = _; rw [← HV.out]; unfold overB; rw [if_pos h2]
    clear h2
    go_enter Try.func33, Try.ntmps33
    go_wp2_with fail
    go_quiet (fail)
    go_wp2
    go_ret
    exact ⟨ret_bool (HD.out.symm), below_drewN ((Below.refl _ _).alloc (Nat.le_refl _) _) _⟩
  · have hb2 : (x.sec == 2) = false := by simp [h2]
    by_cases h1 : x.sec = 1
    · have hb1 : (x.sec == 1) = true := by simp [h1]
      have HD : Hid (v = decide (x.t.l ≤ x.tk ∧ k = 1)) := by show v = _; rw [← HV.out]; unfold overB; rw [if_neg h2, if_pos h1]
      clear h2 h1
      by_cases hl : x.t.l ≤ x.tk
      · by_cases hk : k = 1
        · have hbk : (k == 1) = true := by simp [hk]
          have HE : Hid (true = v) := by show true = v; rw [HD.out]; simp [hl, hk]
          clear hk
          go_enter Try.func33, Try.ntmps33
          go_wp2_with fail
          go_quiet (fail)
          go_wp2
          go_ret
          exact ⟨ret_bool (HE.out), below_drewN ((Below.refl _ _).alloc (Nat.le_refl _) _) _⟩
        · have hbk : (k == 1) = false := by simp [hk]
          have HE : Hid (false = v) := by show false = v; rw [HD.out]; simp [hk]
          clear hk
          go_enter Try.func33, Try.ntmps33
          go_wp2_with fail
          go_quiet (fail)
          go_wp2
          go_ret
          exact ⟨ret_bool (HE.out), below_drewN ((Below.refl _ _).alloc (Nat.le_refl _) _) _⟩
      · have HE : Hid (false = v) := by show false = v; rw [HD.out]; simp [hl]
        go_enter Try.func33, Try.ntmps33
        go_wp2_with fail
        have hl2 : decide (x.t.l ≤ x.tk) = false := decide_eq_false (by omega)
        go_quiet (fail)
        go_wp2
        go_ret
        exact ⟨ret_bool (HE.out), below_drewN ((Below.refl _ _).alloc (Nat.le_refl _) _) _⟩
    · have hb1 : (x.sec == 1) = false := by simp [h1]
      have HE : Hid (false = v) := by show false = v; rw [← HV.out]; unfold overB; rw [if_neg h2, if_neg h1]
      clear h2 h1
      go_enter Try.func33, Try.ntmps33
      go_wp2_with fail
      go_ret
      exact ⟨ret_bool (HE.out), (Below.refl _ _).alloc (Nat.le_refl _) _⟩
theorem jnext_v {B j g b : Nat} {x : JV} {L : List OpV} {w : World} (h : JobS B w j g b x L) {y : OpV} {is : Bool} (hy : headOf L = y) (hi : (!L.isEmpty) = is) :
    Calls Try.prog 13 #[.pointer (some ⟨j, 0, none⟩)] w fun e w' => e = .returned (.tuple #[.agg #[.int .i64 y.k, .int .i64 y.n, .string y.s], .bool is]) ∧ Below w.heap.size w w' :=
  (jnext_c B j g b x L w h).mono fun e w' ⟨he, hb⟩ => ⟨by rw [he, hy, hi]; rfl, hb⟩
theorem left_v2 {g b : Nat} {L : List OpV} {w : World} (h : RowA w g b L) (ho : OkRow L) {v : Int} (hv : leftOf L = v) :
    Calls Try.prog 32 #[.pointer (some ⟨g, 0, none⟩)] w fun e w' => e = .returned (.int .i64 v) ∧ Below w.heap.size w w' :=
  (left_a g b L w h ho).mono fun e w' ⟨he, hb⟩ => ⟨by rw [he, hv], hb⟩
theorem cell3a {w : World} {g : Nat} {t : TypeId} {u v z : Value} (h : Blk w g t #[u, v, z]) : w.cell? ⟨g, 0, none⟩ = some u := (h.cell 0).trans rfl
theorem cell3b {w : World} {g : Nat} {t : TypeId} {u v z : Value} (h : Blk w g t #[u, v, z]) : w.cell? ⟨g, 1, none⟩ = some v := (h.cell 1).trans rfl
theorem cell3c {w : World} {g : Nat} {t : TypeId} {u v z : Value} (h : Blk w g t #[u, v, z]) : w.cell? ⟨g, 2, none⟩ = some z := (h.cell 2).trans rfl
set_option maxHeartbeats 400000 in
theorem fault_c (B j g b : Nat) (x : JV) (L : List OpV) (now : Int) (w : World) (h : JobS B w j g b x L) :
    Calls Try.prog 11 #[.pointer (some ⟨j, 0, none⟩), .int .i64 now] w fun e w' => e = .returned (.int .i64 (faultE x L now)) ∧ Below w.heap.size w w' := by
  have HH := Lib.hid h
  have HJB0 : Blk w j 42 (jCells (.pointer (some ⟨g, 0, none⟩)) x) := h.blk
  have hjl := HJB0.lt
  clear h
  obtain ⟨y, hy0⟩ : ∃ y, headOf L = y := ⟨_, rfl⟩
  have HY := Lib.hid hy0
  by_cases hL : L = []
  · have hv : Hid (faultE x L now = 0) := if_pos hL
    have his0 : Hid ((!L.isEmpty) = false) := by show (!L.isEmpty) = false; rw [hL]; rfl
    have hN := jnext_v HH.out hy0 his0.out
    clear hL hy0
    go_enter Try.func11, Try.ntmps11
    go_wp2_with (go_at_call 13; with_reducible refine hN.mono ?_; rintro e w1 ⟨rfl, hb1⟩)
    go_ret
    exact ⟨by rw [hv.out]; rfl, hb1.alloc hb1.size _⟩
  · have his0 : Hid ((!L.isEmpty) = true) := by show (!L.isEmpty) = true; cases L with | nil => exact absurd rfl hL | cons a b => rfl
    have hN := jnext_v HH.out hy0 his0.out
    clear hy0
    by_cases hn : x.ends ≤ now
    · have hv : Hid (faultE x L now = 3) := by show faultE x L now = 3; unfold faultE; rw [if_neg hL, if_pos hn]
      clear hL
      go_enter Try.func11, Try.ntmps11
      go_wp2_with (go_at_call 13; with_reducible refine hN.mono ?_; rintro e w1 ⟨rfl, hb1⟩; have hJ1 := HJB0.below hb1 hjl; have hjl1 := hJ1.lt; have c9 := jc9 hJ1)
      go_ret
      exact ⟨by rw [hv.out]; rfl, hb1.alloc hb1.size _⟩
    · by_cases hr : x.t.b ≤ x.ran
      · obtain ⟨lf, hlf⟩ : ∃ v, leftOf L = v := ⟨_, rfl⟩
        have HLF := Lib.hid hlf
        have HOK := Lib.hid HH.out.row.ok
        by_cases hl : 0 < lf
        · have hv : Hid (faultE x L now = 1) := by show faultE x L now = _; unfold faultE; rw [if_neg hL, if_neg hn, if_pos ⟨hr, by rw [hlf]; exact hl⟩]
          clear hL hlf
          go_enter Try.func11, Try.ntmps11
          go_wp2_with (go_at_call 13; with_reducible refine hN.mono ?_; rintro e w1 ⟨rfl, hb1⟩; have hJ1 := HJB0.below hb1 hjl; have hjl1 := hJ1.lt; have c0 := jc0 hJ1; have c3 := jc3 hJ1; have c9 := jc9 hJ1; have c10 := jc10 hJ1)
          have HS2 := Lib.hid ((HH.out.below hb1).alloc (.cells #[.int .i64 y.k, .int .i64 y.n, .string y.s] 29))
          have HA0 := Lib.hid (Blk.new w1 29 #[.int .i64 y.k, .int .i64 y.n, .string y.s])
          have hB0 := hb1.alloc hb1.size (.cells #[.int .i64 y.k, .int .i64 y.n, .string y.s] 29)
          have hsz : w1.heap.size < (w1.alloc (.cells #[.int .i64 y.k, .int .i64 y.n, .string y.s] 29)).heap.size := by simp
          clear c0 c3 c9 c10 hJ1 hjl1
          generalize w1.alloc (.cells #[.int .i64 y.k, .int .i64 y.n, .string y.s] 29) = w2 at *
          have hC : Below w2.heap.size w2 w2.drew := (Below.refl _ _).drew
          have HR2 := Lib.hid (HS2.out.below hC).row.row
          have HJ2 := Lib.hid (JobS.blk HS2.out)
          have hj2 := Blk.lt HJ2.out
          have K0 : Hid (w2.cell? ⟨j, 0, none⟩ = some (.pointer (some ⟨g, 0, none⟩))) := jc0 HJ2.out
          have K3 : Hid (w2.cell? ⟨j, 3, none⟩ = some (.int .i64 x.t.b)) := jc3 HJ2.out
          have K10 : Hid (w2.cell? ⟨j, 10, none⟩ = some (.int .i64 x.ran)) := jc10 HJ2.out
          have e0 := (hC.cell (p := ⟨j, 0, none⟩) hj2).trans K0.out
          have e3 := (hC.cell (p := ⟨j, 3, none⟩) hj2).trans K3.out
          have e10 := (hC.cell (p := ⟨j, 10, none⟩) hj2).trans K10.out
          go_region_held3 (fun w' => w'.cell? ⟨j, 0, none⟩ = some (.pointer (some ⟨g, 0, none⟩)) ∧ w'.cell? ⟨j, 3, none⟩ = some (.int .i64 x.t.b) ∧ w'.cell? ⟨j, 10, none⟩ = some (.int .i64 x.ran)) (go_keep)
            (first
              | (go_at_call 32; with_reducible refine (lift (a := w2) (left_v2 HR2.out HOK.out HLF.out) hC).mono ?_; clear hC e0 e3 e10; rintro e w3 ⟨rfl, hC⟩; have e0 := (hC.cell (p := ⟨j, 0, none⟩) hj2).trans K0.out; have e3 := (hC.cell (p := ⟨j, 3, none⟩) hj2).trans K3.out; have e10 := (hC.cell (p := ⟨j, 10, none⟩) hj2).trans K10.out))
          go_wp2
          go_ret
          exact ⟨by rw [hv.out]; rfl, below_lift hB0 hC hB0.size⟩
        · obtain ⟨ov, hov⟩ : ∃ v, overB x y.k = v := ⟨_, rfl⟩
          have HO := Lib.hid hov
          have hv0 : Hid (faultE x L now = if ov = true then 2 else 0) := by show faultE x L now = _; unfold faultE; rw [if_neg hL, if_neg hn, if_neg (by rw [hlf]; omega), HY.out, hov]
          clear hL hov hlf
          cases ov with
          | true =>
            have hv : Hid (faultE x L now = 2) := hv0.out.trans (by simp)
            clear hv0
            go_enter Try.func11, Try.ntmps11
            go_wp2_with (go_at_call 13; with_reducible refine hN.mono ?_; rintro e w1 ⟨rfl, hb1⟩; have hJ1 := HJB0.below hb1 hjl; have hjl1 := hJ1.lt; have c0 := jc0 hJ1; have c3 := jc3 hJ1; have c9 := jc9 hJ1; have c10 := jc10 hJ1)
            have HS2 := Lib.hid ((HH.out.below hb1).alloc (.cells #[.int .i64 y.k, .int .i64 y.n, .string y.s] 29))
            have HA0 := Lib.hid (Blk.new w1 29 #[.int .i64 y.k, .int .i64 y.n, .string y.s])
            have hB0 := hb1.alloc hb1.size (.cells #[.int .i64 y.k, .int .i64 y.n, .string y.s] 29)
            have hsz : w1.heap.size < (w1.alloc (.cells #[.int .i64 y.k, .int .i64 y.n, .string y.s] 29)).heap.size := by simp
            clear c0 c3 c9 c10 hJ1 hjl1
            generalize w1.alloc (.cells #[.int .i64 y.k, .int .i64 y.n, .string y.s] 29) = w2 at *
            have hC : Below w2.heap.size w2 w2.drew := (Below.refl _ _).drew
            have HR2 := Lib.hid (HS2.out.below hC).row.row
            have HJ2 := Lib.hid (JobS.blk HS2.out)
            have hj2 := Blk.lt HJ2.out
            have K0 : Hid (w2.cell? ⟨j, 0, none⟩ = some (.pointer (some ⟨g, 0, none⟩))) := jc0 HJ2.out
            have K3 : Hid (w2.cell? ⟨j, 3, none⟩ = some (.int .i64 x.t.b)) := jc3 HJ2.out
            have K10 : Hid (w2.cell? ⟨j, 10, none⟩ = some (.int .i64 x.ran)) := jc10 HJ2.out
            have e0 := (hC.cell (p := ⟨j, 0, none⟩) hj2).trans K0.out
            have e3 := (hC.cell (p := ⟨j, 3, none⟩) hj2).trans K3.out
            have e10 := (hC.cell (p := ⟨j, 10, none⟩) hj2).trans K10.out
            go_region_held3 (fun w' => w'.cell? ⟨j, 0, none⟩ = some (.pointer (some ⟨g, 0, none⟩)) ∧ w'.cell? ⟨j, 3, none⟩ = some (.int .i64 x.t.b) ∧ w'.cell? ⟨j, 10, none⟩ = some (.int .i64 x.ran)) (go_keep)
              (first
                | (go_at_call 32; with_reducible refine (lift (a := w2) (left_v2 HR2.out HOK.out HLF.out) hC).mono ?_; clear hC e0 e3 e10; rintro e w3 ⟨rfl, hC⟩; have e0 := (hC.cell (p := ⟨j, 0, none⟩) hj2).trans K0.out; have e3 := (hC.cell (p := ⟨j, 3, none⟩) hj2).trans K3.out; have e10 := (hC.cell (p := ⟨j, 10, none⟩) hj2).trans K10.out))
            have HJ3 : JB w3 j g x := HJ2.out.below hC hj2
            have HA3 := HA0.out.below hC hsz
            have a0 := cell3a HA3
            have a1 := cell3b HA3
            have a2 := cell3c HA3
            have hB3 := below_lift hB0 hC hB0.size
            go_wp2_with (go_at_call 33; with_reducible refine (over_c j g x y.k y.n y.s _ HJ3 HO.out).mono ?_; rintro e w4 ⟨rfl, hb4⟩)
            go_ret
            exact ⟨by rw [hv.out]; rfl, below_lift hB3 hb4 hB3.size⟩
          | false =>
            have hv : Hid (faultE x L now = 0) := hv0.out.trans (by simp)
            clear hv0
            go_enter Try.func11, Try.ntmps11
            go_wp2_with (go_at_call 13; with_reducible refine hN.mono ?_; rintro e w1 ⟨rfl, hb1⟩; have hJ1 := HJB0.below hb1 hjl; have hjl1 := hJ1.lt; have c0 := jc0 hJ1; have c3 := jc3 hJ1; have c9 := jc9 hJ1; have c10 := jc10 hJ1)
            have HS2 := Lib.hid ((HH.out.below hb1).alloc (.cells #[.int .i64 y.k, .int .i64 y.n, .string y.s] 29))
            have HA0 := Lib.hid (Blk.new w1 29 #[.int .i64 y.k, .int .i64 y.n, .string y.s])
            have hB0 := hb1.alloc hb1.size (.cells #[.int .i64 y.k, .int .i64 y.n, .string y.s] 29)
            have hsz : w1.heap.size < (w1.alloc (.cells #[.int .i64 y.k, .int .i64 y.n, .string y.s] 29)).heap.size := by simp
            clear c0 c3 c9 c10 hJ1 hjl1
            generalize w1.alloc (.cells #[.int .i64 y.k, .int .i64 y.n, .string y.s] 29) = w2 at *
            have hC : Below w2.heap.size w2 w2.drew := (Below.refl _ _).drew
            have HR2 := Lib.hid (HS2.out.below hC).row.row
            have HJ2 := Lib.hid (JobS.blk HS2.out)
            have hj2 := Blk.lt HJ2.out
            have K0 : Hid (w2.cell? ⟨j, 0, none⟩ = some (.pointer (some ⟨g, 0, none⟩))) := jc0 HJ2.out
            have K3 : Hid (w2.cell? ⟨j, 3, none⟩ = some (.int .i64 x.t.b)) := jc3 HJ2.out
            have K10 : Hid (w2.cell? ⟨j, 10, none⟩ = some (.int .i64 x.ran)) := jc10 HJ2.out
            have e0 := (hC.cell (p := ⟨j, 0, none⟩) hj2).trans K0.out
            have e3 := (hC.cell (p := ⟨j, 3, none⟩) hj2).trans K3.out
            have e10 := (hC.cell (p := ⟨j, 10, none⟩) hj2).trans K10.out
            go_region_held3 (fun w' => w'.cell? ⟨j, 0, none⟩ = some (.pointer (some ⟨g, 0, none⟩)) ∧ w'.cell? ⟨j, 3, none⟩ = some (.int .i64 x.t.b) ∧ w'.cell? ⟨j, 10, none⟩ = some (.int .i64 x.ran)) (go_keep)
              (first
                | (go_at_call 32; with_reducible refine (lift (a := w2) (left_v2 HR2.out HOK.out HLF.out) hC).mono ?_; clear hC e0 e3 e10; rintro e w3 ⟨rfl, hC⟩; have e0 := (hC.cell (p := ⟨j, 0, none⟩) hj2).trans K0.out; have e3 := (hC.cell (p := ⟨j, 3, none⟩) hj2).trans K3.out; have e10 := (hC.cell (p := ⟨j, 10, none⟩) hj2).trans K10.out))
            have HJ3 : JB w3 j g x := HJ2.out.below hC hj2
            have HA3 := HA0.out.below hC hsz
            have a0 := cell3a HA3
            have a1 := cell3b HA3
            have a2 := cell3c HA3
            have hB3 := below_lift hB0 hC hB0.size
            go_wp2_with (go_at_call 33; with_reducible refine (over_c j g x y.k y.n y.s _ HJ3 HO.out).mono ?_; rintro e w4 ⟨rfl, hb4⟩)
            go_ret
            exact ⟨by rw [hv.out]; rfl, below_lift hB3 hb4 hB3.size⟩
      · obtain ⟨ov, hov⟩ : ∃ v, overB x y.k = v := ⟨_, rfl⟩
        have HO := Lib.hid hov
        have hv0 : Hid (faultE x L now = if ov = true then 2 else 0) := by show faultE x L now = _; unfold faultE; rw [if_neg hL, if_neg hn, if_neg (by omega), HY.out, hov]
        clear hL hov
        cases ov with
        | true =>
          have hv : Hid (faultE x L now = 2) := hv0.out.trans (by simp)
          clear hv0
          go_enter Try.func11, Try.ntmps11
          go_wp2_with (go_at_call 13; with_reducible refine hN.mono ?_; rintro e w1 ⟨rfl, hb1⟩; have hJ1 := HJB0.below hb1 hjl; have hjl1 := hJ1.lt; have c0 := jc0 hJ1; have c3 := jc3 hJ1; have c9 := jc9 hJ1; have c10 := jc10 hJ1)
          have hr2 : decide (x.t.b ≤ x.ran) = false := decide_eq_false (by omega)
          go_quiet (fail)
          have HS2 := Lib.hid ((((HH.out.below hb1).alloc (.cells #[.int .i64 y.k, .int .i64 y.n, .string y.s] 29))).below (below_drewN (Below.refl _ _) nq))
          have HA2 := Lib.hid ((Blk.new w1 29 #[.int .i64 y.k, .int .i64 y.n, .string y.s]).drewN nq)
          have hB2 := below_drewN (hb1.alloc hb1.size (.cells #[.int .i64 y.k, .int .i64 y.n, .string y.s] 29)) nq
          clear c0 c3 c9 c10 hJ1 hjl1
          generalize (w1.alloc (.cells #[.int .i64 y.k, .int .i64 y.n, .string y.s] 29)).drewN nq = w2 at *
          have hJ2 : JB w2 j g x := HS2.out.blk
          have a0 := cell3a HA2.out
          have a1 := cell3b HA2.out
          have a2 := cell3c HA2.out
          go_wp2_with (go_at_call 33; with_reducible refine (over_c j g x y.k y.n y.s _ hJ2 HO.out).mono ?_; rintro e w3 ⟨rfl, hb3⟩)
          go_ret
          exact ⟨by rw [hv.out]; rfl, below_lift hB2 hb3 hB2.size⟩
        | false =>
          have hv : Hid (faultE x L now = 0) := hv0.out.trans (by simp)
          clear hv0
          go_enter Try.func11, Try.ntmps11
          go_wp2_with (go_at_call 13; with_reducible refine hN.mono ?_; rintro e w1 ⟨rfl, hb1⟩; have hJ1 := HJB0.below hb1 hjl; have hjl1 := hJ1.lt; have c0 := jc0 hJ1; have c3 := jc3 hJ1; have c9 := jc9 hJ1; have c10 := jc10 hJ1)
          have hr2 : decide (x.t.b ≤ x.ran) = false := decide_eq_false (by omega)
          go_quiet (fail)
          have HS2 := Lib.hid ((((HH.out.below hb1).alloc (.cells #[.int .i64 y.k, .int .i64 y.n, .string y.s] 29))).below (below_drewN (Below.refl _ _) nq))
          have HA2 := Lib.hid ((Blk.new w1 29 #[.int .i64 y.k, .int .i64 y.n, .string y.s]).drewN nq)
          have hB2 := below_drewN (hb1.alloc hb1.size (.cells #[.int .i64 y.k, .int .i64 y.n, .string y.s] 29)) nq
          clear c0 c3 c9 c10 hJ1 hjl1
          generalize (w1.alloc (.cells #[.int .i64 y.k, .int .i64 y.n, .string y.s] 29)).drewN nq = w2 at *
          have hJ2 : JB w2 j g x := HS2.out.blk
          have a0 := cell3a HA2.out
          have a1 := cell3b HA2.out
          have a2 := cell3c HA2.out
          go_wp2_with (go_at_call 33; with_reducible refine (over_c j g x y.k y.n y.s _ hJ2 HO.out).mono ?_; rintro e w3 ⟨rfl, hb3⟩)
          go_ret
          exact ⟨by rw [hv.out]; rfl, below_lift hB2 hb3 hB2.size⟩
end Go.Proofs.Ytomadlopljfcmaa
