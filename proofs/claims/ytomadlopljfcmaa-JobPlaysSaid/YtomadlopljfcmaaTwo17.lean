/- Both jobs at once; same. -/
import Derived.Test.YtomadlopljfcmaaDocN
namespace Go.Proofs.Ytomadlopljfcmaa
set_option linter.unusedVariables false
open Go.RowKit

/-- The program's job and the document's, the first below block M, the other from M on. -/
structure Two (w0 : World) (M : Nat) (w : World) (j g b m h c : Nat) (x : JV) (L : List OpV) (y : JV) (K : List OpV) : Prop where
  a : JobS w0.heap.size w j g b x L
  r : JobM M w m h c y K
  jl : j < M
  gl : g < M
  bl : b < M
  hM : w0.heap.size ≤ M
  b0 : Below w0.heap.size w0 w
section
variable {w0 w w' : World} {M j g b m h c : Nat} {x y x' y' : JV} {L K L' K' : List OpV}
theorem Two.below (hT : Two w0 M w j g b m h c x L y K) (k : Below w.heap.size w w') : Two w0 M w' j g b m h c x L y K :=
  ⟨hT.a.below k, hT.r.below k, hT.jl, hT.gl, hT.bl, hT.hM, below_lift hT.b0 k hT.b0.size⟩
theorem Two.left (hT : Two w0 M w j g b m h c x L y K) (s : JobS w0.heap.size w' j g b x' L') (hb : Below w0.heap.size w0 w') (k : Keeps (tri j g b) w w') : Two w0 M w' j g b m h c x' L' y K := by
  have h1 := hT.jl; have h2 := hT.gl; have h3 := hT.bl
  have k1 := hT.r.jB; have k2 := hT.r.row.gB; have k3 := hT.r.row.bB
  exact ⟨s, hT.r.keeps k (by rintro (rfl | rfl | rfl) <;> omega) (by rintro (rfl | rfl | rfl) <;> omega) (by rintro (rfl | rfl | rfl) <;> omega), h1, h2, h3, hT.hM, hb⟩
theorem Two.right (hT : Two w0 M w j g b m h c x L y K) (s : JobM M w' m h c y' K') (k : Keeps (tri m h c) w w') : Two w0 M w' j g b m h c x L y' K' := by
  have h1 := hT.jl; have h2 := hT.gl; have h3 := hT.bl; have h4 := hT.hM
  have k1 := hT.r.jB; have k2 := hT.r.row.gB; have k3 := hT.r.row.bB
  exact ⟨hT.a.keeps k (by rintro (rfl | rfl | rfl) <;> omega) (by rintro (rfl | rfl | rfl) <;> omega) (by rintro (rfl | rfl | rfl) <;> omega), s, h1, h2, h3, h4, Below.keeps hT.b0 k hT.b0.size (by rintro i (rfl | rfl | rfl) <;> omega)⟩
theorem Two.mcells (hT : Two w0 M w j g b m h c x L y K) : w.cell? ⟨m, 9, none⟩ = some (.int .i64 y.ends) ∧ w.cell? ⟨m, 10, none⟩ = some (.int .i64 y.ran) ∧ w.cell? ⟨m, 11, none⟩ = some (.int .i64 y.sec) ∧ w.cell? ⟨m, 12, none⟩ = some (.int .i64 y.tk) ∧ w.cell? ⟨m, 13, none⟩ = some (.int .i64 y.tkn) ∧ w.cell? ⟨m, 14, none⟩ = some (.bool y.beg) :=
  ⟨mc9 hT.r.blk, mc10 hT.r.blk, mc11 hT.r.blk, mc12 hT.r.blk, mc13 hT.r.blk, mc14 hT.r.blk⟩
/-- The calls of both, one behind the other. -/
theorem l_did (hT : Two w0 M w j g b m h c x L y K) {v : Int} (hv : didE L = v) : Calls Try.prog 9 #[.pointer (some ⟨j, 0, none⟩)] w fun e w' => e = .returned (.int .i64 v) ∧ Two w0 M w' j g b m h c (didX x L) (didL L) y K :=
  (jdid_s _ j g b x L w0 w hT.a hT.b0).mono fun e w' ⟨k1, k2, k3, k4⟩ => ⟨by rw [k1, hv], hT.left k2 k3 k4⟩
theorem r_did (hT : Two w0 M w j g b m h c x L y K) {v : Int} (hv : didE K = v) : Calls Try.prog 24 #[.pointer (some ⟨m, 0, none⟩)] w fun e w' => e = .returned (.int .i64 v) ∧ Two w0 M w' j g b m h c x L (didX y K) (didL K) :=
  (mdid_s _ m h c y K w w hT.r (Below.refl _ _)).mono fun e w' ⟨k1, k2, k3, k4⟩ => ⟨by rw [k1, hv], hT.right k2 k4⟩
theorem l_leave (hT : Two w0 M w j g b m h c x L y K) {v : Int} (hv : leaveE x = v) : Calls Try.prog 8 #[.pointer (some ⟨j, 0, none⟩)] w fun e w' => e = .returned (.int .i64 v) ∧ Two w0 M w' j g b m h c (leaveX x) L y K :=
  (jleave_s _ j g b x L w0 w hT.a hT.b0).mono fun e w' ⟨k1, k2, k3, k4⟩ => ⟨by rw [k1, hv], hT.left k2 k3 k4⟩
theorem r_leave (hT : Two w0 M w j g b m h c x L y K) {v : Int} (hv : leaveE y = v) : Calls Try.prog 27 #[.pointer (some ⟨m, 0, none⟩)] w fun e w' => e = .returned (.int .i64 v) ∧ Two w0 M w' j g b m h c x L (leaveX y) K :=
  (mleave_s _ m h c y K w w hT.r (Below.refl _ _)).mono fun e w' ⟨k1, k2, k3, k4⟩ => ⟨by rw [k1, hv], hT.right k2 k4⟩
theorem l_run (hT : Two w0 M w j g b m h c x L y K) {v : Int} (hv : runE x L = v) (hr : sm x.ran) (ht : sm x.tk) : Calls Try.prog 12 #[.pointer (some ⟨j, 0, none⟩)] w fun e w' => e = .returned (.int .i64 v) ∧ Two w0 M w' j g b m h c (runX x L) (runL x L) y K :=
  (jrun_s _ j g b x L w0 w hT.a hT.b0 hr ht).mono fun e w' ⟨k1, k2, k3, k4⟩ => ⟨by rw [k1, hv], hT.left k2 k3 k4⟩
theorem r_run (hT : Two w0 M w j g b m h c x L y K) {v : Int} (hv : runE y K = v) (hr : sm y.ran) (ht : sm y.tk) : Calls Try.prog 25 #[.pointer (some ⟨m, 0, none⟩)] w fun e w' => e = .returned (.int .i64 v) ∧ Two w0 M w' j g b m h c x L (runX y K) (runL y K) :=
  (mrun_s _ m h c y K w w hT.r (Below.refl _ _) hr ht).mono fun e w' ⟨k1, k2, k3, k4⟩ => ⟨by rw [k1, hv], hT.right k2 k4⟩
theorem l_enter (hT : Two w0 M w j g b m h c x L y K) {s v : Int} (hv : enterE x s = v) (hk : sm x.tkn) : Calls Try.prog 7 #[.pointer (some ⟨j, 0, none⟩), .int .i64 s] w fun e w' => e = .returned (.int .i64 v) ∧ Two w0 M w' j g b m h c (enterX x s) L y K ∧ Keeps (tri j g b) w w' :=
  (jenter_s _ j g b x L s w0 w hT.a hT.b0 hk).mono fun e w' ⟨k1, k2, k3, k4⟩ => ⟨by rw [k1, hv], hT.left k2 k3 k4, k4⟩
theorem r_enter (hT : Two w0 M w j g b m h c x L y K) {s v : Int} (hv : enterE y s = v) (hk : sm y.tkn) : Calls Try.prog 26 #[.pointer (some ⟨m, 0, none⟩), .int .i64 s] w fun e w' => e = .returned (.int .i64 v) ∧ Two w0 M w' j g b m h c x L (enterX y s) K ∧ Keeps (tri m h c) w w' :=
  (menter_s _ m h c y K s w w hT.r (Below.refl _ _) hk).mono fun e w' ⟨k1, k2, k3, k4⟩ => ⟨by rw [k1, hv], hT.right k2 k4, k4⟩
theorem l_fault (hT : Two w0 M w j g b m h c x L y K) {now v : Int} (hv : faultE x L now = v) : Calls Try.prog 11 #[.pointer (some ⟨j, 0, none⟩), .int .i64 now] w fun e w' => e = .returned (.int .i64 v) ∧ Below w.heap.size w w' :=
  (fault_c _ j g b x L now w hT.a).mono fun e w' ⟨k1, k2⟩ => ⟨by rw [k1, hv], k2⟩
theorem r_fault (hT : Two w0 M w j g b m h c x L y K) {now v : Int} (hv : faultE y K now = v) : Calls Try.prog 40 #[.pointer (some ⟨m, 0, none⟩), .int .i64 now] w fun e w' => e = .returned (.int .i64 v) ∧ Below w.heap.size w w' :=
  (mfault_c _ m h c y K now w hT.r).mono fun e w' ⟨k1, k2⟩ => ⟨by rw [k1, hv], k2⟩
theorem l_done (hT : Two w0 M w j g b m h c x L y K) {v : Bool} (hv : L.isEmpty = v) : Calls Try.prog 18 #[.pointer (some ⟨j, 0, none⟩)] w fun e w' => e = .returned (.bool v) ∧ Below w.heap.size w w' :=
  (jdone_c _ j g b x L w hT.a).mono fun e w' ⟨k1, k2⟩ => ⟨by rw [k1, hv], k2⟩
end
theorem Blk.on {w w' : World} {g : Nat} {t : TypeId} {cs : Array Value} (h : Blk w g t cs) (hb : Below w.heap.size w w') : Blk w' g t cs := h.below hb h.lt
theorem s17 {w0 w : World} {M j g b m h c p1 p2 : Nat} {x : JV} {L : List OpV} {y : OpV} (hT : Two w0 M w j g b m h c x L x L) (hA : Blk w p1 29 #[.int .i64 y.k, .int .i64 y.n, .string y.s]) (hE : Blk w p2 29 #[.int .i64 y.k, .int .i64 y.n, .string y.s]) : w.cell? ⟨p1, 0, none⟩ = some (.int .i64 y.k) ∧ w.cell? ⟨p1, 1, none⟩ = some (.int .i64 y.n) ∧ w.cell? ⟨p1, 2, none⟩ = some (.string y.s) ∧ w.cell? ⟨p2, 0, none⟩ = some (.int .i64 y.k) ∧ w.cell? ⟨p2, 1, none⟩ = some (.int .i64 y.n) ∧ w.cell? ⟨p2, 2, none⟩ = some (.string y.s) ∧ w.cell? ⟨m, 9, none⟩ = some (.int .i64 x.ends) ∧ w.cell? ⟨m, 10, none⟩ = some (.int .i64 x.ran) ∧ w.cell? ⟨m, 11, none⟩ = some (.int .i64 x.sec) ∧ w.cell? ⟨m, 12, none⟩ = some (.int .i64 x.tk) ∧ w.cell? ⟨m, 13, none⟩ = some (.int .i64 x.tkn) ∧ w.cell? ⟨m, 14, none⟩ = some (.bool x.beg) :=
  ⟨cell3a hA, cell3b hA, cell3c hA, cell3a hE, cell3b hE, cell3c hE, hT.mcells⟩
set_option maxRecDepth 20000 in
set_option maxHeartbeats 2000000 in
theorem same17_c {w0 w : World} {M j g b m h c : Nat} {x : JV} {L : List OpV} {now : Int} (hT : Two w0 M w j g b m h c x L x L) :
    Calls Try.prog 23 #[.pointer (some ⟨j, 0, none⟩), .pointer (some ⟨m, 0, none⟩), .int .i64 now] w fun e w' => e = .returned (.bool true) ∧ Below w.heap.size w w' := by
  have HT0 := Lib.hid hT
  clear hT
  obtain ⟨y, hy0⟩ : ∃ y, headOf L = y := ⟨_, rfl⟩
  have HY := Lib.hid hy0
  obtain ⟨is, his0⟩ : ∃ s, (!L.isEmpty) = s := ⟨_, rfl⟩
  have HI := Lib.hid his0
  have HD : Hid (L.isEmpty = !is) := by show _ = _; rw [← his0]; simp
  obtain ⟨v, hv0⟩ : ∃ v, faultE x L now = v := ⟨_, rfl⟩
  have HF := Lib.hid hv0
  clear hy0 his0 hv0
  go_enter Try.func23, Try.ntmps23
  go_wp2_with (first
    | (go_at_call 14; with_reducible refine (in_c j g x _ HJ2.out).mono ?_; rintro e w3 ⟨rfl, hb3⟩)
    | (go_at_call 39; with_reducible refine (mnext_c M m h c x L _ HM1.out HY.out HI.out).mono ?_; rintro e w2 ⟨rfl, hb2⟩; have HT2 := Lib.hid ((HT1.out.below hb2).below ((Below.refl _ _).alloc (Nat.le_refl _) (.cells #[.int .i64 y.k, .int .i64 y.n, .string y.s] 29))); have HB2 := Lib.hid ((below_lift HB1.out hb2 HB1.out.size).alloc (below_lift HB1.out hb2 HB1.out.size).size (.cells #[.int .i64 y.k, .int .i64 y.n, .string y.s] 29)); have HJ2 := Lib.hid HT2.out.a.blk; have HA2 := Lib.hid ((HA1.out.on hb2).alloc (.cells #[.int .i64 y.k, .int .i64 y.n, .string y.s] 29)); have HE2 := Lib.hid (Blk.new w2 29 #[.int .i64 y.k, .int .i64 y.n, .string y.s]))
    | (go_at_call 13; with_reducible refine (jnext_v HT0.out.a HY.out HI.out).mono ?_; rintro e w1 ⟨rfl, hb1⟩; have HT1 := Lib.hid ((HT0.out.below hb1).below ((Below.refl _ _).alloc (Nat.le_refl _) (.cells #[.int .i64 y.k, .int .i64 y.n, .string y.s] 29))); have HB1 := Lib.hid (hb1.alloc hb1.size (.cells #[.int .i64 y.k, .int .i64 y.n, .string y.s] 29)); have HM1 := Lib.hid HT1.out.r; have HA1 := Lib.hid (Blk.new w1 29 #[.int .i64 y.k, .int .i64 y.n, .string y.s])))
  have hb3d := hb3.drew
  have HT3 := Lib.hid (HT2.out.below hb3d)
  have HA3 := Lib.hid (HA2.out.on hb3d)
  have HE3 := Lib.hid (HE2.out.on hb3d)
  have HB3 := Lib.hid (below_lift HB2.out hb3d HB2.out.size)
  have HJ3 := Lib.hid HT3.out.a.blk
  clear hb3 hb3d HT2 HA2 HE2 HB2 HJ2 hb2 hb1 HT1 HB1 HM1 HA1
  generalize w1.heap.size = p1 at *
  generalize w2.heap.size = p2 at *
  obtain ⟨q0, q1, q2, q3, q4, q5, q6, q7, q8, q9, q10, q11⟩ := s17 HT3.out HA3.out HE3.out
  dsimp only [List.append]
  go_region_held3 (fun w' => w'.cell? ⟨p1, 0, none⟩ = some (.int .i64 y.k) ∧ w'.cell? ⟨p1, 1, none⟩ = some (.int .i64 y.n) ∧ w'.cell? ⟨p1, 2, none⟩ = some (.string y.s) ∧ w'.cell? ⟨p2, 0, none⟩ = some (.int .i64 y.k) ∧ w'.cell? ⟨p2, 1, none⟩ = some (.int .i64 y.n) ∧ w'.cell? ⟨p2, 2, none⟩ = some (.string y.s) ∧ w'.cell? ⟨m, 9, none⟩ = some (.int .i64 x.ends) ∧ w'.cell? ⟨m, 10, none⟩ = some (.int .i64 x.ran) ∧ w'.cell? ⟨m, 11, none⟩ = some (.int .i64 x.sec) ∧ w'.cell? ⟨m, 12, none⟩ = some (.int .i64 x.tk) ∧ w'.cell? ⟨m, 13, none⟩ = some (.int .i64 x.tkn) ∧ w'.cell? ⟨m, 14, none⟩ = some (.bool x.beg)) (go_keep)
    (first
      | (go_at_call 40; with_reducible refine (r_fault HT5.out HF.out).mono ?_; rintro e w6 ⟨rfl, hb6⟩; clear t0 t1 t2 t3 t4 t5 t6 t7 t8 t9 t10 t11; have HT6 := Lib.hid (HT5.out.below hb6); have HA6 := Lib.hid (HA5.out.on hb6); have HE6 := Lib.hid (HE5.out.on hb6); obtain ⟨u0, u1, u2, u3, u4, u5, u6, u7, u8, u9, u10, u11⟩ := s17 HT6.out HA6.out HE6.out; have HB6 := Lib.hid (below_lift HB5.out hb6 HB5.out.size))
      | (go_at_call 11; with_reducible refine (l_fault HT4.out HF.out).mono ?_; rintro e w5 ⟨rfl, hb5⟩; clear r0 r1 r2 r3 r4 r5 r6 r7 r8 r9 r10 r11; have HT5 := Lib.hid (HT4.out.below hb5); have HA5 := Lib.hid (HA4.out.on hb5); have HE5 := Lib.hid (HE4.out.on hb5); obtain ⟨t0, t1, t2, t3, t4, t5, t6, t7, t8, t9, t10, t11⟩ := s17 HT5.out HA5.out HE5.out; have HB5 := Lib.hid (below_lift HB4.out hb5 HB4.out.size))
      | (go_at_call 18; with_reducible refine (l_done HT3.out HD.out).mono ?_; rintro e w4 ⟨rfl, hb4⟩; clear q0 q1 q2 q3 q4 q5 q6 q7 q8 q9 q10 q11; have HT4 := Lib.hid (HT3.out.below hb4); have HA4 := Lib.hid (HA3.out.on hb4); have HE4 := Lib.hid (HE3.out.on hb4); obtain ⟨r0, r1, r2, r3, r4, r5, r6, r7, r8, r9, r10, r11⟩ := s17 HT4.out HA4.out HE4.out; have HB4 := Lib.hid (below_lift HB3.out hb4 HB3.out.size))
      | (go_at_call 10; with_reducible refine (begun_c j g x _ HJ3.out).mono ?_; rintro e wz ⟨rfl, rfl⟩)
      | (go_at_call 17; with_reducible refine (takes_c j g x _ HJ3.out).mono ?_; rintro e wz ⟨rfl, rfl⟩)
      | (go_at_call 16; with_reducible refine (jran_c j g x _ HJ3.out).mono ?_; rintro e wz ⟨rfl, rfl⟩)
      | (go_at_call 15; with_reducible refine (deadline_c j g x _ HJ3.out).mono ?_; rintro e wz ⟨rfl, rfl⟩))
  go_wp2
  go_ret
  exact ⟨by simp, HB6.out⟩
end Go.Proofs.Ytomadlopljfcmaa
