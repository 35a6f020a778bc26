/- The document's readPart, walked. -/
import Derived.Test.YtekcokbpgpeepaaRdK
namespace Go.Proofs.Ytekcokbpgpeepaa
set_option linter.unusedVariables false
open Go.RowKit

/-- Inside a part: jr tasks are read, jt of them stand in the row. -/
structure PD (w : World) (B g q0 qp b3 : Nat) (s : RS) (jr jt : Nat) (u : Value) (wr : World) : Prop where
  k : Keeps (fun i => i = g) w wr
  rd : RdD B wr g (rdAt (rdAt s 3) (8 * jr)).1 (rdAt (rdAt s 3) (8 * jr)).2
  o : Blk wr q0 41 #[.int .i64 0, .int .i64 0, .slice none 0 0]
  p : Blk wr qp 41 #[.int .i64 (rdN s), .int .i64 (rdN (rdAt s 1)), u]
  l : ∃ cur, Blk wr b3 3 cur ∧ cur[2]? = some (.int .i64 (cntOf s))
  u : OwnT wr w.heap.size u (tksOf (rdAt s 3) jt)
  hp : w.heap.size ≤ qp
  h0 : w.heap.size ≤ q0
  hne : q0 ≠ qp
  hB : B ≤ w.heap.size
section
variable {w wr : World} {B g q0 qp b3 jr jt j : Nat} {s : RS} {u : Value}
theorem PD.low (h : PD w B g q0 qp b3 s jr jt u wr) {w' : World} (k : Below wr.heap.size wr w') : PD w B g q0 qp b3 s jr jt u w' := by
  obtain ⟨cur, hl, hc⟩ := h.l
  exact ⟨h.k.trans (Keeps.of_below k) fun i hi => .inl hi, h.rd.below k, h.o.below k h.o.lt, h.p.below k h.p.lt, ⟨cur, hl.below k hl.lt, hc⟩, own_below h.u k, h.hp, h.h0, h.hne, h.hB⟩
theorem PD.le (h : PD w B g q0 qp b3 s jr jt u wr) : B ≤ wr.heap.size := Nat.le_trans h.hB h.k.size
theorem PD.cnt (h : PD w B g q0 qp b3 s jr jt u wr) {C : Nat} (hC : cntOf s = C) : wr.cell? ⟨b3, 2, none⟩ = some (.int .i64 C) := by
  obtain ⟨cur, hl, hc⟩ := h.l
  rw [hl.cell, hc, hC]
theorem PD.p0 (h : PD w B g q0 qp b3 s jr jt u wr) : wr.cell? ⟨qp, 0, none⟩ = some (.int .i64 (rdN s)) ∧ wr.cell? ⟨qp, 1, none⟩ = some (.int .i64 (rdN (rdAt s 1))) ∧ wr.cell? ⟨qp, 2, none⟩ = some u := by
  rw [h.p.cell, h.p.cell, h.p.cell]
  exact ⟨rfl, rfl, rfl⟩
/-- Behind a row of eight. -/
theorem PD.read {w5 : World} (h : PD w B g q0 qp b3 s j j u wr) (hk : Keeps (fun i => i = g) wr w5) (hr : RdD B w5 g (rdAt (rdAt (rdAt s 3) (8 * j)) 8).1 (rdAt (rdAt (rdAt s 3) (8 * j)) 8).2) : PD w B g q0 qp b3 s (j + 1) j u w5 := by
  obtain ⟨cur, hl, hc⟩ := h.l
  obtain ⟨ug, hgb⟩ := h.rd.blk
  refine ⟨h.k.trans hk fun i hi => .inl hi, ?_, hk.blk h.o (h.o.ne_ hgb (by decide)), hk.blk h.p (h.p.ne_ hgb (by decide)), ⟨cur, hk.blk hl (hl.ne_ hgb (by decide)), hc⟩, h.u.keep fun q cs hb => hk.blk hb (hb.ne_ hgb (by decide)), h.hp, h.h0, h.hne, h.hB⟩
  rw [show 8 * (j + 1) = 8 * j + 8 by omega, rdAt_add]
  exact hr
/-- Behind the append of a task, and the row laid into the part. -/
theorem PD.push {w9 : World} {v' : Value} (h : PD w B g q0 qp b3 s (j + 1) j u wr) (hu : OwnT w9 w.heap.size v' (tksOf (rdAt s 3) j ++ [tkOf (rdAt (rdAt s 3) (8 * j))])) (hk : Keeps (fun i => w.heap.size ≤ i ∧ u.ownBlock = some i) wr w9)
    (ht : ∀ q t' cs', Blk wr q t' cs' → t' ≠ 46 → Blk w9 q t' cs') : PD w B g q0 qp b3 s (j + 1) (j + 1) v' (w9.setCell ⟨qp, 2, none⟩ v') := by
  obtain ⟨cur, hl, hc⟩ := h.l
  obtain ⟨ug, hgb⟩ := h.rd.blk
  have hgb9 := ht _ _ _ hgb (by decide)
  have hp9 := ht _ _ _ h.p (by decide)
  have ho9 := ht _ _ _ h.o (by decide)
  have hl9 := ht _ _ _ hl (by decide)
  have hgo : ¬ (w.heap.size ≤ g ∧ u.ownBlock = some g) := by
    rintro ⟨_, e⟩
    obtain ⟨A, c, rfl, _, _, _, hf⟩ := own_form h.u
    cases A with
    | none => simp [Value.ownBlock] at e
    | some a =>
      obtain ⟨g', cur, rfl, _, hb, _⟩ := hf a rfl
      simp [Value.ownBlock] at e
      exact hgb.ne_ hb (by decide) e.symm
  have hpg : qp ≠ g := h.p.ne_ hgb (by decide)
  have hB := h.hB
  have hp := h.hp
  have hks : Keeps (fun i => i = qp) w9 (w9.setCell ⟨qp, 2, none⟩ v') := Keeps.setCell (S := fun i => i = qp) (p := ⟨qp, 2, none⟩) (Keeps.refl _ _) (.inl rfl) v'
  refine ⟨(h.k.trans hk fun i hi => .inr hi.1).setCell (.inr h.hp) _, (h.rd.keep hk hgo fun i hi e => by omega).keep hks hpg.symm (fun i hi e => by omega), ho9.far h.hne _, hp9.set_ 2 v', ⟨cur, hl9.far (hl9.ne_ hp9 (by decide)) _, hc⟩, ?_, h.hp, h.h0, h.hne, h.hB⟩
  rw [tksOf_succ]
  exact hu.keep fun q cs hb => hb.far (hb.ne_ hp9 (by decide)) _
end
theorem PD.done {w wr : World} {B g q0 qp b3 jr jt : Nat} {s : RS} {u : Value} (h : PD w B g q0 qp b3 s jr jt u wr) (x y z : Value) :
    Blk (((wr.setCell ⟨q0, 0, none⟩ x).setCell ⟨q0, 1, none⟩ y).setCell ⟨q0, 2, none⟩ z) q0 41 #[x, y, z] ∧ OwnT (((wr.setCell ⟨q0, 0, none⟩ x).setCell ⟨q0, 1, none⟩ y).setCell ⟨q0, 2, none⟩ z) w.heap.size u (tksOf (rdAt s 3) jt) ∧ RdD B (((wr.setCell ⟨q0, 0, none⟩ x).setCell ⟨q0, 1, none⟩ y).setCell ⟨q0, 2, none⟩ z) g (rdAt (rdAt s 3) (8 * jr)).1 (rdAt (rdAt s 3) (8 * jr)).2 ∧ Keeps (fun i => i = g) w (((wr.setCell ⟨q0, 0, none⟩ x).setCell ⟨q0, 1, none⟩ y).setCell ⟨q0, 2, none⟩ z) := by
  obtain ⟨ug, hgb⟩ := h.rd.blk
  have hgo : g ≠ q0 := fun e => h.o.ne_ hgb (by decide) e.symm
  have hB := h.hB
  have h0 := h.h0
  have hks : Keeps (fun i => i = q0) wr (((wr.setCell ⟨q0, 0, none⟩ x).setCell ⟨q0, 1, none⟩ y).setCell ⟨q0, 2, none⟩ z) := ((Keeps.setCell (S := fun i => i = q0) (p := ⟨q0, 0, none⟩) (Keeps.refl _ _) (.inl rfl) x).setCell (p := ⟨q0, 1, none⟩) (.inl rfl) y).setCell (p := ⟨q0, 2, none⟩) (.inl rfl) z
  exact ⟨((h.o.set_ 0 x).set_ 1 y).set_ 2 z, h.u.keep fun q cs hb => hks.blk hb (hb.ne_ h.o (by decide)), h.rd.keep hks hgo (fun i hi e => by omega), h.k.trans hks fun i hi => .inr (by omega)⟩
/-- Behind the first row, and the part laid. -/
theorem pd_start {w w1 w2 : World} {B g b3 : Nat} {s : RS} {cur3 : Array Value} (hB : B ≤ w.heap.size) (hg : g < w.heap.size) (hR : RdD B w1 g (rdAt s 3).1 (rdAt s 3).2) (hK : Keeps (fun i => i = g) (w.alloc (.cells #[.int .i64 0, .int .i64 0, .slice none 0 0] 41)) w1)
    (hl : Blk w1 b3 3 cur3) (hc : cur3[2]? = some (.int .i64 (rdN (rdAt s 2)))) (h2 : Below w1.heap.size w1 w2) (hp : Blk w2 w1.heap.size 41 #[.int .i64 (rdN s), .int .i64 (rdN (rdAt s 1)), .slice none 0 0]) : PD w B g w.heap.size w1.heap.size b3 s 0 0 (.slice none 0 0) w2 := by
  have k0 : Keeps (fun i => i = g) w (w.alloc (.cells #[.int .i64 0, .int .i64 0, .slice none 0 0] 41)) := (Keeps.refl _ _).alloc _
  have hs : w.heap.size + 1 ≤ w1.heap.size := by have := hK.size; simpa using this
  have ho := (hK.blk (Blk.new w 41 #[.int .i64 0, .int .i64 0, .slice none 0 0]) (by omega))
  exact ⟨(k0.trans hK fun i hi => .inl hi).trans (Keeps.of_below h2) fun i hi => .inl hi, hR.below h2, ho.below h2 ho.lt, hp, ⟨_, hl.below h2 hl.lt, hc⟩, OwnT.nil, by omega, Nat.le_refl _, by omega, hB⟩
set_option maxHeartbeats 4000000 in
theorem partd_no (B g : Nat) (s : RS) (w : World) (h : RdD B w g s.1 s.2) (hB : B ≤ w.heap.size) {C : Nat} (hc : cntOf s = C) (hc4 : 4 < C) :
    Calls Try.prog 41 #[.pointer (some ⟨g, 0, none⟩)] w fun e w' => e = .returned (.tuple #[.agg #[.int .i64 (rdN s), .int .i64 (rdN (rdAt s 1)), .slice none 0 0], .bool false]) ∧ Keeps (fun i => i = g) w w' := by
  obtain ⟨vg, hgb⟩ := h.blk
  have hg := hgb.lt
  have hr0 : RdD B (w.alloc (.cells #[.int .i64 0, .int .i64 0, .slice none 0 0] 41)) g s.1 s.2 := h.below ((Below.refl _ _).alloc (Nat.le_refl _) _)
  have HROW := Lib.hid (row_v B g s 3 _ hr0 (by simp; omega) (by omega) (m := 3) rfl)
  have hC4i : (4 : Int) < (C : Nat) := by omega
  have HC := Lib.hid hc
  have HG := Lib.hid hg
  have HB := Lib.hid hB
  clear h hgb hr0 hg hc vg hB
  go_enter Try.func41, Try.ntmps41
  go_wp2_with (go_at_call 42; with_reducible refine HROW.out.mono ?_; rintro e w1 ⟨v1, rfl, hO1, hR1, hK1⟩)
  obtain ⟨b3, c3, cur3, rfl, hc3, hb3, hB3, hcur⟩ := rowsl hO1 (by omega)
  have hk3 : 3 ≤ c3 := by omega
  have l0 : w1.cell? ⟨b3, 0, none⟩ = some (.int .i64 (rdN s)) := (hB3.cell 0).trans (hcur 0 (by omega))
  have l1 : w1.cell? ⟨b3, 1, none⟩ = some (.int .i64 (rdN (rdAt s 1))) := (hB3.cell 1).trans (hcur 1 (by omega))
  have l2 : w1.cell? ⟨b3, 2, none⟩ = some (.int .i64 (C : Nat)) := by rw [hB3.cell, hcur 2 (by omega)]; exact congrArg (fun z => some (Value.int .i64 z)) HC.out
  have hbl := hB3.lt
  have hq1 : w.heap.size < w1.heap.size := by have := hK1.size; simp at this; omega
  have HPS := Lib.hid (fun w2 => pd_start (w2 := w2) HB.out HG.out hR1 hK1 hB3 (hcur 2 (by omega)))
  have HO0 := Lib.hid (hK1.blk (Blk.new w 41 #[.int .i64 0, .int .i64 0, .slice none 0 0]) (by have := HG.out; omega))
  have f00 := HO0.out.frozen 0
  have f01 := HO0.out.frozen 1
  have f02 := HO0.out.frozen 2
  have HK1 := Lib.hid hK1
  clear hO1 hR1 hK1 hB3 hcur
  go_region_held3 (fun w' => w'.cell? ⟨b3, 0, none⟩ = some (.int .i64 (rdN s)) ∧ w'.cell? ⟨b3, 1, none⟩ = some (.int .i64 (rdN (rdAt s 1)))) (go_keep) (fail)
  have hpd := HPS.out _ (((Below.refl _ _).alloc (Nat.le_refl _) (.cells #[.int .i64 (rdN s), .int .i64 (rdN (rdAt s 1)), .slice none 0 0] 41)).drew) (Blk.new w1 41 #[.int .i64 (rdN s), .int .i64 (rdN (rdAt s 1)), .slice none 0 0])
  generalize (w1.alloc (.cells #[.int .i64 (rdN s), .int .i64 (rdN (rdAt s 1)), .slice none 0 0] 41)).drew = w2 at hpd ⊢
  generalize w1.heap.size = qp at *
  clear l0 l1 l2 f00 f01 f02 HPS HO0 HK1 hbl hq1 hb3
  have HPD := Lib.hid hpd
  have l2 := hpd.cnt HC.out
  have hbl : b3 < w2.heap.size := by obtain ⟨cur, hl, _⟩ := hpd.l; exact hl.lt
  obtain ⟨p0, p1, p2⟩ := hpd.p0
  have o0 := (hpd.o.cell 0).trans rfl
  have o1 := (hpd.o.cell 1).trans rfl
  have o2 := (hpd.o.cell 2).trans rfl
  have f0 := hpd.o.frozen 0
  have f1 := hpd.o.frozen 1
  have f2 := hpd.o.frozen 2
  clear hpd
  go_wp2_with fail
  obtain ⟨hc9, -, -, hk9⟩ := HPD.out.done (.int .i64 (rdN s)) (.int .i64 (rdN (rdAt s 1))) (.slice none 0 0)
  have cc0 := hc9.cell 0
  have cc1 := hc9.cell 1
  have cc2 := hc9.cell 2
  refine bodyPost_ret (v := .tuple #[.agg #[.int .i64 (rdN s), .int .i64 (rdN (rdAt s 1)), .slice none 0 0], .bool false]) (by simp [results, Try.results41, go_sem, cc0, cc1, cc2] <;> rfl) rfl ⟨rfl, hk9⟩
set_option maxHeartbeats 4000000 in
theorem partd_ok (B g : Nat) (s : RS) (w : World) (h : RdD B w g s.1 s.2) (hB : B ≤ w.heap.size) {C : Nat} (hc : cntOf s = C) (hc4 : C ≤ 4) :
    Calls Try.prog 41 #[.pointer (some ⟨g, 0, none⟩)] w fun e w' => ∃ v, e = .returned (.tuple #[.agg #[.int .i64 (rdN s), .int .i64 (rdN (rdAt s 1)), v], .bool true]) ∧ OwnT w' w.heap.size v (tksOf (rdAt s 3) C) ∧ RdD B w' g (nxt s).1 (nxt s).2 ∧ Keeps (fun i => i = g) w w' := by
  obtain ⟨vg, hgb⟩ := h.blk
  have hg := hgb.lt
  have hr0 : RdD B (w.alloc (.cells #[.int .i64 0, .int .i64 0, .slice none 0 0] 41)) g s.1 s.2 := h.below ((Below.refl _ _).alloc (Nat.le_refl _) _)
  have HROW := Lib.hid (row_v B g s 3 _ hr0 (by simp; omega) (by omega) (m := 3) rfl)
  have hC4i : ¬ (4 : Int) < (C : Nat) := by omega
  have HC := Lib.hid hc
  have HG := Lib.hid hg
  have HB := Lib.hid hB
  clear h hgb hr0 hg hc vg hB
  go_enter Try.func41, Try.ntmps41
  go_wp2_with (go_at_call 42; with_reducible refine HROW.out.mono ?_; rintro e w1 ⟨v1, rfl, hO1, hR1, hK1⟩)
  obtain ⟨b3, c3, cur3, rfl, hc3, hb3, hB3, hcur⟩ := rowsl hO1 (by omega)
  have hk3 : 3 ≤ c3 := by omega
  have l0 : w1.cell? ⟨b3, 0, none⟩ = some (.int .i64 (rdN s)) := (hB3.cell 0).trans (hcur 0 (by omega))
  have l1 : w1.cell? ⟨b3, 1, none⟩ = some (.int .i64 (rdN (rdAt s 1))) := (hB3.cell 1).trans (hcur 1 (by omega))
  have l2 : w1.cell? ⟨b3, 2, none⟩ = some (.int .i64 (C : Nat)) := by rw [hB3.cell, hcur 2 (by omega)]; exact congrArg (fun z => some (Value.int .i64 z)) HC.out
  have hbl := hB3.lt
  have hq1 : w.heap.size < w1.heap.size := by have := hK1.size; simp at this; omega
  have HPS := Lib.hid (fun w2 => pd_start (w2 := w2) HB.out HG.out hR1 hK1 hB3 (hcur 2 (by omega)))
  have HO0 := Lib.hid (hK1.blk (Blk.new w 41 #[.int .i64 0, .int .i64 0, .slice none 0 0]) (by have := HG.out; omega))
  have f00 := HO0.out.frozen 0
  have f01 := HO0.out.frozen 1
  have f02 := HO0.out.frozen 2
  have HK1 := Lib.hid hK1
  clear hO1 hR1 hK1 hB3 hcur
  go_region_held3 (fun w' => w'.cell? ⟨b3, 0, none⟩ = some (.int .i64 (rdN s)) ∧ w'.cell? ⟨b3, 1, none⟩ = some (.int .i64 (rdN (rdAt s 1)))) (go_keep) (fail)
  have hpd := HPS.out _ (((Below.refl _ _).alloc (Nat.le_refl _) (.cells #[.int .i64 (rdN s), .int .i64 (rdN (rdAt s 1)), .slice none 0 0] 41)).drew) (Blk.new w1 41 #[.int .i64 (rdN s), .int .i64 (rdN (rdAt s 1)), .slice none 0 0])
  generalize (w1.alloc (.cells #[.int .i64 (rdN s), .int .i64 (rdN (rdAt s 1)), .slice none 0 0] 41)).drew = w2 at hpd ⊢
  generalize w1.heap.size = qp at *
  clear l0 l1 l2 f00 f01 f02 HPS HO0 HK1 hbl hq1 hb3
  have HPD := Lib.hid hpd
  have l2 := hpd.cnt HC.out
  have hbl : b3 < w2.heap.size := by obtain ⟨cur, hl, _⟩ := hpd.l; exact hl.lt
  clear hpd
  go_wp2_with fail
  clear l2 hbl
  go_loopw [6] (fun y wr => ∃ (j : Nat) (u : Value), j ≤ C ∧ y = .int .i64 j ∧ PD w B g w.heap.size qp b3 s j j u wr) (fun y _ => C - (intOf y).toNat)
  case atStart => exact ⟨0, _, Nat.zero_le _, rfl, HPD.out⟩
  case round =>
    clear HPD
    obtain ⟨j, u, hj, rfl, hI⟩ := hrel
    have l2 := hI.cnt HC.out
    have hbl : b3 < wr.heap.size := by obtain ⟨cur, hl, _⟩ := hI.l; exact hl.lt
    by_cases hlt : j < C
    · have hj1 : (j : Int) < (C : Int) := by omega
      have HI := Lib.hid hI
      clear hI
      go_wp2_with (go_at_call 42; with_reducible refine (row_v B g (rdAt (rdAt s 3) (8 * j)) 8 _ HI.out.rd HI.out.le (by omega) (m := 8) rfl).mono ?_; rintro e w5 ⟨v5, rfl, hO5, hR5, hK5⟩)
      obtain ⟨b5, c5, cur5, rfl, hc5, hb5, hB5, hcur⟩ := rowsl hO5 (by omega)
      have hk5 : 8 ≤ c5 := by omega
      have HS : Hid (∀ W : World, Blk W b5 3 cur5 → (fun w' : World => w'.cell? ⟨b5, 0, none⟩ = some (.int .i64 (rdN (rdAt (rdAt s 3) (8 * j)))) ∧ w'.cell? ⟨b5, 1, none⟩ = some (.int .i64 (rdN (rdAt (rdAt (rdAt s 3) (8 * j)) 1))) ∧ w'.cell? ⟨b5, 2, none⟩ = some (.int .i64 (rdN (rdAt (rdAt (rdAt s 3) (8 * j)) 2))) ∧ w'.cell? ⟨b5, 3, none⟩ = some (.int .i64 (rdN (rdAt (rdAt (rdAt s 3) (8 * j)) 3))) ∧ w'.cell? ⟨b5, 4, none⟩ = some (.int .i64 (rdN (rdAt (rdAt (rdAt s 3) (8 * j)) 4))) ∧ w'.cell? ⟨b5, 5, none⟩ = some (.int .i64 (rdN (rdAt (rdAt (rdAt s 3) (8 * j)) 5))) ∧ w'.cell? ⟨b5, 6, none⟩ = some (.int .i64 (rdN (rdAt (rdAt (rdAt s 3) (8 * j)) 6))) ∧ w'.cell? ⟨b5, 7, none⟩ = some (.int .i64 (rdN (rdAt (rdAt (rdAt s 3) (8 * j)) 7)))) W) := fun W hb => ⟨(hb.cell 0).trans (hcur 0 (by omega)), (hb.cell 1).trans (hcur 1 (by omega)), (hb.cell 2).trans (hcur 2 (by omega)), (hb.cell 3).trans (hcur 3 (by omega)), (hb.cell 4).trans (hcur 4 (by omega)), (hb.cell 5).trans (hcur 5 (by omega)), (hb.cell 6).trans (hcur 6 (by omega)), (hb.cell 7).trans (hcur 7 (by omega))⟩
      have hD := (HI.out.read hK5 hR5).low ((Below.refl _ _).drew)
      have hBd : Blk w5.drew b5 3 cur5 := hB5
      have HLJ : Hid ((tksOf (rdAt s 3) j).length + 1 ≤ 1000000) := by show _ ≤ _; rw [tksOf_len]; omega
      clear HI hO5 hR5 hK5 hcur l2 hbl hB5
      refine wp_region_held_drew (S := fun w' => w'.cell? ⟨b5, 0, none⟩ = some (.int .i64 (rdN (rdAt (rdAt s 3) (8 * j)))) ∧ w'.cell? ⟨b5, 1, none⟩ = some (.int .i64 (rdN (rdAt (rdAt (rdAt s 3) (8 * j)) 1))) ∧ w'.cell? ⟨b5, 2, none⟩ = some (.int .i64 (rdN (rdAt (rdAt (rdAt s 3) (8 * j)) 2))) ∧ w'.cell? ⟨b5, 3, none⟩ = some (.int .i64 (rdN (rdAt (rdAt (rdAt s 3) (8 * j)) 3))) ∧ w'.cell? ⟨b5, 4, none⟩ = some (.int .i64 (rdN (rdAt (rdAt (rdAt s 3) (8 * j)) 4))) ∧ w'.cell? ⟨b5, 5, none⟩ = some (.int .i64 (rdN (rdAt (rdAt (rdAt s 3) (8 * j)) 5))) ∧ w'.cell? ⟨b5, 6, none⟩ = some (.int .i64 (rdN (rdAt (rdAt (rdAt s 3) (8 * j)) 6))) ∧ w'.cell? ⟨b5, 7, none⟩ = some (.int .i64 (rdN (rdAt (rdAt (rdAt s 3) (8 * j)) 7)))) (by kernel_rfl) (HS.out _ hBd) (fun hH0 => ?_)
      generalize hwd : w5.drew = wd at hD hBd hH0 ⊢
      clear hwd
      have HD := Lib.hid hD
      have p2 : wd.cell? ⟨qp, 2, none⟩ = some u := (hD.p.cell 2).trans rfl
      have hpl : qp < wd.heap.size := hD.p.lt
      clear hD
      refine wpAnyH_take (i := 0) (v := ?_) rfl (by kernel_rfl) (by kernel_rfl) (by kernel_rfl) (fun _ _ _ h => h) (Or.inl ⟨by rfl, ?_⟩) hH0 ?_
      rotate_left
      · intro wz hz; (try dsimp only at hz); (go_simp <;> with_reducible rfl)
      simp only [Act.put, List.setIfInBounds_toArray, List.set_cons_zero, List.set_cons_succ]
      refine wpAnyH_take (i := 2) (v := ?_) rfl (by kernel_rfl) (by kernel_rfl) (by kernel_rfl) (fun _ _ _ h => h) (Or.inl ⟨by rfl, ?_⟩) hH0 ?_
      rotate_left
      · intro wz hz; (try dsimp only at hz); (go_simp <;> with_reducible rfl)
      simp only [Act.put, List.setIfInBounds_toArray, List.set_cons_zero, List.set_cons_succ]
      refine wpAnyH_take (i := 3) (v := ?_) rfl (by kernel_rfl) (by kernel_rfl) (by kernel_rfl) (fun _ _ _ h => h) (Or.inl ⟨by rfl, ?_⟩) hH0 ?_
      rotate_left
      · intro wz hz; (try dsimp only at hz); (go_simp <;> with_reducible rfl)
      simp only [Act.put, List.setIfInBounds_toArray, List.set_cons_zero, List.set_cons_succ]
      refine wpAnyH_take (i := 4) (v := ?_) rfl (by kernel_rfl) (by kernel_rfl) (by kernel_rfl) (fun _ _ _ h => h) (Or.inl ⟨by rfl, ?_⟩) hH0 ?_
      rotate_left
      · intro wz hz; (try dsimp only at hz); (go_simp <;> with_reducible rfl)
      simp only [Act.put, List.setIfInBounds_toArray, List.set_cons_zero, List.set_cons_succ]
      refine wpAnyH_take (i := 5) (v := ?_) rfl (by kernel_rfl) (by kernel_rfl) (by kernel_rfl) (fun _ _ _ h => h) (Or.inl ⟨by rfl, ?_⟩) hH0 ?_
      rotate_left
      · intro wz hz; (try dsimp only at hz); (go_simp <;> with_reducible rfl)
      simp only [Act.put, List.setIfInBounds_toArray, List.set_cons_zero, List.set_cons_succ]
      refine wpAnyH_take (i := 6) (v := ?_) rfl (by kernel_rfl) (by kernel_rfl) (by kernel_rfl) (fun _ _ _ h => h) (Or.inl ⟨by rfl, ?_⟩) hH0 ?_
      rotate_left
      · intro wz hz; (try dsimp only at hz); (go_simp <;> with_reducible rfl)
      simp only [Act.put, List.setIfInBounds_toArray, List.set_cons_zero, List.set_cons_succ]
      refine wpAnyH_take (i := 7) (v := ?_) rfl (by kernel_rfl) (by kernel_rfl) (by kernel_rfl) (fun _ _ _ h => h) (Or.inl ⟨by rfl, ?_⟩) hH0 ?_
      rotate_left
      · intro wz hz; (try dsimp only at hz); (go_simp <;> with_reducible rfl)
      simp only [Act.put, List.setIfInBounds_toArray, List.set_cons_zero, List.set_cons_succ]
      refine wpAnyH_take (i := 8) (v := ?_) rfl (by kernel_rfl) (by kernel_rfl) (by kernel_rfl) (fun _ _ _ h => h) (Or.inl ⟨by rfl, ?_⟩) hH0 ?_
      rotate_left
      · intro wz hz; (try dsimp only at hz); (go_simp <;> with_reducible rfl)
      simp only [Act.put, List.setIfInBounds_toArray, List.set_cons_zero, List.set_cons_succ]
      refine wpAnyH_take (i := 9) (v := ?_) rfl (by kernel_rfl) (by kernel_rfl) (by kernel_rfl) (fun _ _ _ h => h) (Or.inl ⟨by rfl, ?_⟩) hH0 ?_
      rotate_left
      · intro wz hz; (try dsimp only at hz); (go_simp <;> with_reducible rfl)
      simp only [Act.put, List.setIfInBounds_toArray, List.set_cons_zero, List.set_cons_succ]
      refine wpAnyH_take (i := 10) (v := ?_) rfl (by kernel_rfl) (by kernel_rfl) (by kernel_rfl) (fun _ _ _ h => h) (Or.inl ⟨by rfl, ?_⟩) hH0 ?_
      rotate_left
      · intro wz hz; (try dsimp only at hz); (go_simp <;> with_reducible rfl)
      simp only [Act.put, List.setIfInBounds_toArray, List.set_cons_zero, List.set_cons_succ]
      refine wpAnyH_take (i := 11) (v := ?_) rfl (by kernel_rfl) (by kernel_rfl) (by kernel_rfl) (fun _ _ _ h => h) (Or.inl ⟨by rfl, ?_⟩) hH0 ?_
      rotate_left
      · intro wz hz; (try dsimp only at hz); (go_simp <;> with_reducible rfl)
      simp only [Act.put, List.setIfInBounds_toArray, List.set_cons_zero, List.set_cons_succ]
      refine wpAnyH_take (i := 12) (v := ?_) rfl (by kernel_rfl) (by kernel_rfl) (by kernel_rfl) (fun _ _ _ h => h) (Or.inl ⟨by rfl, ?_⟩) hH0 ?_
      rotate_left
      · intro wz hz; (try dsimp only at hz); (go_simp <;> with_reducible rfl)
      simp only [Act.put, List.setIfInBounds_toArray, List.set_cons_zero, List.set_cons_succ]
      refine wpAnyH_take (i := 13) (v := ?_) rfl (by kernel_rfl) (by kernel_rfl) (by kernel_rfl) (fun _ _ _ h => h) (Or.inl ⟨by rfl, ?_⟩) hH0 ?_
      rotate_left
      · intro wz hz; (try dsimp only at hz); (go_simp <;> with_reducible rfl)
      simp only [Act.put, List.setIfInBounds_toArray, List.set_cons_zero, List.set_cons_succ]
      refine wpAnyH_take (i := 14) (v := ?_) rfl (by kernel_rfl) (by kernel_rfl) (by kernel_rfl) (fun _ _ _ h => h) (Or.inl ⟨by rfl, ?_⟩) hH0 ?_
      rotate_left
      · intro wz hz; (try dsimp only at hz); (go_simp <;> with_reducible rfl)
      simp only [Act.put, List.setIfInBounds_toArray, List.set_cons_zero, List.set_cons_succ]
      refine wpAnyH_take (i := 15) (v := ?_) rfl (by kernel_rfl) (by kernel_rfl) (by kernel_rfl) (fun _ _ _ h => h) (Or.inl ⟨by rfl, ?_⟩) hH0 ?_
      rotate_left
      · intro wz hz; (try dsimp only at hz); (go_simp <;> with_reducible rfl)
      simp only [Act.put, List.setIfInBounds_toArray, List.set_cons_zero, List.set_cons_succ]
      refine wpAnyH_take (i := 16) (v := ?_) rfl (by kernel_rfl) (by kernel_rfl) (by kernel_rfl) (fun _ _ _ h => h) (Or.inl ⟨by rfl, ?_⟩) hH0 ?_
      rotate_left
      · intro wz hz; (try dsimp only at hz); (go_simp <;> with_reducible rfl)
      simp only [Act.put, List.setIfInBounds_toArray, List.set_cons_zero, List.set_cons_succ]
      refine wpAnyH_take (i := 17) (v := ?_) rfl (by kernel_rfl) (by kernel_rfl) (by kernel_rfl) (fun _ _ _ h => h) (Or.inl ⟨by rfl, ?_⟩) hH0 ?_
      rotate_left
      · intro wz hz; (try dsimp only at hz); (go_simp <;> with_reducible rfl)
      simp only [Act.put, List.setIfInBounds_toArray, List.set_cons_zero, List.set_cons_succ]
      refine wpAnyH_take (i := 18) (v := ?_) rfl (by kernel_rfl) (by kernel_rfl) (by kernel_rfl) (fun _ _ _ h => h) (Or.inl ⟨by rfl, ?_⟩) hH0 ?_
      rotate_left
      · intro wz hz; (try dsimp only at hz); (go_simp <;> with_reducible rfl)
      simp only [Act.put, List.setIfInBounds_toArray, List.set_cons_zero, List.set_cons_succ]
      refine wpAnyH_take (i := 19) (v := ?_) rfl (by kernel_rfl) (by kernel_rfl) (by kernel_rfl) (fun _ _ _ h => h) (Or.inl ⟨by rfl, ?_⟩) hH0 ?_
      rotate_left
      · intro wz hz; (try dsimp only at hz); (go_simp <;> with_reducible rfl)
      simp only [Act.put, List.setIfInBounds_toArray, List.set_cons_zero, List.set_cons_succ]
      refine wpAnyH_take (i := 20) (v := ?_) rfl (by kernel_rfl) (by kernel_rfl) (by kernel_rfl) (fun _ _ _ h => h) (Or.inl ⟨by rfl, ?_⟩) hH0 ?_
      rotate_left
      · intro wz hz; (try dsimp only at hz); (go_simp <;> with_reducible rfl)
      simp only [Act.put, List.setIfInBounds_toArray, List.set_cons_zero, List.set_cons_succ]
      refine wpAnyH_take (i := 21) (v := ?_) rfl (by kernel_rfl) (by kernel_rfl) (by kernel_rfl) (fun _ _ _ h => h) (Or.inl ⟨by rfl, ?_⟩) hH0 ?_
      rotate_left
      · intro wz hz; (try dsimp only at hz); (go_simp <;> with_reducible rfl)
      simp only [Act.put, List.setIfInBounds_toArray, List.set_cons_zero, List.set_cons_succ]
      refine wpAnyH_take (i := 22) (v := ?_) rfl (by kernel_rfl) (by kernel_rfl) (by kernel_rfl) (fun _ _ _ h => h) (Or.inl ⟨by rfl, ?_⟩) hH0 ?_
      rotate_left
      · intro wz hz; (try dsimp only at hz); (go_simp <;> with_reducible rfl)
      simp only [Act.put, List.setIfInBounds_toArray, List.set_cons_zero, List.set_cons_succ]
      refine wpAnyH_take (i := 23) (v := ?_) rfl (by kernel_rfl) (by kernel_rfl) (by kernel_rfl) (fun _ _ _ h => h) (Or.inl ⟨by rfl, ?_⟩) hH0 ?_
      rotate_left
      · intro wz hz; (try dsimp only at hz); (go_simp <;> with_reducible rfl)
      simp only [Act.put, List.setIfInBounds_toArray, List.set_cons_zero, List.set_cons_succ]
      refine wpAnyH_take (i := 24) (v := ?_) rfl (by kernel_rfl) (by kernel_rfl) (by kernel_rfl) (fun _ _ _ h => h) (Or.inl ⟨by rfl, ?_⟩) hH0 ?_
      rotate_left
      · intro wz hz; (try dsimp only at hz); (go_simp <;> with_reducible rfl)
      simp only [Act.put, List.setIfInBounds_toArray, List.set_cons_zero, List.set_cons_succ]
      refine wpAnyH_take (i := 25) (v := ?_) rfl (by kernel_rfl) (by kernel_rfl) (by kernel_rfl) (fun _ _ _ h => h) (Or.inl ⟨by rfl, ?_⟩) hH0 ?_
      rotate_left
      · intro wz hz; (try dsimp only at hz); (go_simp <;> with_reducible rfl)
      simp only [Act.put, List.setIfInBounds_toArray, List.set_cons_zero, List.set_cons_succ]
      refine wpAnyH_take (i := 26) (v := ?_) rfl (by kernel_rfl) (by kernel_rfl) (by kernel_rfl) (fun _ _ _ h => h) (Or.inl ⟨by rfl, ?_⟩) hH0 ?_
      rotate_left
      · intro wz hz; (try dsimp only at hz); (go_simp <;> with_reducible rfl)
      simp only [Act.put, List.setIfInBounds_toArray, List.set_cons_zero, List.set_cons_succ]
      refine wpAnyH_ready (rs := [1, 27]) (by kernel_rfl) (by simp) ?_
      refine AllReadyH.cons (at_list rfl) (fun K hK => ?_) (AllReadyH.cons (at_list rfl) (fun K hK => ?_) AllReadyH.nil)
      · go_simp
        refine hK.out _ _ (HS.out _ hBd) (fun hH1 => ?_)
        clear hK K
        try simp only [Act.put, List.setIfInBounds_toArray, List.set_cons_zero, List.set_cons_succ]
        refine wpAnyH_ready (rs := [27]) (by kernel_rfl) (by simp) ?_
        refine AllReadyH.cons (at_list rfl) (fun K hK => ?_) AllReadyH.nil
        go_simp
        refine hK.out _ _ (HS.out _ (hBd.alloc _)) (fun hH2 => ?_)
        clear hK K
        try simp only [Act.put, List.setIfInBounds_toArray, List.set_cons_zero, List.set_cons_succ]
        refine wpAnyH_ready (rs := [28]) (by kernel_rfl) (by simp) ?_
        refine AllReadyH.cons (at_list rfl) (fun K hK => ?_) AllReadyH.nil
        refine step_append_task (w := wd) (v := u) (B := w.heap.size) (L := tksOf (rdAt s 3) j) (t := tkOf (rdAt (rdAt s 3) (8 * j))) rfl (.tmp 32) (.tmp 58) rfl rfl HD.out.u HD.out.k.size rfl rfl HLJ.out ?_
        intro v9 w9 hO9 hk9 ht9
        obtain ⟨A9, n9, c9, rfl⟩ := hO9.sl
        have h9 := ht9 _ _ _ hBd (by decide)
        have hp9 := ht9 _ _ _ HD.out.p (by decide)
        have hfar : b5 ≠ qp := h9.ne_ hp9 (by decide)
        have q2 : w9.cell? ⟨qp, 2, none⟩ = some u := (hp9.cell 2).trans rfl
        have f2 := hp9.frozen 2
        have HD9 := Lib.hid (HD.out.push hO9 hk9 ht9)
        refine hK.out _ _ (HS.out _ h9) (fun hH3 => ?_)
        clear hK K
        try simp only [Act.put, List.setIfInBounds_toArray, List.set_cons_zero, List.set_cons_succ]
        refine wpAnyH_take (i := 29) (v := ?_) rfl (by kernel_rfl) (by kernel_rfl) (by kernel_rfl) (fun _ _ _ h => h) (Or.inl ⟨by rfl, ?_⟩) hH3 ?_
        rotate_left
        · intro wz hz; (try dsimp only at hz); (go_simp <;> with_reducible rfl)
        simp only [Act.put, List.setIfInBounds_toArray, List.set_cons_zero, List.set_cons_succ]
        refine wpAnyH_ready (rs := [30]) (by kernel_rfl) (by simp) ?_
        refine AllReadyH.cons (at_list rfl) (fun K hK => ?_) AllReadyH.nil
        go_simp
        refine hK.out _ _ (HS.out _ (h9.far hfar _)) (fun hH4 => ?_)
        clear hK K
        try simp only [Act.put, List.setIfInBounds_toArray, List.set_cons_zero, List.set_cons_succ]
        refine wpAnyH_done (by kernel_rfl) ?_ _
        go_wp2_with fail
        go_roundw
        case rel => exact ⟨j + 1, _, by omega, rfl, HD9.out⟩
        case measure => simp [intOf]; omega
      · go_simp
        refine hK.out _ _ (HS.out _ (hBd.alloc _)) (fun hH1 => ?_)
        clear hK K
        try simp only [Act.put, List.setIfInBounds_toArray, List.set_cons_zero, List.set_cons_succ]
        refine wpAnyH_ready (rs := [1]) (by kernel_rfl) (by simp) ?_
        refine AllReadyH.cons (at_list rfl) (fun K hK => ?_) AllReadyH.nil
        go_simp
        refine hK.out _ _ (HS.out _ (hBd.alloc _)) (fun hH2 => ?_)
        clear hK K
        try simp only [Act.put, List.setIfInBounds_toArray, List.set_cons_zero, List.set_cons_succ]
        refine wpAnyH_ready (rs := [28]) (by kernel_rfl) (by simp) ?_
        refine AllReadyH.cons (at_list rfl) (fun K hK => ?_) AllReadyH.nil
        refine step_append_task (w := wd) (v := u) (B := w.heap.size) (L := tksOf (rdAt s 3) j) (t := tkOf (rdAt (rdAt s 3) (8 * j))) rfl (.tmp 32) (.tmp 58) rfl rfl HD.out.u HD.out.k.size rfl rfl HLJ.out ?_
        intro v9 w9 hO9 hk9 ht9
        obtain ⟨A9, n9, c9, rfl⟩ := hO9.sl
        have h9 := ht9 _ _ _ hBd (by decide)
        have hp9 := ht9 _ _ _ HD.out.p (by decide)
        have hfar : b5 ≠ qp := h9.ne_ hp9 (by decide)
        have q2 : w9.cell? ⟨qp, 2, none⟩ = some u := (hp9.cell 2).trans rfl
        have f2 := hp9.frozen 2
        have HD9 := Lib.hid (HD.out.push hO9 hk9 ht9)
        refine hK.out _ _ (HS.out _ h9) (fun hH3 => ?_)
        clear hK K
        try simp only [Act.put, List.setIfInBounds_toArray, List.set_cons_zero, List.set_cons_succ]
        refine wpAnyH_take (i := 29) (v := ?_) rfl (by kernel_rfl) (by kernel_rfl) (by kernel_rfl) (fun _ _ _ h => h) (Or.inl ⟨by rfl, ?_⟩) hH3 ?_
        rotate_left
        · intro wz hz; (try dsimp only at hz); (go_simp <;> with_reducible rfl)
        simp only [Act.put, List.setIfInBounds_toArray, List.set_cons_zero, List.set_cons_succ]
        refine wpAnyH_ready (rs := [30]) (by kernel_rfl) (by simp) ?_
        refine AllReadyH.cons (at_list rfl) (fun K hK => ?_) AllReadyH.nil
        go_simp
        refine hK.out _ _ (HS.out _ (h9.far hfar _)) (fun hH4 => ?_)
        clear hK K
        try simp only [Act.put, List.setIfInBounds_toArray, List.set_cons_zero, List.set_cons_succ]
        refine wpAnyH_done (by kernel_rfl) ?_ _
        go_wp2_with fail
        go_roundw
        case rel => exact ⟨j + 1, _, by omega, rfl, HD9.out⟩
        case measure => simp [intOf]; omega
    · obtain rfl : C = j := by omega
      have hj1 : ¬ (C : Int) < (C : Int) := by omega
      obtain ⟨TA, tn, tc, rfl⟩ := hI.u.sl
      have HI := Lib.hid hI
      obtain ⟨p0, p1, p2⟩ := hI.p0
      have o0 := (hI.o.cell 0).trans rfl
      have o1 := (hI.o.cell 1).trans rfl
      have o2 := (hI.o.cell 2).trans rfl
      have f0 := hI.o.frozen 0
      have f1 := hI.o.frozen 1
      have f2 := hI.o.frozen 2
      clear hI
      go_wp2_with fail
      obtain ⟨hc9, hu9, hr9, hk9⟩ := HI.out.done (.int .i64 (rdN s)) (.int .i64 (rdN (rdAt s 1))) (.slice TA tn tc)
      have cc0 := hc9.cell 0
      have cc1 := hc9.cell 1
      have cc2 := hc9.cell 2
      refine bodyPost_ret (v := .tuple #[.agg #[.int .i64 (rdN s), .int .i64 (rdN (rdAt s 1)), .slice TA tn tc], .bool true]) (by simp [results, Try.results41, go_sem, cc0, cc1, cc2] <;> rfl) rfl ⟨_, rfl, hu9, by unfold nxt; rw [HC.out]; exact hr9, hk9⟩
end Go.Proofs.Ytekcokbpgpeepaa
