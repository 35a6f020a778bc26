/- Layer 5: what the memory is like while ports are read. -/
import Derived.Test.YtekcokbpgpeepaaCnfO
import Derived.Test.YtekcokbpgpeepaaCnfD
namespace Go.Proofs.Ytekcokbpgpeepaa
set_option linter.unusedVariables false
open Go.RowKit

/-- Among the ports: kr are read, kt of them stand in the row. -/
structure PQ (w : World) (B g qc q4 : Nat) (s : RS) (pl : List CP) (kr kt : Nat) (v v2 : Value) (wx : World) : Prop where
  c : Blk wx qc 25 #[v, v2]
  r : Blk wx q4 64 #[.pointer (some ⟨g, 0, none⟩)]
  rd : RdB B wx g (rdAt s (6 * kr)).1 (rdAt s (6 * kr)).2
  p : OwnP wx B v pl
  q : OwnQ wx B v2 (portsOf s kt)
  b : Below B w wx
  hg : B ≤ g
  hc : B ≤ qc
  h4 : B ≤ q4
  hw : B ≤ w.heap.size
section
variable {w wr wx : World} {B g qc q4 k : Nat} {s : RS} {v v2 : Value} {pl : List CP}
theorem PI.ports {w3 : World} {N : Nat} (h : PI w B g qc q4 s N v wr) (hk : Keeps (fun i => i = g) wr w3) (hr : RdB B w3 g (rdS (itr s N)).1 (rdS (itr s N)).2) : PQ w B g qc q4 (rdS (itr s N)) (partsOf s N) 0 0 v (.slice none 0 0) w3 := by
  obtain ⟨ug, hgb⟩ := h.rd.blk
  refine ⟨hk.blk h.c h.cg, hk.blk h.r h.rg, hr, h.p.keep fun q t cs ht hb => hk.blk hb (by rcases ht with rfl | rfl <;> exact hb.ne_ hgb (by decide)), OwnQ.nil, below_g h.b hk h.le h.hg, h.hg, h.hc, h.h4, h.hw⟩
theorem PQ.le {kr kt : Nat} (h : PQ w B g qc q4 s pl kr kt v v2 wx) : B ≤ wx.heap.size := Nat.le_trans h.hw h.b.size
theorem into6_at (h : PQ w B g qc q4 s pl k k v v2 wx) :
    Calls Try.prog 37 #[.agg #[.pointer (some ⟨g, 0, none⟩)], .slice (some ⟨wx.heap.size + 1, 0, none⟩) 6 6]
      ((wx.alloc (.cells #[.int .i64 0, .int .i64 0, .int .i64 0, .int .i64 0, .int .i64 0, .int .i64 0] 48)).alloc (.cells #[.pointer (some ⟨wx.heap.size, 0, none⟩), .pointer (some ⟨wx.heap.size, 1, none⟩), .pointer (some ⟨wx.heap.size, 2, none⟩), .pointer (some ⟨wx.heap.size, 3, none⟩), .pointer (some ⟨wx.heap.size, 4, none⟩), .pointer (some ⟨wx.heap.size, 5, none⟩)] 51))
      fun e w' => e = .returned (.tuple #[]) ∧ PQ w B g qc q4 s pl (k + 1) k v v2 w' ∧ Blk w' wx.heap.size 48 (qCells (ptOf (rdAt s (6 * k)))) := by
  have e1 : (wx.alloc (.cells #[.int .i64 0, .int .i64 0, .int .i64 0, .int .i64 0, .int .i64 0, .int .i64 0] 48)).heap.size = wx.heap.size + 1 := by simp
  have hb := Blk.new (wx.alloc (.cells #[.int .i64 0, .int .i64 0, .int .i64 0, .int .i64 0, .int .i64 0, .int .i64 0] 48)) 51 #[.pointer (some ⟨wx.heap.size, 0, none⟩), .pointer (some ⟨wx.heap.size, 1, none⟩), .pointer (some ⟨wx.heap.size, 2, none⟩), .pointer (some ⟨wx.heap.size, 3, none⟩), .pointer (some ⟨wx.heap.size, 4, none⟩), .pointer (some ⟨wx.heap.size, 5, none⟩)]
  rw [e1] at hb
  obtain ⟨W, hW⟩ : ∃ W, (wx.alloc (.cells #[.int .i64 0, .int .i64 0, .int .i64 0, .int .i64 0, .int .i64 0, .int .i64 0] 48)).alloc (.cells #[.pointer (some ⟨wx.heap.size, 0, none⟩), .pointer (some ⟨wx.heap.size, 1, none⟩), .pointer (some ⟨wx.heap.size, 2, none⟩), .pointer (some ⟨wx.heap.size, 3, none⟩), .pointer (some ⟨wx.heap.size, 4, none⟩), .pointer (some ⟨wx.heap.size, 5, none⟩)] 51) = W := ⟨_, rfl⟩
  have hq : Blk W wx.heap.size 48 #[.int .i64 0, .int .i64 0, .int .i64 0, .int .i64 0, .int .i64 0, .int .i64 0] := hW ▸ (Blk.new wx _ _).alloc _
  have hbw : Below wx.heap.size wx W := hW ▸ ((Below.refl _ _).alloc (Nat.le_refl _) _).alloc (by simp) _
  rw [hW] at hb ⊢
  have hk : Keeps (fun i => i = g) wx W := Keeps.of_below hbw
  have hr := h.rd.below hbw
  have hle := h.le
  refine (into6_c B g _ wx.heap.size _ W hr hb hq hle).mono fun e w' ⟨k1, k2, k3, k4⟩ => ?_
  obtain ⟨ug, hgb⟩ := h.rd.blk
  have hgx := hgb.lt
  have hkk : Keeps (fun i => i = g) wx w' := hk.trans k4 fun i hi => by
    rcases hi with hi | hi
    · exact .inl hi
    · exact .inr (by omega)
  refine ⟨k1, ⟨hkk.blk h.c (h.c.ne_ hgb (by decide)), hkk.blk h.r (h.r.ne_ hgb (by decide)), ?_, h.p.keep fun q t cs ht hb => hkk.blk hb (by rcases ht with rfl | rfl <;> exact hb.ne_ hgb (by decide)), h.q.keep fun q cs hb => hkk.blk hb (hb.ne_ hgb (by decide)), below_g h.b hkk hle h.hg, h.hg, h.hc, h.h4, h.hw⟩, k3⟩
  rw [show 6 * (k + 1) = 6 * k + 6 by omega, rdAt_add]
  exact k2
/-- Behind the append of a port, and the row laid into the configuration. -/
theorem PQ.push {w9 : World} {v' : Value} (h : PQ w B g qc q4 s pl (k + 1) k v v2 wx) (hu : OwnQ w9 B v' (portsOf s k ++ [ptOf (rdAt s (6 * k))])) (hk : Keeps (fun i => B ≤ i ∧ v2.ownBlock = some i) wx w9)
    (ht : ∀ q t' cs', Blk wx q t' cs' → t' ≠ 48 → Blk w9 q t' cs') : PQ w B g qc q4 s pl (k + 1) (k + 1) v v' (w9.setCell ⟨qc, 1, none⟩ v') := by
  obtain ⟨ug, hgb⟩ := h.rd.blk
  have hc9 := ht _ _ _ h.c (by decide)
  have hr9 := ht _ _ _ h.r (by decide)
  have hcg : qc ≠ g := h.c.ne_ hgb (by decide)
  have hcr : q4 ≠ qc := h.r.ne_ h.c (by decide)
  have hgo : ¬ (B ≤ g ∧ v2.ownBlock = some g) := by
    rintro ⟨_, e⟩
    obtain ⟨A, c, rfl, _, _, _, hf⟩ := own_form h.q
    cases A with
    | none => simp [Value.ownBlock] at e
    | some a =>
      obtain ⟨g', cur, rfl, _, hb, _⟩ := hf a rfl
      simp [Value.ownBlock] at e
      exact hgb.ne_ hb (by decide) e.symm
  have hks : Keeps (fun i => i = qc) w9 (w9.setCell ⟨qc, 1, none⟩ v') := Keeps.setCell (S := fun i => i = qc) (p := ⟨qc, 1, none⟩) (Keeps.refl _ _) (.inl rfl) v'
  have hcB := h.hc
  refine ⟨hc9.set_ 1 v', hr9.far hcr _, (h.rd.keep hk hgo fun i hi e => by omega).keep hks hcg.symm (fun i hi e => by omega), ?_, ?_, (Below.keeps h.b hk h.le (fun i hi => hi.1)).setCell h.hc _, h.hg, h.hc, h.h4, h.hw⟩
  · refine (h.p.keep (w' := w9) fun q t cs hq hb => ht _ _ _ hb (by rcases hq with rfl | rfl <;> decide)).keep fun q t cs hq hb => hb.far (by rcases hq with rfl | rfl <;> exact hb.ne_ hc9 (by decide)) _
  · rw [portsOf_succ]
    exact hu.keep fun q cs hb => hb.far (hb.ne_ hc9 (by decide)) _
/-- What was read, as a configuration that Check takes. -/
theorem PQ.cfg {kr kt : Nat} (h : PQ w B g qc q4 s pl kr kt v v2 wx) (hp : pl.length ≤ 4) (hq : kt ≤ 8) : ∃ A n1 A2 n2, v = .slice A pl.length n1 ∧ v2 = .slice A2 (portsOf s kt).length n2 ∧ CfA wx A n1 A2 n2 ⟨pl, portsOf s kt⟩ := by
  obtain ⟨A, n1, rfl, h1, h2, h3⟩ := h.p.form
  obtain ⟨A2, n2, rfl, k1, k2, k3⟩ := h.q.form
  have hl := portsOf_len s kt
  exact ⟨A, n1, A2, n2, rfl, rfl, h3, k3, h1, k1, h2, k2, by show pl.length ≤ _; omega, by show (portsOf s kt).length ≤ _; omega⟩
end
theorem parseQ_err {L : List UInt8} {c : Cfg} {s : RS} (h : readC L = fin c s) {z : Int} (he : endE s.1 s.2 = z) (hz : z ≠ 0) (B : Nat) (W : World) : ParseQ L B W (.returned (.tuple #[.agg #[.slice none 0 0, .slice none 0 0], .int .i64 z])) := by
  refine parseQ_no ?_ B W
  rw [h]
  unfold fin
  rw [he, if_neg hz]
theorem parseQ_bad {L : List UInt8} {c : Cfg} {s : RS} (h : readC L = fin c s) (he : endE s.1 s.2 = 0) (hc : checkB c = false) (B : Nat) (W : World) : ParseQ L B W (.returned (.tuple #[.agg #[.slice none 0 0, .slice none 0 0], .int .i64 50])) := by
  refine parseQ_no ?_ B W
  rw [h]
  unfold fin
  rw [he, if_pos rfl, hc]
  rfl
theorem parseQ_ok {L : List UInt8} {c : Cfg} {s : RS} (h : readC L = fin c s) (he : endE s.1 s.2 = 0) (hc : checkB c = true) {B : Nat} {W : World} {v1 v2 : Value} (h1 : OwnP W B v1 c.ps) (h2 : OwnQ W B v2 c.qs) : ParseQ L B W (.returned (.tuple #[.agg #[v1, v2], .int .i64 0])) := by
  have hr : readC L = (0, c) := by rw [h]; unfold fin; rw [he, if_pos rfl, hc]; rfl
  exact ⟨⟨v1, v2, by rw [hr], by rw [hr]; exact h1, by rw [hr]; exact h2⟩⟩
theorem OwnT.sl {w : World} {B : Nat} {v : Value} {L : List TV} (h : OwnT w B v L) : ∃ A n c, v = .slice A n c := by
  obtain ⟨A, c, rfl, _⟩ := own_form h
  exact ⟨_, _, _, rfl⟩
theorem OwnQ.sl {w : World} {B : Nat} {v : Value} {L : List PV} (h : OwnQ w B v L) : ∃ A n c, v = .slice A n c := by
  obtain ⟨A, c, rfl, _⟩ := own_form h
  exact ⟨_, _, _, rfl⟩
theorem OwnP.sl {w : World} {B : Nat} {v : Value} {L : List CP} (h : OwnP w B v L) : ∃ A n c, v = .slice A n c := by
  obtain ⟨Z, _, h2, _⟩ := h
  obtain ⟨A, c, rfl, _⟩ := own_form h2
  exact ⟨_, _, _, rfl⟩
theorem end_v (g : Nat) (L : List UInt8) (e0 : Int) (w : World) (h : RdE w g L e0) {z : Int} (hz : endE L e0 = z) :
    Calls Try.prog 38 #[.pointer (some ⟨g, 0, none⟩)] w fun e w' => e = .returned (.int .i64 z) ∧ w = w' := by
  subst hz
  exact end_c g L e0 w h
theorem PQ.done {w wx w6 : World} {B g qc q4 kr kt : Nat} {s : RS} {pl : List CP} {v v2 : Value} (h : PQ w B g qc q4 s pl kr kt v v2 wx) (hb : Below wx.heap.size wx w6) (a b : Value) :
    Blk w6 qc 25 #[v, v2] ∧ OwnP ((w6.setCell ⟨qc, 0, none⟩ a).setCell ⟨qc, 1, none⟩ b) B v pl ∧ OwnQ ((w6.setCell ⟨qc, 0, none⟩ a).setCell ⟨qc, 1, none⟩ b) B v2 (portsOf s kt) ∧ Below B w ((w6.setCell ⟨qc, 0, none⟩ a).setCell ⟨qc, 1, none⟩ b) := by
  have hc6 := h.c.below hb h.c.lt
  refine ⟨hc6, ?_, ?_, ((below_lift h.b hb (Nat.le_trans h.hw h.b.size |> fun _ => ?_)).setCell h.hc _).setCell h.hc _⟩
  · exact ((h.p.keep (w' := w6) fun q t cs _ hk => hk.below hb hk.lt).keep fun q t cs hq hk => hk.far (by rcases hq with rfl | rfl <;> exact hk.ne_ hc6 (by decide)) _).keep fun q t cs hq hk => hk.far (by rcases hq with rfl | rfl <;> exact hk.ne_ (hc6.set_ 0 a) (by decide)) _
  · exact ((h.q.keep (w' := w6) fun q cs hk => hk.below hb hk.lt).keep fun q cs hk => hk.far (hk.ne_ hc6 (by decide)) _).keep fun q cs hk => hk.far (hk.ne_ (hc6.set_ 0 a) (by decide)) _
  · exact h.le
theorem part_ts {s : RS} {C : Nat} (h : cntOf s = C) : (partOf s).ts = tksOf (rdAt s 3) C := by
  unfold partOf tksOf
  rw [h]
  rfl
theorem PJ.m0 {wr w' : World} {B g qp qm jr jt C : Nat} {s : RS} {u : Value} (h : PJ wr B g qp qm s jr jt u w') (hc : cntOf s = C) : w'.cell? ⟨qm, 0, none⟩ = some (.int .i64 C) := by
  rw [h.m.cell, hc]
  rfl
theorem PJ.p0 {wr w' : World} {B g qp qm jr jt : Nat} {s : RS} {u : Value} (h : PJ wr B g qp qm s jr jt u w') : w'.cell? ⟨qp, 0, none⟩ = some (.int .i64 (partOf s).per) ∧ w'.cell? ⟨qp, 1, none⟩ = some (.int .i64 (partOf s).bud) ∧ w'.cell? ⟨qp, 2, none⟩ = some u := by
  rw [h.p.cell, h.p.cell, h.p.cell]
  exact ⟨rfl, rfl, rfl⟩
theorem PI.px {w wr wx : World} {B g qc q4 k qp qm jr jt : Nat} {s : RS} {v u : Value} {s' : RS} (h : PI w B g qc q4 s k v wr) (hj : PJ wr B g qp qm s' jr jt u wx) : OwnP wx B v (partsOf s k) := h.p.keep fun q t cs ht hb => hj.k.blk hb (by
  obtain ⟨uw, hgw⟩ := h.rd.blk
  rcases ht with rfl | rfl <;> exact hb.ne_ hgw (by decide))
theorem PI.jb {w wr wx : World} {B g qc q4 k qp qm jr jt : Nat} {s : RS} {v u : Value} {s' : RS} (h : PI w B g qc q4 s k v wr) (hj : PJ wr B g qp qm s' jr jt u wx) : Below B w wx := below_g h.b hj.k h.le h.hg
theorem tk_cells {w : World} {q : Nat} {t : TV} (h : Blk w q 46 (tCells t)) : w.cell? ⟨q, 0, none⟩ = some (.int .i64 t.p) ∧ w.cell? ⟨q, 1, none⟩ = some (.int .i64 t.d) ∧ w.cell? ⟨q, 2, none⟩ = some (.int .i64 t.b) ∧ w.cell? ⟨q, 3, none⟩ = some (.int .i64 t.ls) ∧ w.cell? ⟨q, 4, none⟩ = some (.int .i64 t.l) ∧ w.cell? ⟨q, 5, none⟩ = some (.int .i64 t.g) ∧ w.cell? ⟨q, 6, none⟩ = some (.int .i64 t.lg) ∧ w.cell? ⟨q, 7, none⟩ = some (.int .i64 t.lk) :=
  ⟨(h.cell 0).trans rfl, (h.cell 1).trans rfl, (h.cell 2).trans rfl, (h.cell 3).trans rfl, (h.cell 4).trans rfl, (h.cell 5).trans rfl, (h.cell 6).trans rfl, (h.cell 7).trans rfl⟩
theorem pt_cells {w : World} {q : Nat} {t : PV} (h : Blk w q 48 (qCells t)) : w.cell? ⟨q, 0, none⟩ = some (.int .i64 t.k) ∧ w.cell? ⟨q, 1, none⟩ = some (.int .i64 t.f) ∧ w.cell? ⟨q, 2, none⟩ = some (.int .i64 t.t) ∧ w.cell? ⟨q, 3, none⟩ = some (.int .i64 t.s) ∧ w.cell? ⟨q, 4, none⟩ = some (.int .i64 t.d) ∧ w.cell? ⟨q, 5, none⟩ = some (.int .i64 t.a) :=
  ⟨(h.cell 0).trans rfl, (h.cell 1).trans rfl, (h.cell 2).trans rfl, (h.cell 3).trans rfl, (h.cell 4).trans rfl, (h.cell 5).trans rfl⟩
end Go.Proofs.Ytekcokbpgpeepaa
