/- Layer 5: what the memory is like while a configuration is read. -/
import Derived.Test.YtekcokbpgpeepaaCnfM
namespace Go.Proofs.Ytekcokbpgpeepaa
set_option linter.unusedVariables false
open Go.RowKit

theorem below_g {B g : Nat} {a w w' : World} (h : Below B a w) (k : Keeps (fun i => i = g) w w') (hB : B ≤ w.heap.size) (hg : B ≤ g) : Below B a w' := Below.keeps h k hB (fun i hi => by omega)
theorem one_v (B g : Nat) (s : RS) (w : World) (h : RdB B w g s.1 s.2) {z : Int} (hz : rdN s = z) :
    Calls Try.prog 36 #[.agg #[.pointer (some ⟨g, 0, none⟩)]] w fun e w' => e = .returned (.int .i64 z) ∧ RdB B w' g (rdS s).1 (rdS s).2 ∧ Keeps (fun i => i = g) w w' := by
  subst hz
  exact one_c B g s w h
theorem pi_start {w w2 w3 : World} {s : RS} (hB : Below (w.heap.size + 1) (w.alloc (.cells #[.slice none 0 0, .slice none 0 0] 25)) w2) (hg : w.heap.size + 1 < w2.heap.size) (hK : Keeps (fun i => i = w.heap.size + 1) (w2.alloc (.cells #[.pointer (some ⟨w.heap.size + 1, 0, none⟩)] 64)) w3)
    (hR : RdB w.heap.size w3 (w.heap.size + 1) s.1 s.2) : PI w w.heap.size (w.heap.size + 1) w.heap.size w2.heap.size s 0 (.slice none 0 0) w3 := by
  have hs : (w.alloc (.cells #[.slice none 0 0, .slice none 0 0] 25)).heap.size = w.heap.size + 1 := by simp
  have h0 : Below w.heap.size w (w.alloc (.cells #[.slice none 0 0, .slice none 0 0] 25)) := (Below.refl _ _).alloc (Nat.le_refl _) _
  rw [← hs] at hB
  have h2 : Below w.heap.size w w2 := below_lift h0 hB (by omega)
  have hc : Blk (w.alloc (.cells #[.slice none 0 0, .slice none 0 0] 25)) w.heap.size 25 #[.slice none 0 0, .slice none 0 0] := Blk.new _ _ _
  refine ⟨hK.blk ((hc.below hB hc.lt).alloc _) (by omega), hK.blk (Blk.new _ _ _) (by omega), hR, OwnP.nil, ?_, by omega, Nat.le_refl _, by omega, Nat.le_refl _⟩
  exact below_g (h2.alloc h2.size _) hK (Nat.le_trans h2.size (by simp)) (by omega)
/-- Inside a part: jr tasks are read, jt of them stand in the row. -/
structure PJ (wr : World) (B g qp qm : Nat) (s : RS) (jr jt : Nat) (u : Value) (w' : World) : Prop where
  k : Keeps (fun i => i = g) wr w'
  rd : RdB B w' g (rdAt (rdAt s 3) (8 * jr)).1 (rdAt (rdAt s 3) (8 * jr)).2
  p : Blk w' qp 41 #[.int .i64 (rdN s), .int .i64 (rdN (rdAt s 1)), u]
  m : Blk w' qm 3 #[.int .i64 (cntOf s)]
  u : OwnT w' wr.heap.size u (tksOf (rdAt s 3) jt)
  hp : wr.heap.size ≤ qp
section
variable {w wr : World} {B g qc q4 k : Nat} {s : RS} {v : Value}
theorem PI.le (h : PI w B g qc q4 s k v wr) : B ≤ wr.heap.size := Nat.le_trans h.hw h.b.size
theorem PI.gt (h : PI w B g qc q4 s k v wr) : g < wr.heap.size := by
  obtain ⟨u, hb⟩ := h.rd.blk
  exact hb.lt
theorem PI.cg (h : PI w B g qc q4 s k v wr) : qc ≠ g := by
  obtain ⟨u, hb⟩ := h.rd.blk
  exact h.c.ne_ hb (by decide)
theorem PI.rg (h : PI w B g qc q4 s k v wr) : q4 ≠ g := by
  obtain ⟨u, hb⟩ := h.rd.blk
  exact h.r.ne_ hb (by decide)
theorem into3_at (h : PI w B g qc q4 s k v wr) :
    Calls Try.prog 37 #[.agg #[.pointer (some ⟨g, 0, none⟩)], .slice (some ⟨wr.heap.size + 1 + 1, 0, none⟩) 3 3]
      (((wr.alloc (.cells #[.int .i64 0, .int .i64 0, .slice none 0 0] 41)).alloc (.cells #[.int .i64 0] 3)).alloc (.cells #[.pointer (some ⟨wr.heap.size, 0, none⟩), .pointer (some ⟨wr.heap.size, 1, none⟩), .pointer (some ⟨wr.heap.size + 1, 0, none⟩)] 51))
      fun e w' => e = .returned (.tuple #[]) ∧ PJ wr B g wr.heap.size (wr.heap.size + 1) (itr s k) 0 0 (.slice none 0 0) w' := by
  have hle := h.le
  have e1 : (wr.alloc (.cells #[.int .i64 0, .int .i64 0, .slice none 0 0] 41)).heap.size = wr.heap.size + 1 := by simp
  have e2 : ((wr.alloc (.cells #[.int .i64 0, .int .i64 0, .slice none 0 0] 41)).alloc (.cells #[.int .i64 0] 3)).heap.size = wr.heap.size + 1 + 1 := by simp
  have hp : Blk (((wr.alloc (.cells #[.int .i64 0, .int .i64 0, .slice none 0 0] 41)).alloc (.cells #[.int .i64 0] 3)).alloc (.cells #[.pointer (some ⟨wr.heap.size, 0, none⟩), .pointer (some ⟨wr.heap.size, 1, none⟩), .pointer (some ⟨wr.heap.size + 1, 0, none⟩)] 51)) wr.heap.size 41 #[.int .i64 0, .int .i64 0, .slice none 0 0] := ((Blk.new wr _ _).alloc _).alloc _
  have hm : Blk (((wr.alloc (.cells #[.int .i64 0, .int .i64 0, .slice none 0 0] 41)).alloc (.cells #[.int .i64 0] 3)).alloc (.cells #[.pointer (some ⟨wr.heap.size, 0, none⟩), .pointer (some ⟨wr.heap.size, 1, none⟩), .pointer (some ⟨wr.heap.size + 1, 0, none⟩)] 51)) (wr.heap.size + 1) 3 #[.int .i64 0] := (e1 ▸ Blk.new (wr.alloc (.cells #[.int .i64 0, .int .i64 0, .slice none 0 0] 41)) 3 #[.int .i64 0]).alloc _
  have hb := Blk.new ((wr.alloc (.cells #[.int .i64 0, .int .i64 0, .slice none 0 0] 41)).alloc (.cells #[.int .i64 0] 3)) 51 #[.pointer (some ⟨wr.heap.size, 0, none⟩), .pointer (some ⟨wr.heap.size, 1, none⟩), .pointer (some ⟨wr.heap.size + 1, 0, none⟩)]
  rw [e2] at hb
  have hk : Keeps (fun i => i = g) wr (((wr.alloc (.cells #[.int .i64 0, .int .i64 0, .slice none 0 0] 41)).alloc (.cells #[.int .i64 0] 3)).alloc (.cells #[.pointer (some ⟨wr.heap.size, 0, none⟩), .pointer (some ⟨wr.heap.size, 1, none⟩), .pointer (some ⟨wr.heap.size + 1, 0, none⟩)] 51)) := (((Keeps.refl _ _).alloc _).alloc _).alloc _
  have hr : RdB B (((wr.alloc (.cells #[.int .i64 0, .int .i64 0, .slice none 0 0] 41)).alloc (.cells #[.int .i64 0] 3)).alloc (.cells #[.pointer (some ⟨wr.heap.size, 0, none⟩), .pointer (some ⟨wr.heap.size, 1, none⟩), .pointer (some ⟨wr.heap.size + 1, 0, none⟩)] 51)) g (itr s k).1 (itr s k).2 := h.rd.below ((((Below.refl _ _).alloc (Nat.le_refl _) _).alloc (by simp) _).alloc (by simp; omega) _)
  refine (into3_c B g _ wr.heap.size (wr.heap.size + 1) (itr s k) _ hr hb hp hm hle (by omega)).mono fun e w' ⟨k1, k2, k3, k4, k5⟩ => ⟨k1, ⟨hk.trans k5 fun i hi => ?_, k2, k3, k4, OwnT.nil, Nat.le_refl _⟩⟩
  rcases hi with hi | hi | hi
  · exact .inl hi
  · exact .inr (by omega)
  · exact .inr (by omega)
theorem into8_at {wx : World} {qp qm j : Nat} {u : Value} (h : PJ wr B g qp qm s j j u wx) (hB : B ≤ wr.heap.size) :
    Calls Try.prog 37 #[.agg #[.pointer (some ⟨g, 0, none⟩)], .slice (some ⟨wx.heap.size + 1, 0, none⟩) 8 8]
      ((wx.alloc (.cells #[.int .i64 0, .int .i64 0, .int .i64 0, .int .i64 0, .int .i64 0, .int .i64 0, .int .i64 0, .int .i64 0] 46)).alloc (.cells #[.pointer (some ⟨wx.heap.size, 0, none⟩), .pointer (some ⟨wx.heap.size, 1, none⟩), .pointer (some ⟨wx.heap.size, 2, none⟩), .pointer (some ⟨wx.heap.size, 3, none⟩), .pointer (some ⟨wx.heap.size, 4, none⟩), .pointer (some ⟨wx.heap.size, 5, none⟩), .pointer (some ⟨wx.heap.size, 6, none⟩), .pointer (some ⟨wx.heap.size, 7, none⟩)] 51))
      fun e w' => e = .returned (.tuple #[]) ∧ PJ wr B g qp qm s (j + 1) j u w' ∧ Blk w' wx.heap.size 46 (tCells (tkOf (rdAt (rdAt s 3) (8 * j)))) := by
  have e1 : (wx.alloc (.cells #[.int .i64 0, .int .i64 0, .int .i64 0, .int .i64 0, .int .i64 0, .int .i64 0, .int .i64 0, .int .i64 0] 46)).heap.size = wx.heap.size + 1 := by simp
  have hb := Blk.new (wx.alloc (.cells #[.int .i64 0, .int .i64 0, .int .i64 0, .int .i64 0, .int .i64 0, .int .i64 0, .int .i64 0, .int .i64 0] 46)) 51 #[.pointer (some ⟨wx.heap.size, 0, none⟩), .pointer (some ⟨wx.heap.size, 1, none⟩), .pointer (some ⟨wx.heap.size, 2, none⟩), .pointer (some ⟨wx.heap.size, 3, none⟩), .pointer (some ⟨wx.heap.size, 4, none⟩), .pointer (some ⟨wx.heap.size, 5, none⟩), .pointer (some ⟨wx.heap.size, 6, none⟩), .pointer (some ⟨wx.heap.size, 7, none⟩)]
  rw [e1] at hb
  obtain ⟨W, hW⟩ : ∃ W, (wx.alloc (.cells #[.int .i64 0, .int .i64 0, .int .i64 0, .int .i64 0, .int .i64 0, .int .i64 0, .int .i64 0, .int .i64 0] 46)).alloc (.cells #[.pointer (some ⟨wx.heap.size, 0, none⟩), .pointer (some ⟨wx.heap.size, 1, none⟩), .pointer (some ⟨wx.heap.size, 2, none⟩), .pointer (some ⟨wx.heap.size, 3, none⟩), .pointer (some ⟨wx.heap.size, 4, none⟩), .pointer (some ⟨wx.heap.size, 5, none⟩), .pointer (some ⟨wx.heap.size, 6, none⟩), .pointer (some ⟨wx.heap.size, 7, none⟩)] 51) = W := ⟨_, rfl⟩
  have hq : Blk W wx.heap.size 46 #[.int .i64 0, .int .i64 0, .int .i64 0, .int .i64 0, .int .i64 0, .int .i64 0, .int .i64 0, .int .i64 0] := hW ▸ (Blk.new wx _ _).alloc _
  have hbw : Below wx.heap.size wx W := hW ▸ ((Below.refl _ _).alloc (Nat.le_refl _) _).alloc (by simp) _
  rw [hW] at hb ⊢
  have hk : Keeps (fun i => i = g) wx W := Keeps.of_below hbw
  have hr := h.rd.below hbw
  have hx : wr.heap.size ≤ wx.heap.size := h.k.size
  refine (into8_c B g _ wx.heap.size _ W hr hb hq (by omega)).mono fun e w' ⟨k1, k2, k3, k4⟩ => ?_
  have hgx : g < wx.heap.size := by
    obtain ⟨_, hb⟩ := h.rd.blk
    exact hb.lt
  have hkk : Keeps (fun i => i = g) wx w' := hk.trans k4 fun i hi => by
    rcases hi with hi | hi
    · exact .inl hi
    · exact .inr (by omega)
  obtain ⟨ug, hgb⟩ := h.rd.blk
  have hpg : qp ≠ g := h.p.ne_ hgb (by decide)
  have hmg : qm ≠ g := h.m.ne_ hgb (by decide)
  refine ⟨k1, ⟨h.k.trans hkk fun i hi => .inl hi, ?_, hkk.blk h.p hpg, hkk.blk h.m hmg, h.u.keep fun q cs hb => hkk.blk hb (hb.ne_ hgb (by decide)), h.hp⟩, k3⟩
  rw [show 8 * (j + 1) = 8 * j + 8 by omega, rdAt_add]
  exact k2
/-- Behind the append of a task, and the row laid into the part. -/
theorem PJ.push {wx w9 : World} {qp qm j : Nat} {u v' : Value} (h : PJ wr B g qp qm s (j + 1) j u wx) (hB : B ≤ wr.heap.size) (hu : OwnT w9 wr.heap.size v' (tksOf (rdAt s 3) j ++ [tkOf (rdAt (rdAt s 3) (8 * j))])) (hk : Keeps (fun i => wr.heap.size ≤ i ∧ u.ownBlock = some i) wx w9)
    (ht : ∀ q t' cs', Blk wx q t' cs' → t' ≠ 46 → Blk w9 q t' cs') : PJ wr B g qp qm s (j + 1) (j + 1) v' (w9.setCell ⟨qp, 2, none⟩ v') := by
  obtain ⟨ug, hgb⟩ := h.rd.blk
  have hgb9 := ht _ _ _ hgb (by decide)
  have hp9 := ht _ _ _ h.p (by decide)
  have hm9 := ht _ _ _ h.m (by decide)
  have hgo : ¬ (wr.heap.size ≤ g ∧ u.ownBlock = some g) := by
    rintro ⟨_, e⟩
    obtain ⟨A, c, rfl, _, _, _, hf⟩ := own_form h.u
    cases A with
    | none => simp [Value.ownBlock] at e
    | some a =>
      obtain ⟨g', cur, rfl, _, hb, _⟩ := hf a rfl
      simp [Value.ownBlock] at e
      exact hgb.ne_ hb (by decide) e.symm
  have hpg : qp ≠ g := h.p.ne_ hgb (by decide)
  have hpm : qm ≠ qp := h.m.ne_ h.p (by decide)
  have hle := h.hp
  have hks : Keeps (fun i => i = qp) w9 (w9.setCell ⟨qp, 2, none⟩ v') := Keeps.setCell (S := fun i => i = qp) (p := ⟨qp, 2, none⟩) (Keeps.refl _ _) (.inl rfl) v'
  refine ⟨(h.k.trans hk fun i hi => .inr hi.1).setCell (.inr h.hp) _, (h.rd.keep hk hgo fun i hi e => by omega).keep hks hpg.symm (fun i hi e => by omega), hp9.set_ 2 v', hm9.far hpm _, ?_, h.hp⟩
  rw [tksOf_succ]
  exact hu.keep fun q cs hb => hb.far (hb.ne_ hp9 (by decide)) _
/-- Behind the append of a part, and the row laid into the configuration. -/
theorem PI.push {wx w9 : World} {qp qm j : Nat} {u v' : Value} (h : PI w B g qc q4 s k v wr) (hj : PJ wr B g qp qm (itr s k) j j u wx) (hc : cntOf (itr s k) = j) (hu : OwnP w9 B v' (partsOf s k ++ [partOf (itr s k)])) (hk : Keeps (fun i => B ≤ i ∧ v.ownBlock = some i) wx w9)
    (ht : ∀ q t' cs', Blk wx q t' cs' → t' ≠ 41 → Blk w9 q t' cs') : PI w B g qc q4 s (k + 1) v' (w9.setCell ⟨qc, 0, none⟩ v') := by
  obtain ⟨ug, hgb⟩ := hj.rd.blk
  have hcx := hj.k.blk h.c h.cg
  have hrx := hj.k.blk h.r h.rg
  have hc9 := ht _ _ _ hcx (by decide)
  have hr9 := ht _ _ _ hrx (by decide)
  have hgb9 := ht _ _ _ hgb (by decide)
  have hcg := h.cg
  have hcr : q4 ≠ qc := h.r.ne_ h.c (by decide)
  have hcB := h.hc
  have hpx : OwnP wx B v (partsOf s k) := h.p.keep fun q t cs ht hb => hj.k.blk hb (by
    obtain ⟨uw, hgw⟩ := h.rd.blk
    rcases ht with rfl | rfl <;> exact hb.ne_ hgw (by decide))
  have hgo : ¬ (B ≤ g ∧ v.ownBlock = some g) := by
    rintro ⟨_, e⟩
    obtain ⟨Z, _, h2, _⟩ := hpx
    obtain ⟨A, c, rfl, _, _, _, hf⟩ := own_form h2
    cases A with
    | none => simp [Value.ownBlock] at e
    | some a =>
      obtain ⟨g', cur, rfl, _, hb, _⟩ := hf a rfl
      simp [Value.ownBlock] at e
      exact hgb.ne_ hb (by decide) e.symm
  have hks : Keeps (fun i => i = qc) w9 (w9.setCell ⟨qc, 0, none⟩ v') := Keeps.setCell (S := fun i => i = qc) (p := ⟨qc, 0, none⟩) (Keeps.refl _ _) (.inl rfl) v'
  have hbx := below_g h.b hj.k h.le h.hg
  refine ⟨hc9.set_ 0 v', hr9.far hcr _, ?_, ?_, (Below.keeps hbx hk (Nat.le_trans h.hw hbx.size) (fun i hi => hi.1)).setCell h.hc _, h.hg, h.hc, h.h4, h.hw⟩
  · have := ((hj.rd.keep hk hgo fun i hi e => by omega).keep hks hcg.symm (fun i hi e => by omega))
    show RdB B _ g (nxt (itr s k)).1 (nxt (itr s k)).2
    unfold nxt
    rw [show (cntOf (itr s k)).toNat = j by rw [hc]; rfl]
    exact this
  · rw [partsOf_succ]
    exact hu.keep fun q t cs ht hb => hb.far (by rcases ht with rfl | rfl <;> exact hb.ne_ hc9 (by decide)) _
end
end Go.Proofs.Ytekcokbpgpeepaa
