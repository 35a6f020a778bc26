/- The document's Parse: what the memory is like. -/
import Derived.Test.YtekcokbpgpeepaaRdL
namespace Go.Proofs.Ytekcokbpgpeepaa
set_option linter.unusedVariables false
open Go.RowKit

theorem OwnP.mono {w : World} {B B' : Nat} {v : Value} {L : List CP} (h : OwnP w B v L) (hb : B' ≤ B) : OwnP w B' v L := by
  obtain ⟨Z, h1, h2, h3⟩ := h
  exact ⟨Z, h1, own_mono h2 hb, fun z hz => ⟨(h3 z hz).1.mono hb, (h3 z hz).2⟩⟩
theorem OwnQ.mono {w : World} {B B' : Nat} {v : Value} {L : List PV} (h : OwnQ w B v L) (hb : B' ≤ B) : OwnQ w B' v L := own_mono h hb
/-- A block of another type is not a row's own. -/
theorem own_ne {w : World} {base n size q : Nat} {e t : TypeId} {v : Value} {xs : List Value} {cs : Array Value} (h : w.ownsRow base e size v n xs) (hb : Blk w q t cs) (ht : t ≠ e) : v.ownBlock ≠ some q := by
  intro e'
  obtain ⟨A, c, rfl, _, _, _, hf⟩ := own_form h
  cases A with
  | none => simp [Value.ownBlock] at e'
  | some a =>
    obtain ⟨g', cur, rfl, _, hb', _⟩ := hf a rfl
    simp [Value.ownBlock] at e'
    exact hb.ne_ hb' ht e'.symm
/-- Between two parts: kr are read, kt of them stand in the row. -/
structure DI (w : World) (g q2 qc : Nat) (s : RS) (kr kt : Nat) (v : Value) (wr : World) : Prop where
  o : Blk wr q2 25 #[.slice none 0 0, .slice none 0 0]
  c : Blk wr qc 25 #[v, .slice none 0 0]
  rd : RdD g wr g (itr s kr).1 (itr s kr).2
  p : OwnP wr g v (partsOf s kt)
  b : Below w.heap.size w wr
  hw : w.heap.size ≤ q2
  hq : q2 < g
  hg : g < qc
/-- Among the ports. -/
structure DQ (w : World) (g q2 qc : Nat) (s : RS) (pl : List CP) (kr kt : Nat) (v v2 : Value) (wr : World) : Prop where
  o : Blk wr q2 25 #[.slice none 0 0, .slice none 0 0]
  c : Blk wr qc 25 #[v, v2]
  rd : RdD g wr g (rdAt s (6 * kr)).1 (rdAt s (6 * kr)).2
  p : OwnP wr g v pl
  q : OwnQ wr g v2 (portsOf s kt)
  b : Below w.heap.size w wr
  hw : w.heap.size ≤ q2
  hq : q2 < g
  hg : g < qc
theorem di_start {w w2 w3 : World} {g : Nat} {s : RS} (hB : Below (w.heap.size + 1) (w.alloc (.cells #[.slice none 0 0, .slice none 0 0] 25)) w2) (hg : w.heap.size + 1 ≤ g) (hgl : g < w2.heap.size)
    (hK : Keeps (fun i => i = g) (w2.alloc (.cells #[.slice none 0 0, .slice none 0 0] 25)) w3) (hR : RdD g w3 g s.1 s.2) : DI w g w.heap.size w2.heap.size s 0 0 (.slice none 0 0) w3 := by
  have hs : (w.alloc (.cells #[.slice none 0 0, .slice none 0 0] 25)).heap.size = w.heap.size + 1 := by simp
  have h0 : Below w.heap.size w (w.alloc (.cells #[.slice none 0 0, .slice none 0 0] 25)) := (Below.refl _ _).alloc (Nat.le_refl _) _
  rw [← hs] at hB
  have h2 : Below w.heap.size w w2 := below_lift h0 hB (by omega)
  have hc : Blk (w.alloc (.cells #[.slice none 0 0, .slice none 0 0] 25)) w.heap.size 25 #[.slice none 0 0, .slice none 0 0] := Blk.new _ _ _
  exact ⟨hK.blk ((hc.below hB hc.lt).alloc _) (by omega), hK.blk (Blk.new _ _ _) (by omega), hR, OwnP.nil, below_g (h2.alloc h2.size _) hK (Nat.le_trans h2.size (by simp)) (by omega), Nat.le_refl _, by omega, hgl⟩
section
variable {w wr : World} {g q2 qc k kr kt : Nat} {s : RS} {v v2 : Value} {pl : List CP}
theorem DI.le (h : DI w g q2 qc s kr kt v wr) : g ≤ wr.heap.size := by
  obtain ⟨u, hb⟩ := h.rd.blk
  exact Nat.le_of_lt hb.lt
theorem DI.low (h : DI w g q2 qc s kr kt v wr) {w' : World} (hb : Below wr.heap.size wr w') : DI w g q2 qc s kr kt v w' :=
  ⟨h.o.below hb h.o.lt, h.c.below hb h.c.lt, h.rd.below hb, h.p.keep fun q t cs _ hk => hk.below hb hk.lt, below_lift h.b hb h.b.size, h.hw, h.hq, h.hg⟩
theorem DI.read (h : DI w g q2 qc s k k v wr) {w4 : World} (hk : Keeps (fun i => i = g) wr w4) (hr : RdD g w4 g (nxt (itr s k)).1 (nxt (itr s k)).2) : DI w g q2 qc s (k + 1) k v w4 := by
  obtain ⟨ug, hgb⟩ := h.rd.blk
  have hw := h.hw
  have hq := h.hq
  exact ⟨hk.blk h.o (h.o.ne_ hgb (by decide)), hk.blk h.c (h.c.ne_ hgb (by decide)), hr, h.p.keep fun q t cs ht hb => hk.blk hb (by rcases ht with rfl | rfl <;> exact hb.ne_ hgb (by decide)), below_g h.b hk h.b.size (by omega), h.hw, h.hq, h.hg⟩
/-- Behind the append of a part, and the row laid into the configuration. -/
theorem DI.push {w9 : World} {v' : Value} (h : DI w g q2 qc s (k + 1) k v wr) (hu : OwnP w9 g v' (partsOf s k ++ [partOf (itr s k)])) (hk : Keeps (fun i => g ≤ i ∧ v.ownBlock = some i) wr w9)
    (ht : ∀ q t' cs', Blk wr q t' cs' → t' ≠ 41 → Blk w9 q t' cs') : DI w g q2 qc s (k + 1) (k + 1) v' (w9.setCell ⟨qc, 0, none⟩ v') := by
  obtain ⟨ug, hgb⟩ := h.rd.blk
  have hc9 := ht _ _ _ h.c (by decide)
  have ho9 := ht _ _ _ h.o (by decide)
  have hw := h.hw
  have hq := h.hq
  have hg := h.hg
  have hgo : ¬ (g ≤ g ∧ v.ownBlock = some g) := by
    obtain ⟨Z, _, hz, _⟩ := h.p
    exact fun hh => own_ne hz hgb (by decide) hh.2
  have hks : Keeps (fun i => i = qc) w9 (w9.setCell ⟨qc, 0, none⟩ v') := Keeps.setCell (S := fun i => i = qc) (p := ⟨qc, 0, none⟩) (Keeps.refl _ _) (.inl rfl) v'
  refine ⟨ho9.far (by show q2 ≠ qc; omega) _, hc9.set_ 0 v', (h.rd.keep hk hgo fun i hi e => by omega).keep hks (by omega) (fun i hi e => by omega), ?_, (Below.keeps h.b hk h.b.size (fun i hi => by omega)).setCell (by show w.heap.size ≤ qc; omega) _, h.hw, h.hq, h.hg⟩
  rw [partsOf_succ]
  exact hu.keep fun q t cs ht hb => hb.far (by rcases ht with rfl | rfl <;> exact hb.ne_ hc9 (by decide)) _
theorem DI.out4 (h : DI w g q2 qc s k k v wr) {w4 : World} (hk : Keeps (fun i => i = g) wr w4) : Blk w4 q2 25 #[.slice none 0 0, .slice none 0 0] ∧ Below w.heap.size w w4 := by
  obtain ⟨ug, hgb⟩ := h.rd.blk
  have hw := h.hw
  have hq := h.hq
  exact ⟨hk.blk h.o (h.o.ne_ hgb (by decide)), below_g h.b hk h.b.size (by omega)⟩
theorem part_at {B C : Nat} {u : Value} {w4 w5 : World} (hC : cntOf s = C) (hB : B ≤ wr.heap.size) (hu : OwnT w4 wr.heap.size u (tksOf (rdAt s 3) C)) (hb : Below w4.heap.size w4 w5) : OwnT w5 B u (partOf s).ts := by
  rw [part_ts hC]
  exact OwnT.mono (own_below hu hb) hB
theorem DI.ports {w3 : World} {N : Nat} (h : DI w g q2 qc s N N v wr) (hk : Keeps (fun i => i = g) wr w3) (hr : RdD g w3 g (rdS (itr s N)).1 (rdS (itr s N)).2) : DQ w g q2 qc (rdS (itr s N)) (partsOf s N) 0 0 v (.slice none 0 0) w3 := by
  obtain ⟨ug, hgb⟩ := h.rd.blk
  have hw := h.hw
  have hq := h.hq
  exact ⟨hk.blk h.o (h.o.ne_ hgb (by decide)), hk.blk h.c (h.c.ne_ hgb (by decide)), hr, h.p.keep fun q t cs ht hb => hk.blk hb (by rcases ht with rfl | rfl <;> exact hb.ne_ hgb (by decide)), OwnQ.nil, below_g h.b hk h.b.size (by omega), h.hw, h.hq, h.hg⟩
theorem DQ.le (h : DQ w g q2 qc s pl kr kt v v2 wr) : g ≤ wr.heap.size := by
  obtain ⟨u, hb⟩ := h.rd.blk
  exact Nat.le_of_lt hb.lt
theorem DQ.low (h : DQ w g q2 qc s pl kr kt v v2 wr) {w' : World} (hb : Below wr.heap.size wr w') : DQ w g q2 qc s pl kr kt v v2 w' :=
  ⟨h.o.below hb h.o.lt, h.c.below hb h.c.lt, h.rd.below hb, h.p.keep fun q t cs _ hk => hk.below hb hk.lt, h.q.keep fun q cs hk => hk.below hb hk.lt, below_lift h.b hb h.b.size, h.hw, h.hq, h.hg⟩
theorem DQ.read (h : DQ w g q2 qc s pl k k v v2 wr) {w4 : World} (hk : Keeps (fun i => i = g) wr w4) (hr : RdD g w4 g (rdAt (rdAt s (6 * k)) 6).1 (rdAt (rdAt s (6 * k)) 6).2) : DQ w g q2 qc s pl (k + 1) k v v2 w4 := by
  obtain ⟨ug, hgb⟩ := h.rd.blk
  have hw := h.hw
  have hq := h.hq
  refine ⟨hk.blk h.o (h.o.ne_ hgb (by decide)), hk.blk h.c (h.c.ne_ hgb (by decide)), ?_, h.p.keep fun q t cs ht hb => hk.blk hb (by rcases ht with rfl | rfl <;> exact hb.ne_ hgb (by decide)), h.q.keep fun q cs hb => hk.blk hb (hb.ne_ hgb (by decide)), below_g h.b hk h.b.size (by omega), h.hw, h.hq, h.hg⟩
  rw [show 6 * (k + 1) = 6 * k + 6 by omega, rdAt_add]
  exact hr
/-- Behind the append of a port, and the row laid into the configuration. -/
theorem DQ.push {w9 : World} {v' : Value} (h : DQ w g q2 qc s pl (k + 1) k v v2 wr) (hu : OwnQ w9 g v' (portsOf s k ++ [ptOf (rdAt s (6 * k))])) (hk : Keeps (fun i => g ≤ i ∧ v2.ownBlock = some i) wr w9)
    (ht : ∀ q t' cs', Blk wr q t' cs' → t' ≠ 48 → Blk w9 q t' cs') : DQ w g q2 qc s pl (k + 1) (k + 1) v v' (w9.setCell ⟨qc, 1, none⟩ v') := by
  obtain ⟨ug, hgb⟩ := h.rd.blk
  have hc9 := ht _ _ _ h.c (by decide)
  have ho9 := ht _ _ _ h.o (by decide)
  have hw := h.hw
  have hq := h.hq
  have hg := h.hg
  have hgo : ¬ (g ≤ g ∧ v2.ownBlock = some g) := fun hh => own_ne h.q hgb (by decide) hh.2
  have hks : Keeps (fun i => i = qc) w9 (w9.setCell ⟨qc, 1, none⟩ v') := Keeps.setCell (S := fun i => i = qc) (p := ⟨qc, 1, none⟩) (Keeps.refl _ _) (.inl rfl) v'
  refine ⟨ho9.far (by show q2 ≠ qc; omega) _, hc9.set_ 1 v', (h.rd.keep hk hgo fun i hi e => by omega).keep hks (by omega) (fun i hi e => by omega), ?_, ?_, (Below.keeps h.b hk h.b.size (fun i hi => by omega)).setCell (by show w.heap.size ≤ qc; omega) _, h.hw, h.hq, h.hg⟩
  · refine (h.p.keep (w' := w9) fun q t cs hq hb => ht _ _ _ hb (by rcases hq with rfl | rfl <;> decide)).keep fun q t cs hq hb => hb.far (by rcases hq with rfl | rfl <;> exact hb.ne_ hc9 (by decide)) _
  · rw [portsOf_succ]
    exact hu.keep fun q cs hb => hb.far (hb.ne_ hc9 (by decide)) _
/-- What was read, as a configuration that Check takes. -/
theorem DQ.cfg (h : DQ w g q2 qc s pl kr kt v v2 wr) (hp : pl.length ≤ 4) (hq : kt ≤ 8) : ∃ A n1 A2 n2, v = .slice A pl.length n1 ∧ v2 = .slice A2 (portsOf s kt).length n2 ∧ CfA wr A n1 A2 n2 ⟨pl, portsOf s kt⟩ := by
  obtain ⟨A, n1, rfl, h1, h2, h3⟩ := h.p.form
  obtain ⟨A2, n2, rfl, k1, k2, k3⟩ := h.q.form
  have hl := portsOf_len s kt
  exact ⟨A, n1, A2, n2, rfl, rfl, h3, k3, h1, k1, h2, k2, by show pl.length ≤ _; omega, by show (portsOf s kt).length ≤ _; omega⟩
theorem DQ.done {w6 : World} (h : DQ w g q2 qc s pl kr kt v v2 wr) (hb : Below wr.heap.size wr w6) (a b : Value) :
    Blk w6 q2 25 #[.slice none 0 0, .slice none 0 0] ∧ OwnP ((w6.setCell ⟨q2, 0, none⟩ a).setCell ⟨q2, 1, none⟩ b) w.heap.size v pl ∧ OwnQ ((w6.setCell ⟨q2, 0, none⟩ a).setCell ⟨q2, 1, none⟩ b) w.heap.size v2 (portsOf s kt) ∧ Below w.heap.size w ((w6.setCell ⟨q2, 0, none⟩ a).setCell ⟨q2, 1, none⟩ b) := by
  have hd := h.low hb
  have hle : w.heap.size ≤ g := by have := h.hw; have := h.hq; omega
  refine ⟨hd.o, OwnP.mono ?_ hle, OwnQ.mono ?_ hle, (hd.b.setCell h.hw _).setCell h.hw _⟩
  · exact (hd.p.keep fun q t cs hq hk => hk.far (by rcases hq with rfl | rfl <;> exact hk.ne_ hd.o (by decide)) _).keep fun q t cs hq hk => hk.far (by rcases hq with rfl | rfl <;> exact hk.ne_ (hd.o.set_ 0 a) (by decide)) _
  · exact (hd.q.keep fun q cs hk => hk.far (hk.ne_ hd.o (by decide)) _).keep fun q cs hk => hk.far (hk.ne_ (hd.o.set_ 0 a) (by decide)) _
end
end Go.Proofs.Ytekcokbpgpeepaa
