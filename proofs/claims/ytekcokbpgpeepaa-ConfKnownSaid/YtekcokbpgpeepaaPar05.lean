/- ConfParses, walked. -/
import Derived.Test.YtekcokbpgpeepaaRdN
namespace Go.Proofs.Ytekcokbpgpeepaa
set_option linter.unusedVariables false
open Go.RowKit

theorem own_keepB {w w' : World} {base size n : Nat} {e : TypeId} {v : Value} {xs : List Value} (h : w.ownsRow base e size v n xs) (k : ∀ q cs, base ≤ q → Blk w q e cs → Blk w' q e cs) : w'.ownsRow base e size v n xs := by
  obtain ⟨h1, h2⟩ := h
  refine ⟨h1, ?_⟩
  rcases h2 with h2 | ⟨g, cap, cur, e1, e0, e3⟩
  · exact .inl h2
  · exact .inr ⟨g, cap, cur, e1, e0, k _ _ e0 e3.1, e3.2⟩
theorem OwnP.keepB {w w' : World} {B : Nat} {v : Value} {L : List CP} (h : OwnP w B v L) (k : ∀ q t cs, B ≤ q → Blk w q t cs → Blk w' q t cs) : OwnP w' B v L := by
  obtain ⟨Z, h1, h2, h3⟩ := h
  exact ⟨Z, h1, own_keepB h2 fun q cs => k q _ cs, fun z hz => ⟨own_keepB (h3 z hz).1 fun q cs => k q _ cs, (h3 z hz).2⟩⟩
theorem cfa_at {w : World} {B : Nat} {A1 A2 : Option Addr} {n1 n2 : Nat} {c : Cfg} (h1 : OwnP w B (.slice A1 c.ps.length n1) c.ps) (h2 : OwnQ w B (.slice A2 c.qs.length n2) c.qs) (l : c.ps.length ≤ 4 ∧ c.qs.length ≤ 8) : CfA w A1 n1 A2 n2 c := by
  obtain ⟨A, n, e, k1, k2, k3⟩ := h1.form
  obtain ⟨A', n', e', m1, m2, m3⟩ := h2.form
  obtain ⟨rfl, rfl⟩ : A1 = A ∧ n1 = n := by simpa using e
  obtain ⟨rfl, rfl⟩ : A2 = A' ∧ n2 = n' := by simpa using e'
  exact ⟨k3, m3, k1, m1, k2, m2, by omega, by omega⟩
theorem rowP {w : World} {B : Nat} {A1 : Option Addr} {n1 : Nat} {ps : List CP} (h : OwnP w B (.slice A1 ps.length n1) ps) (h0 : ps.length ≠ 0) : ∃ b cur, A1 = some ⟨b, 0, none⟩ ∧ B ≤ b ∧ Blk w b 41 cur ∧ ps.length * 3 ≤ cur.size := by
  obtain ⟨Z, rfl, h2, hz⟩ := h
  obtain ⟨A, c, e, h1, h2, h3, h4⟩ := own_form h2
  have e' : A1 = A ∧ n1 = c := by simpa using e
  obtain ⟨rfl, rfl⟩ := e'
  cases A1 with
  | none => exact absurd (h3 rfl).1 (by simpa using h0)
  | some a =>
    obtain ⟨g, cur, rfl, hg, hb, hs, ht⟩ := h4 a rfl
    exact ⟨g, cur, rfl, hg, hb, by rw [hs]; simpa using Nat.mul_le_mul_right 3 h1⟩
/-- What stands in the memory once both have read. -/
structure PX (w : World) (q4 q6 B : Nat) (P1 P2 Q1 Q2 : Option Addr) (k1 k2 m1 m2 : Nat) (c : Cfg) (v : Value) (L : List UInt8) (wr : World) : Prop where
  x : Blk wr q4 25 #[.slice P1 c.ps.length k1, .slice P2 c.qs.length k2]
  y : Blk wr q6 25 #[.slice Q1 c.ps.length m1, .slice Q2 c.qs.length m2]
  i : OwnB wr w.heap.size v L
  yp : OwnP wr B (.slice Q1 c.ps.length m1) c.ps
  yq : OwnQ wr B (.slice Q2 c.qs.length m2) c.qs
  r : c.ps.length ≠ 0 → ∃ b cur, P1 = some ⟨b, 0, none⟩ ∧ w.heap.size ≤ b ∧ b < B ∧ Blk wr b 41 cur ∧ c.ps.length * 3 ≤ cur.size
  b : Below w.heap.size w wr
section
variable {w wr : World} {q4 q6 B : Nat} {P1 P2 Q1 Q2 : Option Addr} {k1 k2 m1 m2 : Nat} {c : Cfg} {v : Value} {L : List UInt8}
theorem PX.low (h : PX w q4 q6 B P1 P2 Q1 Q2 k1 k2 m1 m2 c v L wr) {w' : World} (hb : Below wr.heap.size wr w') : PX w q4 q6 B P1 P2 Q1 Q2 k1 k2 m1 m2 c v L w' := by
  refine ⟨h.x.below hb h.x.lt, h.y.below hb h.y.lt, h.i.below hb, h.yp.keepB fun q t cs _ hk => hk.below hb hk.lt, own_below h.yq hb, fun h0 => ?_, below_lift h.b hb h.b.size⟩
  obtain ⟨b, cur, e, h1, h2, h3, h4⟩ := h.r h0
  exact ⟨b, cur, e, h1, h2, h3.below hb h3.lt, h4⟩
theorem PX.set {b : Nat} (h : PX w q4 q6 B (some ⟨b, 0, none⟩) P2 Q1 Q2 k1 k2 m1 m2 c v L wr) (h0 : c.ps.length ≠ 0) (o : Nat) (u : Value) : PX w q4 q6 B (some ⟨b, 0, none⟩) P2 Q1 Q2 k1 k2 m1 m2 c v L (wr.setCell ⟨b, o, none⟩ u) := by
  obtain ⟨b', cur, e, h1, h2, h3, h4⟩ := h.r h0
  obtain rfl : b = b' := by simpa using e
  refine ⟨h.x.far (h.x.ne_ h3 (by decide)) _, h.y.far (h.y.ne_ h3 (by decide)) _, own_keep h.i fun q cs hk => hk.far (hk.ne_ h3 (by decide)) _, h.yp.keepB fun q t cs hq hk => hk.far (by show q ≠ b; omega) _, own_keep h.yq fun q cs hk => hk.far (hk.ne_ h3 (by decide)) _, fun _ => ⟨b, _, rfl, h1, h2, h3.set_ o u, by simpa using h4⟩, h.b.setCell h1 _⟩
theorem PX.cfg (h : PX w q4 q6 B P1 P2 Q1 Q2 k1 k2 m1 m2 c v L wr) (l : c.ps.length ≤ 4 ∧ c.qs.length ≤ 8) : CfA wr Q1 m1 Q2 m2 c := cfa_at h.yp h.yq l
/-- A cell of the row that may be written. -/
theorem PX.at (h : PX w q4 q6 B P1 P2 Q1 Q2 k1 k2 m1 m2 c v L wr) {k : Nat} (hk : k < c.ps.length) : ∃ b u, P1 = some ⟨b, 0, none⟩ ∧ b < wr.heap.size ∧ wr.cell? ⟨b, k * 3, none⟩ = some u ∧ wr.frozen? ⟨b, k * 3, none⟩ = false := by
  obtain ⟨b, cur, e, h1, h2, h3, h4⟩ := h.r (by omega)
  have hi : k * 3 < cur.size := by omega
  exact ⟨b, cur[k * 3], e, h3.lt, by rw [h3.cell]; exact Array.getElem?_eq_getElem hi, h3.frozen _⟩
end
theorem ownB_bytes {w : World} {B n c1 : Nat} {A1 : Option Addr} {L : List UInt8} (h : OwnB w B (.slice A1 n c1) L) : BytesR w A1 L := by
  obtain ⟨A, c, e, h1, h2, h3, h4, h5⟩ := h.form
  obtain ⟨rfl, -, -⟩ : A1 = A ∧ n = L.length ∧ c1 = c := by simpa using e
  exact h3
theorem PX.xcells {w wr : World} {q4 q6 B : Nat} {P1 P2 Q1 Q2 : Option Addr} {k1 k2 m1 m2 : Nat} {c : Cfg} {v : Value} {L : List UInt8} (h : PX w q4 q6 B P1 P2 Q1 Q2 k1 k2 m1 m2 c v L wr) : wr.cell? ⟨q4, 0, none⟩ = some (.slice P1 c.ps.length k1) ∧ wr.cell? ⟨q4, 1, none⟩ = some (.slice P2 c.qs.length k2) ∧ q4 < wr.heap.size := ⟨(h.x.cell 0).trans rfl, (h.x.cell 1).trans rfl, h.x.lt⟩
theorem PX.ycells {w wr : World} {q4 q6 B : Nat} {P1 P2 Q1 Q2 : Option Addr} {k1 k2 m1 m2 : Nat} {c : Cfg} {v : Value} {L : List UInt8} (h : PX w q4 q6 B P1 P2 Q1 Q2 k1 k2 m1 m2 c v L wr) : wr.cell? ⟨q6, 0, none⟩ = some (.slice Q1 c.ps.length m1) ∧ wr.cell? ⟨q6, 1, none⟩ = some (.slice Q2 c.qs.length m2) ∧ q6 < wr.heap.size := ⟨(h.y.cell 0).trans rfl, (h.y.cell 1).trans rfl, h.y.lt⟩
theorem parse_o (A : Option Addr) (n c : Nat) (L : List UInt8) (w : World) (h : n = L.length ∧ BytesR w A L) (hA : A = none → c = 0) (hc : n ≤ c) (hl : c ≤ 9223372036854775807) {z : Int} {cf : Cfg} (hr : readC L = (z, cf)) :
    Calls Try.prog 18 #[.slice A n c] w fun e w' => ∃ A1 n1 A2 n2, e = .returned (.tuple #[.agg #[.slice A1 cf.ps.length n1, .slice A2 cf.qs.length n2], .int .i64 z]) ∧ OwnP w' w.heap.size (.slice A1 cf.ps.length n1) cf.ps ∧ OwnQ w' w.heap.size (.slice A2 cf.qs.length n2) cf.qs ∧ Below w.heap.size w w' := by
  refine (parse_c A n c L w h hA hc hl).mono fun e w' ⟨hq, hB⟩ => ?_
  obtain ⟨v1, v2, h1, h2, h3⟩ := hq.ex
  rw [hr] at h1 h2 h3
  obtain ⟨A1, n1, rfl, -⟩ := h2.form
  obtain ⟨A2, n2, rfl, -⟩ := h3.form
  exact ⟨A1, n1, A2, n2, h1, h2, h3, hB⟩
theorem parsed_o (A : Option Addr) (n c : Nat) (L : List UInt8) (w : World) (h : n = L.length ∧ BytesR w A L) (hA : A = none → c = 0) (hl : n ≤ 140737488355328) {z : Int} {cf : Cfg} (hr : readC L = (z, cf)) :
    Calls Try.prog 19 #[.slice A n c] w fun e w' => ∃ A1 n1 A2 n2, e = .returned (.tuple #[.agg #[.slice A1 cf.ps.length n1, .slice A2 cf.qs.length n2], .int .i64 z]) ∧ OwnP w' w.heap.size (.slice A1 cf.ps.length n1) cf.ps ∧ OwnQ w' w.heap.size (.slice A2 cf.qs.length n2) cf.qs ∧ Below w.heap.size w w' := by
  refine (parsed_c A n c L w h hA hl).mono fun e w' ⟨hq, hB⟩ => ?_
  obtain ⟨v1, v2, h1, h2, h3⟩ := hq.ex
  rw [hr] at h1 h2 h3
  obtain ⟨A1, n1, rfl, -⟩ := h2.form
  obtain ⟨A2, n2, rfl, -⟩ := h3.form
  exact ⟨A1, n1, A2, n2, h1, h2, h3, hB⟩
/-- Once both have read. -/
theorem px_start {w w1 w2 w3 : World} {P1 P2 Q1 Q2 : Option Addr} {k1 k2 m1 m2 : Nat} {c : Cfg} {v : Value} {L : List UInt8} (hO : OwnB w1 w.heap.size v L) (h1 : Below w.heap.size w w1)
    (hp : OwnP w2 w1.heap.size (.slice P1 c.ps.length k1) c.ps) (h2 : Below w1.heap.size w1 w2)
    (hyp : OwnP w3 (w2.alloc (.cells #[.slice P1 c.ps.length k1, .slice P2 c.qs.length k2] 25)).heap.size (.slice Q1 c.ps.length m1) c.ps) (hyq : OwnQ w3 (w2.alloc (.cells #[.slice P1 c.ps.length k1, .slice P2 c.qs.length k2] 25)).heap.size (.slice Q2 c.qs.length m2) c.qs) (h3 : Below (w2.alloc (.cells #[.slice P1 c.ps.length k1, .slice P2 c.qs.length k2] 25)).heap.size (w2.alloc (.cells #[.slice P1 c.ps.length k1, .slice P2 c.qs.length k2] 25)) w3) :
    PX w w2.heap.size w3.heap.size (w2.heap.size + 1) P1 P2 Q1 Q2 k1 k2 m1 m2 c v L (w3.alloc (.cells #[.slice Q1 c.ps.length m1, .slice Q2 c.qs.length m2] 25)) := by
  have es : (w2.alloc (.cells #[.slice P1 c.ps.length k1, .slice P2 c.qs.length k2] 25)).heap.size = w2.heap.size + 1 := by simp
  have a2 : Below w2.heap.size w2 (w2.alloc (.cells #[.slice P1 c.ps.length k1, .slice P2 c.qs.length k2] 25)) := (Below.refl _ _).alloc (Nat.le_refl _) _
  rw [es] at hyp hyq
  have a3 : Below w2.heap.size w2 w3 := below_lift a2 h3 a2.size
  have a4 : Below w3.heap.size w3 (w3.alloc (.cells #[.slice Q1 c.ps.length m1, .slice Q2 c.qs.length m2] 25)) := (Below.refl _ _).alloc (Nat.le_refl _) _
  have hx : Blk (w2.alloc (.cells #[.slice P1 c.ps.length k1, .slice P2 c.qs.length k2] 25)) w2.heap.size 25 #[.slice P1 c.ps.length k1, .slice P2 c.qs.length k2] := Blk.new _ _ _
  refine ⟨(hx.below h3 hx.lt).alloc _, Blk.new _ _ _, ((hO.below h2).below a3).below a4, hyp.keepB fun q t cs _ hk => hk.below a4 hk.lt, own_below hyq a4, fun h0 => ?_, (below_lift (below_lift h1 h2 h1.size) a3 (below_lift h1 h2 h1.size).size).alloc (below_lift (below_lift h1 h2 h1.size) a3 (below_lift h1 h2 h1.size).size).size _⟩
  obtain ⟨b, cur, e, k1, k2, k3⟩ := rowP hp h0
  have := k2.lt
  have := h1.size
  exact ⟨b, cur, e, by omega, by omega, (k2.below a3 k2.lt).below a4 (k2.below a3 k2.lt).lt, k3⟩
set_option maxHeartbeats 4000000 in
theorem cparses_c (A : Option Addr) (n c : Nat) (L : List UInt8) (w : World) (h : n = L.length ∧ BytesR w A L) (hA : A = none → c = 0) (hc : n ≤ c) (hn : n ≤ 140737488355328) :
    Calls Try.prog 4 #[.slice A n c] w fun e w' => e = .returned (.bool true) ∧ Below w.heap.size w w' := by
  obtain ⟨⟨z, cf⟩, hr⟩ : ∃ r, readC L = r := ⟨_, rfl⟩
  have hlen := readC_len L
  rw [hr] at hlen
  have HL : Hid (cf.ps.length ≤ 4 ∧ cf.qs.length ≤ 8) := ⟨hlen.1, hlen.2⟩
  have HH := Lib.hid h
  have HR := Lib.hid hr
  have HA := Lib.hid hA
  have HCO := Lib.hid (copy_c A n c L w hn h hA)
  have hn' : Hid (n ≤ 140737488355328) := hn
  clear h hA hr hlen hc hn
  go_enter Try.func4, Try.ntmps4
  go_wp2_with (first
    | (go_at_call 15; with_reducible refine (samer_c P1 P2 Q1 Q2 k1 k2 m1 m2 cf _ HPX.out (HX.out.cfg HL.out)).mono ?_; rintro e w4 ⟨rfl, hb4⟩; have HX4 := Lib.hid (HX.out.low hb4))
    | (go_at_call 14; with_reducible refine (eq_v A1 L.length c1 L A n c L _ ⟨rfl, ownB_bytes HX4.out.i⟩ ⟨HH.out.1, HH.out.2.below HX4.out.b⟩ (beq_self_eq_true _)).mono ?_; rintro e w9 ⟨rfl, rfl⟩)
    | (go_at_call 19; with_reducible refine (parsed_o A n c L _ ⟨HH.out.1, HB2.out⟩ HA.out hn'.out HR.out).mono ?_; rintro e w3 ⟨Q1, m1, Q2, m2, rfl, hyp, hyq, hb3⟩; have hX := px_start hO1 hb1 hp hb2 hyp hyq hb3; have hx3 := HN2.out.below hb3 HN2.out.lt; have c0 : w3.cell? ⟨w2.heap.size, 0, none⟩ = some (.slice P1 cf.ps.length k1) := (hx3.cell 0).trans rfl; have c1' : w3.cell? ⟨w2.heap.size, 1, none⟩ = some (.slice P2 cf.qs.length k2) := (hx3.cell 1).trans rfl; have hlx := hx3.lt; have HPX := Lib.hid (((cfa_at hp hq HL.out).below ((Below.refl _ _).alloc (Nat.le_refl _) _)).below (hb3.alloc hb3.size (.cells #[.slice Q1 cf.ps.length m1, .slice Q2 cf.qs.length m2] 25))); have HX := Lib.hid hX; clear hX hx3 hyp hyq hb3 hp hq hb2 hO1 hb1)
    | (go_at_call 18; with_reducible refine (parse_o A1 L.length c1 L _ ⟨rfl, hR1⟩ hA1 hc1 hl1 HR.out).mono ?_; rintro e w2 ⟨P1, k1, P2, k2, rfl, hp, hq, hb2⟩; have HB2 := Lib.hid ((HH.out.2.below (below_lift hb1 hb2 hb1.size)).below ((Below.refl _ _).alloc (Nat.le_refl _) (.cells #[.slice P1 cf.ps.length k1, .slice P2 cf.qs.length k2] 25))); have HN2 := Lib.hid (Blk.new w2 25 #[.slice P1 cf.ps.length k1, .slice P2 cf.qs.length k2]))
    | (go_at_call 17; with_reducible refine HCO.out.mono ?_; rintro e w1 ⟨v1, rfl, hO1, hb1⟩; obtain ⟨A1, c1, rfl, hc1, hA1, hR1, hl1, -⟩ := hO1.form))
  generalize w2.heap.size = q4 at *
  generalize w3.heap.size = q6 at *
  clear HPX HX c0 c1' hlx HN2 HB2 HCO hR1
  have hl4 : cf.ps.length ≤ 4 := HL.out.1
  have HA1 := Lib.hid hA1
  have HC1 := Lib.hid hc1
  clear hA1 hc1
  go_loopw [8] (fun y wr => ∃ k : Nat, k ≤ cf.ps.length ∧ y = .int .i64 k ∧ PX w q4 q6 (q4 + 1) P1 P2 Q1 Q2 k1 k2 m1 m2 cf (.slice A1 L.length c1) L wr) (fun y _ => cf.ps.length - (intOf y).toNat)
  case atStart => exact ⟨0, Nat.zero_le _, rfl, HX4.out⟩
  case round =>
    clear HX4
    obtain ⟨k, hk, rfl, hI⟩ := hrel
    obtain ⟨x0, x1, hxl⟩ := hI.xcells
    by_cases hlt : k < cf.ps.length
    · have hk1 : (k : Int) < (cf.ps.length : Int) := by omega
      obtain ⟨b, u, rfl, hbl, hcb, hfb⟩ := hI.at hlt
      have hbq : b ≠ q4 := by
        intro e
        subst e
        obtain ⟨b', cur, e, -, -, h3, -⟩ := hI.r (by omega)
        obtain rfl : b = b' := by simpa using e
        exact h3.ne_ hI.x (by decide) rfl
      have HI := Lib.hid hI
      clear hI
      go_wp2_with fail
      go_roundw
      case rel => exact ⟨k + 1, by omega, rfl, HI.out.set (by omega) _ _⟩
      case measure => simp [intOf]; omega
    · obtain rfl : cf.ps.length = k := by omega
      have hk1 : ¬ (cf.ps.length : Int) < (cf.ps.length : Int) := by omega
      have HI := Lib.hid hI
      clear hI
      go_wp2_with (first
        | (go_at_call 16; with_reducible refine (works_c _).mono ?_; rintro e w7 ⟨rfl, hb7⟩)
        | (go_at_call 15; with_reducible refine (samer_c Z1 Z2 Q1 Q2 r1 r2 m1 m2 cf _ HZ.out (HI6.out.cfg HL.out)).mono ?_; rintro e w6 ⟨rfl, hb6⟩)
        | (go_at_call 18; with_reducible refine (parse_o A1 L.length c1 L _ ⟨rfl, ownB_bytes HI.out.i⟩ HA1.out HC1.out hl1 HR.out).mono ?_; rintro e w5 ⟨Z1, r1, Z2, r2, rfl, hp, hq, hb5⟩; have hI5 := HI.out.low hb5; obtain ⟨y0, y1, hyl⟩ := hI5.ycells; have ha5 : Below w5.heap.size w5 (w5.alloc (.cells #[.slice Z1 cf.ps.length r1, .slice Z2 cf.qs.length r2] 25)) := (Below.refl _ _).alloc (Nat.le_refl _) _; have HI6 := Lib.hid (hI5.low ha5); have HZ := Lib.hid ((cfa_at hp hq HL.out).below ha5); clear hp hq hI5 hb5 ha5))
      go_ret
      have h6 := below_lift HI6.out.b hb6 HI6.out.b.size
      exact ⟨by simp, below_lift h6 hb7 h6.size⟩
end Go.Proofs.Ytekcokbpgpeepaa
