/- The program's reader, with the bound of its bytes' block; reader.one. -/
import Derived.Test.YtekcokbpgpeepaaRdD
namespace Go.Proofs.Ytekcokbpgpeepaa
set_option linter.unusedVariables false
open Go.RowKit

/-- .. whose bytes lie below block B. -/
def RdB (B : Nat) (w : World) (g : Nat) (L : List UInt8) (e : Int) : Prop := ∃ A c, Rd w g A c L e ∧ (L ≠ [] → ∃ b off, A = some ⟨b, off, none⟩ ∧ b < B)
theorem RdB.e {B g : Nat} {w : World} {L : List UInt8} {e : Int} (h : RdB B w g L e) : RdE w g L e := by
  obtain ⟨A, c, h, _⟩ := h
  exact ⟨A, c, h⟩
theorem RdB.blk {B g : Nat} {w : World} {L : List UInt8} {e : Int} (h : RdB B w g L e) : ∃ v, Blk w g 80 #[v, .int .i64 e] := by
  obtain ⟨A, c, h, _⟩ := h
  exact ⟨_, h.blk⟩
theorem RdB.keep {B g : Nat} {w w' : World} {L : List UInt8} {e : Int} {S : Nat → Prop} (h : RdB B w g L e) (k : Keeps S w w') (hg : ¬ S g) (hS : ∀ i, i < B → ¬ S i) : RdB B w' g L e := by
  obtain ⟨A, c, h, hA⟩ := h
  refine ⟨A, c, ⟨(k.block g h.blk.lt hg).trans h.blk, fun hL => ?_, h.cap, h.nil, h.lim⟩, hA⟩
  obtain ⟨b, off, h1, h2, h3, h4⟩ := h.src hL
  obtain ⟨b', off', h1', hb⟩ := hA hL
  obtain ⟨rfl, rfl⟩ : b = b' ∧ off = off' := by rw [h1] at h1'; simpa using h1'
  exact ⟨b, off, h1, Nat.lt_of_lt_of_le h2 k.size, h3, fun i x hi => (k.cell (p := ⟨b, off + i, none⟩) h2 (hS b hb)).trans (h4 i x hi)⟩
theorem RdB.below {B g : Nat} {w w' : World} {L : List UInt8} {e : Int} (h : RdB B w g L e) (k : Below w.heap.size w w') : RdB B w' g L e := by
  obtain ⟨A, c, h, hA⟩ := h
  exact ⟨A, c, h.below k, hA⟩
theorem RdB.far {B g q : Nat} {w : World} {L : List UInt8} {e n0 : Int} (h : RdB B w g L e) (hq : Blk w q 3 #[.int .i64 n0]) (u : Value) : RdB B (w.setCell ⟨q, 0, none⟩ u) g L e := by
  obtain ⟨A, c, h, hA⟩ := h
  exact ⟨A, c, h.far hq u, hA⟩
theorem num_step_badB (B g : Nat) (L : List UInt8) (most : Int) (w : World) (h : RdB B w g L 0) {E : Int} (hE : numE L most = E) (h0 : E ≠ 0) :
    Calls Try.prog 56 #[.pointer (some ⟨g, 0, none⟩), .func (.func 57) #[] #[.pointer (some ⟨w.heap.size, 0, none⟩), .pointer (some ⟨w.heap.size + 1 + 1, 0, none⟩), .pointer (some ⟨w.heap.size + 1, 0, none⟩)]]
      (((w.alloc (.cells #[.pointer (some ⟨g, 0, none⟩)] 61)).alloc (.cells #[.int .i64 most] 3)).alloc (.cells #[.int .i64 0] 3))
      fun e w' => e = .returned (.bool false) ∧ RdB B w' g [] E ∧ (∃ u : Int, Blk w' (w.heap.size + 1 + 1) 3 #[.int .i64 u]) ∧ Keeps (gq g (w.heap.size + 1 + 1)) (three w g most 0) w' := by
  obtain ⟨A, c, h, hA⟩ := h
  exact (step_bad _ _ _ g A c L 0 most _ (h.below (three_below w g most 0)) (three_p w g most 0) (three_q w g most 0) (three_m w g most 0) (by omega) hE h0).mono fun e w' ⟨h1, h2, h3, h4⟩ => ⟨h1, ⟨_, _, h2, fun h9 => absurd rfl h9⟩, h3, h4⟩
theorem num_step_okB (B g : Nat) (L : List UInt8) (most : Int) (w : World) (h : RdB B w g L 0) (hE : numE L most = 0) :
    Calls Try.prog 56 #[.pointer (some ⟨g, 0, none⟩), .func (.func 57) #[] #[.pointer (some ⟨w.heap.size, 0, none⟩), .pointer (some ⟨w.heap.size + 1 + 1, 0, none⟩), .pointer (some ⟨w.heap.size + 1, 0, none⟩)]]
      (((w.alloc (.cells #[.pointer (some ⟨g, 0, none⟩)] 61)).alloc (.cells #[.int .i64 most] 3)).alloc (.cells #[.int .i64 0] 3))
      fun e w' => e = .returned (.bool true) ∧ RdB B w' g (L.drop (numS L)) 0 ∧ Blk w' (w.heap.size + 1 + 1) 3 #[.int .i64 (numN L)] ∧ Keeps (gq g (w.heap.size + 1 + 1)) (three w g most 0) w' := by
  obtain ⟨A, c, h, hA⟩ := h
  obtain ⟨b, off, rfl, -⟩ := h.src (numE_pos hE).1
  obtain ⟨b', off', h1', hb⟩ := hA (numE_pos hE).1
  obtain ⟨rfl, rfl⟩ : b = b' ∧ off = off' := by simpa using h1'
  exact (step_ok _ _ _ g b off c L 0 most _ (h.below (three_below w g most 0)) (three_p w g most 0) (three_q w g most 0) (three_m w g most 0) (by omega) hE rfl).mono fun e w' ⟨h1, ⟨_, _, h2⟩, h3, h4⟩ => ⟨h1, ⟨_, _, h2, fun _ => ⟨_, _, rfl, hb⟩⟩, h3, h4⟩
set_option maxHeartbeats 400000 in
theorem numB_c (B g : Nat) (L : List UInt8) (most : Int) (w : World) (h : RdB B w g L 0) :
    Calls Try.prog 51 #[.pointer (some ⟨g, 0, none⟩), .int .i64 most] w fun e w' => e = .returned (.int .i64 (numV L most)) ∧ RdB B w' g (numL L most) (numE L most) ∧ Keeps (fun i => i = g) w w' := by
  have HH := Lib.hid h
  clear h
  by_cases hE : numE L most = 0
  · have HE := Lib.hid hE
    clear hE
    go_enter Try.func51, Try.ntmps51
    go_wp2_with (go_at_call 56; with_reducible refine (num_step_okB B g L most w HH.out HE.out).mono ?_; rintro e w1 ⟨rfl, hR, hq, hK⟩; have c0 : w1.cell? ⟨w.heap.size + 1 + 1, 0, none⟩ = some (.int .i64 (numN L)) := (hq.cell 0).trans rfl; have f0 := hq.frozen 0)
    have hv : numV L most = numN L := if_pos HE.out
    have hl : numL L most = L.drop (numS L) := if_pos HE.out
    have cc := ((hq.set_ 0 (.int .i64 (numN L))).cell 0)
    refine bodyPost_ret (v := .int .i64 (numN L)) (by simp [results, Try.results51, go_sem, cc] <;> rfl) rfl ⟨by rw [hv], ?_, keeps_three (hK.setCell (.inl (.inr rfl)) _)⟩
    rw [hl, HE.out]
    exact hR.far hq _
  · obtain ⟨E, hEE⟩ : ∃ E, numE L most = E := ⟨_, rfl⟩
    have h0 : E ≠ 0 := by rw [← hEE]; exact hE
    have HE := Lib.hid hEE
    clear hE hEE
    go_enter Try.func51, Try.ntmps51
    go_wp2_with (go_at_call 56; with_reducible refine (num_step_badB B g L most w HH.out HE.out h0).mono ?_; rintro e w1 ⟨rfl, hR, ⟨u1, hq⟩, hK⟩; have c0 : w1.cell? ⟨w.heap.size + 1 + 1, 0, none⟩ = some (.int .i64 u1) := (hq.cell 0).trans rfl; have f0 := hq.frozen 0)
    have hv : numV L most = 0 := if_neg (by rw [HE.out]; exact h0)
    have hl : numL L most = [] := if_neg (by rw [HE.out]; exact h0)
    have cc := ((hq.set_ 0 (.int .i64 0)).cell 0)
    refine bodyPost_ret (v := .int .i64 0) (by simp [results, Try.results51, go_sem, cc] <;> rfl) rfl ⟨by rw [hv], ?_, keeps_three (hK.setCell (.inl (.inr rfl)) _)⟩
    rw [hl, HE.out]
    exact hR.far hq _
/-- A reader's state: what is left, what was wrong. -/
abbrev RS := List UInt8 × Int
def rdN (s : RS) : Int := if s.2 = 0 then numV s.1 9007199254740991 else 0
def rdS (s : RS) : RS := if s.2 = 0 then (numL s.1 9007199254740991, numE s.1 9007199254740991) else s
def rdAt (s : RS) : Nat → RS
  | 0 => s
  | k + 1 => rdS (rdAt s k)
theorem keeps_belowg {w w' : World} {g : Nat} (k : Below w.heap.size w w') : Keeps (fun i => i = g) w w' := Keeps.of_below k
theorem one_c (B g : Nat) (s : RS) (w : World) (h : RdB B w g s.1 s.2) :
    Calls Try.prog 36 #[.agg #[.pointer (some ⟨g, 0, none⟩)]] w fun e w' => e = .returned (.int .i64 (rdN s)) ∧ RdB B w' g (rdS s).1 (rdS s).2 ∧ Keeps (fun i => i = g) w w' := by
  obtain ⟨L, e0⟩ := s
  have HB : Hid (Below w.heap.size w (w.alloc (.cells #[.pointer (some ⟨g, 0, none⟩)] 64))) := (Below.refl _ _).alloc (Nat.le_refl _) _
  have HH := Lib.hid (h.below HB.out)
  clear h
  by_cases he : e0 = 0
  · subst he
    have HN : Hid (rdN (L, 0) = numV L 9007199254740991) := if_pos rfl
    have HS : Hid (rdS (L, 0) = (numL L 9007199254740991, numE L 9007199254740991)) := if_pos rfl
    rw [HN.out, HS.out]
    go_enter Try.func36, Try.ntmps36
    go_wp2_with (go_at_call 51; with_reducible refine (numB_c B g L _ _ HH.out).mono ?_; rintro e w1 ⟨rfl, hR, hK⟩)
    go_ret
    exact ⟨rfl, hR, (Keeps.of_below HB.out).trans hK fun i hi => .inl hi⟩
  · have HN : Hid (rdN (L, e0) = 0) := if_neg he
    have HS : Hid (rdS (L, e0) = (L, e0)) := if_neg he
    rw [HN.out, HS.out]
    have HE := Lib.hid he
    clear he
    go_enter Try.func36, Try.ntmps36
    go_wp2_with (go_at_call 51; with_reducible refine (num_f g L _ e0 _ HH.out.e HE.out).mono ?_; rintro e w1 ⟨rfl, hB1⟩)
    go_ret
    exact ⟨rfl, HH.out.below hB1, Keeps.of_below (below_lift HB.out hB1 HB.out.size)⟩
end Go.Proofs.Ytekcokbpgpeepaa
