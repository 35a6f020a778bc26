/- job.New. -/
import Derived.Test.YtomadlopljfcmaaJobE
namespace Go.Proofs.Ytomadlopljfcmaa
set_option linter.unusedVariables false
open Go.RowKit

def newX (t : TV) (now : Int) : JV := ⟨t, now + t.d, 0, 0, 0, 0, false⟩
def jnewE (t : TV) (L : List OpV) (now : Int) : Int := if mayB t = false ∨ now < 0 then 2 else if 1099511627776 < now then 10 else newE L
/-- The three blocks that New makes ahead of its look at the task. -/
def nw (w : World) (t : TV) : World := ((w.alloc (.cells #[.int .i64 t.p, .int .i64 t.d, .int .i64 t.b, .int .i64 t.ls, .int .i64 t.l, .int .i64 t.g, .int .i64 t.lg, .int .i64 t.lk] 23)).alloc (.cells #[.int .i64 t.p, .int .i64 t.d, .int .i64 t.b, .int .i64 t.ls, .int .i64 t.l, .int .i64 t.g, .int .i64 t.lg, .int .i64 t.lk] 23)).alloc (.cells #[.int .i64 0] 3)
theorem nw_below (w : World) (t : TV) : Below w.heap.size w (nw w t) := (((Below.refl _ _).alloc (Nat.le_refl _) _).alloc (by simp) _).alloc (by simp; omega) _
theorem nw_0 (w : World) (t : TV) : Blk (nw w t) w.heap.size 23 (tCells t) := ((Blk.new w _ _).alloc _).alloc _
theorem nw_1 (w : World) (t : TV) : Blk (nw w t) (w.heap.size + 1) 23 (tCells t) := by
  have := (Blk.new (w.alloc (.cells #[.int .i64 t.p, .int .i64 t.d, .int .i64 t.b, .int .i64 t.ls, .int .i64 t.l, .int .i64 t.g, .int .i64 t.lg, .int .i64 t.lk] 23)) 23 (tCells t)).alloc (.cells #[.int .i64 0] 3)
  rwa [show (w.alloc (.cells #[.int .i64 t.p, .int .i64 t.d, .int .i64 t.b, .int .i64 t.ls, .int .i64 t.l, .int .i64 t.g, .int .i64 t.lg, .int .i64 t.lk] 23)).heap.size = w.heap.size + 1 by simp] at this
theorem nw_2 (w : World) (t : TV) : Blk (nw w t) (w.heap.size + 1 + 1) 3 #[.int .i64 0] := by
  have := Blk.new ((w.alloc (.cells #[.int .i64 t.p, .int .i64 t.d, .int .i64 t.b, .int .i64 t.ls, .int .i64 t.l, .int .i64 t.g, .int .i64 t.lg, .int .i64 t.lk] 23)).alloc (.cells #[.int .i64 t.p, .int .i64 t.d, .int .i64 t.b, .int .i64 t.ls, .int .i64 t.l, .int .i64 t.g, .int .i64 t.lg, .int .i64 t.lk] 23)) 3 #[.int .i64 0]
  rwa [show ((w.alloc (.cells #[.int .i64 t.p, .int .i64 t.d, .int .i64 t.b, .int .i64 t.ls, .int .i64 t.l, .int .i64 t.g, .int .i64 t.lg, .int .i64 t.lk] 23)).alloc (.cells #[.int .i64 t.p, .int .i64 t.d, .int .i64 t.b, .int .i64 t.ls, .int .i64 t.l, .int .i64 t.g, .int .i64 t.lg, .int .i64 t.lk] 23)).heap.size = w.heap.size + 1 + 1 by simp] at this
theorem Blk.on' {w w' : World} {g : Nat} {t : TypeId} {cs : Array Value} (h : Blk w g t cs) (hb : Below w.heap.size w w') : Blk w' g t cs := h.below hb h.lt
theorem check_n (w : World) (t : TV) {v : Bool} (hv : mayB t = v) :
    Calls Try.prog 28 #[.slice (some ⟨w.heap.size + 1, 0, none⟩) 1 1, .slice (some ⟨w.heap.size + 1 + 1, 0, none⟩) 1 1] (((w.alloc (.cells #[.int .i64 t.p, .int .i64 t.d, .int .i64 t.b, .int .i64 t.ls, .int .i64 t.l, .int .i64 t.g, .int .i64 t.lg, .int .i64 t.lk] 23)).alloc (.cells #[.int .i64 t.p, .int .i64 t.d, .int .i64 t.b, .int .i64 t.ls, .int .i64 t.l, .int .i64 t.g, .int .i64 t.lg, .int .i64 t.lk] 23)).alloc (.cells #[.int .i64 0] 3)) fun e w' => e = .returned (.int .i64 (if v then 0 else 2)) ∧ Below w.heap.size w w' ∧ Blk w' w.heap.size 23 (tCells t) :=
  (check_t _ _ _ t _ (nw_1 w t) ((nw_2 w t).cell 0 |>.trans rfl) hv).mono fun e w' ⟨h1, h2⟩ => ⟨h1, below_lift (nw_below w t) h2 (nw_below w t).size, (nw_0 w t).below h2 (nw_0 w t).lt⟩
theorem check_no (w : World) (t : TV) (hv : mayB t = false) :
    Calls Try.prog 28 #[.slice (some ⟨w.heap.size + 1, 0, none⟩) 1 1, .slice (some ⟨w.heap.size + 1 + 1, 0, none⟩) 1 1] (((w.alloc (.cells #[.int .i64 t.p, .int .i64 t.d, .int .i64 t.b, .int .i64 t.ls, .int .i64 t.l, .int .i64 t.g, .int .i64 t.lg, .int .i64 t.lk] 23)).alloc (.cells #[.int .i64 t.p, .int .i64 t.d, .int .i64 t.b, .int .i64 t.ls, .int .i64 t.l, .int .i64 t.g, .int .i64 t.lg, .int .i64 t.lk] 23)).alloc (.cells #[.int .i64 0] 3)) fun e w' => e = .returned (.int .i64 2) ∧ Below w.heap.size w w' ∧ Blk w' w.heap.size 23 (tCells t) := check_n w t hv
theorem check_yes (w : World) (t : TV) (hv : mayB t = true) :
    Calls Try.prog 28 #[.slice (some ⟨w.heap.size + 1, 0, none⟩) 1 1, .slice (some ⟨w.heap.size + 1 + 1, 0, none⟩) 1 1] (((w.alloc (.cells #[.int .i64 t.p, .int .i64 t.d, .int .i64 t.b, .int .i64 t.ls, .int .i64 t.l, .int .i64 t.g, .int .i64 t.lg, .int .i64 t.lk] 23)).alloc (.cells #[.int .i64 t.p, .int .i64 t.d, .int .i64 t.b, .int .i64 t.ls, .int .i64 t.l, .int .i64 t.g, .int .i64 t.lg, .int .i64 t.lk] 23)).alloc (.cells #[.int .i64 0] 3)) fun e w' => e = .returned (.int .i64 0) ∧ Below w.heap.size w w' ∧ Blk w' w.heap.size 23 (tCells t) := check_n w t hv
set_option maxHeartbeats 400000 in
theorem jnew_bad (t : TV) (A : Option Addr) (n c : Nat) (L : List OpV) (now : Int) (w : World) (hl : n ≤ 65536) (h : n = L.length ∧ OpsR w A L) {v : Int} (hv : jnewE t L now = v) (h0 : v ≠ 0) :
    Calls Try.prog 6 #[.agg (tCells t), .slice A n c, .int .i64 now] w fun e w' => e = .returned (.tuple #[.pointer none, .int .i64 v]) ∧ Below w.heap.size w w' := by
  unfold tCells
  have HH := Lib.hid h
  clear h
  unfold jnewE at hv
  by_cases h1 : mayB t = false
  · rw [if_pos (.inl h1)] at hv
    subst hv
    have hC := check_no w t h1
    clear h1
    go_enter Try.func6, Try.ntmps6
    go_wp2_with (first
      | (go_at_call 28; with_reducible refine hC.mono ?_; rintro e w1 ⟨rfl, hb1, hT1⟩))
    go_ret2
    exact ⟨rfl, hb1⟩
  · have h1' : mayB t = true := by simpa using h1
    have hC := check_yes w t h1'
    by_cases h2 : now < 0
    · rw [if_pos (.inr h2)] at hv
      subst hv
      clear h1 h1'
      go_enter Try.func6, Try.ntmps6
      go_wp2_with (first
        | (go_at_call 28; with_reducible refine hC.mono ?_; rintro e w1 ⟨rfl, hb1, hT1⟩))
      go_ret2
      exact ⟨rfl, hb1⟩
    · rw [if_neg (by rintro (h | h); exact h1 h; exact h2 h)] at hv
      by_cases h3 : 1099511627776 < now
      · rw [if_pos h3] at hv
        subst hv
        clear h1 h1'
        go_enter Try.func6, Try.ntmps6
        go_wp2_with (first
          | (go_at_call 28; with_reducible refine hC.mono ?_; rintro e w1 ⟨rfl, hb1, hT1⟩))
        go_ret2
        exact ⟨rfl, hb1⟩
      · rw [if_neg h3] at hv
        have hN : ∀ W : World, Below w.heap.size w W → Calls Try.prog 29 #[.slice A n c] W fun e w' => e = .returned (.tuple #[.pointer none, .int .i64 v]) ∧ Below W.heap.size W w' := fun W hW => by
          have hlen := HH.out.1
          subst hlen
          exact (newbad_s hl (HH.out.2.below hW) hv h0 (Below.refl _ _) (Nat.le_refl _)).mono fun e w' ⟨k1, k2, k3⟩ => ⟨k1, k3⟩
        have hvb : (v != 0) = true := by simp [h0]
        clear h1 h1' hv
        go_enter Try.func6, Try.ntmps6
        go_wp2_with (first
          | (go_at_call 28; with_reducible refine hC.mono ?_; rintro e w1 ⟨rfl, hb1, hT1⟩)
          | (go_at_call 29; with_reducible refine (hN _ hb1).mono ?_; rintro e w2 ⟨rfl, hb2⟩))
        go_ret2
        exact ⟨rfl, below_lift hb1 hb2 hb1.size⟩
theorem jnew_parts (t : TV) (L : List OpV) (now : Int) (h : jnewE t L now = 0) : mayB t = true ∧ 0 ≤ now ∧ now ≤ 1099511627776 ∧ newE L = 0 := by
  unfold jnewE at h
  split at h
  · omega
  · rename_i h1
    split at h
    · omega
    · rename_i h2
      refine ⟨?_, by omega, by omega, h⟩
      cases hm : mayB t with
      | true => rfl
      | false => exact absurd (.inl hm) h1
set_option maxHeartbeats 400000 in
theorem jnew_ok (B : Nat) (t : TV) (A : Option Addr) (n c : Nat) (L : List OpV) (now : Int) (w0 w : World) (hB : Below B w0 w) (hs : B ≤ w.heap.size) (h : n = L.length ∧ OpsR w A L) (hA : A = none → c = 0) (hv : jnewE t L now = 0) :
    Calls Try.prog 6 #[.agg (tCells t), .slice A n c, .int .i64 now] w fun e w' => ∃ j g b, e = .returned (.tuple #[.pointer (some ⟨j, 0, none⟩), .int .i64 0]) ∧ JobS w.heap.size w' j g b (newX t now) L ∧ Below w.heap.size w w' := by
  unfold tCells
  have HH := Lib.hid h
  obtain ⟨h1, h2, h3, h4⟩ := jnew_parts t L now hv
  have hd : 1 ≤ t.d ∧ t.d ≤ 64 := by simp [mayB] at h1; omega
  obtain ⟨hd1, hd2⟩ := hd
  have hC := check_yes w t h1
  have hN : ∀ W : World, Below w.heap.size w W → Calls Try.prog 29 #[.slice A n c] W fun e w' => ∃ g b, e = .returned (.tuple #[.pointer (some ⟨g, 0, none⟩), .int .i64 0]) ∧ Std w.heap.size w' g b L ∧ Below w.heap.size w w' ∧ Below W.heap.size W w' := fun W hW => by
    have hlen := HH.out.1
    subst hlen
    exact (new_s (HH.out.2.below hW) hA h4 hW hW.size).mono fun e w' ⟨g, b, k1, k2, k3, k4, k5, k6⟩ => ⟨g, b, k1, k2, k3, k4⟩
  clear h hv h1 h4
  go_enter Try.func6, Try.ntmps6
  go_wp2_with (first
    | (go_at_call 28; with_reducible refine hC.mono ?_; rintro e w1 ⟨rfl, hb1, hT1⟩)
    | (go_at_call 29; with_reducible refine (hN _ hb1).mono ?_; rintro e w2 ⟨g, b, rfl, hS2, hB2, hb2⟩; obtain ⟨q0, q1, q2, q3, q4, q5, q6, q7⟩ := tc w2 _ _ t (hT1.on' hb2)))
  go_ret2
  refine ⟨w2.heap.size, g, b, rfl, ⟨Blk.new _ _ _, hS2.alloc _, hB2.size, ?_⟩, hB2.alloc hB2.size _⟩
  have := hS2.gl
  have := hS2.bl
  rintro (h | h) <;> omega
end Go.Proofs.Ytomadlopljfcmaa
