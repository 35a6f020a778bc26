/- The document's Tasks of one task; its New. -/
import Derived.Test.YtomadlopljfcmaaDocF
namespace Go.Proofs.Ytomadlopljfcmaa
set_option linter.unusedVariables false
open Go.RowKit

theorem task08_c (t : TV) (w : World) {v : Bool} (hv : mayB t = v) :
    Calls Try.prog 53 #[.agg #[.int .i64 t.p, .int .i64 t.d, .int .i64 t.b, .int .i64 t.ls, .int .i64 t.l, .int .i64 t.g, .int .i64 t.lg, .int .i64 t.lk]] w fun e w' => e = .returned (.bool v) ∧ Below w.heap.size w w' := by
  have HB : Hid (Below w.heap.size w (w.alloc (.cells #[.int .i64 t.p, .int .i64 t.d, .int .i64 t.b, .int .i64 t.ls, .int .i64 t.l, .int .i64 t.g, .int .i64 t.lg, .int .i64 t.lk] 23))) := (Below.refl _ _).alloc (Nat.le_refl _) _
  by_cases h1 : 1 ≤ t.p
  · by_cases h2 : t.p ≤ 64
    · by_cases h3 : 1 ≤ t.d
      · by_cases h4 : t.d ≤ t.p
        · by_cases h5 : 1 ≤ t.b
          · by_cases h6 : t.b ≤ t.d
            · skip
              have HV : Hid (v = true) := by show v = true; rw [← hv]; unfold mayB; simp; omega
              clear hv
              go_enter Try.func53, Try.ntmps53
              go_wp2_with fail
              go_ret
              exact ⟨by rw [HV.out]; rfl, HB.out⟩
            · skip
              have HV : Hid (v = false) := by show v = false; rw [← hv]; unfold mayB; simp; omega
              clear hv
              go_enter Try.func53, Try.ntmps53
              go_wp2_with fail
              go_ret
              exact ⟨by rw [HV.out]; rfl, HB.out⟩
          · skip
            have HV : Hid (v = false) := by show v = false; rw [← hv]; unfold mayB; simp; omega
            clear hv
            go_enter Try.func53, Try.ntmps53
            go_wp2_with fail
            go_ret
            exact ⟨by rw [HV.out]; rfl, HB.out⟩
        · skip
          have HV : Hid (v = false) := by show v = false; rw [← hv]; unfold mayB; simp; omega
          clear hv
          go_enter Try.func53, Try.ntmps53
          go_wp2_with fail
          go_ret
          exact ⟨by rw [HV.out]; rfl, HB.out⟩
      · skip
        have HV : Hid (v = false) := by show v = false; rw [← hv]; unfold mayB; simp; omega
        clear hv
        go_enter Try.func53, Try.ntmps53
        go_wp2_with fail
        go_ret
        exact ⟨by rw [HV.out]; rfl, HB.out⟩
    · skip
      have HV : Hid (v = false) := by show v = false; rw [← hv]; unfold mayB; simp; omega
      clear hv
      go_enter Try.func53, Try.ntmps53
      go_wp2_with fail
      go_ret
      exact ⟨by rw [HV.out]; rfl, HB.out⟩
  · skip
    have HV : Hid (v = false) := by show v = false; rw [← hv]; unfold mayB; simp; omega
    clear hv
    go_enter Try.func53, Try.ntmps53
    go_wp2_with fail
    go_ret
    exact ⟨by rw [HV.out]; rfl, HB.out⟩
theorem tasks08_c (a : Nat) (ty : TypeId) (t : TV) (w : World) (h : Blk w a ty (tCells t)) {v : Bool} (hv : mayB t = v) :
    Calls Try.prog 37 #[.slice (some ⟨a, 0, none⟩) 1 1] w fun e w' => e = .returned (.bool v) ∧ Below w.heap.size w w' := by
  have HBk := Lib.hid h
  have hT : ∀ W, Calls Try.prog 53 #[.agg #[.int .i64 t.p, .int .i64 t.d, .int .i64 t.b, .int .i64 t.ls, .int .i64 t.l, .int .i64 t.g, .int .i64 t.lg, .int .i64 t.lk]] W fun e w' => e = .returned (.bool v) ∧ Below W.heap.size W w' := fun W => task08_c t W hv
  clear h hv
  cases v with
  | false =>
    go_enter Try.func37, Try.ntmps37
    go_wp2_with fail
    go_loopw [3] (fun y wr => y = .int .i64 0 ∧ wr = w) (fun y _ => 4 - (intOf y).toNat)
    case atStart => exact ⟨rfl, rfl⟩
    case round =>
      obtain ⟨rfl, rfl⟩ := hrel
      obtain ⟨q0, q1, q2, q3, q4, q5, q6, q7⟩ := tc wr _ _ t HBk.out
      go_wp2_with (go_at_call 53; with_reducible refine (hT _).mono ?_; rintro e w1 ⟨rfl, hb1⟩)
      go_ret
      exact ⟨rfl, hb1⟩
  | true =>
    go_enter Try.func37, Try.ntmps37
    go_wp2_with fail
    go_loopw [3] (fun y wr => ∃ k : Nat, k ≤ 1 ∧ y = .int .i64 k ∧ Below w.heap.size w wr) (fun y _ => 1 - (intOf y).toNat)
    case atStart => exact ⟨0, by omega, rfl, Below.refl _ _⟩
    case round =>
      obtain ⟨k, hk, rfl, hB⟩ := hrel
      rcases (by omega : k = 0 ∨ k = 1) with rfl | rfl
      · obtain ⟨q0, q1, q2, q3, q4, q5, q6, q7⟩ := tc wr _ _ t (HBk.out.below hB HBk.out.lt)
        go_wp2_with (go_at_call 53; with_reducible refine (hT _).mono ?_; rintro e w1 ⟨rfl, hb1⟩)
        go_roundw
        case rel => exact ⟨1, by omega, rfl, below_lift hB hb1 hB.size⟩
        case measure => simp [intOf]
      · go_wp2_with fail
        go_ret
        exact ⟨rfl, hB⟩
theorem tasks_n (w : World) (t : TV) {v : Bool} (hv : mayB t = v) :
    Calls Try.prog 37 #[.slice (some ⟨w.heap.size + 1, 0, none⟩) 1 1] ((w.alloc (.cells #[.int .i64 t.p, .int .i64 t.d, .int .i64 t.b, .int .i64 t.ls, .int .i64 t.l, .int .i64 t.g, .int .i64 t.lg, .int .i64 t.lk] 23)).alloc (.cells #[.int .i64 t.p, .int .i64 t.d, .int .i64 t.b, .int .i64 t.ls, .int .i64 t.l, .int .i64 t.g, .int .i64 t.lg, .int .i64 t.lk] 23)) fun e w' => e = .returned (.bool v) ∧ Below w.heap.size w w' ∧ Blk w' w.heap.size 23 (tCells t) := by
  have h0 : Below w.heap.size w ((w.alloc (.cells #[.int .i64 t.p, .int .i64 t.d, .int .i64 t.b, .int .i64 t.ls, .int .i64 t.l, .int .i64 t.g, .int .i64 t.lg, .int .i64 t.lk] 23)).alloc (.cells #[.int .i64 t.p, .int .i64 t.d, .int .i64 t.b, .int .i64 t.ls, .int .i64 t.l, .int .i64 t.g, .int .i64 t.lg, .int .i64 t.lk] 23)) := ((Below.refl _ _).alloc (Nat.le_refl _) _).alloc (by simp) _
  have hb0 := (Blk.new w 23 (tCells t)).alloc (.cells #[.int .i64 t.p, .int .i64 t.d, .int .i64 t.b, .int .i64 t.ls, .int .i64 t.l, .int .i64 t.g, .int .i64 t.lg, .int .i64 t.lk] 23)
  have hb1 := Blk.new (w.alloc (.cells #[.int .i64 t.p, .int .i64 t.d, .int .i64 t.b, .int .i64 t.ls, .int .i64 t.l, .int .i64 t.g, .int .i64 t.lg, .int .i64 t.lk] 23)) 23 (tCells t)
  rw [show (w.alloc (.cells #[.int .i64 t.p, .int .i64 t.d, .int .i64 t.b, .int .i64 t.ls, .int .i64 t.l, .int .i64 t.g, .int .i64 t.lg, .int .i64 t.lk] 23)).heap.size = w.heap.size + 1 by simp] at hb1
  exact (tasks08_c _ _ t _ hb1 hv).mono fun e w' ⟨k1, k2⟩ => ⟨k1, below_lift h0 k2 h0.size, hb0.below k2 hb0.lt⟩
set_option maxHeartbeats 400000 in
theorem mnew_bad (t : TV) (A : Option Addr) (n c : Nat) (L : List OpV) (now : Int) (w : World) (hl : n ≤ 65536) (h : n = L.length ∧ OpsR w A L) {v : Int} (hv : jnewE t L now = v) (h0 : v ≠ 0) :
    Calls Try.prog 22 #[.agg (tCells t), .slice A n c, .int .i64 now] w fun e w' => e = .returned (.tuple #[.pointer none, .int .i64 v]) ∧ Below w.heap.size w w' := by
  unfold tCells
  have HH := Lib.hid h
  clear h
  unfold jnewE at hv
  by_cases h1 : mayB t = false
  · rw [if_pos (.inl h1)] at hv
    subst hv
    have hC := tasks_n w t h1
    clear h1
    go_enter Try.func22, Try.ntmps22
    go_wp2_with (go_at_call 37; with_reducible refine hC.mono ?_; rintro e w1 ⟨rfl, hb1, hT1⟩)
    go_ret2
    exact ⟨rfl, hb1⟩
  · have h1' : mayB t = true := by simpa using h1
    have hC := tasks_n w t h1'
    by_cases h2 : now < 0
    · rw [if_pos (.inr h2)] at hv
      subst hv
      clear h1 h1'
      go_enter Try.func22, Try.ntmps22
      go_wp2_with (go_at_call 37; with_reducible refine hC.mono ?_; rintro e w1 ⟨rfl, hb1, hT1⟩)
      go_ret2
      exact ⟨rfl, hb1⟩
    · rw [if_neg (by rintro (h | h); exact h1 h; exact h2 h)] at hv
      by_cases h3 : 1099511627776 < now
      · rw [if_pos h3] at hv
        subst hv
        clear h1 h1'
        go_enter Try.func22, Try.ntmps22
        go_wp2_with (go_at_call 37; with_reducible refine hC.mono ?_; rintro e w1 ⟨rfl, hb1, hT1⟩)
        go_ret2
        exact ⟨rfl, hb1⟩
      · rw [if_neg h3] at hv
        have hN : ∀ W : World, Below w.heap.size w W → Calls Try.prog 38 #[.slice A n c] W fun e w' => e = .returned (.tuple #[.pointer none, .int .i64 v]) ∧ Below W.heap.size W w' := fun W hW => by
          have hlen := HH.out.1
          subst hlen
          exact (newbadr_s hl (HH.out.2.below hW) hv h0 (Below.refl _ _) (Nat.le_refl _)).mono fun e w' ⟨k1, k2, k3⟩ => ⟨k1, k3⟩
        have hvb : (v != 0) = true := by simp [h0]
        clear h1 h1' hv
        go_enter Try.func22, Try.ntmps22
        go_wp2_with (first
          | (go_at_call 37; with_reducible refine hC.mono ?_; rintro e w1 ⟨rfl, hb1, hT1⟩)
          | (go_at_call 38; with_reducible refine (hN _ hb1).mono ?_; rintro e w2 ⟨rfl, hb2⟩))
        go_ret2
        exact ⟨rfl, below_lift hb1 hb2 hb1.size⟩
set_option maxHeartbeats 400000 in
theorem mnew_ok (t : TV) (A : Option Addr) (n c : Nat) (L : List OpV) (now : Int) (w : World) (h : n = L.length ∧ OpsR w A L) (hA : A = none → c = 0) (hv : jnewE t L now = 0) :
    Calls Try.prog 22 #[.agg (tCells t), .slice A n c, .int .i64 now] w fun e w' => ∃ j g b, e = .returned (.tuple #[.pointer (some ⟨j, 0, none⟩), .int .i64 0]) ∧ JobM w.heap.size w' j g b (newX t now) L ∧ Below w.heap.size w w' := by
  unfold tCells
  have HH := Lib.hid h
  obtain ⟨h1, h2, h3, h4⟩ := jnew_parts t L now hv
  have hd : 1 ≤ t.d ∧ t.d ≤ 64 := by simp [mayB] at h1; omega
  obtain ⟨hd1, hd2⟩ := hd
  have hC := tasks_n w t h1
  have hN : ∀ W : World, Below w.heap.size w W → Calls Try.prog 38 #[.slice A n c] W fun e w' => ∃ g b, e = .returned (.tuple #[.pointer (some ⟨g, 0, none⟩), .int .i64 0]) ∧ StdR w.heap.size w' g b L ∧ Below w.heap.size w w' ∧ Below W.heap.size W w' := fun W hW => by
    have hlen := HH.out.1
    subst hlen
    exact (newr_s (HH.out.2.below hW) hA h4 hW hW.size).mono fun e w' ⟨g, b, k1, k2, k3, k4, k5, k6⟩ => ⟨g, b, k1, k2, k3, k4⟩
  clear h hv h1 h4
  go_enter Try.func22, Try.ntmps22
  go_wp2_with (first
    | (go_at_call 37; with_reducible refine hC.mono ?_; rintro e w1 ⟨rfl, hb1, hT1⟩)
    | (go_at_call 38; with_reducible refine (hN _ hb1).mono ?_; rintro e w2 ⟨g, b, rfl, hS2, hB2, hb2⟩; obtain ⟨q0, q1, q2, q3, q4, q5, q6, q7⟩ := tc w2 _ _ t (hT1.on' hb2)))
  go_ret2
  refine ⟨w2.heap.size, g, b, rfl, ⟨Blk.new _ _ _, hS2.alloc _, hB2.size, ?_⟩, hB2.alloc hB2.size _⟩
  have := hS2.gl
  have := hS2.bl
  rintro (h | h) <;> omega
end Go.Proofs.Ytomadlopljfcmaa
