/- demand.Check of one task; job.New. -/
import Derived.Test.YtomadlopljfcmaaJobD
namespace Go.Proofs.Ytomadlopljfcmaa
set_option linter.unusedVariables false
open Go.RowKit

def mayB (t : TV) : Bool := decide (1 ≤ t.b ∧ t.b ≤ t.d ∧ t.d ≤ t.p ∧ t.p ≤ 64)
theorem tc (w : World) (a : Nat) (ty : TypeId) (t : TV) (h : Blk w a ty (tCells t)) : w.cell? ⟨a, 0, none⟩ = some (.int .i64 t.p) ∧ w.cell? ⟨a, 1, none⟩ = some (.int .i64 t.d) ∧ w.cell? ⟨a, 2, none⟩ = some (.int .i64 t.b) ∧ w.cell? ⟨a, 3, none⟩ = some (.int .i64 t.ls) ∧ w.cell? ⟨a, 4, none⟩ = some (.int .i64 t.l) ∧ w.cell? ⟨a, 5, none⟩ = some (.int .i64 t.g) ∧ w.cell? ⟨a, 6, none⟩ = some (.int .i64 t.lg) ∧ w.cell? ⟨a, 7, none⟩ = some (.int .i64 t.lk) :=
  ⟨(h.cell 0).trans rfl, (h.cell 1).trans rfl, (h.cell 2).trans rfl, (h.cell 3).trans rfl, (h.cell 4).trans rfl, (h.cell 5).trans rfl, (h.cell 6).trans rfl, (h.cell 7).trans rfl⟩
theorem may_c (t : TV) (w : World) {v : Bool} (hv : mayB t = v) :
    Calls Try.prog 60 #[.agg (tCells t)] w fun e w' => e = .returned (.bool v) ∧ Below w.heap.size w w' := by
  unfold tCells
  have HB : Hid (Below w.heap.size w (w.alloc (.cells #[.int .i64 t.p, .int .i64 t.d, .int .i64 t.b, .int .i64 t.ls, .int .i64 t.l, .int .i64 t.g, .int .i64 t.lg, .int .i64 t.lk] 23))) := (Below.refl _ _).alloc (Nat.le_refl _) _
  by_cases h1 : 1 ≤ t.b
  · by_cases h2 : t.b ≤ t.d
    · by_cases h3 : t.d ≤ t.p
      · by_cases h4 : t.p ≤ 64
        · skip
          have HV : Hid (v = true) := by show v = true; rw [← hv]; unfold mayB; simp; omega
          clear hv
          go_enter Try.func60, Try.ntmps60
          go_wp2_with fail
          go_ret
          exact ⟨by rw [HV.out]; rfl, HB.out⟩
        · skip
          have HV : Hid (v = false) := by show v = false; rw [← hv]; unfold mayB; simp; omega
          clear hv
          go_enter Try.func60, Try.ntmps60
          go_wp2_with fail
          go_ret
          exact ⟨by rw [HV.out]; rfl, HB.out⟩
      · skip
        have HV : Hid (v = false) := by show v = false; rw [← hv]; unfold mayB; simp; omega
        clear hv
        go_enter Try.func60, Try.ntmps60
        go_wp2_with fail
        go_ret
        exact ⟨by rw [HV.out]; rfl, HB.out⟩
    · skip
      have HV : Hid (v = false) := by show v = false; rw [← hv]; unfold mayB; simp; omega
      clear hv
      go_enter Try.func60, Try.ntmps60
      go_wp2_with fail
      go_ret
      exact ⟨by rw [HV.out]; rfl, HB.out⟩
  · skip
    have HV : Hid (v = false) := by show v = false; rw [← hv]; unfold mayB; simp; omega
    clear hv
    go_enter Try.func60, Try.ntmps60
    go_wp2_with fail
    go_ret
    exact ⟨by rw [HV.out]; rfl, HB.out⟩
theorem all1_c (t : TV) (w : World) {v : Bool} (hv : mayB t = v) :
    Calls Try.prog 59 #[.agg (tCells t)] w fun e w' => e = .returned (.bool (!v)) ∧ Below w.heap.size w w' := by
  have hm := fun W => may_c t W hv
  unfold tCells at hm ⊢
  have HB : Hid (Below w.heap.size w (w.alloc (.cells #[.int .i64 t.p, .int .i64 t.d, .int .i64 t.b, .int .i64 t.ls, .int .i64 t.l, .int .i64 t.g, .int .i64 t.lg, .int .i64 t.lk] 23))) := (Below.refl _ _).alloc (Nat.le_refl _) _
  clear hv
  go_enter Try.func59, Try.ntmps59
  go_wp2_with (go_at_call 60; with_reducible refine (hm _).mono ?_; rintro e w1 ⟨rfl, hb1⟩)
  go_ret
  exact ⟨rfl, below_lift HB.out hb1 HB.out.size⟩
theorem chk1_c (w : World) : Calls Try.prog 44 #[.int .i64 0] w fun e w' => e = .returned (.bool false) ∧ w = w' := by
  go_enter Try.func44, Try.ntmps44
  go_wp2
  go_ret
  exact ⟨rfl, rfl⟩
set_option maxHeartbeats 400000 in
theorem idxI_c (a : Nat) (w : World) (h : w.cell? ⟨a, 0, none⟩ = some (.int .i64 0)) :
    Calls Try.prog 57 #[.slice (some ⟨a, 0, none⟩) 1 1, .func (.func 44) #[] #[]] w fun e w' => e = .returned (.int .i64 (-1)) ∧ w = w' := by
  go_enter Try.func57, Try.ntmps57
  go_wp2_with fail
  go_loopw [8] (fun y wr => ∃ k : Nat, k ≤ 1 ∧ y = .int .i64 k ∧ wr = w) (fun y _ => 1 - (intOf y).toNat)
  case atStart => exact ⟨0, by omega, rfl, rfl⟩
  case round =>
    obtain ⟨k, hk, rfl, rfl⟩ := hrel
    rcases (by omega : k = 0 ∨ k = 1) with rfl | rfl
    · go_wp2_with (go_at_call 44; with_reducible refine (chk1_c _).mono ?_; rintro e w1 ⟨rfl, rfl⟩)
      go_roundw
      case rel => exact ⟨1, by omega, rfl, trivial⟩
      case measure => simp [intOf]
    · go_wp2_with fail
      go_ret
      exact ⟨rfl, rfl⟩
theorem conI_c (a : Nat) (w : World) (h : w.cell? ⟨a, 0, none⟩ = some (.int .i64 0)) :
    Calls Try.prog 43 #[.slice (some ⟨a, 0, none⟩) 1 1, .func (.func 44) #[] #[]] w fun e w' => e = .returned (.bool false) ∧ w = w' := by
  go_enter Try.func43, Try.ntmps43
  go_wp2_with (go_at_call 57; with_reducible refine (idxI_c a _ h).mono ?_; rintro e w1 ⟨rfl, rfl⟩)
  go_ret
  exact ⟨rfl, rfl⟩
set_option maxHeartbeats 400000 in
theorem idxT_c (a : Nat) (ty : TypeId) (t : TV) (w : World) (h : Blk w a ty (tCells t)) {v : Bool} (hv : mayB t = v) :
    Calls Try.prog 63 #[.slice (some ⟨a, 0, none⟩) 1 1, .func (.func 59) #[] #[]] w fun e w' => e = .returned (.int .i64 (if v then -1 else 0)) ∧ Below w.heap.size w w' := by
  have hA := fun W => all1_c t W hv
  unfold tCells at hA
  obtain ⟨q0, q1, q2, q3, q4, q5, q6, q7⟩ := tc w a ty t h
  have HH := Lib.hid h
  clear h hv
  cases v with
  | true =>
    go_enter Try.func63, Try.ntmps63
    go_wp2_with fail
    go_loopw [8] (fun y wr => ∃ k : Nat, k ≤ 1 ∧ y = .int .i64 k ∧ Below w.heap.size w wr) (fun y _ => 1 - (intOf y).toNat)
    case atStart => exact ⟨0, by omega, rfl, Below.refl _ _⟩
    case round =>
      clear q0 q1 q2 q3 q4 q5 q6 q7
      obtain ⟨k, hk, rfl, hB⟩ := hrel
      obtain ⟨q0, q1, q2, q3, q4, q5, q6, q7⟩ := tc wr a ty t (HH.out.below hB HH.out.lt)
      rcases (by omega : k = 0 ∨ k = 1) with rfl | rfl
      · go_wp2_with (go_at_call 59; with_reducible refine (hA _).mono ?_; rintro e w1 ⟨rfl, hb1⟩)
        go_roundw
        case rel => exact ⟨1, by omega, rfl, below_lift hB hb1 hB.size⟩
        case measure => simp [intOf]
      · go_wp2_with fail
        go_ret
        exact ⟨rfl, hB⟩
  | false =>
    go_enter Try.func63, Try.ntmps63
    go_wp2_with fail
    go_loopw [8] (fun y wr => y = .int .i64 0 ∧ wr = w) (fun y _ => 0)
    case atStart => exact ⟨rfl, rfl⟩
    case round =>
      obtain ⟨rfl, rfl⟩ := hrel
      go_wp2_with (go_at_call 59; with_reducible refine (hA _).mono ?_; rintro e w1 ⟨rfl, hb1⟩)
      go_ret
      exact ⟨rfl, hb1⟩
theorem conT_c (a : Nat) (ty : TypeId) (t : TV) (w : World) (h : Blk w a ty (tCells t)) {v : Bool} (hv : mayB t = v) :
    Calls Try.prog 58 #[.slice (some ⟨a, 0, none⟩) 1 1, .func (.func 59) #[] #[]] w fun e w' => e = .returned (.bool (!v)) ∧ Below w.heap.size w w' := by
  have hi := idxT_c a ty t w h hv
  clear h hv
  cases v with
  | true =>
    go_enter Try.func58, Try.ntmps58
    go_wp2_with (go_at_call 63; with_reducible refine hi.mono ?_; rintro e w1 ⟨rfl, hb1⟩)
    go_ret
    exact ⟨rfl, hb1⟩
  | false =>
    go_enter Try.func58, Try.ntmps58
    go_wp2_with (go_at_call 63; with_reducible refine hi.mono ?_; rintro e w1 ⟨rfl, hb1⟩)
    go_ret
    exact ⟨rfl, hb1⟩
theorem all_c (a : Nat) (ty : TypeId) (t : TV) (w : World) (h : Blk w a ty (tCells t)) {v : Bool} (hv : mayB t = v) :
    Calls Try.prog 45 #[.slice (some ⟨a, 0, none⟩) 1 1] w fun e w' => e = .returned (.bool v) ∧ Below w.heap.size w w' := by
  have hi := conT_c a ty t w h hv
  clear h hv
  go_enter Try.func45, Try.ntmps45
  go_wp2_with (go_at_call 58; with_reducible refine hi.mono ?_; rintro e w1 ⟨rfl, hb1⟩)
  go_ret
  exact ⟨by simp, hb1⟩
theorem check_t (a a' : Nat) (ty : TypeId) (t : TV) (w : World) (h : Blk w a ty (tCells t)) (h' : w.cell? ⟨a', 0, none⟩ = some (.int .i64 0)) {v : Bool} (hv : mayB t = v) :
    Calls Try.prog 28 #[.slice (some ⟨a, 0, none⟩) 1 1, .slice (some ⟨a', 0, none⟩) 1 1] w fun e w' => e = .returned (.int .i64 (if v then 0 else 2)) ∧ Below w.heap.size w w' := by
  have hi := all_c a ty t w h hv
  have hc := conI_c a' w h'
  clear h hv h'
  cases v with
  | true =>
    go_enter Try.func28, Try.ntmps28
    go_wp2_with (first
      | (go_at_call 43; with_reducible refine hc.mono ?_; rintro e w1 ⟨rfl, rfl⟩)
      | (go_at_call 45; with_reducible refine hi.mono ?_; rintro e w1 ⟨rfl, hb1⟩))
    go_ret
    exact ⟨rfl, hb1⟩
  | false =>
    go_enter Try.func28, Try.ntmps28
    go_wp2_with (first
      | (go_at_call 43; with_reducible refine hc.mono ?_; rintro e w1 ⟨rfl, rfl⟩)
      | (go_at_call 45; with_reducible refine hi.mono ?_; rintro e w1 ⟨rfl, hb1⟩))
    go_ret
    exact ⟨rfl, hb1⟩
end Go.Proofs.Ytomadlopljfcmaa
