/- act.spans, act.Check, escapementref16.Check. -/
import Derived.Test.YtomadlopljfcmaaActS
import Derived.Deep.RegionHeld3
import Derived.Deep.DeepCutAuto
namespace Go.Proofs.Ytomadlopljfcmaa
set_option linter.unusedVariables false
open Go.RowKit

def spanV (lo hi : Int) : Value := .agg #[.int .i64 lo, .int .i64 hi]
def ent (k : Int) (v : Value) (c : Nat) : MapEntry := { key := .int .i64 k, val := v, born := c }
def spanE : Array MapEntry := #[ent 1 (spanV 1 64) 0, ent 8 (spanV 1 64) 1, ent 2 (spanV 0 7) 2, ent 6 (spanV 0 7) 3, ent 7 (spanV 0 7) 4, ent 3 (spanV 0 0) 5, ent 4 (spanV 0 0) 6, ent 5 (spanV 0 0) 7]

theorem spans_c (w : World) : Calls Try.prog 62 #[] w fun e w' =>
    ∃ r, e = .returned (.map (some r)) ∧ w'.heap[r]? = some (.map spanE 8) ∧ Below w.heap.size w w' := by
  have hmm := @run_makeMap Try.prog
  go_enter Try.func62, Try.ntmps62
  go_wp2_with (refine wpList_insert_last rfl 84 3 82 _ _ _ rfl Try.underlying84 Try.underlying3 _ _ _ _ _ _ rfl (by simp) rfl rfl rfl ?_)
  go_ret
  refine ⟨_, rfl, ?_, (((Below.refl _ _).alloc (Nat.le_refl _) _).alloc (by simp) _).alloc (by simp; omega) _⟩
  have h := heap_alloc_new ((w.alloc (.cells #[.int .i64 1, .int .i64 64] 82)).alloc (.cells #[.int .i64 0, .int .i64 7] 82)) (.map spanE 8)
  have hs : ((w.alloc (.cells #[.int .i64 1, .int .i64 64] 82)).alloc (.cells #[.int .i64 0, .int .i64 7] 82)).heap.size = w.heap.size + 1 + 1 := by simp
  rw [hs] at h
  exact h
theorem zero_span (w : World) : (zeroValue 82).run Try.prog w = .ok (spanV 0 0) w := by kernel_rfl
/-- What is looked up in it. -/
theorem lookup_span (k : Int) (r : Nat) (w : World) (hm : w.heap[r]? = some (.map spanE 8)) :
    (Instr.lookup 84 (.map (some r)) (.int .i64 k) true).run Try.prog w = .ok (.tuple #[.agg #[.int .i64 (spanLo k), .int .i64 (spanHi k)], .bool (spanIs k)]) w := by
  by_cases h : 1 ≤ k ∧ k ≤ 8
  · have hk : k = 1 ∨ k = 2 ∨ k = 3 ∨ k = 4 ∨ k = 5 ∨ k = 6 ∨ k = 7 ∨ k = 8 := by omega
    rcases hk with rfl | rfl | rfl | rfl | rfl | rfl | rfl | rfl
    all_goals exact run_lookup_now Try.underlying84 Try.underlying3 w r spanE 8 _ _ _ hm rfl
  · have h1 : spanIs k = false := by simp [spanIs]; omega
    have h2 : spanLo k = 0 := by unfold spanLo; rw [if_neg (by omega)]
    have h3 : spanHi k = 0 := by unfold spanHi; rw [if_neg (by omega), if_neg (by omega)]
    rw [h1, h2, h3]
    refine run_lookup_none Try.underlying84 Try.underlying3 w r spanE 8 k _ zero_span hm ?_
    have e : ∀ j : Int, 1 ≤ j → j ≤ 8 → (k == j) = false := fun j _ _ => by simp; omega
    simp [spanE, ent, Instr.findNow, Instr.sameNow, e 1 (by omega) (by omega), e 2 (by omega) (by omega), e 3 (by omega) (by omega), e 4 (by omega) (by omega), e 5 (by omega) (by omega), e 6 (by omega) (by omega), e 7 (by omega) (by omega), e 8 (by omega) (by omega)]
theorem heap_lt {w : World} {r : Nat} {o : Obj} (h : w.heap[r]? = some o) : r < w.heap.size := (Array.getElem?_eq_some_iff.1 h).1
set_option maxHeartbeats 1600000 in
theorem check_a (x : OpV) (w : World) :
    Calls Try.prog 48 #[.agg #[.int .i64 x.k, .int .i64 x.n, .string x.s]] w fun e w' => e = .returned (.int .i64 (checkE x)) ∧ Below w.heap.size w w' := by
  have hl := lookup_span x.k
  have e0 : (w.alloc (.cells #[.int .i64 x.k, .int .i64 x.n, .string x.s] 29)).cell? ⟨w.heap.size, 0, none⟩ = some (.int .i64 x.k) := by rw [World.cell?_alloc_at _ _ _ _ rfl]; rfl
  have e0n : (w.alloc (.cells #[.int .i64 x.k, .int .i64 x.n, .string x.s] 29)).cell? ⟨w.heap.size, 1, none⟩ = some (.int .i64 x.n) := by rw [World.cell?_alloc_at _ _ _ _ rfl]; rfl
  have e0s : (w.alloc (.cells #[.int .i64 x.k, .int .i64 x.n, .string x.s] 29)).cell? ⟨w.heap.size, 2, none⟩ = some (.string x.s) := by rw [World.cell?_alloc_at _ _ _ _ rfl]; rfl
  have E0 := Lib.hid e0
  have E1 := Lib.hid e0n
  have E2 := Lib.hid e0s
  clear e0 e0n e0s
  go_enter Try.func48, Try.ntmps48
  go_upto_region 1 with fail
  go_cut [3, 4] (fun s3 s4 wx => ∃ p : Nat, s3 = .pointer (some ⟨p, 0, none⟩) ∧ s4 = .bool (spanIs x.k) ∧ wx.cell? ⟨p, 0, none⟩ = some (.int .i64 (spanLo x.k)) ∧ wx.cell? ⟨p, 1, none⟩ = some (.int .i64 (spanHi x.k)) ∧ Below (w.alloc (.cells #[.int .i64 x.k, .int .i64 x.n, .string x.s] 29)).heap.size (w.alloc (.cells #[.int .i64 x.k, .int .i64 x.n, .string x.s] 29)) wx)
  case first =>
    have e0 := E0.out
    go_region_held3 (fun w' => w'.cell? ⟨w.heap.size, 0, none⟩ = some (.int .i64 x.k)) (go_keep)
      (first
        | (go_at_call 62; with_reducible refine (spans_c (World.drew (World.alloc (World.alloc w _) _))).mono ?_; rintro e w1 ⟨r, rfl, hm, hB1⟩;
           have hm2 : ∀ o, (w1.alloc o).heap[r]? = some (.map spanE 8) := fun o => (Below.heap_alloc w1 o r (heap_lt hm)).trans hm; have e1 := (hB1.cell (p := ⟨w.heap.size, 0, none⟩) (by simp; omega)).trans (by simp : _ = some (.int .i64 x.k));
           have c0 := (hB1.cell (p := ⟨w.heap.size + 1, 0, none⟩) (by simp)).trans (by simp : _ = some (.int .i64 0));
           have c1 := (hB1.cell (p := ⟨w.heap.size + 1, 1, none⟩) (by simp)).trans (by simp : _ = some (.int .i64 0));
           have f0 := (hB1.frozen (p := ⟨w.heap.size + 1, 0, none⟩) (by simp)).trans (by simp : _ = false);
           have f1 := (hB1.frozen (p := ⟨w.heap.size + 1, 1, none⟩) (by simp)).trans (by simp : _ = false))
        | (go_at_call 62; refine (spans_c _).mono ?_; rintro e w1 ⟨r, rfl, hm, hB1⟩; have hm2 : ∀ o, (w1.alloc o).heap[r]? = some (.map spanE 8) := fun o => (Below.heap_alloc w1 o r (heap_lt hm)).trans hm; have e1 := (hB1.cell (p := ⟨w.heap.size, 0, none⟩) (by simp)).trans e0))

    all_goals (go_wp2_with fail; go_meet)
    · exact ⟨_, rfl, rfl, by simp, by simp, (below_of_drew hB1).alloc (below_of_drew hB1).size _⟩
    · exact ⟨_, rfl, rfl, by simp, by simp, (below_of_drew hB1).alloc (below_of_drew hB1).size _⟩
    · have hb := (below_of_drew hB1)
      have h0 : Below (w.alloc (.cells #[.int .i64 x.k, .int .i64 x.n, .string x.s] 29)).heap.size (w.alloc (.cells #[.int .i64 x.k, .int .i64 x.n, .string x.s] 29)) w1 := ((Below.refl _ _).alloc (Nat.le_refl _) _).trans (hb.mono (by simp))
      refine ⟨_, rfl, rfl, ?_, ?_, (h0.setCell (by simp) _).setCell (by simp) _⟩
      · rw [World.cell?_setCell_other _ _ _ _ (by simp)]
        exact World.cell?_setCell_same _ _ _ c0
      · exact World.cell?_setCell_same _ _ _ ((World.cell?_setCell_other _ _ _ _ (by simp)).trans c1)
  case rest =>
    obtain ⟨p, rfl, rfl, h0, h1, hB⟩ := hcut
    have e0 := (hB.cell (p := ⟨w.heap.size, 0, none⟩) (by simp)).trans E0.out
    have e1 := (hB.cell (p := ⟨w.heap.size, 1, none⟩) (by simp)).trans E1.out
    have e2 := (hB.cell (p := ⟨w.heap.size, 2, none⟩) (by simp)).trans E2.out
    clear hl
    have hBw : Below w.heap.size w wc := ((Below.refl _ _).alloc (Nat.le_refl _) _).trans (hB.mono (by simp))
    clear hB
    go_wp2
    all_goals go_ret
    all_goals refine ⟨ret_int ?_, hBw⟩
    all_goals first
      | exact checkE_2 x (.inl (by simpa using ‹¬ spanIs x.k = true›))
      | exact checkE_2 x (.inr (.inl ‹x.n < spanLo x.k›))
      | exact checkE_2 x (.inr (.inr (.inl ‹spanHi x.k < x.n›)))
      | (have ht := text16 x.k ‹_›; exact checkE_2 x (.inr (.inr (.inr (by omega)))))
      | (have ht := text0 x.k ‹_›; exact checkE_2 x (.inr (.inr (.inr (by omega)))))
      | (have ht := text16 x.k ‹_›; exact checkE_0 x ‹spanIs x.k = true› (by omega) (by omega) (by omega))
      | (have ht := text0 x.k ‹_›; exact checkE_0 x ‹spanIs x.k = true› (by omega) (by omega) (by omega))
end Go.Proofs.Ytomadlopljfcmaa
