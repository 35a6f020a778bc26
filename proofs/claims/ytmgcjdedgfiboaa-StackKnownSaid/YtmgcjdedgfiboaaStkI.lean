/- slices.Backward over a stack's entries, as an iterator. -/
import Derived.Test.YtmgcjdedgfiboaaStkD
import Derived.RangeFuncNested
import Derived.RangeFuncBound
import Derived.RangeFuncCalls
import Derived.RangeFuncLeaves
import Derived.RangeFuncBox
import Derived.Shelf.Abstract
import Derived.Shelf.RegionOpen
import Derived.WalkKit
import Derived.OwnWalkIn
import Derived.TacticsInMore
import Derived.LoopNIn
import Derived.LoopIn
namespace Go.Proofs.Ytmgcjdedgfiboaa
set_option linter.unusedVariables false
open Go.RowKit Go.Shelf
attribute [local go_sem] Oper.semAt_some

def upto {α : Type} (f : Nat → α) (k : Nat) : List α := (List.range k).map f
theorem upto_succ {α : Type} (f : Nat → α) (k : Nat) : upto f (k + 1) = upto f k ++ [f k] := by simp [upto, List.range_succ]
theorem upto_length {α : Type} (f : Nat → α) (k : Nat) : (upto f k).length = k := by simp [upto]
/-- What comes at round j. -/
def bkAt (E : List Ent) (j : Nat) : Nat × Ent := (E.length - 1 - j, (E[E.length - 1 - j]?).getD (0, 0))
def bkEnc (x : Nat × Ent) : Array Value := #[Value.int .i64 (x.1 : Int), .agg #[.int .i64 x.2.1, .int .i64 x.2.2]]
set_option maxRecDepth 100000 in
set_option maxHeartbeats 2000000 in
theorem back1_in (F : Fence) (n : Nat) (hF : F.fn 49) (hro : F.round = none) (hn : 1 ≤ n) (l Bs n₀ c : Nat) (A : Option Addr) (E : List Ent) (hE : E.length ≤ 1000000) (J Jx : List (Nat × Ent) → World → Prop)
    (hY : ∀ pre x W, J pre W → pre.length < E.length → YieldAt F (n - 1) Try.prog l (bkEnc x) W fun e W' =>
      (e = .returned (.bool true) ∧ J (pre ++ [x]) W' ∧ Below n₀ W W') ∨ (e = .returned (.bool false) ∧ Jx (pre ++ [x]) W'))
    (W : World) (hBs : W.cell? ⟨Bs, 0, none⟩ = some (.slice A E.length c)) (hBn : Bs < n₀) (hc : EntR W A E) (hcn : ∀ b off, A = some ⟨b, off, none⟩ → b < n₀) (h0 : J [] W) :
    CallsIn F n Try.prog 49 #[.func (.yield l) #[] #[], .pointer (some ⟨Bs, 0, none⟩)] W fun e W' => (∃ v, e = .returned v) ∧
      ((∃ ys, ys = upto (bkAt E) E.length ∧ J ys W') ∨ (∃ pre, (∃ k, k ≤ E.length ∧ pre = upto (bkAt E) k) ∧ Jx pre W')) := by
  have HC := Lib.hid hc
  have HN := Lib.hid hcn
  clear hc hcn
  refine callsIn_of_wp Try.func49 rfl hF ?_ hro
  simp only [Try.ntmps49, List.size_toArray, List.length_cons, List.length_nil, Nat.reduceAdd, Nat.reduceSub, Array.replicate_succ, Array.replicate_zero, List.push_toArray, List.append_toArray, List.nil_append, List.cons_append]
  gi_wp2
  gi_loopw [3] (fun i wr => ∃ k : Nat, k ≤ E.length ∧ i = .int .i64 ((E.length : Int) - 1 - k) ∧ J (upto (bkAt E) k) wr ∧ Below n₀ W wr)
    (fun i _ => (intOf i + 1).toNat)
  case atStart => exact ⟨0, Nat.zero_le _, by simp, h0, Below.refl _ _⟩
  case round =>
    obtain ⟨k, hk, rfl, hJs, hnx⟩ := hrel
    by_cases hlt : k < E.length
    · obtain ⟨i, hi⟩ : ∃ i : Nat, E.length - 1 - k = i := ⟨_, rfl⟩
      have hii : (E.length : Int) - 1 - k = (i : Int) := by omega
      obtain ⟨x, hx⟩ : ∃ x, E[i]? = some x := ⟨_, List.getElem?_eq_getElem (by omega)⟩
      obtain ⟨b, off, rfl, hbl, hcc⟩ := HC.out (by intro e; rw [e] at hx; cases hx)
      have hb0 := HN.out b off rfl
      obtain ⟨d1, d2⟩ := hcc i x hx
      have d1' := (hnx.cell (p := ⟨b, off + i * 2, none⟩) hb0).trans d1
      have d2' := (hnx.cell (p := ⟨b, off + i * 2 + 1, none⟩) hb0).trans d2
      have hBs' := (hnx.cell (p := ⟨Bs, 0, none⟩) hBn).trans hBs
      have hil : (i : Int) < (E.length : Nat) := by omega
      have hbk : bkAt E k = (i, x) := by unfold bkAt; rw [hi, hx]; rfl
      obtain ⟨fn, tmps, assign, body, hy, hR⟩ := hY _ (i, x) wr hJs (by rw [upto_length]; exact hlt)
      unfold bkEnc at hy
      dsimp only at hy
      rw [hii]
      have HBK := Lib.hid hbk
      have HII := Lib.hid hii
      clear d1 d2 hcc hx hbk hii hi
      gi_wp2
      refine hR.mono ?_
      rintro e W3 (⟨rfl, hJ3, hk3⟩ | ⟨rfl, hJx3⟩)
      · gi_wp2
        go_roundw
        case rel => exact ⟨k + 1, by omega, by congr 1; have := HII.out; omega, by rw [upto_succ, HBK.out]; exact hJ3, hnx.trans hk3⟩
        case measure => first | (simp [intOf]; done) | (simp [intOf]; omega)
      · gi_wp2
        refine bodyPost_ret (results_none rfl _ _ _) rfl ?_
        exact ⟨⟨_, rfl⟩, .inr ⟨_, ⟨k + 1, by omega, by rw [upto_succ, HBK.out]⟩, hJx3⟩⟩
    · obtain rfl : E.length = k := by omega
      have hii : (E.length : Int) - 1 - E.length = -1 := by omega
      rw [hii]
      gi_wp2
      go_end0
      exact ⟨⟨_, rfl⟩, .inl ⟨_, rfl, hJs⟩⟩
set_option maxHeartbeats 1000000 in
theorem back_in (F : Fence) (n : Nat) (hF : F.fn 43) (hro : F.round = none) (a : Option Addr) (len cap : Nat) (w : World) :
    CallsIn F n Try.prog 43 #[.slice a len cap] w fun e w' => e = .returned (.func (.func 49) #[] #[.pointer (some ⟨w.heap.size, 0, none⟩)]) ∧ w' = w.alloc (.cells #[.slice a len cap] 55) := by
  refine callsIn_of_wp Try.func43 rfl hF ?_ hro
  simp only [Try.ntmps43, List.size_toArray, List.length_cons, List.length_nil, Nat.reduceAdd, Nat.reduceSub, Array.replicate_succ, Array.replicate_zero, List.push_toArray, List.append_toArray, List.nil_append, List.cons_append]
  gi_wp2
  go_ret
  exact ⟨rfl, rfl⟩
theorem back_stops (F : Fence) (n : Nat) (hF : F.fn 49) (hro : F.round = none) (hn : 1 ≤ n) (Bs n₀ c : Nat) (A : Option Addr) (E : List Ent) (hE : E.length ≤ 1000000) (w : World) (hBs : Bs < n₀) (hn₀ : n₀ ≤ w.heap.size)
    (hc : w.cell? ⟨Bs, 0, none⟩ = some (.slice A E.length c)) (hI : EntR w A E) (hcn : ∀ b off, A = some ⟨b, off, none⟩ → b < n₀) :
    SeqStopsK F n Try.prog 49 #[.pointer (some ⟨Bs, 0, none⟩)] bkEnc (Below n₀) (fun ys => ys = upto (bkAt E) E.length)
      (fun pre => ∃ k, k ≤ E.length ∧ pre = upto (bkAt E) k) E.length w := fun l J Jx W hW _ _ hY h0 =>
  back1_in F n hF hro hn l Bs n₀ c A E hE J Jx hY W ((hW.cell (p := ⟨Bs, 0, none⟩) (by show Bs < w.heap.size; omega)).trans hc) hBs (hI.below hW) hcn h0
end Go.Proofs.Ytmgcjdedgfiboaa
