/- made: a task that may be asked, out of any. -/
import Derived.Test.YtomadlopljfcmaaJobW
import Derived.Test.YtomadlopljfcmaaBring
namespace Go.Proofs.Ytomadlopljfcmaa
set_option linter.unusedVariables false
open Go.RowKit

structure GoodT (t : TV) : Prop where
  p1 : 1 ≤ t.p
  p2 : t.p ≤ 64
  d1 : 1 ≤ t.d
  d2 : t.d ≤ t.p
  b1 : 1 ≤ t.b
  b2 : t.b ≤ t.d
  l1 : 0 ≤ t.l
  l2 : t.l ≤ t.b
  g1 : 1 ≤ t.lg
  g2 : t.lg ≤ t.b
  k1 : 0 ≤ t.lk
  k2 : t.lk ≤ 3
theorem bring_b (i n : Int) (hn : 0 < n) (hn' : n ≤ 9223372036854775807) : ∃ v, 0 ≤ v ∧ v < n ∧ ∀ W, Calls Try.prog 21 #[.int .i64 i, .int .i64 n] W fun e w' => e = .returned (.int .i64 v) ∧ W = w' :=
  ⟨i % n, Int.emod_nonneg i (by omega), Int.emod_lt_of_pos i hn, fun W => bring_c i n W hn hn'⟩
set_option maxHeartbeats 400000 in
theorem made_t (t : TV) (w : World) : ∃ t', GoodT t' ∧ Calls Try.prog 20 #[.agg (tCells t)] w fun e w' => e = .returned (.agg (tCells t')) ∧ Below w.heap.size w w' := by
  obtain ⟨v1, a1, a1', h1⟩ := bring_b t.p 64 (by omega) (by omega)
  obtain ⟨v2, a2, a2', h2⟩ := bring_b t.d (1 + v1) (by omega) (by omega)
  obtain ⟨v3, a3, a3', h3⟩ := bring_b t.b (1 + v2) (by omega) (by omega)
  obtain ⟨v4, a4, a4', h4⟩ := bring_b t.l (1 + v3 + 1) (by omega) (by omega)
  obtain ⟨v5, a5, a5', h5⟩ := bring_b t.lg (1 + v3) (by omega) (by omega)
  obtain ⟨v6, a6, a6', h6⟩ := bring_b t.lk 4 (by omega) (by omega)
  refine ⟨⟨1 + v1, 1 + v2, 1 + v3, t.ls, v4, t.g, 1 + v5, v6⟩, ⟨by simp; omega, by simp; omega, by simp; omega, by simp; omega, by simp; omega, by simp; omega, by simp; omega, by simp; omega, by simp; omega, by simp; omega, by simp; omega, by simp; omega⟩, ?_⟩
  unfold tCells
  go_enter Try.func20, Try.ntmps20
  go_wp2_with (first
    | (go_at_call 21; with_reducible refine (h6 _).mono ?_; rintro e w1 ⟨rfl, rfl⟩)
    | (go_at_call 21; with_reducible refine (h5 _).mono ?_; rintro e w1 ⟨rfl, rfl⟩)
    | (go_at_call 21; with_reducible refine (h4 _).mono ?_; rintro e w1 ⟨rfl, rfl⟩)
    | (go_at_call 21; with_reducible refine (h3 _).mono ?_; rintro e w1 ⟨rfl, rfl⟩)
    | (go_at_call 21; with_reducible refine (h2 _).mono ?_; rintro e w1 ⟨rfl, rfl⟩)
    | (go_at_call 21; with_reducible refine (h1 _).mono ?_; rintro e w1 ⟨rfl, rfl⟩))
  refine bodyPost_ret (v := .agg #[.int .i64 (1 + v1), .int .i64 (1 + v2), .int .i64 (1 + v3), .int .i64 t.ls, .int .i64 v4, .int .i64 t.g, .int .i64 (1 + v5), .int .i64 v6]) (by simp [results, Try.results20, go_sem] <;> rfl) rfl ⟨rfl, ?_⟩
  exact ((Below.refl _ _).alloc (Nat.le_refl _) _).alloc (by simp) _
end Go.Proofs.Ytomadlopljfcmaa
