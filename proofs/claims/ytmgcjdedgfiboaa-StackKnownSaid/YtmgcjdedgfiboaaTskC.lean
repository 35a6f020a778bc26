/- Tasks in memory: slices.Clone; the program's stack made anew. -/
import Derived.Test.YtmgcjdedgfiboaaStkV
namespace Go.Proofs.Ytmgcjdedgfiboaa
set_option linter.unusedVariables false
open Go.RowKit

def tcell (d : Nat → Int) : List Value := [.int .i64 (d 0), .int .i64 (d 1), .int .i64 (d 2), .int .i64 (d 3), .int .i64 (d 4), .int .i64 (d 5), .int .i64 (d 6), .int .i64 (d 7)]
def tcs (D : Nat → Nat → Int) : Nat → List Value
  | 0 => []
  | n + 1 => tcs D n ++ tcell (D n)
theorem tcs_len (D : Nat → Nat → Int) : ∀ n, (tcs D n).length = n * 8
  | 0 => rfl
  | n + 1 => by rw [tcs, List.length_append, tcs_len D n]; simp [tcell]; omega
theorem tcell_at (d : Nat → Int) {j : Nat} (hj : j < 8) : (tcell d)[j]? = some (.int .i64 (d j)) := by
  rcases (by omega : j = 0 ∨ j = 1 ∨ j = 2 ∨ j = 3 ∨ j = 4 ∨ j = 5 ∨ j = 6 ∨ j = 7) with rfl | rfl | rfl | rfl | rfl | rfl | rfl | rfl <;> rfl
theorem tcs_at (D : Nat → Nat → Int) : ∀ {n i j : Nat}, i < n → j < 8 → (tcs D n)[i * 8 + j]? = some (.int .i64 (D i j))
  | n + 1, i, j, hi, hj => by
    rw [tcs]
    by_cases h : i < n
    · rw [List.getElem?_append_left (by rw [tcs_len]; omega)]
      exact tcs_at D h hj
    · obtain rfl : i = n := by omega
      rw [List.getElem?_append_right (by rw [tcs_len]; omega), tcs_len, show i * 8 + j - i * 8 = j by omega]
      exact tcell_at _ hj
theorem tcs_one (D : Nat → Nat → Int) : ∀ n, ∀ u ∈ tcs D n, u.oneCell' = true
  | 0, u, h => by cases h
  | n + 1, u, h => by
    rcases List.mem_append.1 h with h | h
    · exact tcs_one D n u h
    · simp only [tcell, List.mem_cons, List.not_mem_nil, or_false] at h
      rcases h with rfl | rfl | rfl | rfl | rfl | rfl | rfl | rfl <;> rfl
theorem task_info : (Try.prog.info? 48).map (fun i => (i.zero, i.size, i.bytes)) = some (some (.agg #[.int .i64 0, .int .i64 0, .int .i64 0, .int .i64 0, .int .i64 0, .int .i64 0, .int .i64 0, .int .i64 0]), 8, 64) := by kernel_rfl
theorem add_at' (b off k : Nat) : (⟨b, off, none⟩ : Addr).add k = ⟨b, off + k, none⟩ := add_at b off k
theorem RowT.get {w : World} {b o : Nat} {d : Nat → Int} (h : RowT w b o d) {j : Nat} (hj : j < 8) : w.cell? ⟨b, o + j, none⟩ = some (.int .i64 (d j)) := by
  obtain ⟨h0, h1, h2, h3, h4, h5, h6, h7⟩ := h
  rcases (by omega : j = 0 ∨ j = 1 ∨ j = 2 ∨ j = 3 ∨ j = 4 ∨ j = 5 ∨ j = 6 ∨ j = 7) with rfl | rfl | rfl | rfl | rfl | rfl | rfl | rfl <;> assumption
theorem RowT.of {w : World} {b o : Nat} {d : Nat → Int} (h : ∀ j, j < 8 → w.cell? ⟨b, o + j, none⟩ = some (.int .i64 (d j))) : RowT w b o d :=
  ⟨h 0 (by omega), h 1 (by omega), h 2 (by omega), h 3 (by omega), h 4 (by omega), h 5 (by omega), h 6 (by omega), h 7 (by omega)⟩
theorem TasksAt.src {w : World} {A : Option Addr} {n c : Nat} {D : Nat → Nat → Int} (h : TasksAt w A n D) (hA : A = none → c = 0) : SrcR w 8 A n c (tcs D n) := by
  refine ⟨tcs_len D n, ?_⟩
  by_cases hn : 0 < n
  · obtain ⟨b, off, rfl, hb, hr⟩ := h hn
    refine .inr ⟨_, rfl, fun j u hu => ?_⟩
    have hj : j < n * 8 := by rw [← tcs_len D n]; exact (List.getElem?_eq_some_iff.1 hu).1
    have h1 := tcs_at D (n := n) (i := j / 8) (j := j % 8) (by omega) (by omega)
    rw [show j / 8 * 8 + j % 8 = j by omega, hu] at h1
    rw [add_at', h1]
    have := (hr (j / 8) (by omega)).get (j := j % 8) (by omega)
    rwa [show off + j / 8 * 8 + j % 8 = off + j by omega] at this
  · obtain rfl : n = 0 := by omega
    cases A with
    | none => exact .inl ⟨rfl, rfl, hA rfl⟩
    | some ad => exact .inr ⟨ad, rfl, fun j u hu => by simp [tcs] at hu⟩
theorem tasks_of {w : World} {g n : Nat} {cur : Array Value} {D : Nat → Nat → Int} (hk : Blk w g 48 cur) (ht : cur.toList.take (n * 8) = tcs D n) : TasksAt w (some ⟨g, 0, none⟩) n D := fun _ => by
  refine ⟨g, 0, rfl, hk.lt, fun i hi => RowT.of fun j hj => ?_⟩
  rw [Nat.zero_add]
  exact (hk.cell _).trans (take_at ht (tcs_at D hi hj))
/-- Tasks of the call's own. -/
def TkF (B : Nat) (w : World) (TA : Option Addr) : Prop := ∀ a, TA = some a → ∃ cs, B ≤ a.block ∧ Blk w a.block 48 cs
theorem clonet_some (a : Addr) (n c : Nat) (D : Nat → Nat → Int) (w : World) (hn : n ≤ 100000) (h : TasksAt w (some a) n D) :
    Calls Try.prog 25 #[.slice (some a) n c] w fun e w' => ∃ TA tc, e = .returned (.slice TA n tc) ∧ TasksAt w' TA n D ∧ TkF w.heap.size w' TA ∧ Below w.heap.size w w' := by
  obtain ⟨i0, hi0, hz0, hz1, hz2⟩ := info_parts' task_info
  have hsl : Hid (SrcR (w.alloc (.cells #[] 48)) 8 (some a) n c (tcs D n)) := (h.below ((Below.refl _ _).alloc (Nat.le_refl _) _)).src (fun e => by cases e)
  clear h
  have he := fun W => Lib.run_eql_slice_nil (P := Try.prog) W 22 48 (some a) n c 0 0 Try.underlying22
  go_enter Try.func25, Try.ntmps25
  go_wp2_with (at_builtin; refine wpList_append_src rfl _ _ _ rfl w.heap.size 48 i0 _ 8 64 Try.underlying22 hi0 hz0 hz1 hz2 rfl (by omega) (.slice (some ⟨w.heap.size, 0, none⟩) 0 0) 0 [] rfl (own_empty w _ _ _ (Nat.le_refl _)) _ _ _ (tcs D n) rfl hsl.out (tcs_one D n) (by simp only [maxLen]; omega) (by omega) (by simp) ?_; intro v1 w1 hown hg hfr)
  go_ret
  have hown2 : w1.ownsRow w.heap.size 48 8 v1 n (tcs D n) := by simpa using hown
  obtain ⟨A1, c1, rfl, k1, k2, k3, k4⟩ := own_form hown2
  refine ⟨A1, c1, rfl, fun hn0 => ?_, fun a1 ha1 => ?_, below_grown ((Below.refl _ _).alloc (Nat.le_refl _) _) hg (by simp) (by simp [Value.ownBlock])⟩
  · cases A1 with
    | none => have := (k3 rfl).1; omega
    | some a1 =>
      obtain ⟨g, cur, rfl, hg2, hk, hs, ht⟩ := k4 a1 rfl
      exact tasks_of hk ht hn0
  · obtain ⟨g, cur, rfl, hg2, hk, hs, ht⟩ := k4 a1 ha1
    exact ⟨cur, hg2, hk⟩
theorem clonet_none (c : Nat) (w : World) :
    Calls Try.prog 25 #[.slice none 0 c] w fun e w' => e = .returned (.slice none 0 0) ∧ w = w' := by
  have he := fun W => Lib.run_eql_slice_nil (P := Try.prog) W 22 48 none 0 c 0 0 Try.underlying22
  go_enter Try.func25, Try.ntmps25
  go_wp2
  go_ret
  exact ⟨rfl, rfl⟩
theorem clonet_c (A : Option Addr) (n c : Nat) (D : Nat → Nat → Int) (w : World) (hn : n ≤ 100000) (h : TasksAt w A n D) :
    Calls Try.prog 25 #[.slice A n c] w fun e w' => ∃ TA tc, e = .returned (.slice TA n tc) ∧ TasksAt w' TA n D ∧ TkF w.heap.size w' TA ∧ Below w.heap.size w w' := by
  cases A with
  | some a => exact clonet_some a n c D w hn h
  | none =>
    obtain rfl : n = 0 := by
      rcases Nat.eq_zero_or_pos n with h0 | h0
      · exact h0
      · obtain ⟨b, off, e, _⟩ := h h0
        cases e
    refine (clonet_none c w).mono ?_
    rintro e w' ⟨rfl, rfl⟩
    exact ⟨none, 0, rfl, TasksAt.zero, (fun _ h9 => absurd h9 (by simp)), Below.refl _ _⟩
theorem snew_ok (A : Option Addr) (n c : Nat) (D : Nat → Nat → Int) (w : World) (hn : n ≤ 4) (h : TasksAt w A n D) :
    Calls Try.prog 8 #[.slice A n c] w fun e w' => ∃ s TA tc, e = .returned (.tuple #[.pointer (some ⟨s, 0, none⟩), .int .i64 0]) ∧ StA w.heap.size w' s TA n tc D (.slice none 0 0) [] ∧ Below w.heap.size w w' := by
  have HC := Lib.hid (clonet_c A n c D w (by omega) h)
  clear h
  have h4 : ¬ (4 : Int) < (n : Nat) := by omega
  have h5 : decide ((4 : Int) < (n : Nat)) = false := decide_eq_false h4
  have h6 : ¬ 4 < n := by omega
  go_enter Try.func8, Try.ntmps8
  go_wp2_with (go_at_call 25; with_reducible refine HC.out.mono ?_; rintro e w1 ⟨TA, tc, rfl, hT, hF, hB⟩)
  go_ret2
  have hX : Below w1.heap.size w1 (w1.alloc (.cells (sCells TA n tc (.slice none 0 0)) 57)) := (Below.refl _ _).alloc (Nat.le_refl _) _
  refine ⟨w1.heap.size, TA, tc, rfl, ⟨Blk.new _ _ _, hB.size, EntS.nil, by simp, hn, hT.below hX, fun a ha => ?_⟩, hB.alloc hB.size _⟩
  obtain ⟨cs, h1, h2⟩ := hF a ha
  exact ⟨cs, h1, h2.below hX h2.lt⟩
end Go.Proofs.Ytmgcjdedgfiboaa
