/- The program's row: Next, Done, Left, Rest. -/
import Derived.Test.YtomadlopljfcmaaRowB
namespace Go.Proofs.Ytomadlopljfcmaa
set_option linter.unusedVariables false
open Go.RowKit

theorem lt_of_cell0 {w : World} {b o : Nat} {v : Value} (h : w.cell? ⟨b, o, none⟩ = some v) : b < w.heap.size := by
  rcases Nat.lt_or_ge b w.heap.size with hlt | hge
  · exact hlt
  · simp [World.cell?, Array.getElem?_eq_none hge] at h
def headOf (L : List OpV) : OpV := L.headD emptyOp
def opV (x : OpV) : Value := .agg #[.int .i64 x.k, .int .i64 x.n, .string x.s]
theorem next_a (g b : Nat) (L : List OpV) (w : World) (h : RowA w g b L) :
    Calls Try.prog 35 #[.pointer (some ⟨g, 0, none⟩)] w fun e w' => e = .returned (.tuple #[opV (headOf L), .bool (!L.isEmpty)]) ∧ Below w.heap.size w w' := by
  obtain ⟨A, c, off, h1, h2, h3, h0⟩ := h
  have c0 := (h1.cell 0).trans (show _ = some (.slice A L.length c) from rfl)
  have c1 := (h1.cell 1).trans (show _ = some (.bool true) from rfl)
  have hgl := h1.lt
  have c1' : (w.alloc (.cells #[.int .i64 0, .int .i64 0, .string ByteArray.empty] 29)).cell? ⟨g, 1, none⟩ = some (.bool true) := (World.cell?_alloc_lt w _ _ hgl).trans c1
  cases L with
  | nil =>
    clear h0 h1 h2 h3
    go_enter Try.func35, Try.ntmps35
    go_wp2_with (go_at_call 50; refine (none_a g _ c1').mono ?_; rintro e w1 ⟨rfl, rfl⟩)
    refine bodyPost_ret (v := .tuple #[opV emptyOp, .bool false]) (by simp [results, Try.results35, go_sem, opV, emptyOp] <;> rfl) rfl ⟨rfl, ?_⟩
    exact (Below.refl _ _).alloc (Nat.le_refl _) _
  | cons x L =>
    obtain ⟨rfl, h4⟩ := h3 (by simp)
    have hx := h4.2 0 x rfl
    simp only [Nat.zero_mul, Nat.add_zero] at hx
    obtain ⟨o0, o1, o2⟩ := hx
    have hbl := lt_of_cell0 o0
    have hne : ((((x :: L).length : Nat) : Int) == 0) = false := by simp; omega
    have hpos : (0 : Int) < ((x :: L).length : Nat) := by simp <;> omega
    clear h0 h1 h2 h3 h4
    go_enter Try.func35, Try.ntmps35
    go_wp2_with (go_at_call 50; refine (none_a g _ c1').mono ?_; rintro e w1 ⟨rfl, rfl⟩)
    refine bodyPost_ret (v := .tuple #[opV x, .bool true]) (by simp [results, Try.results35, go_sem, opV] <;> rfl) rfl ⟨rfl, ?_⟩
    exact (Below.refl _ _).alloc (Nat.le_refl _) _
theorem done_a (g b : Nat) (L : List OpV) (w : World) (h : RowA w g b L) :
    Calls Try.prog 36 #[.pointer (some ⟨g, 0, none⟩)] w fun e w' => e = .returned (.bool L.isEmpty) ∧ Below w.heap.size w w' := by
  obtain ⟨A, c, off, h1, h2, h3, h0⟩ := h
  have c0 := (h1.cell 0).trans (show _ = some (.slice A L.length c) from rfl)
  have c1 := (h1.cell 1).trans (show _ = some (.bool true) from rfl)
  have hb : ((L.length : Int) == 0) = L.isEmpty := by cases L <;> simp <;> omega
  have HB := Lib.hid hb
  clear h0 h1 h2 h3 hb
  go_enter Try.func36, Try.ntmps36
  go_wp2_with (go_at_call 50; refine (none_a g _ c1).mono ?_; rintro e w1 ⟨rfl, rfl⟩)
  go_ret
  exact ⟨ret_bool HB.out, Below.refl _ _⟩
/-! ### Left -/
theorem left_take (L : List OpV) (k : Nat) (x : OpV) (h : L[k]? = some x) : leftOf (L.take (k + 1)) = leftOf (L.take k) + (if x.k = 1 then x.n else 0) := by
  induction L generalizing k with
  | nil => simp at h
  | cons y L ih =>
    cases k with
    | zero => simp at h; subst h; simp [leftOf]
    | succ k =>
      have := ih k (by simpa using h)
      simp only [List.take_succ_cons, leftOf]
      rw [this]; omega
theorem left_bounds (L : List OpV) (hL : ∀ x ∈ L, okOp x = true) : 0 ≤ leftOf L ∧ leftOf L ≤ 64 * L.length := by
  induction L with
  | nil => simp [leftOf]
  | cons y L ih =>
    have h1 := ih (fun x hx => hL x (by simp [hx]))
    have hy := hL y (by simp)
    simp only [leftOf, List.length_cons]
    split
    · rename_i hk
      have := ok_run y hy hk
      omega
    · omega
theorem left_take_bounds (L : List OpV) (hL : OkRow L) (k : Nat) : 0 ≤ leftOf (L.take k) ∧ leftOf (L.take k) ≤ 2048 := by
  have h := left_bounds (L.take k) (fun x hx => hL.2 x (List.mem_of_mem_take hx))
  have h1 := hL.1
  have : (L.take k).length ≤ 32 := by simp; omega
  omega
set_option maxHeartbeats 400000 in
theorem left_a (g b : Nat) (L : List OpV) (w : World) (h : RowA w g b L) (hok : OkRow L) :
    Calls Try.prog 32 #[.pointer (some ⟨g, 0, none⟩)] w fun e w' => e = .returned (.int .i64 (leftOf L)) ∧ Below w.heap.size w w' := by
  obtain ⟨A, c, off, h1, h2, h3, h0⟩ := h
  have c0 := (h1.cell 0).trans (show _ = some (.slice A L.length c) from rfl)
  have c1 := (h1.cell 1).trans (show _ = some (.bool true) from rfl)
  have HR := Lib.hid (RowA.reads (g := g) h3)
  have HK := Lib.hid hok
  have hl : L.length ≤ 32 := hok.1
  clear h0 h1 h2 h3 hok
  go_enter Try.func32, Try.ntmps32
  go_wp2_with (go_at_call 50; refine (none_a g _ c1).mono ?_; rintro e w1 ⟨rfl, rfl⟩)
  go_loopw [2, 12] (fun s x wr => ∃ k : Nat, k ≤ L.length ∧ x = .int .i64 k ∧ s = .int .i64 (leftOf (L.take k)) ∧ Below w.heap.size w wr) (fun _ x _ => L.length - (intOf x).toNat)
  case atStart => exact ⟨0, Nat.zero_le _, rfl, rfl, Below.refl _ _⟩
  case round =>
    obtain ⟨k, hk, rfl, rfl, hB⟩ := hrel
    by_cases hlt : k < L.length
    · obtain ⟨b, off, rfl, hb, hx⟩ := HR.out (by intro e; rw [e] at hlt; simp at hlt)
      obtain ⟨x, hxk⟩ : ∃ x, L[k]? = some x := ⟨_, List.getElem?_eq_getElem hlt⟩
      obtain ⟨o0, o1, o2⟩ := (hx k x hxk).keep (w' := wr) (fun p hp => hB.cell (by rw [hp]; exact hb))
      have HD := Lib.hid (left_take L k x hxk)
      have hbd := left_take_bounds L HK.out k
      have hok := HK.out.2 x (List.mem_of_getElem? hxk)
      clear hx hxk
      have hltI : (k : Int) < (L.length : Nat) := by omega
      have hbl : b < wr.heap.size := Nat.lt_of_lt_of_le hb hB.size
      by_cases hk1 : x.k = 1
      · have hkb : (x.k == 1) = true := by simp [hk1]
        have hr := ok_run x hok hk1
        have Hk := Lib.hid hk1
        clear hk1 hok
        go_wp2
        go_roundw
        case rel => exact ⟨k + 1, by omega, rfl, by rw [HD.out, if_pos Hk.out], hB.alloc hB.size _⟩
        case measure => simp [intOf]; omega
      · have hkb : (x.k == 1) = false := by simp [hk1]
        have Hk := Lib.hid hk1
        clear hk1 hok
        go_wp2
        go_roundw
        case rel => exact ⟨k + 1, by omega, rfl, by rw [HD.out, if_neg Hk.out, Int.add_zero], hB.alloc hB.size _⟩
        case measure => simp [intOf]; omega
    · obtain rfl : L.length = k := by omega
      go_wp2
      go_ret
      exact ⟨by rw [List.take_length]; rfl, hB⟩
end Go.Proofs.Ytomadlopljfcmaa
