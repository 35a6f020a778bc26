/- made: acts that may be, out of any. -/
import Derived.Test.YtcbmcengccealaaBoth
import Derived.Test.YtcbmcengccealaaBring
namespace Go.Proofs.Ytcbmcengccealaa
set_option linter.unusedVariables false
open Go.RowKit

theorem ok_of_if (x : OpV) (h : (1 ≤ x.k ∧ x.k ≤ 8) ∧ (x.k = 1 ∨ x.k = 8 → 1 ≤ x.n ∧ x.n ≤ 64) ∧ (x.k = 2 ∨ x.k = 6 ∨ x.k = 7 → 0 ≤ x.n ∧ x.n ≤ 7) ∧ (x.k = 3 ∨ x.k = 4 ∨ x.k = 5 → x.n = 0) ∧ (x.k = 6 → x.s.size ≤ 16) ∧ (x.k ≠ 6 → x.s.size = 0)) : okOp x = true := by
  have h0 : checkE x = 0 := by rw [checkE_if, if_pos h]
  unfold checkE at h0
  split at h0
  · assumption
  · omega
theorem opCells_append (L M : List OpV) : opCells (L ++ M) = opCells L ++ opCells M := by
  induction L with
  | nil => rfl
  | cons x L ih => simp [opCells, ih]
theorem bring8 (i : Int) (w : World) : Calls Try.prog 27 #[.int .i64 i, .int .i64 8] w fun e w' => e = .returned (.int .i64 (bringN i 8 : Nat)) ∧ w = w' := bring_n i 8 8 w rfl (by omega) (by omega)
theorem bring64 (i : Int) (w : World) : Calls Try.prog 27 #[.int .i64 i, .int .i64 64] w fun e w' => e = .returned (.int .i64 (bringN i 64 : Nat)) ∧ w = w' := bring_n i 64 64 w rfl (by omega) (by omega)
theorem own_below {w w' : World} {base size n : Nat} {e : TypeId} {v : Value} {xs : List Value} (h : w.ownsRow base e size v n xs) (k : Below w.heap.size w w') : w'.ownsRow base e size v n xs := by
  obtain ⟨h1, h2⟩ := h
  refine ⟨h1, ?_⟩
  rcases h2 with h2 | ⟨g, cap, cur, e1, e0, e3⟩
  · exact .inl h2
  · have hb := e3.1
    have hlt : g < w.heap.size := by
      rcases Nat.lt_or_ge g w.heap.size with hlt | hge
      · exact hlt
      · rw [Array.getElem?_eq_none hge] at hb; cases hb
    exact .inr ⟨g, cap, cur, e1, e0, (k.block g hlt).trans hb, e3.2⟩
/-- A source that was made last. -/
theorem src_new (w : World) (y : OpV) : SrcR (w.alloc (.cells #[.int .i64 y.k, .int .i64 y.n, .string y.s] 23)) 3 (some ⟨w.heap.size, 0, none⟩) 1 1 (opCells [y]) :=
  (opsR_new (L := [y]) rfl).src (fun h => by cases h)
theorem src_new2 (w : World) (o : Obj) (y : OpV) : SrcR ((w.alloc o).alloc (.cells #[.int .i64 y.k, .int .i64 y.n, .string y.s] 23)) 3 (some ⟨w.heap.size + 1, 0, none⟩) 1 1 (opCells [y]) := by
  have := src_new (w.alloc o) y
  rwa [show (w.alloc o).heap.size = w.heap.size + 1 by simp] at this
theorem src_new3 (w : World) (o : Obj) (y : OpV) : SrcR (((w.alloc o).alloc (.cells #[.int .i64 y.k, .int .i64 y.n, .string y.s] 23)).drew) 3 (some ⟨w.heap.size + 1, 0, none⟩) 1 1 (opCells [y]) := src_new2 w o y
set_option maxRecDepth 20000 in
set_option maxHeartbeats 400000 in
theorem made_c (A : Option Addr) (n c : Nat) (L : List OpV) (w : World) (hl : n ≤ 140737488355328) (h : n = L.length ∧ OpsR w A L) :
    Calls Try.prog 26 #[.slice A n c] w fun e w' => ∃ A' c' b' M, e = .returned (.slice A' M.length c') ∧ OkRow M ∧ FreshOps w' w.heap.size A' c' b' M ∧ Below w.heap.size w w' := by
  obtain ⟨i0, hi0, hz0, hz1, hz2⟩ := info_parts op_info
  obtain ⟨rfl, hO⟩ := h
  have HO := Lib.hid hO
  clear hO
  go_enter Try.func26, Try.ntmps26
  go_wp2
  go_loopw [3, 4] (fun v x wr => ∃ (k : Nat) (M : List OpV), k ≤ L.length ∧ k ≤ 32 ∧ x = .int .i64 k ∧ M.length = k ∧ (∀ y ∈ M, okOp y = true) ∧ wr.ownsRow w.heap.size 23 3 v k (opCells M) ∧ Below w.heap.size w wr) (fun _ x _ => L.length - (intOf x).toNat)
  case atStart => exact ⟨0, [], Nat.zero_le _, Nat.zero_le _, rfl, rfl, by simp, own_none _ _ _ _, Below.refl _ _⟩
  case round =>
    obtain ⟨k, M, hk, hk32, rfl, hM, hMok, hown, hB⟩ := hrel
    have HOW := Lib.hid hown
    have HMK := Lib.hid hMok
    have HB := Lib.hid hB
    have HM := Lib.hid hM
    clear hMok hown hM
    by_cases hlt : k < L.length
    · have hltI : (k : Int) < (L.length : Nat) := by omega
      by_cases h32 : (k : Int) < 32
      · obtain ⟨b, off, rfl, hb, hx⟩ := HO.out (by intro e; rw [e] at hlt; simp at hlt)
        obtain ⟨x, hxk⟩ : ∃ x, L[k]? = some x := ⟨_, List.getElem?_eq_getElem hlt⟩
        obtain ⟨o0, o1, o2⟩ := (hx k x hxk).keep (w' := wr) (fun p hp => hB.cell (by rw [hp]; exact hb))
        have hblt : b < wr.heap.size := Nat.lt_of_lt_of_le hb hB.size
        have b8 := bringN_lt x.k 8 (by omega)
        have b64 := bringN_lt x.n 64 (by omega)
        have c8 := bringN_lt x.n 8 (by omega)
        have W64 : wrap64 (1 + (bringN x.n 64 : Int)) = 1 + (bringN x.n 64 : Int) := IntWalk.wrap64_in _ (by omega)
        have G8 := fun (W : World) => bring8 x.k W
        generalize bringN x.k 8 = q8 at *
        clear hx hxk hB
        have hq : q8 = 0 ∨ q8 = 1 ∨ q8 = 2 ∨ q8 = 3 ∨ q8 = 4 ∨ q8 = 5 ∨ q8 = 6 ∨ q8 = 7 := by omega
        rcases hq with rfl | rfl | rfl | rfl | rfl | rfl | rfl | rfl
        · go_wp2_with (first
            | (at_builtin; (refine wpList_append_src rfl _ _ _ rfl w.heap.size 23 i0 _ 3 32 Try.underlying28 hi0 hz0 hz1 hz2 rfl (by omega) _ k (opCells M) rfl (own_below HOW.out (((Below.refl _ _).alloc (Nat.le_refl _) _).alloc (by simp) _)) _ _ _ (opCells [⟨1, 1 + (bringN x.n 64 : Int), { data := #[] }⟩]) rfl (src_new2 _ _ ⟨1, 1 + (bringN x.n 64 : Int), { data := #[] }⟩) (opCells_one _) (by simp only [maxLen]; omega) (by omega) (by have := HB.out.size; simp; omega) ?_; intro v1 w1 hown hg _; have hB1 := below_grown (below_lift HB.out (((Below.refl _ _).alloc (Nat.le_refl _) _).alloc (by simp) _) HB.out.size) hg (by have := HB.out.size; simp; omega) (own_from HOW.out)))
            | (go_at_call 27; with_reducible refine (G8 _).mono ?_; rintro e w1 ⟨rfl, rfl⟩)
            | (go_at_call 27; with_reducible refine (bring64 _ _).mono ?_; rintro e w1 ⟨rfl, rfl⟩)
            | (go_at_call 27; with_reducible refine (bring8 _ _).mono ?_; rintro e w1 ⟨rfl, rfl⟩))
          go_roundw
          case rel => exact ⟨k + 1, M ++ [⟨1, 1 + (bringN x.n 64 : Int), { data := #[] }⟩], by omega, by omega, rfl, by simp [HM.out], (fun z hz => by rcases List.mem_append.1 hz with h | h; exact HMK.out z h; rw [List.mem_singleton.1 h]; refine ok_of_if _ ⟨?_, ?_, ?_, ?_, ?_, ?_⟩ <;> simp <;> first | omega | rfl), by rw [opCells_append]; exact hown, hB1⟩
          case measure => simp [intOf]; omega
        · go_wp2_with (first
            | (at_builtin; (refine wpList_append_src rfl _ _ _ rfl w.heap.size 23 i0 _ 3 32 Try.underlying28 hi0 hz0 hz1 hz2 rfl (by omega) _ k (opCells M) rfl (own_below HOW.out (((Below.refl _ _).alloc (Nat.le_refl _) _).alloc (by simp) _)) _ _ _ (opCells [⟨2, (bringN x.n 8 : Int), { data := #[] }⟩]) rfl (src_new2 _ _ ⟨2, (bringN x.n 8 : Int), { data := #[] }⟩) (opCells_one _) (by simp only [maxLen]; omega) (by omega) (by have := HB.out.size; simp; omega) ?_; intro v1 w1 hown hg _; have hB1 := below_grown (below_lift HB.out (((Below.refl _ _).alloc (Nat.le_refl _) _).alloc (by simp) _) HB.out.size) hg (by have := HB.out.size; simp; omega) (own_from HOW.out)))
            | (go_at_call 27; with_reducible refine (G8 _).mono ?_; rintro e w1 ⟨rfl, rfl⟩)
            | (go_at_call 27; with_reducible refine (bring64 _ _).mono ?_; rintro e w1 ⟨rfl, rfl⟩)
            | (go_at_call 27; with_reducible refine (bring8 _ _).mono ?_; rintro e w1 ⟨rfl, rfl⟩))
          go_roundw
          case rel => exact ⟨k + 1, M ++ [⟨2, (bringN x.n 8 : Int), { data := #[] }⟩], by omega, by omega, rfl, by simp [HM.out], (fun z hz => by rcases List.mem_append.1 hz with h | h; exact HMK.out z h; rw [List.mem_singleton.1 h]; refine ok_of_if _ ⟨?_, ?_, ?_, ?_, ?_, ?_⟩ <;> simp <;> first | omega | rfl), by rw [opCells_append]; exact hown, hB1⟩
          case measure => simp [intOf]; omega
        · go_wp2_with (first
            | (at_builtin; (refine wpList_append_src rfl _ _ _ rfl w.heap.size 23 i0 _ 3 32 Try.underlying28 hi0 hz0 hz1 hz2 rfl (by omega) _ k (opCells M) rfl (own_below HOW.out (((Below.refl _ _).alloc (Nat.le_refl _) _).alloc (by simp) _)) _ _ _ (opCells [⟨3, 0, { data := #[] }⟩]) rfl (src_new2 _ _ ⟨3, 0, { data := #[] }⟩) (opCells_one _) (by simp only [maxLen]; omega) (by omega) (by have := HB.out.size; simp; omega) ?_; intro v1 w1 hown hg _; have hB1 := below_grown (below_lift HB.out (((Below.refl _ _).alloc (Nat.le_refl _) _).alloc (by simp) _) HB.out.size) hg (by have := HB.out.size; simp; omega) (own_from HOW.out)))
            | (go_at_call 27; with_reducible refine (G8 _).mono ?_; rintro e w1 ⟨rfl, rfl⟩)
            | (go_at_call 27; with_reducible refine (bring64 _ _).mono ?_; rintro e w1 ⟨rfl, rfl⟩)
            | (go_at_call 27; with_reducible refine (bring8 _ _).mono ?_; rintro e w1 ⟨rfl, rfl⟩))
          go_roundw
          case rel => exact ⟨k + 1, M ++ [⟨3, 0, { data := #[] }⟩], by omega, by omega, rfl, by simp [HM.out], (fun z hz => by rcases List.mem_append.1 hz with h | h; exact HMK.out z h; rw [List.mem_singleton.1 h]; refine ok_of_if _ ⟨?_, ?_, ?_, ?_, ?_, ?_⟩ <;> simp <;> first | omega | rfl), by rw [opCells_append]; exact hown, hB1⟩
          case measure => simp [intOf]; omega
        · go_wp2_with (first
            | (at_builtin; (refine wpList_append_src rfl _ _ _ rfl w.heap.size 23 i0 _ 3 32 Try.underlying28 hi0 hz0 hz1 hz2 rfl (by omega) _ k (opCells M) rfl (own_below HOW.out (((Below.refl _ _).alloc (Nat.le_refl _) _).alloc (by simp) _)) _ _ _ (opCells [⟨4, 0, { data := #[] }⟩]) rfl (src_new2 _ _ ⟨4, 0, { data := #[] }⟩) (opCells_one _) (by simp only [maxLen]; omega) (by omega) (by have := HB.out.size; simp; omega) ?_; intro v1 w1 hown hg _; have hB1 := below_grown (below_lift HB.out (((Below.refl _ _).alloc (Nat.le_refl _) _).alloc (by simp) _) HB.out.size) hg (by have := HB.out.size; simp; omega) (own_from HOW.out)))
            | (go_at_call 27; with_reducible refine (G8 _).mono ?_; rintro e w1 ⟨rfl, rfl⟩)
            | (go_at_call 27; with_reducible refine (bring64 _ _).mono ?_; rintro e w1 ⟨rfl, rfl⟩)
            | (go_at_call 27; with_reducible refine (bring8 _ _).mono ?_; rintro e w1 ⟨rfl, rfl⟩))
          go_roundw
          case rel => exact ⟨k + 1, M ++ [⟨4, 0, { data := #[] }⟩], by omega, by omega, rfl, by simp [HM.out], (fun z hz => by rcases List.mem_append.1 hz with h | h; exact HMK.out z h; rw [List.mem_singleton.1 h]; refine ok_of_if _ ⟨?_, ?_, ?_, ?_, ?_, ?_⟩ <;> simp <;> first | omega | rfl), by rw [opCells_append]; exact hown, hB1⟩
          case measure => simp [intOf]; omega
        · go_wp2_with (first
            | (at_builtin; (refine wpList_append_src rfl _ _ _ rfl w.heap.size 23 i0 _ 3 32 Try.underlying28 hi0 hz0 hz1 hz2 rfl (by omega) _ k (opCells M) rfl (own_below HOW.out (((Below.refl _ _).alloc (Nat.le_refl _) _).alloc (by simp) _)) _ _ _ (opCells [⟨5, 0, { data := #[] }⟩]) rfl (src_new2 _ _ ⟨5, 0, { data := #[] }⟩) (opCells_one _) (by simp only [maxLen]; omega) (by omega) (by have := HB.out.size; simp; omega) ?_; intro v1 w1 hown hg _; have hB1 := below_grown (below_lift HB.out (((Below.refl _ _).alloc (Nat.le_refl _) _).alloc (by simp) _) HB.out.size) hg (by have := HB.out.size; simp; omega) (own_from HOW.out)))
            | (go_at_call 27; with_reducible refine (G8 _).mono ?_; rintro e w1 ⟨rfl, rfl⟩)
            | (go_at_call 27; with_reducible refine (bring64 _ _).mono ?_; rintro e w1 ⟨rfl, rfl⟩)
            | (go_at_call 27; with_reducible refine (bring8 _ _).mono ?_; rintro e w1 ⟨rfl, rfl⟩))
          go_roundw
          case rel => exact ⟨k + 1, M ++ [⟨5, 0, { data := #[] }⟩], by omega, by omega, rfl, by simp [HM.out], (fun z hz => by rcases List.mem_append.1 hz with h | h; exact HMK.out z h; rw [List.mem_singleton.1 h]; refine ok_of_if _ ⟨?_, ?_, ?_, ?_, ?_, ?_⟩ <;> simp <;> first | omega | rfl), by rw [opCells_append]; exact hown, hB1⟩
          case measure => simp [intOf]; omega
        · have hs16 : (x.s.size : Int) ≤ 16 ∨ ¬ (x.s.size : Int) ≤ 16 := Classical.em _
          go_upto_region 15 with (first
            | (go_at_call 27; with_reducible refine (G8 _).mono ?_; rintro e w1 ⟨rfl, rfl⟩)
            | (go_at_call 27; with_reducible refine (bring8 _ _).mono ?_; rintro e w1 ⟨rfl, rfl⟩))
          rcases hs16 with hs16 | hs16
          · go_region
            go_wp2_with (first
              | (at_builtin; (refine wpList_append_src rfl _ _ _ rfl w.heap.size 23 i0 _ 3 32 Try.underlying28 hi0 hz0 hz1 hz2 rfl (by omega) _ k (opCells M) rfl (own_below HOW.out ((((Below.refl _ _).alloc (Nat.le_refl _) _).alloc (by simp) _).drew)) _ _ _ (opCells [⟨6, (bringN x.n 8 : Int), x.s⟩]) rfl (src_new3 _ _ ⟨6, (bringN x.n 8 : Int), x.s⟩) (opCells_one _) (by simp only [maxLen]; omega) (by omega) (by have := HB.out.size; simp; omega) ?_; intro v1 w1 hown hg _; have hB1 := below_grown (below_lift HB.out ((((Below.refl _ _).alloc (Nat.le_refl _) _).alloc (by simp) _).drew) HB.out.size) hg (by have := HB.out.size; simp; omega) (own_from HOW.out))))
            go_roundw
            case rel => exact ⟨k + 1, M ++ [⟨6, (bringN x.n 8 : Int), x.s⟩], by omega, by omega, rfl, by simp [HM.out], (fun z hz => by rcases List.mem_append.1 hz with h | h; exact HMK.out z h; rw [List.mem_singleton.1 h]; refine ok_of_if _ ⟨?_, ?_, ?_, ?_, ?_, ?_⟩ <;> simp <;> first | omega | rfl), by rw [opCells_append]; exact hown, hB1⟩
            case measure => simp [intOf]; omega
          · go_region
            go_wp2_with (first
              | (at_builtin; (refine wpList_append_src rfl _ _ _ rfl w.heap.size 23 i0 _ 3 32 Try.underlying28 hi0 hz0 hz1 hz2 rfl (by omega) _ k (opCells M) rfl (own_below HOW.out ((((Below.refl _ _).alloc (Nat.le_refl _) _).alloc (by simp) _).drew)) _ _ _ (opCells [⟨6, (bringN x.n 8 : Int), x.s.extract 0 16⟩]) rfl (src_new3 _ _ ⟨6, (bringN x.n 8 : Int), x.s.extract 0 16⟩) (opCells_one _) (by simp only [maxLen]; omega) (by omega) (by have := HB.out.size; simp; omega) ?_; intro v1 w1 hown hg _; have hB1 := below_grown (below_lift HB.out ((((Below.refl _ _).alloc (Nat.le_refl _) _).alloc (by simp) _).drew) HB.out.size) hg (by have := HB.out.size; simp; omega) (own_from HOW.out))))
            go_roundw
            case rel => exact ⟨k + 1, M ++ [⟨6, (bringN x.n 8 : Int), x.s.extract 0 16⟩], by omega, by omega, rfl, by simp [HM.out], (fun z hz => by rcases List.mem_append.1 hz with h | h; exact HMK.out z h; rw [List.mem_singleton.1 h]; refine ok_of_if _ ⟨?_, ?_, ?_, ?_, ?_, ?_⟩ <;> simp <;> first | omega | rfl), by rw [opCells_append]; exact hown, hB1⟩
            case measure => simp [intOf]; omega
        · go_wp2_with (first
            | (at_builtin; (refine wpList_append_src rfl _ _ _ rfl w.heap.size 23 i0 _ 3 32 Try.underlying28 hi0 hz0 hz1 hz2 rfl (by omega) _ k (opCells M) rfl (own_below HOW.out (((Below.refl _ _).alloc (Nat.le_refl _) _).alloc (by simp) _)) _ _ _ (opCells [⟨7, (bringN x.n 8 : Int), { data := #[] }⟩]) rfl (src_new2 _ _ ⟨7, (bringN x.n 8 : Int), { data := #[] }⟩) (opCells_one _) (by simp only [maxLen]; omega) (by omega) (by have := HB.out.size; simp; omega) ?_; intro v1 w1 hown hg _; have hB1 := below_grown (below_lift HB.out (((Below.refl _ _).alloc (Nat.le_refl _) _).alloc (by simp) _) HB.out.size) hg (by have := HB.out.size; simp; omega) (own_from HOW.out)))
            | (go_at_call 27; with_reducible refine (G8 _).mono ?_; rintro e w1 ⟨rfl, rfl⟩)
            | (go_at_call 27; with_reducible refine (bring64 _ _).mono ?_; rintro e w1 ⟨rfl, rfl⟩)
            | (go_at_call 27; with_reducible refine (bring8 _ _).mono ?_; rintro e w1 ⟨rfl, rfl⟩))
          go_roundw
          case rel => exact ⟨k + 1, M ++ [⟨7, (bringN x.n 8 : Int), { data := #[] }⟩], by omega, by omega, rfl, by simp [HM.out], (fun z hz => by rcases List.mem_append.1 hz with h | h; exact HMK.out z h; rw [List.mem_singleton.1 h]; refine ok_of_if _ ⟨?_, ?_, ?_, ?_, ?_, ?_⟩ <;> simp <;> first | omega | rfl), by rw [opCells_append]; exact hown, hB1⟩
          case measure => simp [intOf]; omega
        · go_wp2_with (first
            | (at_builtin; (refine wpList_append_src rfl _ _ _ rfl w.heap.size 23 i0 _ 3 32 Try.underlying28 hi0 hz0 hz1 hz2 rfl (by omega) _ k (opCells M) rfl (own_below HOW.out (((Below.refl _ _).alloc (Nat.le_refl _) _).alloc (by simp) _)) _ _ _ (opCells [⟨8, 1 + (bringN x.n 64 : Int), { data := #[] }⟩]) rfl (src_new2 _ _ ⟨8, 1 + (bringN x.n 64 : Int), { data := #[] }⟩) (opCells_one _) (by simp only [maxLen]; omega) (by omega) (by have := HB.out.size; simp; omega) ?_; intro v1 w1 hown hg _; have hB1 := below_grown (below_lift HB.out (((Below.refl _ _).alloc (Nat.le_refl _) _).alloc (by simp) _) HB.out.size) hg (by have := HB.out.size; simp; omega) (own_from HOW.out)))
            | (go_at_call 27; with_reducible refine (G8 _).mono ?_; rintro e w1 ⟨rfl, rfl⟩)
            | (go_at_call 27; with_reducible refine (bring64 _ _).mono ?_; rintro e w1 ⟨rfl, rfl⟩)
            | (go_at_call 27; with_reducible refine (bring8 _ _).mono ?_; rintro e w1 ⟨rfl, rfl⟩))
          go_roundw
          case rel => exact ⟨k + 1, M ++ [⟨8, 1 + (bringN x.n 64 : Int), { data := #[] }⟩], by omega, by omega, rfl, by simp [HM.out], (fun z hz => by rcases List.mem_append.1 hz with h | h; exact HMK.out z h; rw [List.mem_singleton.1 h]; refine ok_of_if _ ⟨?_, ?_, ?_, ?_, ?_, ?_⟩ <;> simp <;> first | omega | rfl), by rw [opCells_append]; exact hown, hB1⟩
          case measure => simp [intOf]; omega
      · go_wp2
        go_ret
        obtain ⟨A', c', b', rfl, hF⟩ := fresh_of_own (L := M) HOW.out
        exact ⟨A', c', b', M, rfl, ⟨by have := HM.out; omega, HMK.out⟩, hF, HB.out⟩
    · obtain rfl : L.length = k := by omega
      go_wp2
      go_ret
      obtain ⟨A', c', b', rfl, hF⟩ := fresh_of_own (L := M) HOW.out
      exact ⟨A', c', b', M, rfl, ⟨by have := HM.out; omega, HMK.out⟩, hF, HB.out⟩
end Go.Proofs.Ytcbmcengccealaa
