/- StackKnown, walked. -/
import Derived.Test.YtmgcjdedgfiboaaStkN
import Derived.Test.YtmgcjdedgfiboaaOwnD
import Derived.Test.YtmgcjdedgfiboaaPlayD13
import Derived.Test.YtmgcjdedgfiboaaOnceW
namespace Go.Proofs.Ytmgcjdedgfiboaa
set_option linter.unusedVariables false
open Go.RowKit

theorem make_5 (W : World) : (Instr.makeSlice 22 (.int .i64 5) (.int .i64 5)).run Try.prog W = .ok (.slice (some ⟨W.heap.size, 0, none⟩) 5 5) (W.alloc (.cells (Array.replicate 40 (.int .i64 0)) 48)) := by kernel_rfl
def kD (i j : Nat) : Int := (([[0, 4, 0, 255, 0, 0, 0, 0], [0, 2, 0, 255, 0, 0, 0, 0], [0, 2, 0, 0, 0, 0, 0, 0], [0, 1, 0, 256, 0, 0, 0, 0]]).getD i []).getD j 0
theorem kD_at (w : World) (t : TypeId) : TasksAt (w.alloc (.cells #[.int .i64 0, .int .i64 4, .int .i64 0, .int .i64 255, .int .i64 0, .int .i64 0, .int .i64 0, .int .i64 0, .int .i64 0, .int .i64 2, .int .i64 0, .int .i64 255, .int .i64 0, .int .i64 0, .int .i64 0, .int .i64 0, .int .i64 0, .int .i64 2, .int .i64 0, .int .i64 0, .int .i64 0, .int .i64 0, .int .i64 0, .int .i64 0, .int .i64 0, .int .i64 1, .int .i64 0, .int .i64 256, .int .i64 0, .int .i64 0, .int .i64 0, .int .i64 0] t)) (some ⟨w.heap.size, 0, none⟩) 4 kD := by
  intro _
  refine ⟨w.heap.size, 0, rfl, by simp, fun i hi => ?_⟩
  unfold RowT
  match i, hi with
  | 0, _ | 1, _ | 2, _ | 3, _ =>
    refine ⟨?_, ?_, ?_, ?_, ?_, ?_, ?_, ?_⟩ <;> (rw [World.cell?_alloc_at _ _ _ _ rfl]; rfl)
theorem StX.of {B s n tc : Nat} {w : World} {TA : Option Addr} {D : Nat → Nat → Int} {v : Value} {E : List Ent} (h : StA B w s TA n tc D v E) : StX B w s n D E := ⟨_, _, _, h⟩
theorem lock_0 {B s : Nat} {w0 w : World} {D : Nat → Nat → Int} (h : StX B w s 0 D []) (hB : Below B w0 w) (o : Obj) :
    Calls Try.prog 10 #[.pointer (some ⟨s, 0, none⟩), .int .i64 0, .int .i64 0] (w.alloc o) fun e w' => e = .returned (.int .i64 9) ∧ Below B w0 w' :=
  (lock_x (E' := []) (z := 9) (h.below ((Below.refl _ _).alloc (Nat.le_refl _) _)) (hB.alloc h.hs _) (by decide) rfl rfl).mono fun e w' ⟨h1, _, h3⟩ => ⟨h1, h3⟩
set_option maxRecDepth 40000 in
set_option maxHeartbeats 1600000 in
theorem known_c (w : World) : Calls Try.prog 6 #[] w fun e w' => e = .returned (.bool true) ∧ Below w.heap.size w w' := by
  have hmk := make_5
  generalize Array.replicate 40 (Value.int .i64 0) = Z at hmk
  go_enter Try.func6, Try.ntmps6
  go_wp2_with fail
  go_loopw [1, 2] (fun v y wr => ∃ i : Nat, i ≤ 2 ∧ y = .int .i64 i ∧ NoStk wr v ∧ Below w.heap.size w wr) (fun _ y _ => 2 - (intOf y).toNat)
  case atStart => exact ⟨0, by omega, rfl, .inl rfl, Below.refl _ _⟩
  case round =>
    obtain ⟨i, hi, rfl, hN, hB⟩ := hrel
    by_cases hlt : (i : Int) < 2
    · go_wp2_with (first
        | (go_at_call 24; with_reducible refine (len_n _ _ hN3).mono ?_; rintro e wd ⟨rfl, rfl⟩)
        | (go_at_call 13; with_reducible refine (held_n _ _ _ hN2).mono ?_; rintro e wf ⟨rfl, hg⟩; have hN3 := hN2.below hg; have hB3 := below_lift hB2 hg hB2.size)
        | (go_at_call 15; with_reducible refine (ceil_n _ _ hN2).mono ?_; rintro e wd ⟨rfl, rfl⟩)
        | (go_at_call 12; with_reducible refine (drop_n _ _ _ hN2).mono ?_; rintro e wd ⟨rfl, rfl⟩)
        | (go_at_call 10; with_reducible refine (lock_n _ _ _ _ hN).mono ?_; rintro e wf ⟨rfl, hf⟩; have hN2 := hN.below hf; have hB2 := below_lift hB hf hB.size)
        | (go_at_call 16; with_reducible refine (top_n _ _ hN).mono ?_; rintro e wd ⟨rfl, rfl⟩)
        | (go_at_call 11; with_reducible refine (unlock_n _ _ _ hN).mono ?_; rintro e wd ⟨rfl, rfl⟩))
      go_roundw
      case rel => exact ⟨i + 1, by omega, rfl, .inr ⟨_, rfl, Blk.new _ _ _⟩, hB3.alloc hB3.size _⟩
      case measure => simp [intOf]; omega
    · have HB := Lib.hid hB
      clear hN hB
      go_wp2_with (first
        | (go_at_call 10; with_reducible refine (lock_0 (StX.of hS) hB5 _).mono ?_; rintro e w6 ⟨rfl, hB6⟩)
        | (go_at_call 8; with_reducible refine (snew_bad _ 5 5 _ (by omega)).mono ?_; rintro e wd ⟨rfl, rfl⟩)
        | (go_at_call 8; with_reducible refine (snew_ok none 0 0 (fun _ _ => 0) _ (by omega) TasksAt.zero).mono ?_; rintro e w5 ⟨s, TA, tc, rfl, hS, hB5⟩))
      have HB6 := Lib.hid (below_lift HB.out hB6 HB.out.size)
      obtain ⟨wr0, hwr0⟩ : ∃ x : World, w6.alloc (.cells #[.int .i64 0, .int .i64 4, .int .i64 0, .int .i64 255, .int .i64 0, .int .i64 0, .int .i64 0, .int .i64 0, .int .i64 0, .int .i64 2, .int .i64 0, .int .i64 255, .int .i64 0, .int .i64 0, .int .i64 0, .int .i64 0, .int .i64 0, .int .i64 2, .int .i64 0, .int .i64 0, .int .i64 0, .int .i64 0, .int .i64 0, .int .i64 0, .int .i64 0, .int .i64 1, .int .i64 0, .int .i64 256, .int .i64 0, .int .i64 0, .int .i64 0, .int .i64 0] 48) = x := ⟨_, rfl⟩
      have HT : Hid (TasksAt wr0 (some ⟨w6.heap.size, 0, none⟩) 4 kD) := hwr0 ▸ kD_at w6 _
      have HB7 : Hid (Below w.heap.size w wr0) := hwr0 ▸ HB6.out.alloc HB6.out.size _
      rw [hwr0]
      clear hwr0 hS hB5 hB6 HB6 HB
      go_loopw [12, 13] (fun v y wr => ∃ k : Nat, k ≤ 10 ∧ y = .int .i64 k ∧ OwnDo wr wr0.heap.size v (2 * k) ∧ Below wr0.heap.size wr0 wr) (fun _ y _ => 10 - (intOf y).toNat)
      case atStart => exact ⟨0, by omega, rfl, OwnDo.nil, Below.refl _ _⟩
      case round =>
        obtain ⟨k, hk, rfl, hO, hC⟩ := hrel
        by_cases hlk : (k : Int) < 10
        · go_wp2_with (at_builtin; refine wpList_append_do (w0 := wr0) (B := wr0.heap.size) (n := 2 * k) (m := 2) rfl (.tmp 95) (.tmp 101) rfl rfl hO hC hC.size rfl rfl rfl (by omega) ?_; intro v8 w8 hO8 hB8)
          go_roundw
          case rel => exact ⟨k + 1, by omega, rfl, hO8, hB8⟩
          case measure => simp [intOf]; omega
        · obtain rfl : 10 = k := by omega
          have HO := Lib.hid hO
          have HC := Lib.hid hC
          clear hO hC
          go_wp2_with (first
            | (go_at_call 5; with_reducible refine (lift (a := w8) (once_c _ 4 _ kD A8 31 c8 D8 _ (by omega) (HTW.out _ hC) (by omega) (HDW.out _ hC)) hC).mono ?_; clear hC; rintro e w9 ⟨rfl, hC⟩)
            | (go_at_call 4; with_reducible refine (lift (a := w8) (plays_law_c (some ⟨w6.heap.size, 0, none⟩) 4 4 kD A8 31 c8 D8 _ (by omega) (by omega) (by omega) (HTW.out _ hC) (fun e => by cases e) (HDW.out _ hC)) hC).mono ?_; clear hC; rintro e w9 ⟨rfl, hC⟩)
            | (go_at_call 4; with_reducible refine (lift (a := w8) (plays_law_c none 0 0 kD A8 31 c8 D8 _ (by omega) (by omega) (by omega) TasksAt.zero (fun _ => rfl) (HDW.out _ hC)) hC).mono ?_; clear hC; rintro e w9 ⟨rfl, hC⟩)
            | (go_at_call 4; with_reducible refine (lift (a := w8) (plays_law_c (some ⟨w6.heap.size, 0, none⟩) 2 4 kD A8 31 c8 D8 _ (by omega) (by omega) (by omega) ((HTW.out _ hC).mono (by omega)) (fun e => by cases e) (HDW.out _ hC)) hC).mono ?_; clear hC; rintro e w9 ⟨rfl, hC⟩)
            | (go_at_call 18; with_reducible refine (lift (a := w8) (works_c _) hC).mono ?_; clear hC; rintro e w9 ⟨rfl, hC⟩)
            | (at_builtin; refine wpList_append_do (w0 := wr0) (B := wr0.heap.size) (n := 20) (m := 11) rfl (.tmp 103) (.tmp 115) rfl rfl HO.out HC.out HC.out.size rfl rfl rfl (by omega) ?_; intro v8 w8 hO8 hB8; obtain ⟨A8, c8, D8, rfl, hD8⟩ := hO8.dos; have hC := Below.refl w8.heap.size w8; have HTW := Lib.hid (fun W (hb : Below w8.heap.size w8 W) => (HT.out.below hB8).below hb); have HDW := Lib.hid (fun W (hb : Below w8.heap.size w8 W) => hD8.below hb); have HB8 := Lib.hid (below_lift HB7.out hB8 HB7.out.size); clear hO8 hD8 hB8))
          go_ret
          exact ⟨by simp, below_lift HB8.out hC HB8.out.size⟩
end Go.Proofs.Ytmgcjdedgfiboaa
