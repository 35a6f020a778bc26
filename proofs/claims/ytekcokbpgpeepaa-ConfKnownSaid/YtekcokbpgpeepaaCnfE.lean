/- Layer 5: the document's part, Check. -/
import Derived.Test.YtekcokbpgpeepaaCnfC
import Derived.Test.YtekcokbpgpeepaaCnfA2
import Derived.Test.YtekcokbpgpeepaaCnfP2
import Derived.Deep.RegionHeld3
namespace Go.Proofs.Ytekcokbpgpeepaa
set_option linter.unusedVariables false
open Go.RowKit

set_option maxHeartbeats 2000000 in
theorem partr_c (p : CP) (u : Value) (w : World) (h : TkS w u p.ts) {v : Bool} (hv : partB p = v) :
    Calls Try.prog 33 #[.agg #[.int .i64 p.per, .int .i64 p.bud, u]] w fun e w' => e = .returned (.bool v) ∧ Below w.heap.size w w' := by
  obtain ⟨⟨A, c, rfl, hc, hA, hT⟩, hsm⟩ := h
  have HB : Hid (Below w.heap.size w (w.alloc (.cells #[.int .i64 p.per, .int .i64 p.bud, .slice A p.ts.length c] 41))) := (Below.refl _ _).alloc (Nat.le_refl _) _
  have HK : Hid (Blk (w.alloc (.cells #[.int .i64 p.per, .int .i64 p.bud, .slice A p.ts.length c] 41)) w.heap.size 41 #[.int .i64 p.per, .int .i64 p.bud, .slice A p.ts.length c]) := Blk.new w _ _
  have HT := Lib.hid (hT.below HB.out)
  clear hT hc hA
  cases h1 : wi p.per 1 64 with
  | false =>
    have HV : Hid (v = false) := by show v = false; rw [← hv]; unfold partB; simp [h1]
    clear hv
    go_enter Try.func33, Try.ntmps33
    go_wp2_with (first | (go_at_call 32; with_reducible refine (withinr_c _ _ _ _).mono ?_; rintro e w9 ⟨rfl, rfl⟩))
    go_ret
    exact ⟨by rw [HV.out]; rfl, HB.out⟩
  | true =>
    cases h2 : wi p.bud 1 p.per with
    | false =>
      have HV : Hid (v = false) := by show v = false; rw [← hv]; unfold partB; simp [h1, h2]
      clear hv
      go_enter Try.func33, Try.ntmps33
      go_wp2_with (first | (go_at_call 32; with_reducible refine (withinr_c _ _ _ _).mono ?_; rintro e w9 ⟨rfl, rfl⟩))
      go_ret
      exact ⟨by rw [HV.out]; rfl, HB.out⟩
    | true =>
      by_cases hl : (4 : Int) < (p.ts.length : Nat)
      · have hl2 : ¬ p.ts.length ≤ 4 := by omega
        have HV : Hid (v = false) := by show v = false; rw [← hv]; unfold partB; simp [h1, h2, hl2]
        clear hv
        go_enter Try.func33, Try.ntmps33
        go_wp2_with (first | (go_at_call 32; with_reducible refine (withinr_c _ _ _ _).mono ?_; rintro e w9 ⟨rfl, rfl⟩))
        go_ret
        exact ⟨by rw [HV.out]; rfl, HB.out⟩
      · have hl2 : p.ts.length ≤ 4 := by omega
        have hbud : p.bud ≤ 64 := Int.le_trans (wi_true h2).2 (wi_true h1).2
        have HV : Hid (p.ts.all (fun t => taskB t p.bud) = v) := by show _ = v; rw [← hv]; unfold partB; simp [h1, h2, hl2]
        clear hv hl2
        go_enter Try.func33, Try.ntmps33
        go_wp2_with (go_at_call 32; with_reducible refine (withinr_c _ _ _ _).mono ?_; rintro e w9 ⟨rfl, rfl⟩)
        clear hl h1 h2
        generalize hwa : w.alloc (.cells #[.int .i64 p.per, .int .i64 p.bud, .slice A p.ts.length c] 41) = wa at *
        go_loopw [3] (fun x wr => ∃ k : Nat, x = .int .i64 k ∧ Hid (k ≤ p.ts.length ∧ (p.ts.take k).all (fun t => taskB t p.bud) = true) ∧ Below wa.heap.size wa wr) (fun x _ => p.ts.length - (intOf x).toNat)
        case atStart => exact ⟨0, rfl, Lib.hid ⟨Nat.zero_le _, by simp⟩, Below.refl _ _⟩
        case round =>
          obtain ⟨k, rfl, HP, hB⟩ := hrel
          have s1 : wr.drew.cell? ⟨w.heap.size, 1, none⟩ = some (.int .i64 p.bud) := ((HK.out.below hB HK.out.lt).cell 1).trans rfl
          have s2 : wr.drew.cell? ⟨w.heap.size, 2, none⟩ = some (.slice A p.ts.length c) := ((HK.out.below hB HK.out.lt).cell 2).trans rfl
          have r2 : wr.cell? ⟨w.heap.size, 2, none⟩ = some (.slice A p.ts.length c) := s2
          have hql : w.heap.size < wr.drew.heap.size := Nat.lt_of_lt_of_le HK.out.lt hB.size
          by_cases hlt : k < p.ts.length
          · obtain ⟨t, hx⟩ : ∃ t, p.ts[k]? = some t := ⟨_, List.getElem?_eq_getElem hlt⟩
            obtain ⟨b, off, rfl, hbl, hcc⟩ := (HT.out.below hB) (by intro e; rw [e] at hx; cases hx)
            obtain ⟨d0, d1, d2, d3, d4, d5, d6, d7⟩ : TkAt wr.drew b (off + k * 8) t := hcc k t hx
            have hbl2 : b < wr.drew.heap.size := hbl
            have hk1 : (k : Int) < (p.ts.length : Int) := by omega
            have hw : wrap64 ((k : Int) + 1) = ((k + 1 : Nat) : Int) := by rw [IntWalk.wrap64_in _ (by omega)]; omega
            have HX := Lib.hid hx
            have HBB := Lib.hid hB
            clear hx hcc hB hbl
            cases hP : taskB t p.bud with
            | true =>
              have HQ := Lib.hid hP
              clear hP
              go_wp2_with fail
              go_region_held3 (fun w' => w'.cell? ⟨w.heap.size, 1, none⟩ = some (.int .i64 p.bud) ∧ w'.cell? ⟨w.heap.size, 2, none⟩ = some (.slice (some ⟨b, off, none⟩) p.ts.length c) ∧ w'.cell? ⟨b, off + k * 8, none⟩ = some (.int .i64 t.p) ∧ w'.cell? ⟨b, off + k * 8 + 1, none⟩ = some (.int .i64 t.d) ∧ w'.cell? ⟨b, off + k * 8 + 2, none⟩ = some (.int .i64 t.b) ∧ w'.cell? ⟨b, off + k * 8 + 3, none⟩ = some (.int .i64 t.ls) ∧ w'.cell? ⟨b, off + k * 8 + 4, none⟩ = some (.int .i64 t.l) ∧ w'.cell? ⟨b, off + k * 8 + 5, none⟩ = some (.int .i64 t.g) ∧ w'.cell? ⟨b, off + k * 8 + 6, none⟩ = some (.int .i64 t.lg) ∧ w'.cell? ⟨b, off + k * 8 + 7, none⟩ = some (.int .i64 t.lk)) (go_keep)
                (first | (go_at_call 50; with_reducible refine (taskrb_c t p.bud hbud _ HQ.out).mono ?_; rintro e w8 ⟨rfl, hb8⟩; have hB8 := below_lift HBB.out.drew hb8 HBB.out.drew.size; have n0 := (hb8.cell (p := ⟨b, off + k * 8, none⟩) hbl2).trans d0; have n1 := (hb8.cell (p := ⟨b, off + k * 8 + 1, none⟩) hbl2).trans d1; have n2 := (hb8.cell (p := ⟨b, off + k * 8 + 2, none⟩) hbl2).trans d2; have n3 := (hb8.cell (p := ⟨b, off + k * 8 + 3, none⟩) hbl2).trans d3; have n4 := (hb8.cell (p := ⟨b, off + k * 8 + 4, none⟩) hbl2).trans d4; have n5 := (hb8.cell (p := ⟨b, off + k * 8 + 5, none⟩) hbl2).trans d5; have n6 := (hb8.cell (p := ⟨b, off + k * 8 + 6, none⟩) hbl2).trans d6; have n7 := (hb8.cell (p := ⟨b, off + k * 8 + 7, none⟩) hbl2).trans d7; have m1 := (hb8.cell (p := ⟨w.heap.size, 1, none⟩) hql).trans s1; have m2 := (hb8.cell (p := ⟨w.heap.size, 2, none⟩) hql).trans s2; clear d0 d1 d2 d3 d4 d5 d6 d7 s1 s2 r2))
              go_wp2
              go_roundw
              case rel => exact ⟨k + 1, rfl, Lib.hid ⟨by omega, all_succ HP.out.2 HX.out HQ.out⟩, hB8⟩
              case measure => simp [intOf]; omega
            | false =>
              have HQ := Lib.hid hP
              clear hP
              go_wp2_with fail
              go_region_held3 (fun w' => w'.cell? ⟨w.heap.size, 1, none⟩ = some (.int .i64 p.bud) ∧ w'.cell? ⟨w.heap.size, 2, none⟩ = some (.slice (some ⟨b, off, none⟩) p.ts.length c) ∧ w'.cell? ⟨b, off + k * 8, none⟩ = some (.int .i64 t.p) ∧ w'.cell? ⟨b, off + k * 8 + 1, none⟩ = some (.int .i64 t.d) ∧ w'.cell? ⟨b, off + k * 8 + 2, none⟩ = some (.int .i64 t.b) ∧ w'.cell? ⟨b, off + k * 8 + 3, none⟩ = some (.int .i64 t.ls) ∧ w'.cell? ⟨b, off + k * 8 + 4, none⟩ = some (.int .i64 t.l) ∧ w'.cell? ⟨b, off + k * 8 + 5, none⟩ = some (.int .i64 t.g) ∧ w'.cell? ⟨b, off + k * 8 + 6, none⟩ = some (.int .i64 t.lg) ∧ w'.cell? ⟨b, off + k * 8 + 7, none⟩ = some (.int .i64 t.lk)) (go_keep)
                (first | (go_at_call 50; with_reducible refine (taskrb_c t p.bud hbud _ HQ.out).mono ?_; rintro e w8 ⟨rfl, hb8⟩; have hB8 := below_lift HBB.out.drew hb8 HBB.out.drew.size; have n0 := (hb8.cell (p := ⟨b, off + k * 8, none⟩) hbl2).trans d0; have n1 := (hb8.cell (p := ⟨b, off + k * 8 + 1, none⟩) hbl2).trans d1; have n2 := (hb8.cell (p := ⟨b, off + k * 8 + 2, none⟩) hbl2).trans d2; have n3 := (hb8.cell (p := ⟨b, off + k * 8 + 3, none⟩) hbl2).trans d3; have n4 := (hb8.cell (p := ⟨b, off + k * 8 + 4, none⟩) hbl2).trans d4; have n5 := (hb8.cell (p := ⟨b, off + k * 8 + 5, none⟩) hbl2).trans d5; have n6 := (hb8.cell (p := ⟨b, off + k * 8 + 6, none⟩) hbl2).trans d6; have n7 := (hb8.cell (p := ⟨b, off + k * 8 + 7, none⟩) hbl2).trans d7; have m1 := (hb8.cell (p := ⟨w.heap.size, 1, none⟩) hql).trans s1; have m2 := (hb8.cell (p := ⟨w.heap.size, 2, none⟩) hql).trans s2; clear d0 d1 d2 d3 d4 d5 d6 d7 s1 s2 r2))
              go_wp2
              go_ret
              exact ⟨by rw [← HV.out, all_not HX.out HQ.out]; rfl, below_lift HB.out hB8 HB.out.size⟩
          · have hk1 : ¬ (k : Int) < (p.ts.length : Int) := by omega
            go_wp2
            go_ret
            exact ⟨by rw [← HV.out, all_end HP.out.2 (by omega)]; rfl, below_lift HB.out hB HB.out.size⟩
end Go.Proofs.Ytekcokbpgpeepaa
