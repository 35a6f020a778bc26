/- Layer 5: the document's Check. -/
import Derived.Test.YtekcokbpgpeepaaCnfE
namespace Go.Proofs.Ytekcokbpgpeepaa
set_option linter.unusedVariables false
open Go.RowKit

set_option maxHeartbeats 2000000 in
theorem checkr_c (A A2 : Option Addr) (n1 n2 : Nat) (c : Cfg) (w : World) (h : CfA w A n1 A2 n2 c) {z : Int} (hz : checkE c = z) :
    Calls Try.prog 13 #[.agg #[.slice A c.ps.length n1, .slice A2 c.qs.length n2]] w fun e w' => e = .returned (.int .i64 z) ∧ Below w.heap.size w w' := by
  have HB : Hid (Below w.heap.size w (w.alloc (.cells #[.slice A c.ps.length n1, .slice A2 c.qs.length n2] 25))) := (Below.refl _ _).alloc (Nat.le_refl _) _
  have HK : Hid (Blk (w.alloc (.cells #[.slice A c.ps.length n1, .slice A2 c.qs.length n2] 25)) w.heap.size 25 #[.slice A c.ps.length n1, .slice A2 c.qs.length n2]) := Blk.new w _ _
  have HH := Lib.hid (h.below HB.out)
  have hs1 : c.ps.length ≤ 17592186044416 := Nat.le_trans h.s1 (by decide)
  have hs2 : c.qs.length ≤ 17592186044416 := Nat.le_trans h.s2 (by decide)
  clear h
  cases h1 : wi c.ps.length 1 4 with
  | false =>
    have HV : Hid (z = 50) := by show z = 50; rw [← hz]; unfold checkE checkB; simp [h1]
    clear hz
    go_enter Try.func13, Try.ntmps13
    go_wp2_with (go_at_call 32; with_reducible refine (withinr_c _ _ _ _).mono ?_; rintro e w9 ⟨rfl, rfl⟩)
    go_ret
    exact ⟨by rw [HV.out]; rfl, HB.out⟩
  | true =>
    by_cases hl : (8 : Int) < (c.qs.length : Nat)
    · have hl2 : ¬ c.qs.length ≤ 8 := by omega
      have HV : Hid (z = 50) := by show z = 50; rw [← hz]; unfold checkE checkB; simp [h1, hl2]
      clear hz
      go_enter Try.func13, Try.ntmps13
      go_wp2_with (go_at_call 32; with_reducible refine (withinr_c _ _ _ _).mono ?_; rintro e w9 ⟨rfl, rfl⟩)
      go_ret
      exact ⟨by rw [HV.out]; rfl, HB.out⟩
    · have hl2 : c.qs.length ≤ 8 := by omega
      have HV : Hid ((if (c.ps.all partB && c.qs.all fun t => portB t c.ps.length) = true then 0 else 50) = z) := by show _ = z; rw [← hz]; unfold checkE checkB; simp [h1, hl2]
      clear hz hl2
      go_enter Try.func13, Try.ntmps13
      go_wp2_with (go_at_call 32; with_reducible refine (withinr_c _ _ _ _).mono ?_; rintro e w9 ⟨rfl, rfl⟩)
      clear hl h1
      generalize hwa : w.alloc (.cells #[.slice A c.ps.length n1, .slice A2 c.qs.length n2] 25) = wa at *
      go_loopw [3] (fun x wr => ∃ k : Nat, x = .int .i64 k ∧ Hid (k ≤ c.ps.length ∧ (c.ps.take k).all partB = true) ∧ Below wa.heap.size wa wr) (fun x _ => c.ps.length - (intOf x).toNat)
      case atStart => exact ⟨0, rfl, Lib.hid ⟨Nat.zero_le _, by simp⟩, Below.refl _ _⟩
      case round =>
        obtain ⟨k, rfl, HP, hB⟩ := hrel
        have r1 : wr.cell? ⟨w.heap.size, 0, none⟩ = some (.slice A c.ps.length n1) := ((HK.out.below hB HK.out.lt).cell 0).trans rfl
        have r2 : wr.cell? ⟨w.heap.size, 1, none⟩ = some (.slice A2 c.qs.length n2) := ((HK.out.below hB HK.out.lt).cell 1).trans rfl
        by_cases hlt : k < c.ps.length
        · obtain ⟨t, hx⟩ : ∃ t, c.ps[k]? = some t := ⟨_, List.getElem?_eq_getElem hlt⟩
          obtain ⟨b, off, rfl, hbl, hcc⟩ := (HH.out.ps.below hB) (by intro e; rw [e] at hx; cases hx)
          obtain ⟨d0, d1, u, d2, hS⟩ : CpAt wr b (off + k * 3) t := hcc k t hx
          have HS := Lib.hid hS
          have hk1 : (k : Int) < (c.ps.length : Int) := by omega
          have hw : wrap64 ((k : Int) + 1) = ((k + 1 : Nat) : Int) := by rw [IntWalk.wrap64_in _ (by omega)]; omega
          have HX := Lib.hid hx
          have HBB := Lib.hid hB
          clear hx hcc hB hbl hS
          cases hP : partB t with
          | true =>
            have HQ := Lib.hid hP
            clear hP
            go_wp2_with (go_at_call 33; with_reducible refine (partr_c t u _ HS.out HQ.out).mono ?_; rintro e w8 ⟨rfl, hb8⟩)
            go_roundw
            case rel => exact ⟨k + 1, rfl, Lib.hid ⟨by omega, all_succ HP.out.2 HX.out HQ.out⟩, below_lift HBB.out hb8 HBB.out.size⟩
            case measure => simp [intOf]; omega
          | false =>
            have HQ := Lib.hid hP
            clear hP
            go_wp2_with (go_at_call 33; with_reducible refine (partr_c t u _ HS.out HQ.out).mono ?_; rintro e w8 ⟨rfl, hb8⟩)
            go_ret
            exact ⟨by rw [← HV.out, all_not HX.out HQ.out]; rfl, below_lift HB.out (below_lift HBB.out hb8 HBB.out.size) HB.out.size⟩
        · have hk1 : ¬ (k : Int) < (c.ps.length : Int) := by omega
          have HV2 : Hid ((if (c.qs.all fun t => portB t c.ps.length) = true then 0 else 50) = z) := by show _ = z; rw [← HV.out, all_end HP.out.2 (by omega)]; rfl
          have HB0 := Lib.hid hB
          clear hB HV
          go_wp2_with fail
          go_loopw [4] (fun x wr => ∃ k : Nat, x = .int .i64 k ∧ Hid (k ≤ c.qs.length ∧ (c.qs.take k).all (fun t => portB t c.ps.length) = true) ∧ Below wa.heap.size wa wr) (fun x _ => c.qs.length - (intOf x).toNat)
          case atStart => exact ⟨0, rfl, Lib.hid ⟨Nat.zero_le _, by simp⟩, HB0.out⟩
          case round =>
            clear r1 r2 hk1 hlt HP
            obtain ⟨k, rfl, HP, hB⟩ := hrel
            have s1 : wr.drew.cell? ⟨w.heap.size, 0, none⟩ = some (.slice A c.ps.length n1) := ((HK.out.below hB HK.out.lt).cell 0).trans rfl
            have s2 : wr.drew.cell? ⟨w.heap.size, 1, none⟩ = some (.slice A2 c.qs.length n2) := ((HK.out.below hB HK.out.lt).cell 1).trans rfl
            have r1 : wr.cell? ⟨w.heap.size, 0, none⟩ = some (.slice A c.ps.length n1) := s1
            have r2 : wr.cell? ⟨w.heap.size, 1, none⟩ = some (.slice A2 c.qs.length n2) := s2
            have hql : w.heap.size < wr.drew.heap.size := Nat.lt_of_lt_of_le HK.out.lt hB.size
            by_cases hlt : k < c.qs.length
            · obtain ⟨t, hx⟩ : ∃ t, c.qs[k]? = some t := ⟨_, List.getElem?_eq_getElem hlt⟩
              obtain ⟨b, off, rfl, hbl, hcc⟩ := (HH.out.qs.below hB) (by intro e; rw [e] at hx; cases hx)
              obtain ⟨d0, d1, d2, d3, d4, d5⟩ : PtAt wr.drew b (off + k * 6) t := hcc k t hx
              have hbl2 : b < wr.drew.heap.size := hbl
              have hk1 : (k : Int) < (c.qs.length : Int) := by omega
              have hw : wrap64 ((k : Int) + 1) = ((k + 1 : Nat) : Int) := by rw [IntWalk.wrap64_in _ (by omega)]; omega
              have HX := Lib.hid hx
              have HBB := Lib.hid hB
              clear hx hcc hB hbl
              cases hP : portB t c.ps.length with
              | true =>
                have HQ := Lib.hid hP
                clear hP
                go_wp2_with fail
                go_region_held3 (fun w' => w'.cell? ⟨w.heap.size, 0, none⟩ = some (.slice A c.ps.length n1) ∧ w'.cell? ⟨w.heap.size, 1, none⟩ = some (.slice (some ⟨b, off, none⟩) c.qs.length n2) ∧ w'.cell? ⟨b, off + k * 6, none⟩ = some (.int .i64 t.k) ∧ w'.cell? ⟨b, off + k * 6 + 1, none⟩ = some (.int .i64 t.f) ∧ w'.cell? ⟨b, off + k * 6 + 2, none⟩ = some (.int .i64 t.t) ∧ w'.cell? ⟨b, off + k * 6 + 3, none⟩ = some (.int .i64 t.s) ∧ w'.cell? ⟨b, off + k * 6 + 4, none⟩ = some (.int .i64 t.d) ∧ w'.cell? ⟨b, off + k * 6 + 5, none⟩ = some (.int .i64 t.a)) (go_keep)
                (first | (go_at_call 34; with_reducible refine (portr_c t c.ps.length hs1 _ HQ.out).mono ?_; rintro e w8 ⟨rfl, hb8⟩; have hB8 := below_lift HBB.out.drew hb8 HBB.out.drew.size; have n0 := (hb8.cell (p := ⟨b, off + k * 6, none⟩) hbl2).trans d0; have n1 := (hb8.cell (p := ⟨b, off + k * 6 + 1, none⟩) hbl2).trans d1; have n2 := (hb8.cell (p := ⟨b, off + k * 6 + 2, none⟩) hbl2).trans d2; have n3 := (hb8.cell (p := ⟨b, off + k * 6 + 3, none⟩) hbl2).trans d3; have n4 := (hb8.cell (p := ⟨b, off + k * 6 + 4, none⟩) hbl2).trans d4; have n5 := (hb8.cell (p := ⟨b, off + k * 6 + 5, none⟩) hbl2).trans d5; have m1 := (hb8.cell (p := ⟨w.heap.size, 0, none⟩) hql).trans s1; have m2 := (hb8.cell (p := ⟨w.heap.size, 1, none⟩) hql).trans s2; clear d0 d1 d2 d3 d4 d5 s1 s2 r1 r2))
                go_wp2
                go_roundw
                case rel => exact ⟨k + 1, rfl, Lib.hid ⟨by omega, all_succ HP.out.2 HX.out HQ.out⟩, hB8⟩
                case measure => simp [intOf]; omega
              | false =>
                have HQ := Lib.hid hP
                clear hP
                go_wp2_with fail
                go_region_held3 (fun w' => w'.cell? ⟨w.heap.size, 0, none⟩ = some (.slice A c.ps.length n1) ∧ w'.cell? ⟨w.heap.size, 1, none⟩ = some (.slice (some ⟨b, off, none⟩) c.qs.length n2) ∧ w'.cell? ⟨b, off + k * 6, none⟩ = some (.int .i64 t.k) ∧ w'.cell? ⟨b, off + k * 6 + 1, none⟩ = some (.int .i64 t.f) ∧ w'.cell? ⟨b, off + k * 6 + 2, none⟩ = some (.int .i64 t.t) ∧ w'.cell? ⟨b, off + k * 6 + 3, none⟩ = some (.int .i64 t.s) ∧ w'.cell? ⟨b, off + k * 6 + 4, none⟩ = some (.int .i64 t.d) ∧ w'.cell? ⟨b, off + k * 6 + 5, none⟩ = some (.int .i64 t.a)) (go_keep)
                (first | (go_at_call 34; with_reducible refine (portr_c t c.ps.length hs1 _ HQ.out).mono ?_; rintro e w8 ⟨rfl, hb8⟩; have hB8 := below_lift HBB.out.drew hb8 HBB.out.drew.size; have n0 := (hb8.cell (p := ⟨b, off + k * 6, none⟩) hbl2).trans d0; have n1 := (hb8.cell (p := ⟨b, off + k * 6 + 1, none⟩) hbl2).trans d1; have n2 := (hb8.cell (p := ⟨b, off + k * 6 + 2, none⟩) hbl2).trans d2; have n3 := (hb8.cell (p := ⟨b, off + k * 6 + 3, none⟩) hbl2).trans d3; have n4 := (hb8.cell (p := ⟨b, off + k * 6 + 4, none⟩) hbl2).trans d4; have n5 := (hb8.cell (p := ⟨b, off + k * 6 + 5, none⟩) hbl2).trans d5; have m1 := (hb8.cell (p := ⟨w.heap.size, 0, none⟩) hql).trans s1; have m2 := (hb8.cell (p := ⟨w.heap.size, 1, none⟩) hql).trans s2; clear d0 d1 d2 d3 d4 d5 s1 s2 r1 r2))
                go_wp2
                go_ret
                exact ⟨by rw [← HV2.out, all_not HX.out HQ.out]; rfl, below_lift HB.out hB8 HB.out.size⟩
            · have hk1 : ¬ (k : Int) < (c.qs.length : Int) := by omega
              go_wp2
              go_ret
              exact ⟨by rw [← HV2.out, all_end HP.out.2 (by omega)]; rfl, below_lift HB.out hB HB.out.size⟩
end Go.Proofs.Ytekcokbpgpeepaa
