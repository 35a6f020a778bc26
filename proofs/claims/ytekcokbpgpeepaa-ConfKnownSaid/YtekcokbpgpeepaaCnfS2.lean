/- Layer 5: two configurations that read alike are told to be the same, the document's. -/
import Derived.Test.YtekcokbpgpeepaaCnfS
import Derived.BigQuiet
namespace Go.Proofs.Ytekcokbpgpeepaa
set_option linter.unusedVariables false
open Go.RowKit

set_option maxHeartbeats 4000000 in
theorem samer_c (A1 A2 B1 B2 : Option Addr) (n1 n2 m1 m2 : Nat) (c : Cfg) (w : World) (h : CfA w A1 n1 A2 n2 c) (h' : CfA w B1 m1 B2 m2 c) :
    Calls Try.prog 15 #[.agg #[.slice A1 c.ps.length n1, .slice A2 c.qs.length n2], .agg #[.slice B1 c.ps.length m1, .slice B2 c.qs.length m2]] w fun e w' => e = .returned (.bool true) ∧ Below w.heap.size w w' := by
  have e1 : (w.alloc (.cells #[.slice A1 c.ps.length n1, .slice A2 c.qs.length n2] 25)).heap.size = w.heap.size + 1 := by simp
  have HB : Hid (Below w.heap.size w ((w.alloc (.cells #[.slice A1 c.ps.length n1, .slice A2 c.qs.length n2] 25)).alloc (.cells #[.slice B1 c.ps.length m1, .slice B2 c.qs.length m2] 25))) := ((Below.refl _ _).alloc (Nat.le_refl _) _).alloc (by rw [e1]; omega) _
  have HK1 : Hid (Blk ((w.alloc (.cells #[.slice A1 c.ps.length n1, .slice A2 c.qs.length n2] 25)).alloc (.cells #[.slice B1 c.ps.length m1, .slice B2 c.qs.length m2] 25)) w.heap.size 25 #[.slice A1 c.ps.length n1, .slice A2 c.qs.length n2]) := (Blk.new w _ _).alloc _
  have HK2 : Hid (Blk ((w.alloc (.cells #[.slice A1 c.ps.length n1, .slice A2 c.qs.length n2] 25)).alloc (.cells #[.slice B1 c.ps.length m1, .slice B2 c.qs.length m2] 25)) (w.heap.size + 1) 25 #[.slice B1 c.ps.length m1, .slice B2 c.qs.length m2]) := e1 ▸ Blk.new (w.alloc (.cells #[.slice A1 c.ps.length n1, .slice A2 c.qs.length n2] 25)) _ _
  have HH := Lib.hid (h.below HB.out)
  have HH' := Lib.hid (h'.below HB.out)
  have hs1 := h.s1
  have hs2 := h.s2
  clear h h' e1
  go_enter Try.func15, Try.ntmps15
  go_wp2_with fail
  generalize hwa : ((w.alloc (.cells #[.slice A1 c.ps.length n1, .slice A2 c.qs.length n2] 25)).alloc (.cells #[.slice B1 c.ps.length m1, .slice B2 c.qs.length m2] 25)) = wa at *
  clear hwa
  go_loopw [5] (fun y wr => ∃ k : Nat, k ≤ c.ps.length ∧ y = .int .i64 k ∧ Below wa.heap.size wa wr) (fun y _ => c.ps.length - (intOf y).toNat)
  case atStart => exact ⟨0, Nat.zero_le _, rfl, Below.refl _ _⟩
  case round =>
    obtain ⟨k, hk, rfl, hB⟩ := hrel
    obtain ⟨wb, rfl⟩ : ∃ x : World, x = wr := ⟨_, rfl⟩
    have a0 : wb.cell? ⟨w.heap.size, 0, none⟩ = some (.slice A1 c.ps.length n1) := ((HK1.out.below hB HK1.out.lt).cell 0).trans rfl
    have a1 : wb.cell? ⟨w.heap.size, 1, none⟩ = some (.slice A2 c.qs.length n2) := ((HK1.out.below hB HK1.out.lt).cell 1).trans rfl
    have b0 : wb.cell? ⟨w.heap.size + 1, 0, none⟩ = some (.slice B1 c.ps.length m1) := ((HK2.out.below hB HK2.out.lt).cell 0).trans rfl
    have b1 : wb.cell? ⟨w.heap.size + 1, 1, none⟩ = some (.slice B2 c.qs.length m2) := ((HK2.out.below hB HK2.out.lt).cell 1).trans rfl
    have hl1 : w.heap.size < wb.heap.size := Nat.lt_of_lt_of_le HK1.out.lt hB.size
    have hl2 : w.heap.size + 1 < wb.heap.size := Nat.lt_of_lt_of_le HK2.out.lt hB.size
    have HBB := Lib.hid hB
    by_cases hlt : k < c.ps.length
    · have hk1 : (k : Int) < (c.ps.length : Int) := by omega
      obtain ⟨p, hx⟩ : ∃ p, c.ps[k]? = some p := ⟨_, List.getElem?_eq_getElem hlt⟩
      obtain ⟨b, off, rfl, hbl, hcc⟩ := (HH.out.ps.below hB) (by intro e; rw [e] at hx; cases hx)
      obtain ⟨d0, d1, u, d2, hS⟩ : CpAt wb b (off + k * 3) p := hcc k p hx
      obtain ⟨b', off', rfl, hbl', hcc'⟩ := (HH'.out.ps.below hB) (by intro e; rw [e] at hx; cases hx)
      obtain ⟨g0, g1, u', g2, hS'⟩ : CpAt wb b' (off' + k * 3) p := hcc' k p hx
      obtain ⟨⟨TA, tc, rfl, htl, htA, hT⟩, hsm⟩ := hS
      obtain ⟨⟨TB, tc', rfl, htl', htA', hT'⟩, -⟩ := hS'
      have HT := Lib.hid hT
      have HT' := Lib.hid hT'
      clear hT hT' htl htA htl' htA' hcc hcc' hx hB
      go_upto_region 6 with fail
      go_cut [6, 7] (fun x y wx => ∃ q q' : Nat, x = .pointer (some ⟨q, 0, none⟩) ∧ y = .pointer (some ⟨q', 0, none⟩) ∧ Blk wx q 41 #[.int .i64 p.per, .int .i64 p.bud, .slice TA p.ts.length tc] ∧ Blk wx q' 41 #[.int .i64 p.per, .int .i64 p.bud, .slice TB p.ts.length tc'] ∧ Below wb.heap.size wb wx)
      case first =>
        go_region
        all_goals (go_wp2; go_meet)
        · exact ⟨_, _, rfl, rfl, two1 _ _ _ _, two2 _ _ _ _, twoB _ _ _⟩
        · exact ⟨_, _, rfl, rfl, two2 _ _ _ _, two1 _ _ _ _, twoB _ _ _⟩
      case rest =>
        obtain ⟨q, q', rfl, rfl, hp, hp', hB7⟩ := hcut
        obtain ⟨wx, rfl⟩ : ∃ x : World, x = wc := ⟨_, rfl⟩
        have x0 : wx.cell? ⟨q, 0, none⟩ = some (.int .i64 p.per) := (hp.cell 0).trans rfl
        have x1 : wx.cell? ⟨q, 1, none⟩ = some (.int .i64 p.bud) := (hp.cell 1).trans rfl
        have x2 : wx.cell? ⟨q, 2, none⟩ = some (.slice TA p.ts.length tc) := (hp.cell 2).trans rfl
        have y0 : wx.cell? ⟨q', 0, none⟩ = some (.int .i64 p.per) := (hp'.cell 0).trans rfl
        have y1 : wx.cell? ⟨q', 1, none⟩ = some (.int .i64 p.bud) := (hp'.cell 1).trans rfl
        have y2 : wx.cell? ⟨q', 2, none⟩ = some (.slice TB p.ts.length tc') := (hp'.cell 2).trans rfl
        have HP := Lib.hid hp
        have HP' := Lib.hid hp'
        have HT7 := Lib.hid (HT.out.below hB7)
        have HT7' := Lib.hid (HT'.out.below hB7)
        have HB7 := Lib.hid (below_lift HBB.out hB7 HBB.out.size)
        clear hp hp' hB7 a0 a1 b0 b1 d0 d1 d2 g0 g1 g2 HT HT' hbl hbl'
        go_wp2_with fail
        clear x0 x1 x2 y0 y1 y2
        go_loopw [8] (fun y wr => ∃ j : Nat, j ≤ p.ts.length ∧ y = .int .i64 j ∧ Below wx.heap.size wx wr) (fun y _ => p.ts.length - (intOf y).toNat)
        case atStart => exact ⟨0, Nat.zero_le _, rfl, Below.refl _ _⟩
        case round =>
          obtain ⟨j, hj, rfl, hB⟩ := hrel
          have x2 : wr.cell? ⟨q, 2, none⟩ = some (.slice TA p.ts.length tc) := ((HP.out.below hB HP.out.lt).cell 2).trans rfl
          have y2 : wr.cell? ⟨q', 2, none⟩ = some (.slice TB p.ts.length tc') := ((HP'.out.below hB HP'.out.lt).cell 2).trans rfl
          by_cases hltj : j < p.ts.length
          · have hj1 : (j : Int) < (p.ts.length : Int) := by omega
            obtain ⟨t, hx⟩ : ∃ t, p.ts[j]? = some t := ⟨_, List.getElem?_eq_getElem hltj⟩
            obtain ⟨b2, off2, rfl, hbl2, hcc⟩ := (HT7.out.below hB) (by intro e; rw [e] at hx; cases hx)
            obtain ⟨t0, t1, t2, t3, t4, t5, t6, t7⟩ : TkAt wr b2 (off2 + j * 8) t := hcc j t hx
            obtain ⟨b3, off3, rfl, hbl3, hcc'⟩ := (HT7'.out.below hB) (by intro e; rw [e] at hx; cases hx)
            obtain ⟨s0, s1, s2, s3, s4, s5, s6, s7⟩ : TkAt wr b3 (off3 + j * 8) t := hcc' j t hx
            have hw : IntKind.i64.wrap ((j : Int) + 1) = (j : Int) + 1 := IntWalk.i64_in _ (by omega)
            have HBJ := Lib.hid hB
            clear hcc hcc' hx hB hw
            go_wp2_with fail
            go_quiet (fail)
            go_wp2
            go_roundw
            case rel => exact ⟨j + 1, by omega, rfl, below_drewN HBJ.out _⟩
            case measure => simp [intOf]; omega
          · have hj1 : ¬ (j : Int) < (p.ts.length : Int) := by omega
            have HBJ := Lib.hid (below_lift HB7.out hB HB7.out.size)
            clear hB
            go_wp2_with fail
            go_roundw
            case rel => exact ⟨k + 1, by omega, rfl, HBJ.out⟩
            case measure => simp [intOf]; omega
    · have hk1 : ¬ (k : Int) < (c.ps.length : Int) := by omega
      clear hB
      go_wp2_with fail
      go_loopw [9] (fun y wr => ∃ k : Nat, k ≤ c.qs.length ∧ y = .int .i64 k ∧ Below wa.heap.size wa wr) (fun y _ => c.qs.length - (intOf y).toNat)
      case atStart => exact ⟨0, Nat.zero_le _, rfl, HBB.out⟩
      case round =>
        clear a0 a1 b0 b1 hl1 hl2 hk1 hlt HBB hk
        obtain ⟨k, hk, rfl, hB⟩ := hrel
        have a1 : wr.cell? ⟨w.heap.size, 1, none⟩ = some (.slice A2 c.qs.length n2) := ((HK1.out.below hB HK1.out.lt).cell 1).trans rfl
        have b1 : wr.cell? ⟨w.heap.size + 1, 1, none⟩ = some (.slice B2 c.qs.length m2) := ((HK2.out.below hB HK2.out.lt).cell 1).trans rfl
        by_cases hlt : k < c.qs.length
        · have hk1 : (k : Int) < (c.qs.length : Int) := by omega
          obtain ⟨t, hx⟩ : ∃ t, c.qs[k]? = some t := ⟨_, List.getElem?_eq_getElem hlt⟩
          obtain ⟨b, off, rfl, hbl, hcc⟩ := (HH.out.qs.below hB) (by intro e; rw [e] at hx; cases hx)
          obtain ⟨t0, t1, t2, t3, t4, t5⟩ : PtAt wr b (off + k * 6) t := hcc k t hx
          obtain ⟨b', off', rfl, hbl', hcc'⟩ := (HH'.out.qs.below hB) (by intro e; rw [e] at hx; cases hx)
          obtain ⟨s0, s1, s2, s3, s4, s5⟩ : PtAt wr b' (off' + k * 6) t := hcc' k t hx
          have HBJ := Lib.hid hB
          clear hcc hcc' hx hB
          go_wp2_with fail
          go_quiet (fail)
          go_wp2
          go_roundw
          case rel => exact ⟨k + 1, by omega, rfl, below_drewN HBJ.out _⟩
          case measure => simp [intOf]; omega
        · have hk1 : ¬ (k : Int) < (c.qs.length : Int) := by omega
          go_wp2_with fail
          go_ret
          exact ⟨rfl, below_lift HB.out hB HB.out.size⟩
end Go.Proofs.Ytekcokbpgpeepaa
