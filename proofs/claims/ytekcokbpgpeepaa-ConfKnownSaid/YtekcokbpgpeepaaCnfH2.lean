/- Layer 5: Bytes, the document's. -/
import Derived.Test.YtekcokbpgpeepaaCnfH
namespace Go.Proofs.Ytekcokbpgpeepaa
set_option linter.unusedVariables false
open Go.RowKit

theorem putxr_c (c : Cfg) (hb : checkB c = true) (A : Option Addr) (c1 : Nat) (w : World) (hR : IntsR w A (nums c)) :
    Calls Try.prog 24 #[.slice none 0 0, .slice A (nums c).length c1] w fun e w' => ∃ v, e = .returned (.tuple #[v, .int .i64 0]) ∧ OwnB w' w.heap.size v (bytesL c) ∧ Below w.heap.size w w' := by
  have hl := numsQ_len (may_of hb) c.qs.length
  rw [numsQ_end c (Nat.le_refl _)] at hl
  refine (put_b none 0 0 [] A _ c1 (rowOf (nums c)) w ⟨rfl, BytesR.nil⟩ (fun _ => rfl) (Nat.le_refl _) (intsAt_row hR) (by omega)).mono fun e w' ⟨h1, h2⟩ => ?_
  obtain ⟨v, h3, h4⟩ := (putQ_bytes hb h1).ok hb
  exact ⟨v, h3, h4, h2⟩
set_option maxHeartbeats 2000000 in
theorem bytesr_c (A A2 : Option Addr) (n1 n2 : Nat) (c : Cfg) (w : World) (h : CfA w A n1 A2 n2 c) :
    Calls Try.prog 11 #[.agg #[.slice A c.ps.length n1, .slice A2 c.qs.length n2]] w fun e w' => BytesQ c w.heap.size w' e ∧ Below w.heap.size w w' := by
  have HB : Hid (Below w.heap.size w (w.alloc (.cells #[.slice A c.ps.length n1, .slice A2 c.qs.length n2] 25))) := (Below.refl _ _).alloc (Nat.le_refl _) _
  have HK : Hid (Blk (w.alloc (.cells #[.slice A c.ps.length n1, .slice A2 c.qs.length n2] 25)) w.heap.size 25 #[.slice A c.ps.length n1, .slice A2 c.qs.length n2]) := Blk.new w _ _
  have K0 := Lib.hid ((HK.out.cell 0).trans rfl : _ = some (.slice A c.ps.length n1))
  have K1 := Lib.hid ((HK.out.cell 1).trans rfl : _ = some (.slice A2 c.qs.length n2))
  have HH := Lib.hid (h.below HB.out)
  have HC := Lib.hid (fun (z : Int) (hz : checkE c = z) => checkr_c A A2 n1 n2 c _ (h.below HB.out) hz)
  clear h
  cases hb : checkB c with
  | false =>
    have hz : checkE c = 50 := by unfold checkE; rw [hb]; rfl
    have HQ := Lib.hid (fun W => bytesQ_no hb w.heap.size W)
    clear hb
    go_enter Try.func11, Try.ntmps11
    go_wp2_with (go_at_call 13; with_reducible refine (HC.out _ hz).mono ?_; rintro e w1 ⟨rfl, hb1⟩)
    go_ret2
    exact ⟨HQ.out _, below_lift HB.out hb1 HB.out.size⟩
  | true =>
    have hz : checkE c = 0 := by unfold checkE; rw [hb]; rfl
    have HM := Lib.hid (may_of hb)
    have Hb := Lib.hid hb
    clear hb
    go_enter Try.func11, Try.ntmps11
    go_wp2_with (go_at_call 13; with_reducible refine (HC.out _ hz).mono ?_; rintro e w1 ⟨rfl, hb1⟩; have c0 := (hb1.cell (p := ⟨w.heap.size, 0, none⟩) HK.out.lt).trans K0.out; have c1 := (hb1.cell (p := ⟨w.heap.size, 1, none⟩) HK.out.lt).trans K1.out; have hlt1 : w.heap.size < w1.heap.size := Nat.lt_of_lt_of_le HK.out.lt hb1.size; have hne : ¬ w.heap.size = w1.heap.size := by omega)
    have HB1 := Lib.hid (below_lift HB.out hb1 HB.out.size)
    have HO1 : Hid (OwnI (w1.alloc (.cells #[.int .i64 (c.ps.length : Nat)] 3)) w1.heap.size (.slice (some ⟨w1.heap.size, 0, none⟩) 1 1) (numsP c 0)) := ownI_made (Nat.le_refl _) (by simp [numsP, ics]) rfl (by omega)
    go_loopw [5, 6] (fun v y wr => ∃ k : Nat, k ≤ c.ps.length ∧ y = .int .i64 k ∧ OwnI wr w1.heap.size v (numsP c k) ∧ Below w1.heap.size w1 wr) (fun _ y _ => c.ps.length - (intOf y).toNat)
    case atStart => exact ⟨0, Nat.zero_le _, rfl, HO1.out, (Below.refl _ _).alloc (Nat.le_refl _) _⟩
    case round =>
      obtain ⟨k, hk, rfl, hO, hC⟩ := hrel
      have HO := Lib.hid hO
      have HCC := Lib.hid hC
      have r0 := (hC.cell (p := ⟨w.heap.size, 0, none⟩) hlt1).trans c0
      have r1 := (hC.cell (p := ⟨w.heap.size, 1, none⟩) hlt1).trans c1
      have hwr : w.heap.size < wr.heap.size := Nat.lt_of_lt_of_le hlt1 hC.size
      by_cases hlt : k < c.ps.length
      · obtain ⟨p, hx⟩ : ∃ p, c.ps[k]? = some p := ⟨_, List.getElem?_eq_getElem hlt⟩
        obtain ⟨b, off, rfl, hbl, hcc⟩ := (HH.out.ps.below hb1) (by intro e; rw [e] at hx; cases hx)
        obtain ⟨e0, e1, u, e2, hS⟩ : CpAt w1 b (off + k * 3) p := hcc k p hx
        obtain ⟨⟨TA, tc, rfl, htl, htA, hT⟩, hsm⟩ := hS
        have d0 := (hC.cell (p := ⟨b, off + k * 3, none⟩) hbl).trans e0
        have d1 := (hC.cell (p := ⟨b, off + k * 3 + 1, none⟩) hbl).trans e1
        have d2 := (hC.cell (p := ⟨b, off + k * 3 + 2, none⟩) hbl).trans e2
        have hk1 : (k : Int) < (c.ps.length : Int) := by omega
        have hp5 := HM.out.p4
        have HX := Lib.hid hx
        have HT := Lib.hid hT
        have HPB : Hid (Blk (wr.alloc (.cells #[.int .i64 p.per, .int .i64 p.bud, .slice TA p.ts.length tc] 41)) wr.heap.size 41 #[.int .i64 p.per, .int .i64 p.bud, .slice TA p.ts.length tc]) := Blk.new _ _ _
        have HCA : Hid (Below w1.heap.size w1 (wr.alloc (.cells #[.int .i64 p.per, .int .i64 p.bud, .slice TA p.ts.length tc] 41))) := hC.alloc hC.size _
        have HOA : Hid (OwnI (wr.alloc (.cells #[.int .i64 p.per, .int .i64 p.bud, .slice TA p.ts.length tc] 41)) w1.heap.size _ (numsP c k)) := hO.below ((Below.refl _ _).alloc (Nat.le_refl _) _)
        have HL1 : Hid ((numsP c k).length + 3 ≤ 10000000000000) := by show _ ≤ _; have := numsP_len HM.out k; omega
        have hp4 := (HM.out.pt p (List.mem_of_getElem? hx)).2.2.1
        clear hx hcc hO hC hT e0 e1 e2
        -- <A
        go_wp2_with (at_builtin; refine wpList_append_made (w0 := w1) (B := w1.heap.size) (L := numsP c k) (M := [p.per, p.bud, (p.ts.length : Int)]) rfl (.tmp 35) (.tmp 43) rfl rfl HOA.out HCA.out HCA.out.size rfl rfl (slA _ _ _) HL1.out ?_; intro v8 w8 hO8 hB8 hk8; have hP8 := hk8 _ _ _ HPB.out (by decide); have g0 : w8.cell? ⟨wr.heap.size, 0, none⟩ = some (.int .i64 p.per) := (hP8.cell 0).trans rfl; have g1 : w8.cell? ⟨wr.heap.size, 1, none⟩ = some (.int .i64 p.bud) := (hP8.cell 1).trans rfl; have g2 : w8.cell? ⟨wr.heap.size, 2, none⟩ = some (.slice TA p.ts.length tc) := (hP8.cell 2).trans rfl; clear hk8)
        have HP8 := Lib.hid hP8
        have HO8 := Lib.hid hO8
        have HB8 := Lib.hid hB8
        generalize hqb : wr.heap.size = qb at *
        clear hP8 hO8 hB8 r0 r1 d0 d1 d2 hqb HPB HOA HCA
        go_loopw [5, 8] (fun v y wr => ∃ j : Nat, j ≤ p.ts.length ∧ y = .int .i64 j ∧ OwnI wr w1.heap.size v (numsP c k ++ [p.per, p.bud, (p.ts.length : Int)] ++ (p.ts.take j).flatMap tL) ∧ Below w1.heap.size w1 wr ∧ Blk wr qb 41 #[.int .i64 p.per, .int .i64 p.bud, .slice TA p.ts.length tc]) (fun _ y _ => p.ts.length - (intOf y).toNat)
        case atStart => exact ⟨0, Nat.zero_le _, rfl, by rw [List.take_zero, List.flatMap_nil, List.append_nil]; exact HO8.out, HB8.out, HP8.out⟩
        case round =>
          clear g0 g1 g2 HO8 HB8 HP8
          obtain ⟨j, hj, rfl, hO, hC, hPb⟩ := hrel
          have g0 : wr.cell? ⟨qb, 0, none⟩ = some (.int .i64 p.per) := (hPb.cell 0).trans rfl
          have g1 : wr.cell? ⟨qb, 1, none⟩ = some (.int .i64 p.bud) := (hPb.cell 1).trans rfl
          have g2 : wr.cell? ⟨qb, 2, none⟩ = some (.slice TA p.ts.length tc) := (hPb.cell 2).trans rfl
          have hqw : qb < wr.heap.size := hPb.lt
          by_cases hlt2 : j < p.ts.length
          · obtain ⟨t, hx⟩ : ∃ t, p.ts[j]? = some t := ⟨_, List.getElem?_eq_getElem hlt2⟩
            obtain ⟨b2, off2, rfl, hbl2, hcc⟩ := HT.out (by intro e; rw [e] at hx; cases hx)
            obtain ⟨x0, x1, x2, x3, x4, x5, x6, x7⟩ : TkAt wr b2 (off2 + j * 8) t := (hcc j t hx).keep fun a ha => hC.cell (by rw [ha]; exact hbl2)
            have hj1 : (j : Int) < (p.ts.length : Int) := by omega
            have HX2 := Lib.hid hx
            have HPB : Hid (Blk (wr.alloc (.cells #[.int .i64 t.p, .int .i64 t.d, .int .i64 t.b, .int .i64 t.ls, .int .i64 t.l, .int .i64 t.g, .int .i64 t.lg, .int .i64 t.lk] 46)) qb 41 #[.int .i64 p.per, .int .i64 p.bud, .slice (some ⟨b2, off2, none⟩) p.ts.length tc]) := hPb.alloc _
            have HCA : Hid (Below w1.heap.size w1 (wr.alloc (.cells #[.int .i64 t.p, .int .i64 t.d, .int .i64 t.b, .int .i64 t.ls, .int .i64 t.l, .int .i64 t.g, .int .i64 t.lg, .int .i64 t.lk] 46))) := hC.alloc hC.size _
            have HOA : Hid (OwnI (wr.alloc (.cells #[.int .i64 t.p, .int .i64 t.d, .int .i64 t.b, .int .i64 t.ls, .int .i64 t.l, .int .i64 t.g, .int .i64 t.lg, .int .i64 t.lk] 46)) w1.heap.size _ (numsP c k ++ [p.per, p.bud, (p.ts.length : Int)] ++ (p.ts.take j).flatMap tL)) := hO.below ((Below.refl _ _).alloc (Nat.le_refl _) _)
            have HL2 : Hid ((numsP c k ++ [p.per, p.bud, (p.ts.length : Int)] ++ (p.ts.take j).flatMap tL).length + 8 ≤ 10000000000000) := by
              show _ ≤ _
              have h1 := numsP_len HM.out k
              have h2 := flat_len (f := tL) (m := 8) (p.ts.take j) fun t _ => by simp [tL]
              rw [List.length_take] at h2
              rw [List.length_append, List.length_append]
              simp only [List.length_cons, List.length_nil]
              omega
            clear hx hcc hO hC hPb hbl2
            -- <B
            go_wp2_with (at_builtin; refine wpList_append_made (w0 := w1) (B := w1.heap.size) (L := numsP c k ++ [p.per, p.bud, (p.ts.length : Int)] ++ (p.ts.take j).flatMap tL) (M := tL t) rfl (.tmp 57) (.tmp 74) rfl rfl HOA.out HCA.out HCA.out.size rfl rfl (slA _ _ _) HL2.out ?_; intro v8 w8 hO8 hB8 hk8; have hP8 := hk8 _ _ _ HPB.out (by decide); clear hk8)
            go_roundw
            case rel => exact ⟨j + 1, by omega, rfl, by rw [flat_succ HX2.out, ← List.append_assoc]; exact hO8, hB8, hP8⟩
            case measure => simp [intOf]; omega
            -- B>
          · have hj1 : ¬ (j : Int) < (p.ts.length : Int) := by omega
            rw [List.take_of_length_le (by omega), ← numsP_succ HX.out] at hO
            have HO9 := Lib.hid hO
            have HC9 := Lib.hid hC
            clear hO hC hPb
            go_wp2_with fail
            go_roundw
            case rel => exact ⟨k + 1, by omega, rfl, HO9.out, HC9.out⟩
            case measure => simp [intOf]; omega
        -- A>
      · have hk1 : ¬ (k : Int) < (c.ps.length : Int) := by omega
        -- <C
        have HE := Lib.hid (numsP_end c (k := k) (by omega))
        have HL1 : Hid ((numsP c k).length + 1 ≤ 10000000000000) := by show _ ≤ _; have := numsP_len HM.out k; omega
        clear hO hC
        go_wp2_with (at_builtin; refine wpList_append_made (w0 := w1) (B := w1.heap.size) (L := numsP c k) (M := [(c.qs.length : Int)]) rfl (.tmp 76) (.tmp 80) rfl rfl HO.out HCC.out HCC.out.size rfl rfl rfl HL1.out ?_; intro v8 w8 hO8 hB8 hk8; rw [HE.out] at hO8; have g0 := (hB8.cell (p := ⟨w.heap.size, 0, none⟩) hlt1).trans c0; have g1 := (hB8.cell (p := ⟨w.heap.size, 1, none⟩) hlt1).trans c1; clear hk8)
        have HO8 := Lib.hid hO8
        have HB8 := Lib.hid hB8
        clear hO8 hB8 r0 r1 HO HCC HL1 HE hwr
        go_loopw [5, 10] (fun v y wr => ∃ k : Nat, k ≤ c.qs.length ∧ y = .int .i64 k ∧ OwnI wr w1.heap.size v (numsQ c k) ∧ Below w1.heap.size w1 wr) (fun _ y _ => c.qs.length - (intOf y).toNat)
        case atStart => exact ⟨0, Nat.zero_le _, rfl, HO8.out, HB8.out⟩
        case round =>
          clear g0 g1 HO8 HB8 hk1 hlt hk
          obtain ⟨k, hk, rfl, hO, hC⟩ := hrel
          have r0 := (hC.cell (p := ⟨w.heap.size, 0, none⟩) hlt1).trans c0
          have r1 := (hC.cell (p := ⟨w.heap.size, 1, none⟩) hlt1).trans c1
          have hwr : w.heap.size < wr.heap.size := Nat.lt_of_lt_of_le hlt1 hC.size
          by_cases hlt : k < c.qs.length
          · obtain ⟨t, hx⟩ : ∃ t, c.qs[k]? = some t := ⟨_, List.getElem?_eq_getElem hlt⟩
            obtain ⟨b, off, rfl, hbl, hcc⟩ := (HH.out.qs.below hb1) (by intro e; rw [e] at hx; cases hx)
            obtain ⟨x0, x1, x2, x3, x4, x5⟩ : PtAt wr b (off + k * 6) t := (hcc k t hx).keep fun a ha => hC.cell (by rw [ha]; exact hbl)
            have hk1 : (k : Int) < (c.qs.length : Int) := by omega
            have hp5 := HM.out.q8
            have hw : wrap64 ((k : Int) + 1) = ((k + 1 : Nat) : Int) := by rw [IntWalk.wrap64_in _ (by omega)]; omega
            have HX := Lib.hid hx
            have HCA : Hid (Below w1.heap.size w1 (wr.alloc (.cells #[.int .i64 t.k, .int .i64 t.f, .int .i64 t.t, .int .i64 t.s, .int .i64 t.d, .int .i64 t.a] 48))) := hC.alloc hC.size _
            have HOA : Hid (OwnI (wr.alloc (.cells #[.int .i64 t.k, .int .i64 t.f, .int .i64 t.t, .int .i64 t.s, .int .i64 t.d, .int .i64 t.a] 48)) w1.heap.size _ (numsQ c k)) := hO.below ((Below.refl _ _).alloc (Nat.le_refl _) _)
            have HL2 : Hid ((numsQ c k).length + 6 ≤ 10000000000000) := by show _ ≤ _; have := numsQ_len HM.out k; omega
            clear hx hcc hO hC hbl
            go_wp2_with (at_builtin; refine wpList_append_made (w0 := w1) (B := w1.heap.size) (L := numsQ c k) (M := qL t) rfl (.tmp 94) (.tmp 107) rfl rfl HOA.out HCA.out HCA.out.size rfl rfl (slA _ _ _) HL2.out ?_; intro v8 w8 hO8 hB8 hk8; clear hk8)
            go_roundw
            case rel => exact ⟨k + 1, by omega, rfl, by rw [numsQ_succ HX.out]; exact hO8, hB8⟩
            case measure => simp [intOf]; omega
          · have hk1 : ¬ (k : Int) < (c.qs.length : Int) := by omega
            rw [numsQ_end c (by omega)] at hO
            obtain ⟨A9, c9, rfl, hc9, hA9, hI9, -⟩ := hO.form
            have HPT := Lib.hid (putxr_c c Hb.out A9 c9 wr hI9)
            have HC9 := Lib.hid hC
            clear hO hC hI9
            go_wp2_with (go_at_call 24; with_reducible refine HPT.out.mono ?_; rintro e w9 ⟨v9, rfl, hO9, hB9⟩)
            go_ret2
            have h1 := below_lift HB1.out HC9.out HB1.out.size
            exact ⟨bytesQ_yes Hb.out (hO9.mono h1.size), below_lift h1 hB9 h1.size⟩
        -- C>
end Go.Proofs.Ytekcokbpgpeepaa
