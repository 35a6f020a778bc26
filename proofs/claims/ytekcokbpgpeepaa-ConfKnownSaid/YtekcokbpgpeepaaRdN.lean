/- The document's Parse, walked. -/
import Derived.Test.YtekcokbpgpeepaaRdM
import Derived.Test.YtekcokbpgpeepaaBytes05
import Derived.Deep.RegionHeld3
import Derived.WalkMore
namespace Go.Proofs.Ytekcokbpgpeepaa
set_option linter.unusedVariables false
open Go.RowKit

theorem numd_v (B g : Nat) (s : RS) (w : World) (h : RdD B w g s.1 s.2) {z : Int} (hz : rdN s = z) :
    Calls Try.prog 40 #[.pointer (some ⟨g, 0, none⟩), .int .i64 9007199254740991] w fun e w' => e = .returned (.int .i64 z) ∧ RdD B w' g (rdS s).1 (rdS s).2 ∧ Keeps (fun i => i = g) w w' := by
  subst hz
  exact numd B g s w h
theorem endd_v (B g : Nat) (s : RS) (w : World) (h : RdD B w g s.1 s.2) {z : Int} (hz : endE s.1 s.2 = z) :
    Calls Try.prog 43 #[.pointer (some ⟨g, 0, none⟩)] w fun e w' => e = .returned (.int .i64 z) ∧ w = w' := endd_c B g s.1 s.2 w h hz
set_option maxHeartbeats 8000000 in
theorem parsed_c (A : Option Addr) (n c : Nat) (L : List UInt8) (w : World) (h : n = L.length ∧ BytesR w A L) (hA : A = none → c = 0) (hl : n ≤ 140737488355328) :
    Calls Try.prog 19 #[.slice A n c] w fun e w' => ParseQ L w.heap.size w' e ∧ Below w.heap.size w w' := by
  have HB0 : Hid (Below w.heap.size w (w.alloc (.cells #[.slice none 0 0, .slice none 0 0] 25))) := (Below.refl _ _).alloc (Nat.le_refl _) _
  have HR0 := Lib.hid (readd_c A n c L (w.alloc (.cells #[.slice none 0 0, .slice none 0 0] 25)) ⟨h.1, h.2.below HB0.out⟩ hA hl)
  rw [show (w.alloc (.cells #[.slice none 0 0, .slice none 0 0] 25)).heap.size = w.heap.size + 1 by simp] at HR0
  clear h hA hl
  have hn0 := rdN_in (L, 0)
  by_cases h4 : 4 < rdN (L, 0)
  · have HN : Hid (readC L = (50, noCfg)) := if_pos h4
    have HQ := Lib.hid (fun W => parseQ_no HN.out w.heap.size W)
    go_enter Try.func19, Try.ntmps19
    go_wp2_with (first
      | (go_at_call 40; with_reducible refine (numd g g (L, 0) _ hR2).mono ?_; rintro e w3 ⟨rfl, hR3, hK3⟩; have hP := di_start hB hg hgl hK3 hR3; have c0 : w3.cell? ⟨w.heap.size, 0, none⟩ = some (.slice none 0 0) := (hP.o.cell 0).trans rfl; have c1 : w3.cell? ⟨w.heap.size, 1, none⟩ = some (.slice none 0 0) := (hP.o.cell 1).trans rfl; have f0 := hP.o.frozen 0; have f1 := hP.o.frozen 1; clear hK3 hR3 hB hg hR2)
      | (go_at_call 39; with_reducible refine HR0.out.mono ?_; rintro e w2 ⟨g, rfl, hR, hg, hB⟩; obtain ⟨ug, hgb⟩ := hR.blk; have hgl := hgb.lt; have hR2 : RdD g (w2.alloc (.cells #[.slice none 0 0, .slice none 0 0] 25)) g (L, (0 : Int)).1 (L, (0 : Int)).2 := hR.below ((Below.refl _ _).alloc (Nat.le_refl _) _); clear hR hgb))
    have cc0 := ((hP.o.set_ 0 (.slice none 0 0)).set_ 1 (.slice none 0 0)).cell 0
    have cc1 := ((hP.o.set_ 0 (.slice none 0 0)).set_ 1 (.slice none 0 0)).cell 1
    refine bodyPost_ret (v := .tuple #[.agg #[.slice none 0 0, .slice none 0 0], .int .i64 50]) (by simp [results, Try.results19, go_sem, cc0, cc1] <;> rfl) rfl ⟨HQ.out _, (hP.b.setCell (Nat.le_refl _) _).setCell (Nat.le_refl _) _⟩
  · obtain ⟨N, hN⟩ : ∃ N : Nat, rdN (L, 0) = (N : Int) := ⟨_, (Int.toNat_of_nonneg hn0.1).symm⟩
    have hN4 : N ≤ 4 := by omega
    have hN4i : ¬ (4 : Int) < (N : Nat) := by omega
    have HRC : Hid (readC L = if manyB (rdS (L, 0)) N then (50, noCfg) else if 8 < rdN (itr (rdS (L, 0)) N) then (50, noCfg)
        else fin ⟨partsOf (rdS (L, 0)) N, portsOf (rdS (itr (rdS (L, 0)) N)) (rdN (itr (rdS (L, 0)) N)).toNat⟩ (rdAt (rdS (itr (rdS (L, 0)) N)) (6 * (rdN (itr (rdS (L, 0)) N)).toNat))) := by
      show _ = _
      unfold readC
      rw [if_neg h4, hN]
      rfl
    have HNV := Lib.hid hN
    clear hN h4 hn0
    go_enter Try.func19, Try.ntmps19
    go_wp2_with (first
      | (go_at_call 40; with_reducible refine (numd_v g g (L, 0) _ hR2 HNV.out).mono ?_; rintro e w3 ⟨rfl, hR3, hK3⟩; have hP := di_start hB hg hgl hK3 hR3; have c0 : w3.cell? ⟨w.heap.size, 0, none⟩ = some (.slice none 0 0) := (hP.o.cell 0).trans rfl; have c1 : w3.cell? ⟨w.heap.size, 1, none⟩ = some (.slice none 0 0) := (hP.o.cell 1).trans rfl; have f0 := hP.o.frozen 0; have f1 := hP.o.frozen 1; clear hK3 hR3 hB hg hR2)
      | (go_at_call 39; with_reducible refine HR0.out.mono ?_; rintro e w2 ⟨g, rfl, hR, hg, hB⟩; obtain ⟨ug, hgb⟩ := hR.blk; have hgl := hgb.lt; have hR2 : RdD g (w2.alloc (.cells #[.slice none 0 0, .slice none 0 0] 25)) g (L, (0 : Int)).1 (L, (0 : Int)).2 := hR.below ((Below.refl _ _).alloc (Nat.le_refl _) _); clear hR hgb))
    have HP := Lib.hid hP
    have hgq : g < w2.heap.size := hP.hg
    clear hP c0 c1 f0 f1 HR0 HB0 HNV hgl
    generalize hs1 : rdS (L, 0) = s1 at *
    generalize hqc : w2.heap.size = qc at *
    clear hs1 hqc
    go_loopw [7] (fun y wr => ∃ (k : Nat) (v : Value), k ≤ N ∧ y = .int .i64 k ∧ Hid (manyB s1 k = false) ∧ DI w g w.heap.size qc s1 k k v wr) (fun y _ => N - (intOf y).toNat)
    case atStart => exact ⟨0, _, Nat.zero_le _, rfl, Lib.hid rfl, HP.out⟩
    case round =>
      clear HP
      obtain ⟨k, v, hk, rfl, HM, hI⟩ := hrel
      have HI := Lib.hid hI
      clear hI
      by_cases hlt : k < N
      · have hk1 : (k : Int) < (N : Int) := by omega
        obtain ⟨C, hC⟩ : ∃ C : Nat, cntOf (itr s1 k) = (C : Int) := ⟨_, (Int.toNat_of_nonneg (rdN_in (rdAt (itr s1 k) 2)).1).symm⟩
        have HC := Lib.hid hC
        clear hC
        by_cases hC4 : 4 < C
        · have hmm : manyB s1 N = true := manyB_of (k := k) (by rw [HC.out]; omega) hlt
          have HQ := Lib.hid (fun W => parseQ_no (L := L) (z := 50) (by rw [HRC.out, hmm]; rfl) w.heap.size W)
          clear hmm
          go_wp2_with (go_at_call 41; with_reducible refine (partd_no g g (itr s1 k) _ HI.out.rd HI.out.le HC.out hC4).mono ?_; rintro e w4 ⟨rfl, hK4⟩; have hO := HI.out.out4 hK4; have c0 : w4.cell? ⟨w.heap.size, 0, none⟩ = some (.slice none 0 0) := (hO.1.cell 0).trans rfl; have c1 : w4.cell? ⟨w.heap.size, 1, none⟩ = some (.slice none 0 0) := (hO.1.cell 1).trans rfl; have f0 := hO.1.frozen 0; have f1 := hO.1.frozen 1; have hl4 := hO.1.lt)
          have hb2 := (hO.2.setCell (p := ⟨w.heap.size, 0, none⟩) (Nat.le_refl _) (.slice none 0 0)).setCell (p := ⟨w.heap.size, 1, none⟩) (Nat.le_refl _) (.slice none 0 0)
          have hc2 := ((hO.1.set_ 0 (.slice none 0 0)).set_ 1 (.slice none 0 0)).alloc (.cells #[.int .i64 (rdN (itr s1 k)), .int .i64 (rdN (rdAt (itr s1 k) 1)), .slice none 0 0] 41)
          have cc0 := hc2.cell 0
          have cc1 := hc2.cell 1
          refine bodyPost_ret (v := .tuple #[.agg #[.slice none 0 0, .slice none 0 0], .int .i64 50]) (by simp [results, Try.results19, go_sem, cc0, cc1] <;> rfl) rfl ⟨HQ.out _, hb2.alloc hb2.size _⟩
        · have hC4n : C ≤ 4 := by omega
          have HLP : Hid ((partsOf s1 k).length + 1 ≤ 1000000) := len_le (partsOf_len _ _) hlt hN4
          have HM2 : Hid (manyB s1 (k + 1) = false) := by
            show _ = _
            rw [manyB_succ, HM.out, HC.out]
            simp
            omega
          have HU4 : Hid ((partOf (itr s1 k)).ts.length ≤ 2199023255552) := by
            show _ ≤ _
            rw [part_ts HC.out, tksOf_len]
            omega
          go_wp2_with (first
            | (at_builtin; refine wpList_append_part (B := g) (L := partsOf s1 k) (p := partOf (itr s1 k)) rfl (.tmp 36) (.tmp 38) rfl rfl HI5.out.p HI5.out.le HU5.out HU4.out rfl (slA _ _ _) (mul40 HLP.out) ?_; intro v9 w9 hO9 hk9 ht9; obtain ⟨A9, n9, c9, rfl⟩ := hO9.sl; have hc9 := ht9 _ _ _ HI5.out.c (by decide); have c09 : w9.cell? ⟨qc, 0, none⟩ = some v := (hc9.cell 0).trans rfl; have f09 := hc9.frozen 0; have HI9 := Lib.hid (HI5.out.push hO9 hk9 ht9); clear hO9 hk9 ht9 hc9)
            | (go_at_call 41; with_reducible refine (partd_ok g g (itr s1 k) _ HI.out.rd HI.out.le HC.out hC4n).mono ?_; rintro e w4 ⟨v4, rfl, hU4, hR4, hK4⟩; obtain ⟨TA, tn, tc, rfl⟩ := hU4.sl; have hI4 := HI.out.read hK4 hR4; have c0 : w4.cell? ⟨qc, 0, none⟩ = some v := (hI4.c.cell 0).trans rfl; have hl4 := hI4.c.lt; have HI5 := Lib.hid (hI4.low ((Below.refl _ _).alloc (Nat.le_refl _) (.cells #[.int .i64 (rdN (itr s1 k)), .int .i64 (rdN (rdAt (itr s1 k) 1)), .slice TA tn tc] 41))); have HU5 := Lib.hid (part_at HC.out HI.out.le hU4 ((Below.refl _ _).alloc (Nat.le_refl _) (.cells #[.int .i64 (rdN (itr s1 k)), .int .i64 (rdN (rdAt (itr s1 k) 1)), .slice TA tn tc] 41))); clear hI4 hU4 hR4 hK4))
          go_roundw
          case rel => exact ⟨k + 1, _, by omega, rfl, HM2, HI9.out⟩
          case measure => simp [intOf]; omega
      · obtain rfl : N = k := by omega
        have hk1 : ¬ (N : Int) < (N : Int) := by omega
        obtain ⟨M, hM⟩ : ∃ M : Nat, rdN (itr s1 N) = (M : Int) := ⟨_, (Int.toNat_of_nonneg (rdN_in (itr s1 N)).1).symm⟩
        have HRC2 : Hid (readC L = if 8 < (M : Int) then (50, noCfg) else fin ⟨partsOf s1 N, portsOf (rdS (itr s1 N)) M⟩ (rdAt (rdS (itr s1 N)) (6 * M))) := by
          show _ = _
          rw [HRC.out, HM.out, hM]
          rfl
        have HMV := Lib.hid hM
        clear HRC hM HM
        by_cases h8 : 8 < M
        · have h8i : (8 : Int) < (M : Nat) := by omega
          have HQ := Lib.hid (fun W => parseQ_no (L := L) (z := 50) (by rw [HRC2.out, if_pos h8i]) w.heap.size W)
          go_wp2_with (go_at_call 40; with_reducible refine (numd_v g g (itr s1 N) _ HI.out.rd HMV.out).mono ?_; rintro e w4 ⟨rfl, hR4, hK4⟩; have hP := HI.out.ports hK4 hR4; have c0 : w4.cell? ⟨w.heap.size, 0, none⟩ = some (.slice none 0 0) := (hP.o.cell 0).trans rfl; have c1 : w4.cell? ⟨w.heap.size, 1, none⟩ = some (.slice none 0 0) := (hP.o.cell 1).trans rfl; have f0 := hP.o.frozen 0; have f1 := hP.o.frozen 1)
          have cc0 := ((hP.o.set_ 0 (.slice none 0 0)).set_ 1 (.slice none 0 0)).cell 0
          have cc1 := ((hP.o.set_ 0 (.slice none 0 0)).set_ 1 (.slice none 0 0)).cell 1
          refine bodyPost_ret (v := .tuple #[.agg #[.slice none 0 0, .slice none 0 0], .int .i64 50]) (by simp [results, Try.results19, go_sem, cc0, cc1] <;> rfl) rfl ⟨HQ.out _, (hP.b.setCell (Nat.le_refl _) _).setCell (Nat.le_refl _) _⟩
        · have h8i : ¬ (8 : Int) < (M : Nat) := by omega
          have h8n : M ≤ 8 := by omega
          have HF : Hid (readC L = fin ⟨partsOf s1 N, portsOf (rdS (itr s1 N)) M⟩ (rdAt (rdS (itr s1 N)) (6 * M))) := by show _ = _; rw [HRC2.out, if_neg h8i]
          have HLN : Hid ((partsOf s1 N).length ≤ 4) := by show _ ≤ _; rw [partsOf_len]; exact hN4
          clear HRC2
          go_wp2_with (go_at_call 40; with_reducible refine (numd_v g g (itr s1 N) _ HI.out.rd HMV.out).mono ?_; rintro e w4 ⟨rfl, hR4, hK4⟩; have HP4 := Lib.hid (HI.out.ports hK4 hR4); clear hR4 hK4)
          clear HI HMV h8i
          generalize rdS (itr s1 N) = s3 at *
          generalize partsOf s1 N = pl at *
          go_loopw [10] (fun y wr => ∃ (k : Nat) (v2 : Value), k ≤ M ∧ y = .int .i64 k ∧ DQ w g w.heap.size qc s3 pl k k v v2 wr) (fun y _ => M - (intOf y).toNat)
          case atStart => exact ⟨0, _, Nat.zero_le _, rfl, HP4.out⟩
          case round =>
            clear HP4
            obtain ⟨k, v2, hk, rfl, hQ⟩ := hrel
            have HQ := Lib.hid hQ
            clear hQ
            by_cases hlt : k < M
            · have hk1 : (k : Int) < (M : Int) := by omega
              have HLQ : Hid ((portsOf s3 k).length + 1 ≤ 1000000) := len_le8 (portsOf_len _ _) hlt h8n
              go_wp2_with (go_at_call 42; with_reducible refine (row_v g g (rdAt s3 (6 * k)) 6 _ HQ.out.rd HQ.out.le (by omega) (m := 6) rfl).mono ?_; rintro e w5 ⟨v5, rfl, hO5, hR5, hK5⟩)
              obtain ⟨b5, c5, cur5, rfl, hc5, hb5, hB5, hcur⟩ := rowsl hO5 (by omega)
              have hk5 : 6 ≤ c5 := by omega
              have HS : Hid (∀ W : World, Blk W b5 3 cur5 → (fun w' : World => w'.cell? ⟨b5, 0, none⟩ = some (.int .i64 (rdN (rdAt s3 (6 * k)))) ∧ w'.cell? ⟨b5, 1, none⟩ = some (.int .i64 (rdN (rdAt (rdAt s3 (6 * k)) 1))) ∧ w'.cell? ⟨b5, 2, none⟩ = some (.int .i64 (rdN (rdAt (rdAt s3 (6 * k)) 2))) ∧ w'.cell? ⟨b5, 3, none⟩ = some (.int .i64 (rdN (rdAt (rdAt s3 (6 * k)) 3))) ∧ w'.cell? ⟨b5, 4, none⟩ = some (.int .i64 (rdN (rdAt (rdAt s3 (6 * k)) 4))) ∧ w'.cell? ⟨b5, 5, none⟩ = some (.int .i64 (rdN (rdAt (rdAt s3 (6 * k)) 5)))) W) := fun W hb => ⟨(hb.cell 0).trans (hcur 0 (by omega)), (hb.cell 1).trans (hcur 1 (by omega)), (hb.cell 2).trans (hcur 2 (by omega)), (hb.cell 3).trans (hcur 3 (by omega)), (hb.cell 4).trans (hcur 4 (by omega)), (hb.cell 5).trans (hcur 5 (by omega))⟩
              have hD := (HQ.out.read hK5 hR5).low ((Below.refl _ _).drew)
              have hBd : Blk w5.drew b5 3 cur5 := hB5
              clear HQ hO5 hR5 hK5 hcur hB5
              refine wp_region_held_drew (S := fun w' => w'.cell? ⟨b5, 0, none⟩ = some (.int .i64 (rdN (rdAt s3 (6 * k)))) ∧ w'.cell? ⟨b5, 1, none⟩ = some (.int .i64 (rdN (rdAt (rdAt s3 (6 * k)) 1))) ∧ w'.cell? ⟨b5, 2, none⟩ = some (.int .i64 (rdN (rdAt (rdAt s3 (6 * k)) 2))) ∧ w'.cell? ⟨b5, 3, none⟩ = some (.int .i64 (rdN (rdAt (rdAt s3 (6 * k)) 3))) ∧ w'.cell? ⟨b5, 4, none⟩ = some (.int .i64 (rdN (rdAt (rdAt s3 (6 * k)) 4))) ∧ w'.cell? ⟨b5, 5, none⟩ = some (.int .i64 (rdN (rdAt (rdAt s3 (6 * k)) 5)))) (by kernel_rfl) (HS.out _ hBd) (fun hH0 => ?_)
              generalize hwd : w5.drew = wd at hD hBd hH0 ⊢
              clear hwd
              have HD := Lib.hid hD
              have p2 : wd.cell? ⟨qc, 1, none⟩ = some v2 := (hD.c.cell 1).trans rfl
              have hpl : qc < wd.heap.size := hD.c.lt
              clear hD
              refine wpAnyH_take (i := 0) (v := ?_) rfl (by kernel_rfl) (by kernel_rfl) (by kernel_rfl) (fun _ _ _ h => h) (Or.inl ⟨by rfl, ?_⟩) hH0 ?_
              rotate_left
              · intro wz hz; (try dsimp only at hz); (go_simp <;> with_reducible rfl)
              simp only [Act.put, List.setIfInBounds_toArray, List.set_cons_zero, List.set_cons_succ]
              refine wpAnyH_take (i := 2) (v := ?_) rfl (by kernel_rfl) (by kernel_rfl) (by kernel_rfl) (fun _ _ _ h => h) (Or.inl ⟨by rfl, ?_⟩) hH0 ?_
              rotate_left
              · intro wz hz; (try dsimp only at hz); (go_simp <;> with_reducible rfl)
              simp only [Act.put, List.setIfInBounds_toArray, List.set_cons_zero, List.set_cons_succ]
              refine wpAnyH_take (i := 3) (v := ?_) rfl (by kernel_rfl) (by kernel_rfl) (by kernel_rfl) (fun _ _ _ h => h) (Or.inl ⟨by rfl, ?_⟩) hH0 ?_
              rotate_left
              · intro wz hz; (try dsimp only at hz); (go_simp <;> with_reducible rfl)
              simp only [Act.put, List.setIfInBounds_toArray, List.set_cons_zero, List.set_cons_succ]
              refine wpAnyH_take (i := 4) (v := ?_) rfl (by kernel_rfl) (by kernel_rfl) (by kernel_rfl) (fun _ _ _ h => h) (Or.inl ⟨by rfl, ?_⟩) hH0 ?_
              rotate_left
              · intro wz hz; (try dsimp only at hz); (go_simp <;> with_reducible rfl)
              simp only [Act.put, List.setIfInBounds_toArray, List.set_cons_zero, List.set_cons_succ]
              refine wpAnyH_take (i := 5) (v := ?_) rfl (by kernel_rfl) (by kernel_rfl) (by kernel_rfl) (fun _ _ _ h => h) (Or.inl ⟨by rfl, ?_⟩) hH0 ?_
              rotate_left
              · intro wz hz; (try dsimp only at hz); (go_simp <;> with_reducible rfl)
              simp only [Act.put, List.setIfInBounds_toArray, List.set_cons_zero, List.set_cons_succ]
              refine wpAnyH_take (i := 6) (v := ?_) rfl (by kernel_rfl) (by kernel_rfl) (by kernel_rfl) (fun _ _ _ h => h) (Or.inl ⟨by rfl, ?_⟩) hH0 ?_
              rotate_left
              · intro wz hz; (try dsimp only at hz); (go_simp <;> with_reducible rfl)
              simp only [Act.put, List.setIfInBounds_toArray, List.set_cons_zero, List.set_cons_succ]
              refine wpAnyH_take (i := 7) (v := ?_) rfl (by kernel_rfl) (by kernel_rfl) (by kernel_rfl) (fun _ _ _ h => h) (Or.inl ⟨by rfl, ?_⟩) hH0 ?_
              rotate_left
              · intro wz hz; (try dsimp only at hz); (go_simp <;> with_reducible rfl)
              simp only [Act.put, List.setIfInBounds_toArray, List.set_cons_zero, List.set_cons_succ]
              refine wpAnyH_take (i := 8) (v := ?_) rfl (by kernel_rfl) (by kernel_rfl) (by kernel_rfl) (fun _ _ _ h => h) (Or.inl ⟨by rfl, ?_⟩) hH0 ?_
              rotate_left
              · intro wz hz; (try dsimp only at hz); (go_simp <;> with_reducible rfl)
              simp only [Act.put, List.setIfInBounds_toArray, List.set_cons_zero, List.set_cons_succ]
              refine wpAnyH_take (i := 9) (v := ?_) rfl (by kernel_rfl) (by kernel_rfl) (by kernel_rfl) (fun _ _ _ h => h) (Or.inl ⟨by rfl, ?_⟩) hH0 ?_
              rotate_left
              · intro wz hz; (try dsimp only at hz); (go_simp <;> with_reducible rfl)
              simp only [Act.put, List.setIfInBounds_toArray, List.set_cons_zero, List.set_cons_succ]
              refine wpAnyH_take (i := 10) (v := ?_) rfl (by kernel_rfl) (by kernel_rfl) (by kernel_rfl) (fun _ _ _ h => h) (Or.inl ⟨by rfl, ?_⟩) hH0 ?_
              rotate_left
              · intro wz hz; (try dsimp only at hz); (go_simp <;> with_reducible rfl)
              simp only [Act.put, List.setIfInBounds_toArray, List.set_cons_zero, List.set_cons_succ]
              refine wpAnyH_take (i := 11) (v := ?_) rfl (by kernel_rfl) (by kernel_rfl) (by kernel_rfl) (fun _ _ _ h => h) (Or.inl ⟨by rfl, ?_⟩) hH0 ?_
              rotate_left
              · intro wz hz; (try dsimp only at hz); (go_simp <;> with_reducible rfl)
              simp only [Act.put, List.setIfInBounds_toArray, List.set_cons_zero, List.set_cons_succ]
              refine wpAnyH_take (i := 12) (v := ?_) rfl (by kernel_rfl) (by kernel_rfl) (by kernel_rfl) (fun _ _ _ h => h) (Or.inl ⟨by rfl, ?_⟩) hH0 ?_
              rotate_left
              · intro wz hz; (try dsimp only at hz); (go_simp <;> with_reducible rfl)
              simp only [Act.put, List.setIfInBounds_toArray, List.set_cons_zero, List.set_cons_succ]
              refine wpAnyH_take (i := 13) (v := ?_) rfl (by kernel_rfl) (by kernel_rfl) (by kernel_rfl) (fun _ _ _ h => h) (Or.inl ⟨by rfl, ?_⟩) hH0 ?_
              rotate_left
              · intro wz hz; (try dsimp only at hz); (go_simp <;> with_reducible rfl)
              simp only [Act.put, List.setIfInBounds_toArray, List.set_cons_zero, List.set_cons_succ]
              refine wpAnyH_take (i := 14) (v := ?_) rfl (by kernel_rfl) (by kernel_rfl) (by kernel_rfl) (fun _ _ _ h => h) (Or.inl ⟨by rfl, ?_⟩) hH0 ?_
              rotate_left
              · intro wz hz; (try dsimp only at hz); (go_simp <;> with_reducible rfl)
              simp only [Act.put, List.setIfInBounds_toArray, List.set_cons_zero, List.set_cons_succ]
              refine wpAnyH_take (i := 15) (v := ?_) rfl (by kernel_rfl) (by kernel_rfl) (by kernel_rfl) (fun _ _ _ h => h) (Or.inl ⟨by rfl, ?_⟩) hH0 ?_
              rotate_left
              · intro wz hz; (try dsimp only at hz); (go_simp <;> with_reducible rfl)
              simp only [Act.put, List.setIfInBounds_toArray, List.set_cons_zero, List.set_cons_succ]
              refine wpAnyH_take (i := 16) (v := ?_) rfl (by kernel_rfl) (by kernel_rfl) (by kernel_rfl) (fun _ _ _ h => h) (Or.inl ⟨by rfl, ?_⟩) hH0 ?_
              rotate_left
              · intro wz hz; (try dsimp only at hz); (go_simp <;> with_reducible rfl)
              simp only [Act.put, List.setIfInBounds_toArray, List.set_cons_zero, List.set_cons_succ]
              refine wpAnyH_take (i := 17) (v := ?_) rfl (by kernel_rfl) (by kernel_rfl) (by kernel_rfl) (fun _ _ _ h => h) (Or.inl ⟨by rfl, ?_⟩) hH0 ?_
              rotate_left
              · intro wz hz; (try dsimp only at hz); (go_simp <;> with_reducible rfl)
              simp only [Act.put, List.setIfInBounds_toArray, List.set_cons_zero, List.set_cons_succ]
              refine wpAnyH_take (i := 18) (v := ?_) rfl (by kernel_rfl) (by kernel_rfl) (by kernel_rfl) (fun _ _ _ h => h) (Or.inl ⟨by rfl, ?_⟩) hH0 ?_
              rotate_left
              · intro wz hz; (try dsimp only at hz); (go_simp <;> with_reducible rfl)
              simp only [Act.put, List.setIfInBounds_toArray, List.set_cons_zero, List.set_cons_succ]
              refine wpAnyH_take (i := 19) (v := ?_) rfl (by kernel_rfl) (by kernel_rfl) (by kernel_rfl) (fun _ _ _ h => h) (Or.inl ⟨by rfl, ?_⟩) hH0 ?_
              rotate_left
              · intro wz hz; (try dsimp only at hz); (go_simp <;> with_reducible rfl)
              simp only [Act.put, List.setIfInBounds_toArray, List.set_cons_zero, List.set_cons_succ]
              refine wpAnyH_take (i := 20) (v := ?_) rfl (by kernel_rfl) (by kernel_rfl) (by kernel_rfl) (fun _ _ _ h => h) (Or.inl ⟨by rfl, ?_⟩) hH0 ?_
              rotate_left
              · intro wz hz; (try dsimp only at hz); (go_simp <;> with_reducible rfl)
              simp only [Act.put, List.setIfInBounds_toArray, List.set_cons_zero, List.set_cons_succ]
              refine wpAnyH_ready (rs := [1, 21]) (by kernel_rfl) (by simp) ?_
              refine AllReadyH.cons (at_list rfl) (fun K hK => ?_) (AllReadyH.cons (at_list rfl) (fun K hK => ?_) AllReadyH.nil)
              · go_simp
                refine hK.out _ _ (HS.out _ hBd) (fun hH1 => ?_)
                clear hK K
                try simp only [Act.put, List.setIfInBounds_toArray, List.set_cons_zero, List.set_cons_succ]
                refine wpAnyH_ready (rs := [21]) (by kernel_rfl) (by simp) ?_
                refine AllReadyH.cons (at_list rfl) (fun K hK => ?_) AllReadyH.nil
                go_simp
                refine hK.out _ _ (HS.out _ (hBd.alloc _)) (fun hH2 => ?_)
                clear hK K
                try simp only [Act.put, List.setIfInBounds_toArray, List.set_cons_zero, List.set_cons_succ]
                refine wpAnyH_ready (rs := [22]) (by kernel_rfl) (by simp) ?_
                refine AllReadyH.cons (at_list rfl) (fun K hK => ?_) AllReadyH.nil
                refine step_append_port (w := wd) (v := v2) (B := g) (L := portsOf s3 k) (t := ptOf (rdAt s3 (6 * k))) rfl (.tmp 54) (.tmp 74) rfl rfl HD.out.q HD.out.le rfl rfl HLQ.out ?_
                intro v9 w9 hO9 hk9 ht9
                obtain ⟨A9, n9, c9, rfl⟩ := hO9.sl
                have h9 := ht9 _ _ _ hBd (by decide)
                have hp9 := ht9 _ _ _ HD.out.c (by decide)
                have hfar : b5 ≠ qc := h9.ne_ hp9 (by decide)
                have q2 : w9.cell? ⟨qc, 1, none⟩ = some v2 := (hp9.cell 1).trans rfl
                have f2 := hp9.frozen 1
                have HD9 := Lib.hid (HD.out.push hO9 hk9 ht9)
                refine hK.out _ _ (HS.out _ h9) (fun hH3 => ?_)
                clear hK K
                try simp only [Act.put, List.setIfInBounds_toArray, List.set_cons_zero, List.set_cons_succ]
                refine wpAnyH_take (i := 23) (v := ?_) rfl (by kernel_rfl) (by kernel_rfl) (by kernel_rfl) (fun _ _ _ h => h) (Or.inl ⟨by rfl, ?_⟩) hH3 ?_
                rotate_left
                · intro wz hz; (try dsimp only at hz); (go_simp <;> with_reducible rfl)
                simp only [Act.put, List.setIfInBounds_toArray, List.set_cons_zero, List.set_cons_succ]
                refine wpAnyH_ready (rs := [24]) (by kernel_rfl) (by simp) ?_
                refine AllReadyH.cons (at_list rfl) (fun K hK => ?_) AllReadyH.nil
                go_simp
                refine hK.out _ _ (HS.out _ (h9.far hfar _)) (fun hH4 => ?_)
                clear hK K
                try simp only [Act.put, List.setIfInBounds_toArray, List.set_cons_zero, List.set_cons_succ]
                refine wpAnyH_done (by kernel_rfl) ?_ _
                go_wp2_with fail
                go_roundw
                case rel => exact ⟨k + 1, _, by omega, rfl, HD9.out⟩
                case measure => simp [intOf]; omega
              · go_simp
                refine hK.out _ _ (HS.out _ (hBd.alloc _)) (fun hH1 => ?_)
                clear hK K
                try simp only [Act.put, List.setIfInBounds_toArray, List.set_cons_zero, List.set_cons_succ]
                refine wpAnyH_ready (rs := [1]) (by kernel_rfl) (by simp) ?_
                refine AllReadyH.cons (at_list rfl) (fun K hK => ?_) AllReadyH.nil
                go_simp
                refine hK.out _ _ (HS.out _ (hBd.alloc _)) (fun hH2 => ?_)
                clear hK K
                try simp only [Act.put, List.setIfInBounds_toArray, List.set_cons_zero, List.set_cons_succ]
                refine wpAnyH_ready (rs := [22]) (by kernel_rfl) (by simp) ?_
                refine AllReadyH.cons (at_list rfl) (fun K hK => ?_) AllReadyH.nil
                refine step_append_port (w := wd) (v := v2) (B := g) (L := portsOf s3 k) (t := ptOf (rdAt s3 (6 * k))) rfl (.tmp 54) (.tmp 74) rfl rfl HD.out.q HD.out.le rfl rfl HLQ.out ?_
                intro v9 w9 hO9 hk9 ht9
                obtain ⟨A9, n9, c9, rfl⟩ := hO9.sl
                have h9 := ht9 _ _ _ hBd (by decide)
                have hp9 := ht9 _ _ _ HD.out.c (by decide)
                have hfar : b5 ≠ qc := h9.ne_ hp9 (by decide)
                have q2 : w9.cell? ⟨qc, 1, none⟩ = some v2 := (hp9.cell 1).trans rfl
                have f2 := hp9.frozen 1
                have HD9 := Lib.hid (HD.out.push hO9 hk9 ht9)
                refine hK.out _ _ (HS.out _ h9) (fun hH3 => ?_)
                clear hK K
                try simp only [Act.put, List.setIfInBounds_toArray, List.set_cons_zero, List.set_cons_succ]
                refine wpAnyH_take (i := 23) (v := ?_) rfl (by kernel_rfl) (by kernel_rfl) (by kernel_rfl) (fun _ _ _ h => h) (Or.inl ⟨by rfl, ?_⟩) hH3 ?_
                rotate_left
                · intro wz hz; (try dsimp only at hz); (go_simp <;> with_reducible rfl)
                simp only [Act.put, List.setIfInBounds_toArray, List.set_cons_zero, List.set_cons_succ]
                refine wpAnyH_ready (rs := [24]) (by kernel_rfl) (by simp) ?_
                refine AllReadyH.cons (at_list rfl) (fun K hK => ?_) AllReadyH.nil
                go_simp
                refine hK.out _ _ (HS.out _ (h9.far hfar _)) (fun hH4 => ?_)
                clear hK K
                try simp only [Act.put, List.setIfInBounds_toArray, List.set_cons_zero, List.set_cons_succ]
                refine wpAnyH_done (by kernel_rfl) ?_ _
                go_wp2_with fail
                go_roundw
                case rel => exact ⟨k + 1, _, by omega, rfl, HD9.out⟩
                case measure => simp [intOf]; omega
            · obtain rfl : M = k := by omega
              have hk1 : ¬ (M : Int) < (M : Int) := by omega
              obtain ⟨A1, n1, A2, n2, rfl, rfl, hCf⟩ := HQ.out.cfg HLN.out h8n
              have c0 : wr.cell? ⟨qc, 0, none⟩ = some (.slice A1 pl.length n1) := (HQ.out.c.cell 0).trans rfl
              have c1 : wr.cell? ⟨qc, 1, none⟩ = some (.slice A2 (portsOf s3 M).length n2) := (HQ.out.c.cell 1).trans rfl
              have o0 : wr.cell? ⟨w.heap.size, 0, none⟩ = some (.slice none 0 0) := (HQ.out.o.cell 0).trans rfl
              have o1 : wr.cell? ⟨w.heap.size, 1, none⟩ = some (.slice none 0 0) := (HQ.out.o.cell 1).trans rfl
              have f0 := HQ.out.o.frozen 0
              have f1 := HQ.out.o.frozen 1
              have hcl : qc < wr.heap.size := HQ.out.c.lt
              have hol : w.heap.size < wr.heap.size := HQ.out.o.lt
              have HCf := Lib.hid hCf
              clear hCf
              obtain ⟨z, hz⟩ : ∃ z, endE (rdAt s3 (6 * M)).1 (rdAt s3 (6 * M)).2 = z := ⟨_, rfl⟩
              have HZ := Lib.hid hz
              by_cases hz0 : z = 0
              · subst hz0
                clear hz
                cases hck : checkB ⟨pl, portsOf s3 M⟩ with
                | true =>
                  have HCK := Lib.hid hck
                  clear hck
                  go_wp2_with (first
                    | (go_at_call 13; with_reducible refine (checkr_v A1 A2 n1 n2 ⟨pl, portsOf s3 M⟩ _ HCf.out HCK.out).mono ?_; rintro e w6 ⟨rfl, hb6⟩; have d0 := (hb6.cell (p := ⟨qc, 0, none⟩) hcl).trans c0; have d1 := (hb6.cell (p := ⟨qc, 1, none⟩) hcl).trans c1; have e0 := (hb6.cell (p := ⟨w.heap.size, 0, none⟩) hol).trans o0; have e1 := (hb6.cell (p := ⟨w.heap.size, 1, none⟩) hol).trans o1; have g0 := (hb6.frozen (p := ⟨w.heap.size, 0, none⟩) hol).trans f0; have g1 := (hb6.frozen (p := ⟨w.heap.size, 1, none⟩) hol).trans f1)
                    | (go_at_call 43; with_reducible refine (endd_v g g _ _ HQ.out.rd HZ.out).mono ?_; rintro e w5 ⟨rfl, rfl⟩))
                  obtain ⟨hc6, hP6, hQ6, hB6⟩ := HQ.out.done hb6 (.slice A1 pl.length n1) (.slice A2 (portsOf s3 M).length n2)
                  have cc0 := ((hc6.set_ 0 (.slice A1 pl.length n1)).set_ 1 (.slice A2 (portsOf s3 M).length n2)).cell 0
                  have cc1 := ((hc6.set_ 0 (.slice A1 pl.length n1)).set_ 1 (.slice A2 (portsOf s3 M).length n2)).cell 1
                  refine bodyPost_ret (v := .tuple #[.agg #[.slice A1 pl.length n1, .slice A2 (portsOf s3 M).length n2], .int .i64 0]) (by simp [results, Try.results19, go_sem, cc0, cc1] <;> rfl) rfl ⟨parseQ_ok HF.out HZ.out HCK.out hP6 hQ6, hB6⟩
                | false =>
                  have HCK := Lib.hid hck
                  have HQQ := Lib.hid (fun W => parseQ_bad HF.out HZ.out hck w.heap.size W)
                  clear hck
                  go_wp2_with (first
                    | (go_at_call 13; with_reducible refine (checkr_w A1 A2 n1 n2 ⟨pl, portsOf s3 M⟩ _ HCf.out HCK.out).mono ?_; rintro e w6 ⟨rfl, hb6⟩; have e0 := (hb6.cell (p := ⟨w.heap.size, 0, none⟩) hol).trans o0; have e1 := (hb6.cell (p := ⟨w.heap.size, 1, none⟩) hol).trans o1; have g0 := (hb6.frozen (p := ⟨w.heap.size, 0, none⟩) hol).trans f0; have g1 := (hb6.frozen (p := ⟨w.heap.size, 1, none⟩) hol).trans f1)
                    | (go_at_call 43; with_reducible refine (endd_v g g _ _ HQ.out.rd HZ.out).mono ?_; rintro e w5 ⟨rfl, rfl⟩))
                  obtain ⟨hc6, -, -, hB6⟩ := HQ.out.done hb6 (.slice none 0 0) (.slice none 0 0)
                  have cc0 := ((hc6.set_ 0 (.slice none 0 0)).set_ 1 (.slice none 0 0)).cell 0
                  have cc1 := ((hc6.set_ 0 (.slice none 0 0)).set_ 1 (.slice none 0 0)).cell 1
                  refine bodyPost_ret (v := .tuple #[.agg #[.slice none 0 0, .slice none 0 0], .int .i64 50]) (by simp [results, Try.results19, go_sem, cc0, cc1] <;> rfl) rfl ⟨HQQ.out _, hB6⟩
              · have hz1 : (z == 0) = false := by simp [hz0]
                have hz2 : (z != 0) = true := by simp [hz0]
                have HQQ := Lib.hid (fun W => parseQ_err HF.out hz hz0 w.heap.size W)
                clear hz
                go_wp2_with (go_at_call 43; with_reducible refine (endd_v g g _ _ HQ.out.rd HZ.out).mono ?_; rintro e w5 ⟨rfl, rfl⟩)
                obtain ⟨hc6, -, -, hB6⟩ := HQ.out.done (Below.refl _ _) (.slice none 0 0) (.slice none 0 0)
                have cc0 := ((hc6.set_ 0 (.slice none 0 0)).set_ 1 (.slice none 0 0)).cell 0
                have cc1 := ((hc6.set_ 0 (.slice none 0 0)).set_ 1 (.slice none 0 0)).cell 1
                refine bodyPost_ret (v := .tuple #[.agg #[.slice none 0 0, .slice none 0 0], .int .i64 z]) (by simp [results, Try.results19, go_sem, cc0, cc1] <;> rfl) rfl ⟨HQQ.out _, hB6⟩
end Go.Proofs.Ytekcokbpgpeepaa
