/- Layer 5: Parse, the program's. -/
import Derived.Test.YtekcokbpgpeepaaCnfO2
import Derived.Deep.CutBlock
import Derived.Deep.DeepCutAuto
import Derived.WalkMore
namespace Go.Proofs.Ytekcokbpgpeepaa
set_option linter.unusedVariables false
open Go.RowKit

theorem mul40 {n : Nat} (h : n + 1 ≤ 1000000) : (n + 1) * 40 ≤ 140737488355328 := by omega
theorem len_le8 {α : Type} {L : List α} {k n : Nat} (h : L.length = k) (hk : k < n) (hn : n ≤ 8) : Hid (L.length + 1 ≤ 1000000) := by
  show L.length + 1 ≤ 1000000
  omega
theorem len_le {α : Type} {L : List α} {k n : Nat} (h : L.length = k) (hk : k < n) (hn : n ≤ 4) : Hid (L.length + 1 ≤ 1000000) := by
  show L.length + 1 ≤ 1000000
  omega
set_option maxHeartbeats 4000000 in
theorem parse_c (A : Option Addr) (n c : Nat) (L : List UInt8) (w : World) (h : n = L.length ∧ BytesR w A L) (hA : A = none → c = 0) (hc : n ≤ c) (hl : c ≤ 9223372036854775807) :
    Calls Try.prog 18 #[.slice A n c] w fun e w' => ParseQ L w.heap.size w' e ∧ Below w.heap.size w w' := by
  have HBd : Hid (L ≠ [] → ∃ b off, A = some ⟨b, off, none⟩ ∧ b < w.heap.size) := fun hL => by
    obtain ⟨b, off, h1, h2, _⟩ := h.2 hL
    exact ⟨b, off, h1, h2⟩
  have HB0 : Hid (Below w.heap.size w (w.alloc (.cells #[.slice none 0 0, .slice none 0 0] 25))) := (Below.refl _ _).alloc (Nat.le_refl _) _
  have HR0 := Lib.hid (readB_c A n c L (w.alloc (.cells #[.slice none 0 0, .slice none 0 0] 25)) ⟨h.1, h.2.below HB0.out⟩ hA hc hl w.heap.size HBd.out)
  rw [show (w.alloc (.cells #[.slice none 0 0, .slice none 0 0] 25)).heap.size = w.heap.size + 1 by simp] at HR0
  clear h hA hc hl
  have hn0 := rdN_in (L, 0)
  by_cases h4 : 4 < rdN (L, 0)
  · have HN : Hid (readC L = (50, noCfg)) := if_pos h4
    have HQ := Lib.hid (fun W => parseQ_no HN.out w.heap.size W)
    go_enter Try.func18, Try.ntmps18
    go_wp2_with fail
    go_step3
    go_wp2_with (first
      | (go_at_call 36; with_reducible refine (one_c w.heap.size _ (L, 0) _ hR2).mono ?_; rintro e w3 ⟨rfl, hR3, hK3⟩; have hP := pi_start hB hg hK3 hR3; have c0 : w3.cell? ⟨w.heap.size, 0, none⟩ = some (.slice none 0 0) := (hP.c.cell 0).trans rfl; have c1 : w3.cell? ⟨w.heap.size, 1, none⟩ = some (.slice none 0 0) := (hP.c.cell 1).trans rfl; have f0 := hP.c.frozen 0; have f1 := hP.c.frozen 1; clear hK3 hR3 hB hg hR2)
      | (go_at_call 35; with_reducible refine HR0.out.mono ?_; rintro e w2 ⟨rfl, hR, hB⟩; obtain ⟨ug, hgb⟩ := hR.blk; have hg := hgb.lt; have hR2 : RdB w.heap.size (w2.alloc (.cells #[.pointer (some ⟨w.heap.size + 1, 0, none⟩)] 64)) (w.heap.size + 1) (L, (0 : Int)).1 (L, (0 : Int)).2 := hR.below ((Below.refl _ _).alloc (Nat.le_refl _) _); clear hR hgb))
    rw [Exit.noGoto_ret]
    have cc0 := ((hP.c.set_ 0 (.slice none 0 0)).set_ 1 (.slice none 0 0)).cell 0
    have cc1 := ((hP.c.set_ 0 (.slice none 0 0)).set_ 1 (.slice none 0 0)).cell 1
    refine bodyPost_ret (v := .tuple #[.agg #[.slice none 0 0, .slice none 0 0], .int .i64 50]) (by simp [results, Try.results18, go_sem, cc0, cc1] <;> rfl) rfl ⟨HQ.out _, (hP.b.setCell (Nat.le_refl _) _).setCell (Nat.le_refl _) _⟩
  · obtain ⟨N, hN⟩ : ∃ N : Nat, rdN (L, 0) = (N : Int) := ⟨_, (Int.toNat_of_nonneg hn0.1).symm⟩
    have hN4 : N ≤ 4 := by omega
    have hN4i : ¬ (4 : Int) < (N : Nat) := by omega
    have HRC : Hid (readC L = if manyB (rdS (L, 0)) N then (50, noCfg) else if 8 < rdN (itr (rdS (L, 0)) N) then (50, noCfg)
        else fin ⟨partsOf (rdS (L, 0)) N, portsOf (rdS (itr (rdS (L, 0)) N)) (rdN (itr (rdS (L, 0)) N)).toNat⟩ (rdAt (rdS (itr (rdS (L, 0)) N)) (6 * (rdN (itr (rdS (L, 0)) N)).toNat))) := by
      show _ = _
      unfold readC
      rw [if_neg h4, hN]
      rfl
    have HNV := Lib.hid hN
    clear hN h4 hn0
    go_enter Try.func18, Try.ntmps18
    go_wp2_with fail
    go_step3
    go_upto_block 0 with (first
      | (go_at_call 36; with_reducible refine (one_v w.heap.size _ (L, 0) _ hR2 HNV.out).mono ?_; rintro e w3 ⟨rfl, hR3, hK3⟩; have hP := pi_start hB hg hK3 hR3; have c0 : w3.cell? ⟨w.heap.size, 0, none⟩ = some (.slice none 0 0) := (hP.c.cell 0).trans rfl; have c1 : w3.cell? ⟨w.heap.size, 1, none⟩ = some (.slice none 0 0) := (hP.c.cell 1).trans rfl; have f0 := hP.c.frozen 0; have f1 := hP.c.frozen 1; clear hK3 hR3 hB hg hR2)
      | (go_at_call 35; with_reducible refine HR0.out.mono ?_; rintro e w2 ⟨rfl, hR, hB⟩; obtain ⟨ug, hgb⟩ := hR.blk; have hg := hgb.lt; have hR2 : RdB w.heap.size (w2.alloc (.cells #[.pointer (some ⟨w.heap.size + 1, 0, none⟩)] 64)) (w.heap.size + 1) (L, (0 : Int)).1 (L, (0 : Int)).2 := hR.below ((Below.refl _ _).alloc (Nat.le_refl _) _); clear hR hgb))
    have HP := Lib.hid hP
    have hg4 : w2.heap.size < w3.heap.size := hP.r.lt
    clear hP c0 c1 f0 f1 HR0 HBd HB0 HNV
    generalize hs1 : rdS (L, 0) = s1 at *
    generalize hq4 : w2.heap.size = q4 at *
    generalize hgg : w.heap.size + 1 = g at *
    clear hs1 hq4 hgg hg4
    go_step3
    go_upto_block 0 with fail
    go_cut [6] (fun v wx => ∃ u : Value, v = .bool (manyB s1 N) ∧ Blk wx w.heap.size 25 #[u, .slice none 0 0] ∧ Below w.heap.size w wx ∧ (manyB s1 N = false → PI w w.heap.size g w.heap.size q4 s1 N u wx))
    case first =>
      go_wp2_with fail
      go_loopw [6, 21] (fun v y wr => ∃ (k : Nat) (u : Value), k ≤ N ∧ y = .int .i64 k ∧ v = .bool false ∧ Hid (manyB s1 k = false) ∧ PI w w.heap.size g w.heap.size q4 s1 k u wr) (fun _ y _ => N - (intOf y).toNat)
      case atStart => exact ⟨0, _, Nat.zero_le _, rfl, rfl, Lib.hid rfl, HP.out⟩
      case round =>
        obtain ⟨k, u, hk, rfl, rfl, HM, hI⟩ := hrel
        obtain ⟨wb, rfl⟩ : ∃ x : World, x = wr := ⟨_, rfl⟩
        have r0 : wb.cell? ⟨q4, 0, none⟩ = some (.pointer (some ⟨g, 0, none⟩)) := (hI.r.cell 0).trans rfl
        have hq4l : q4 < wb.heap.size := hI.r.lt
        have HI := Lib.hid hI
        clear hI
        by_cases hlt : k < N
        · have hk1 : (k : Int) < (N : Int) := by omega
          obtain ⟨C, hC⟩ : ∃ C : Nat, cntOf (itr s1 k) = (C : Int) := ⟨_, (Int.toNat_of_nonneg (rdN_in (rdAt (itr s1 k) 2)).1).symm⟩
          have HC := Lib.hid hC
          clear hC
          by_cases hC4 : 4 < C
          · have hC4i : (4 : Int) < (C : Nat) := by omega
            have hmm : manyB s1 N = true := manyB_of (k := k) (by rw [HC.out]; exact hC4i) hlt
            have HMM := Lib.hid hmm
            clear hmm
            go_wp2_with (go_at_call 37; with_reducible refine (into3_at HI.out).mono ?_; rintro e w4 ⟨rfl, hJ⟩; have m0 := hJ.m0 HC.out; have HJ := Lib.hid hJ; clear hJ)
            go_meet
            exact ⟨u, by rw [HMM.out], HJ.out.k.blk HI.out.c HI.out.cg, HI.out.jb HJ.out, fun h => by rw [HMM.out] at h; cases h⟩
          · have hC4i : ¬ (4 : Int) < (C : Nat) := by omega
            have hC4n : C ≤ 4 := by omega
            go_wp2_with (go_at_call 37; with_reducible refine (into3_at HI.out).mono ?_; rintro e w4 ⟨rfl, hJ⟩; have m0 := hJ.m0 HC.out; have HJ := Lib.hid hJ; clear hJ)
            clear m0 hC4i
            go_loopw [32] (fun y wx => ∃ (j : Nat) (u2 : Value), j ≤ C ∧ y = .int .i64 j ∧ PJ wb w.heap.size g wb.heap.size (wb.heap.size + 1) (itr s1 k) j j u2 wx) (fun y _ => C - (intOf y).toNat)
            case atStart => exact ⟨0, _, Nat.zero_le _, rfl, HJ.out⟩
            case round =>
              clear HJ r0 hq4l
              obtain ⟨j, u2, hj, rfl, hJ⟩ := hrel
              have r0 : wr.cell? ⟨q4, 0, none⟩ = some (.pointer (some ⟨g, 0, none⟩)) := ((hJ.k.blk HI.out.r HI.out.rg).cell 0).trans rfl
              have hq4l : q4 < wr.heap.size := (hJ.k.blk HI.out.r HI.out.rg).lt
              have HJ := Lib.hid hJ
              clear hJ
              by_cases hltj : j < C
              · have hj1 : (j : Int) < (C : Int) := by omega
                go_wp2_with (first
                  | (at_builtin; refine wpList_append_task (B := wb.heap.size) (L := tksOf (rdAt (itr s1 k) 3) j) (t := tkOf (rdAt (rdAt (itr s1 k) 3) (8 * j))) rfl (.tmp 46) (.tmp 48) rfl rfl HJ5.out.u HJ5.out.k.size rfl rfl (HLJ.out) ?_; intro v9 w9 hO9 hk9 ht9; obtain ⟨A9, n9, c9, rfl⟩ := hO9.sl; have hp9 := ht9 _ _ _ HJ5.out.p (by decide); have p29 : w9.cell? ⟨wb.heap.size, 2, none⟩ = some u2 := (hp9.cell 2).trans rfl; have f29 := hp9.frozen 2; have HJ9 := Lib.hid (HJ5.out.push HI.out.le hO9 hk9 ht9); clear hO9 hk9 ht9 hp9)
                  | (go_at_call 37; with_reducible refine (into8_at HJ.out HI.out.le).mono ?_; rintro e w5 ⟨rfl, hJ5, hq5⟩; obtain ⟨t0, t1, t2, t3, t4, t5, t6, t7⟩ := tk_cells hq5; obtain ⟨p0, p1, p2⟩ := hJ5.p0; have hpl : wb.heap.size < w5.heap.size := hJ5.p.lt; have htl : wr.heap.size < w5.heap.size := hq5.lt; have HJ5 := Lib.hid hJ5; have HLJ : Hid ((tksOf (rdAt (itr s1 k) 3) j).length + 1 ≤ 1000000) := len_le (tksOf_len _ _) hltj hC4n; clear hJ5 hq5))
                go_roundw
                case rel => exact ⟨j + 1, _, by omega, rfl, HJ9.out⟩
                case measure => simp [intOf]; omega
              · obtain rfl : C = j := by omega
                have hj1 : ¬ (C : Int) < (C : Int) := by omega
                obtain ⟨p0, p1, p2⟩ := HJ.out.p0
                have hcx := HJ.out.k.blk HI.out.c HI.out.cg
                have c0 : wr.cell? ⟨w.heap.size, 0, none⟩ = some u := (hcx.cell 0).trans rfl
                have hcl : w.heap.size < wr.heap.size := hcx.lt
                have hpl : wb.heap.size < wr.heap.size := HJ.out.p.lt
                have HCX := Lib.hid hcx
                have HPX := Lib.hid (HI.out.px HJ.out)
                have HU : Hid (OwnT wr w.heap.size u2 (partOf (itr s1 k)).ts) := by
                  show OwnT _ _ _ _
                  rw [part_ts HC.out]
                  exact HJ.out.u.mono HI.out.le
                have HU4 : Hid ((partOf (itr s1 k)).ts.length ≤ 2199023255552) := by
                  show _ ≤ _
                  rw [part_ts HC.out, tksOf_len]
                  omega
                have HLP : Hid ((partsOf s1 k).length + 1 ≤ 1000000) := len_le (partsOf_len _ _) hlt hN4
                have HM2 : Hid (manyB s1 (k + 1) = false) := by
                  show _ = _
                  rw [manyB_succ, HM.out, HC.out]
                  simp
                  omega
                have HBX := Lib.hid (HI.out.jb HJ.out)
                clear hcx
                go_wp2_with (at_builtin; refine wpList_append_part (B := w.heap.size) (L := partsOf s1 k) (p := partOf (itr s1 k)) rfl (.tmp 53) (.tmp 55) rfl rfl HPX.out HBX.out.size HU.out HU4.out rfl rfl (mul40 HLP.out) ?_; intro v9 w9 hO9 hk9 ht9; obtain ⟨A9, n9, c9, rfl⟩ := hO9.sl; have hc9 := ht9 _ _ _ HCX.out (by decide); have c09 : w9.cell? ⟨w.heap.size, 0, none⟩ = some u := (hc9.cell 0).trans rfl; have f09 := hc9.frozen 0; have HI9 := Lib.hid (HI.out.push HJ.out HC.out hO9 hk9 ht9); clear hO9 hk9 ht9 hc9)
                go_roundw
                case rel => exact ⟨k + 1, _, by omega, rfl, by simp; omega, HM2, HI9.out⟩
                case measure => simp [intOf]; omega
        · obtain rfl : N = k := by omega
          have hk1 : ¬ (N : Int) < (N : Int) := by omega
          go_wp2_with fail
          go_meet
          exact ⟨u, by rw [HM.out], HI.out.c, HI.out.b, fun _ => HI.out⟩
    case rest =>
      obtain ⟨u, rfl, hcB, hBw, hPI⟩ := hcut
      obtain ⟨wx, rfl⟩ : ∃ x : World, x = wc := ⟨_, rfl⟩
      cases hmany : manyB s1 N with
      | true =>
        have HQ := Lib.hid (fun W => parseQ_no (L := L) (z := 50) (by rw [HRC.out, hmany]; rfl) w.heap.size W)
        have c0 : wx.cell? ⟨w.heap.size, 0, none⟩ = some u := (hcB.cell 0).trans rfl
        have c1 : wx.cell? ⟨w.heap.size, 1, none⟩ = some (.slice none 0 0) := (hcB.cell 1).trans rfl
        have f0 := hcB.frozen 0
        have f1 := hcB.frozen 1
        clear hPI HRC hmany
        go_wp2_with fail
        rw [Exit.noGoto_ret]
        have cc0 := ((hcB.set_ 0 (.slice none 0 0)).set_ 1 (.slice none 0 0)).cell 0
        have cc1 := ((hcB.set_ 0 (.slice none 0 0)).set_ 1 (.slice none 0 0)).cell 1
        refine bodyPost_ret (v := .tuple #[.agg #[.slice none 0 0, .slice none 0 0], .int .i64 50]) (by simp [results, Try.results18, go_sem, cc0, cc1] <;> rfl) rfl ⟨HQ.out _, ?_⟩
        exact (hBw.setCell (Nat.le_refl _) _).setCell (Nat.le_refl _) _
      | false =>
        have HI := Lib.hid (hPI hmany)
        have r0 : wx.cell? ⟨q4, 0, none⟩ = some (.pointer (some ⟨g, 0, none⟩)) := (HI.out.r.cell 0).trans rfl
        obtain ⟨M, hM⟩ : ∃ M : Nat, rdN (itr s1 N) = (M : Int) := ⟨_, (Int.toNat_of_nonneg (rdN_in (itr s1 N)).1).symm⟩
        have HRC2 : Hid (readC L = if 8 < (M : Int) then (50, noCfg) else fin ⟨partsOf s1 N, portsOf (rdS (itr s1 N)) M⟩ (rdAt (rdS (itr s1 N)) (6 * M))) := by
          show _ = _
          rw [HRC.out, hmany, hM]
          rfl
        have HM := Lib.hid hM
        clear hPI HRC hmany hM hcB hBw
        by_cases h8 : 8 < M
        · have h8i : (8 : Int) < (M : Nat) := by omega
          have HQ := Lib.hid (fun W => parseQ_no (L := L) (z := 50) (by rw [HRC2.out, if_pos h8i]) w.heap.size W)
          go_wp2_with (go_at_call 36; with_reducible refine (one_v w.heap.size g (itr s1 N) _ HI.out.rd HM.out).mono ?_; rintro e w4 ⟨rfl, hR4, hK4⟩; have hP := HI.out.ports hK4 hR4; have c0 : w4.cell? ⟨w.heap.size, 0, none⟩ = some u := (hP.c.cell 0).trans rfl; have c1 : w4.cell? ⟨w.heap.size, 1, none⟩ = some (.slice none 0 0) := (hP.c.cell 1).trans rfl; have f0 := hP.c.frozen 0; have f1 := hP.c.frozen 1)
          rw [Exit.noGoto_ret]
          have cc0 := ((hP.c.set_ 0 (.slice none 0 0)).set_ 1 (.slice none 0 0)).cell 0
          have cc1 := ((hP.c.set_ 0 (.slice none 0 0)).set_ 1 (.slice none 0 0)).cell 1
          refine bodyPost_ret (v := .tuple #[.agg #[.slice none 0 0, .slice none 0 0], .int .i64 50]) (by simp [results, Try.results18, go_sem, cc0, cc1] <;> rfl) rfl ⟨HQ.out _, ?_⟩
          exact (hP.b.setCell (Nat.le_refl _) _).setCell (Nat.le_refl _) _
        · have h8i : ¬ (8 : Int) < (M : Nat) := by omega
          have h8n : M ≤ 8 := by omega
          have HF : Hid (readC L = fin ⟨partsOf s1 N, portsOf (rdS (itr s1 N)) M⟩ (rdAt (rdS (itr s1 N)) (6 * M))) := by show _ = _; rw [HRC2.out, if_neg h8i]
          have HLN : Hid ((partsOf s1 N).length ≤ 4) := by show _ ≤ _; rw [partsOf_len]; exact hN4
          clear HRC2
          go_wp2_with (go_at_call 36; with_reducible refine (one_v w.heap.size g (itr s1 N) _ HI.out.rd HM.out).mono ?_; rintro e w4 ⟨rfl, hR4, hK4⟩; have HP4 := Lib.hid (HI.out.ports hK4 hR4); clear hR4 hK4)
          clear HI HM r0 h8i
          generalize rdS (itr s1 N) = s3 at *
          generalize partsOf s1 N = pl at *
          go_loopw [67] (fun y wr => ∃ (k : Nat) (v2 : Value), k ≤ M ∧ y = .int .i64 k ∧ PQ w w.heap.size g w.heap.size q4 s3 pl k k u v2 wr) (fun y _ => M - (intOf y).toNat)
          case atStart => exact ⟨0, _, Nat.zero_le _, rfl, HP4.out⟩
          case round =>
            clear HP4
            obtain ⟨k, v2, hk, rfl, hQ⟩ := hrel
            have r0 : wr.cell? ⟨q4, 0, none⟩ = some (.pointer (some ⟨g, 0, none⟩)) := (hQ.r.cell 0).trans rfl
            have hq4l : q4 < wr.heap.size := hQ.r.lt
            have HQ := Lib.hid hQ
            clear hQ
            by_cases hlt : k < M
            · have hk1 : (k : Int) < (M : Int) := by omega
              go_wp2_with (first
                | (at_builtin; refine wpList_append_port (B := w.heap.size) (L := portsOf s3 k) (t := ptOf (rdAt s3 (6 * k))) rfl (.tmp 79) (.tmp 81) rfl rfl HQ5.out.q HQ5.out.le rfl rfl HLQ.out ?_; intro v9 w9 hO9 hk9 ht9; obtain ⟨A9, n9, c9, rfl⟩ := hO9.sl; have hc9 := ht9 _ _ _ HQ5.out.c (by decide); have c19 : w9.cell? ⟨w.heap.size, 1, none⟩ = some v2 := (hc9.cell 1).trans rfl; have f19 := hc9.frozen 1; have HQ9 := Lib.hid (HQ5.out.push hO9 hk9 ht9); clear hO9 hk9 ht9 hc9)
                | (go_at_call 37; with_reducible refine (into6_at HQ.out).mono ?_; rintro e w5 ⟨rfl, hQ5, hq5⟩; obtain ⟨t0, t1, t2, t3, t4, t5⟩ := pt_cells hq5; have c1 : w5.cell? ⟨w.heap.size, 1, none⟩ = some v2 := (hQ5.c.cell 1).trans rfl; have hcl : w.heap.size < w5.heap.size := hQ5.c.lt; have htl : wr.heap.size < w5.heap.size := hq5.lt; have HQ5 := Lib.hid hQ5; have HLQ : Hid ((portsOf s3 k).length + 1 ≤ 1000000) := len_le8 (portsOf_len _ _) hlt h8n; clear hQ5 hq5))
              go_roundw
              case rel => exact ⟨k + 1, _, by omega, rfl, HQ9.out⟩
              case measure => simp [intOf]; omega
            · obtain rfl : M = k := by omega
              have hk1 : ¬ (M : Int) < (M : Int) := by omega
              obtain ⟨A1, n1, A2, n2, rfl, rfl, hCf⟩ := HQ.out.cfg HLN.out h8n
              have c0 : wr.cell? ⟨w.heap.size, 0, none⟩ = some (.slice A1 pl.length n1) := (HQ.out.c.cell 0).trans rfl
              have c1 : wr.cell? ⟨w.heap.size, 1, none⟩ = some (.slice A2 (portsOf s3 M).length n2) := (HQ.out.c.cell 1).trans rfl
              have f0 := HQ.out.c.frozen 0
              have f1 := HQ.out.c.frozen 1
              have hcl : w.heap.size < wr.heap.size := HQ.out.c.lt
              have HCf := Lib.hid hCf
              clear hCf
              obtain ⟨z, hz⟩ : ∃ z, endE (rdAt s3 (6 * M)).1 (rdAt s3 (6 * M)).2 = z := ⟨_, rfl⟩
              have HZ := Lib.hid hz
              by_cases hz0 : z = 0
              · subst hz0
                clear hz
                cases hck : checkB ⟨pl, portsOf s3 M⟩ with
                | true =>
                  have hce : checkE ⟨pl, portsOf s3 M⟩ = 0 := by unfold checkE; rw [hck]; rfl
                  have HCE := Lib.hid hce
                  have HCK := Lib.hid hck
                  clear hce hck
                  go_wp2_with (first
                    | (go_at_call 12; with_reducible refine (check_c A1 A2 n1 n2 ⟨pl, portsOf s3 M⟩ _ HCf.out HCE.out).mono ?_; rintro e w6 ⟨rfl, hb6⟩; have d0 := (hb6.cell (p := ⟨w.heap.size, 0, none⟩) hcl).trans c0; have d1 := (hb6.cell (p := ⟨w.heap.size, 1, none⟩) hcl).trans c1; have g0 := (hb6.frozen (p := ⟨w.heap.size, 0, none⟩) hcl).trans f0; have g1 := (hb6.frozen (p := ⟨w.heap.size, 1, none⟩) hcl).trans f1)
                    | (go_at_call 38; with_reducible refine (end_v g _ _ _ HQ.out.rd.e HZ.out).mono ?_; rintro e w5 ⟨rfl, rfl⟩))
                  obtain ⟨hc6, hP6, hQ6, hB6⟩ := HQ.out.done hb6 (.slice A1 pl.length n1) (.slice A2 (portsOf s3 M).length n2)
                  rw [Exit.noGoto_ret]
                  have cc0 := ((hc6.set_ 0 (.slice A1 pl.length n1)).set_ 1 (.slice A2 (portsOf s3 M).length n2)).cell 0
                  have cc1 := ((hc6.set_ 0 (.slice A1 pl.length n1)).set_ 1 (.slice A2 (portsOf s3 M).length n2)).cell 1
                  refine bodyPost_ret (v := .tuple #[.agg #[.slice A1 pl.length n1, .slice A2 (portsOf s3 M).length n2], .int .i64 0]) (by simp [results, Try.results18, go_sem, cc0, cc1] <;> rfl) rfl ⟨parseQ_ok HF.out HZ.out HCK.out hP6 hQ6, hB6⟩
                | false =>
                  have hce : checkE ⟨pl, portsOf s3 M⟩ = 50 := by unfold checkE; rw [hck]; rfl
                  have HCE := Lib.hid hce
                  have HQQ := Lib.hid (fun W => parseQ_bad HF.out HZ.out hck w.heap.size W)
                  clear hce hck
                  go_wp2_with (first
                    | (go_at_call 12; with_reducible refine (check_c A1 A2 n1 n2 ⟨pl, portsOf s3 M⟩ _ HCf.out HCE.out).mono ?_; rintro e w6 ⟨rfl, hb6⟩; have d0 := (hb6.cell (p := ⟨w.heap.size, 0, none⟩) hcl).trans c0; have d1 := (hb6.cell (p := ⟨w.heap.size, 1, none⟩) hcl).trans c1; have g0 := (hb6.frozen (p := ⟨w.heap.size, 0, none⟩) hcl).trans f0; have g1 := (hb6.frozen (p := ⟨w.heap.size, 1, none⟩) hcl).trans f1)
                    | (go_at_call 38; with_reducible refine (end_v g _ _ _ HQ.out.rd.e HZ.out).mono ?_; rintro e w5 ⟨rfl, rfl⟩))
                  obtain ⟨hc6, -, -, hB6⟩ := HQ.out.done hb6 (.slice none 0 0) (.slice none 0 0)
                  rw [Exit.noGoto_ret]
                  have cc0 := ((hc6.set_ 0 (.slice none 0 0)).set_ 1 (.slice none 0 0)).cell 0
                  have cc1 := ((hc6.set_ 0 (.slice none 0 0)).set_ 1 (.slice none 0 0)).cell 1
                  refine bodyPost_ret (v := .tuple #[.agg #[.slice none 0 0, .slice none 0 0], .int .i64 50]) (by simp [results, Try.results18, go_sem, cc0, cc1] <;> rfl) rfl ⟨HQQ.out _, ?_⟩
                  exact hB6
              · have hz1 : (z == 0) = false := by simp [hz0]
                have hz2 : (z != 0) = true := by simp [hz0]
                have HQQ := Lib.hid (fun W => parseQ_err HF.out hz hz0 w.heap.size W)
                clear hz
                go_wp2_with (go_at_call 38; with_reducible refine (end_v g _ _ _ HQ.out.rd.e HZ.out).mono ?_; rintro e w5 ⟨rfl, rfl⟩)
                obtain ⟨hc6, -, -, hB6⟩ := HQ.out.done (Below.refl _ _) (.slice none 0 0) (.slice none 0 0)
                rw [Exit.noGoto_ret]
                have cc0 := ((hc6.set_ 0 (.slice none 0 0)).set_ 1 (.slice none 0 0)).cell 0
                have cc1 := ((hc6.set_ 0 (.slice none 0 0)).set_ 1 (.slice none 0 0)).cell 1
                refine bodyPost_ret (v := .tuple #[.agg #[.slice none 0 0, .slice none 0 0], .int .i64 z]) (by simp [results, Try.results18, go_sem, cc0, cc1] <;> rfl) rfl ⟨HQQ.out _, ?_⟩
                exact hB6
end Go.Proofs.Ytekcokbpgpeepaa
