/- ActPlays, of acts that may be. Printed by gen16plays.py. -/
import Derived.Test.YtcbmcengccealaaPlaysA
namespace Go.Proofs.Ytcbmcengccealaa
set_option linter.unusedVariables false
open Go.RowKit

theorem Blk.on {w w' : World} {g : Nat} {t : TypeId} {cs : Array Value} (h : Blk w g t cs) (hb : Below w.heap.size w w') : Blk w' g t cs := h.below hb h.lt
set_option maxRecDepth 20000 in
set_option maxHeartbeats 1600000 in
theorem plays_good (A : Option Addr) (n c : Nat) (L : List OpV) (A1 : Option Addr) (n1 c1 : Nat) (R : Nat → Bool) (w : World) (hn : n = L.length) (hl : n ≤ 140737488355328) (hc : n ≤ c) (h : OpsR w A L) (hA : A = none → c = 0)
    (hR : BoolsAt w A1 n1 R) (hn1 : n1 ≤ 1152921504606846976) (he : newE (L.take 40) = 0) :
    Calls Try.prog 4 #[.slice A n c, .slice A1 n1 c1] w fun e w' => e = .returned (.bool true) ∧ Below w.heap.size w w' := by
  obtain ⟨i0, hi0, hz0, hz1, hz2⟩ := info_parts op_info
  have HL := Lib.hid (h.take 40)
  have HA := Lib.hid hA
  have HR := Lib.hid hR
  have hm : Hid ((L.take 40).length = min n 40) := by show (L.take 40).length = min n 40; simp; omega
  have hm40 : (L.take 40).length ≤ 40 := by simp; omega
  have hsl : Hid (SrcR w 3 A (L.take 40).length c (opCells (L.take 40))) := (h.take 40).src hA
  clear h hA hR
  generalize L.take 40 = M at *
  have hcI : (n : Int) ≤ c := by omega
  have hl6 : M.length ≤ 65536 := by omega
  have HE0 := Lib.hid he
  clear hn hl hc he
  go_enter Try.func4, Try.ntmps4
  go_upto_region 1 with fail
  go_cut [0] (fun s wx => s = .slice A M.length c ∧ wx = w)
  case first =>
    by_cases h40 : (n : Int) ≤ 40
    · go_wp2_with fail
      all_goals go_meet
      exact ⟨by rw [show M.length = n by have := hm.out; omega], rfl⟩
    · go_wp2_with fail
      all_goals go_meet
      exact ⟨by rw [show M.length = 40 by have := hm.out; omega], rfl⟩
  case rest =>
    obtain ⟨rfl, rfl⟩ := hcut
    go_wp2_with (first
      | (go_at_call 13; with_reducible refine (same_c Ai A ci c M _ hl6 ((hF.reads.below hb2).below hb3) (HL.out.below hB3)).mono ?_; rintro e w4 ⟨rfl, hb4⟩; have hB4 := below_lift hB3 hb4 hB3.size)
      | (go_at_call 12; with_reducible refine (newr_s (HL.out.below hB2) HA.out HE0.out hB2 hB2.size).mono ?_; rintro e w3 ⟨g', b', rfl, hs3, hB3, hb3, hg3, hgb3⟩)
      | (go_at_call 11; with_reducible refine (new_s hF.reads hFA HE0.out hb hb.size).mono ?_; rintro e w2 ⟨g, b, rfl, hs2, hB2, hb2, hg2, hgb2⟩)
      | (at_builtin; refine wpList_append_src rfl _ _ _ rfl wc.heap.size 23 i0 _ 3 32 Try.underlying28 hi0 hz0 hz1 hz2 rfl (by omega) (.slice none 0 0) 0 [] rfl (own_none _ _ _ _) _ _ _ (opCells M) rfl hsl.out (opCells_one M) (by simp only [maxLen]; omega) (by omega) (by simp) ?_; intro v1 w1 hown hg _; have hb := below_grown (Below.refl wc.heap.size _) hg (by simp) (by simp [Value.ownBlock]); obtain ⟨Ai, ci, bi, rfl, hF⟩ := fresh_of_own (L := M) (by simpa using hown); have hFA : Ai = none → ci = 0 := (fun h => (hF.2.2.1 h).2); clear hown))
    have hd : Both wc.heap.size w3 g b g' b' M M := by
      have h1 := hs2.gl; have h2 := hs2.bl
      exact ⟨hs2.below hb3, hs3, by rintro (h | h) <;> omega, by rintro (h | h) <;> omega, by rintro (h | h) <;> omega, by rintro (h | h) <;> omega⟩
    have HOF : Hid (0 < M.length → Both.Off g b g' b' bi) := fun h => by
      obtain ⟨_, _, _, _, h2, _⟩ := hF.slots h
      have h3 := h2.lt
      have h4 := hb2.size
      exact ⟨by omega, by omega, by omega, by omega⟩
    have hBo4 := hd.below hb4
    have HS := Lib.hid (((hF.slots.below hb2).below hb3).below hb4)
    clear hd hs2 hs3 hb2 hb3 hb4 hB2 hB3 hF hg
    go_loopw [10] (fun x wr => ∃ k : Nat, k ≤ M.length ∧ x = .int .i64 k ∧ Below wc.heap.size wc wr ∧ Both wc.heap.size wr g b g' b' M M ∧ Slots wr wc.heap.size Ai M.length bi) (fun x _ => M.length - (intOf x).toNat)
    case atStart => exact ⟨0, Nat.zero_le _, rfl, hB4, hBo4, HS.out⟩
    case round =>
      clear hB4 hBo4
      obtain ⟨k, hk, rfl, hB, hBo, hS⟩ := hrel
      by_cases hlt : k < M.length
      · have HSL := Lib.hid hS
        have hof := HOF.out (by omega)
        have HBO : Hid (Both wc.heap.size wr g b g' b' M M) := hBo
        obtain ⟨off, v0, v1, v2, rfl, hbi, q0, q1, q2, f0, f1, f2⟩ := hS.at_ hlt
        have hltI : (k : Int) < (M.length : Nat) := by omega
        clear hS hBo
        go_wp2
        go_roundw
        case rel => exact ⟨k + 1, by omega, rfl, ((hB.setCell hbi _).setCell hbi _).setCell hbi _, ((HBO.out.setCell hof _).setCell hof _).setCell hof _, ((HSL.out.set_ _ _).set_ _ _).set_ _ _⟩
        case measure => simp [intOf]; omega
      · obtain rfl : M.length = k := by omega
        clear hS
        go_wp2_with fail
        go_loopw [11] (fun x wr => ∃ (i : Nat) (P : List OpV), i ≤ n1 ∧ x = .int .i64 i ∧ Below wc.heap.size wc wr ∧ Both wc.heap.size wr g b g' b' P P) (fun x _ => n1 - (intOf x).toNat)
        case atStart => exact ⟨0, M, Nat.zero_le _, rfl, hB, hBo⟩
        case round =>
          clear hB hBo
          obtain ⟨i, P, hi, rfl, hB, hBo⟩ := hrel
          by_cases hlt1 : i < n1
          · have hltI1 : (i : Int) < (n1 : Nat) := by omega
            by_cases h100 : (i : Int) < 100
            · obtain ⟨bb, boff, rfl, hbb, hbc⟩ := HR.out (by omega)
              have r0 := (hB.cell (p := ⟨bb, boff + i, none⟩) hbb).trans (hbc i hlt1)
              clear hbc
              cases hRi : R i with
              | true =>
                rw [hRi] at r0
                obtain ⟨v, hv⟩ : ∃ v, ranE P = v := ⟨_, rfl⟩
                obtain ⟨Q, hQ⟩ : ∃ Q, ranL P = Q := ⟨_, rfl⟩
                have hq : Q.length ≤ 32 := hQ ▸ (ok_ran hBo.a.ok).1
                have hq6 : Q.length ≤ 65536 := by omega
                obtain ⟨x, hx⟩ : ∃ x, headOf Q = x := ⟨_, rfl⟩
                obtain ⟨is, his⟩ : ∃ is, (!Q.isEmpty) = is := ⟨_, rfl⟩
                have HE := Lib.hid hv
                have HQ := Lib.hid hQ
                have HX := Lib.hid hx
                have HI := Lib.hid his
                clear hv hQ hx his
                go_wp2_with (first
                  | (go_at_call 13; with_reducible refine (same_c A' A2 c' c2 Q _ hq6 (hF.reads.below hP10) hF2.reads).mono ?_; rintro e w11 ⟨rfl, hb11⟩; have hP11 := below_lift hP10 hb11 hP10.size)
                  | (go_at_call 25; with_reducible refine (rest_r g' b' Q _ (hBo5.below hP9).r.row hq6).mono ?_; rintro e w10 ⟨A2, c2, b2, rfl, hF2, hb10⟩; have hP10 := below_lift hP9 hb10 hP9.size)
                  | (go_at_call 24; with_reducible refine (lift (a := w5) (left_r g' b' Q _ (hBo5.below hP8).r.row hBo5.a.ok) hP8).mono ?_; rintro e w9 ⟨rfl, hP9⟩)
                  | (go_at_call 23; with_reducible refine (lift (a := w5) (left_a g b Q _ (hBo5.below hP7).a.row hBo5.a.ok) hP7).mono ?_; rintro e w8 ⟨rfl, hP8⟩)
                  | (go_at_call 22; with_reducible refine (lift (a := w5) (done_r g' b' Q _ (hBo5.below hP6).r.row) hP6).mono ?_; rintro e w7 ⟨rfl, hP7⟩)
                  | (go_at_call 21; with_reducible refine (done_a g b Q _ hBo5.a.row).mono ?_; rintro e w6 ⟨rfl, hP6⟩)
                  | (go_at_call 20; with_reducible refine (rest_a g b Q _ (hBo4.alloc _).a.row hq).mono ?_; rintro e w5 ⟨A', c', b5, rfl, hF, hb5⟩; have hBo5 := (hBo4.alloc _).below hb5; have hB5 := below_lift (hB4.alloc hB4.size _) hb5 (hB4.alloc hB4.size _).size; have ha := Blk.on ((Blk.on (Blk.new w3 23 #[.int .i64 x.k, .int .i64 x.n, .string x.s]) hb4).alloc _) hb5; have he := Blk.on (Blk.new w4 23 #[.int .i64 x.k, .int .i64 x.n, .string x.s]) hb5; have a0 : w5.cell? ⟨w3.heap.size, 0, none⟩ = some (.int .i64 x.k) := (ha.cell 0).trans rfl; have a1 : w5.cell? ⟨w3.heap.size, 1, none⟩ = some (.int .i64 x.n) := (ha.cell 1).trans rfl; have a2 : w5.cell? ⟨w3.heap.size, 2, none⟩ = some (.string x.s) := (ha.cell 2).trans rfl; have e0 : w5.cell? ⟨w4.heap.size, 0, none⟩ = some (.int .i64 x.k) := (he.cell 0).trans rfl; have e1 : w5.cell? ⟨w4.heap.size, 1, none⟩ = some (.int .i64 x.n) := (he.cell 1).trans rfl; have e2 : w5.cell? ⟨w4.heap.size, 2, none⟩ = some (.string x.s) := (he.cell 2).trans rfl)
                  | (go_at_call 19; with_reducible refine (next_vr ((hBo2.below hb3).alloc _).r.row HX.out HI.out).mono ?_; rintro e w4 ⟨rfl, hb4⟩; have hBo4 := ((hBo2.below hb3).alloc _).below hb4; have hB4 := below_lift (hB3.alloc hB3.size _) hb4 (hB3.alloc hB3.size _).size)
                  | (go_at_call 18; with_reducible refine (next_v hBo2.a.row HX.out HI.out).mono ?_; rintro e w3 ⟨rfl, hb3⟩; have hB3 := below_lift hB2 hb3 hB2.size)
                  | (go_at_call 15; with_reducible refine (ranr_s hBo1.r hB1 HE.out HQ.out).mono ?_; rintro e w2 ⟨rfl, hs2, hB2, hK2⟩; have hBo2 := hBo1.right hs2 hK2)
                  | (go_at_call 14; with_reducible refine (ran_s hBo.a hB HE.out HQ.out).mono ?_; rintro e w1 ⟨rfl, hs1, hB1, hK1⟩; have hBo1 := hBo.left hs1 hK1))
                have HOF := Lib.hid (fun (h : 0 < Q.length) => show Both.Off g b g' b' b5 from (hBo4.alloc (.cells #[.int .i64 x.k, .int .i64 x.n, .string x.s] 23)).off (by obtain ⟨_, _, _, h2, _⟩ := hF.slots h; exact h2))
                have HLE : Hid (0 < Q.length → wc.heap.size ≤ b5) := fun h => Nat.le_trans (hB4.alloc hB4.size _).size (by obtain ⟨_, _, _, h2, _⟩ := hF.slots h; exact h2)
                have HS := Lib.hid (hF.slots.below hP11)
                have hB11 := below_lift hB5 hP11 hB5.size
                have hBo11 := hBo5.below hP11
                clear hF hF2 hP6 hP7 hP8 hP9 hP10 hP11 hb10 hb11 hBo5 hB5 hb5 hBo4 hB4 hb4 hB3 hb3 hBo2 hB2 hs2 hK2 hBo1 hB1 hs1 hK1 hBo hB ha he a0 a1 a2 e0 e1 e2
                obtain ⟨wo, rfl⟩ : ∃ wo : World, wo = wr := ⟨_, rfl⟩
                go_loopw [18] (fun y wr => ∃ k : Nat, k ≤ Q.length ∧ y = .int .i64 k ∧ Below wc.heap.size wc wr ∧ Both wc.heap.size wr g b g' b' Q Q ∧ Slots wr (w4.alloc (.cells #[.int .i64 x.k, .int .i64 x.n, .string x.s] 23)).heap.size A' Q.length b5) (fun y _ => Q.length - (intOf y).toNat)
                case atStart => exact ⟨0, Nat.zero_le _, rfl, hB11, hBo11, HS.out⟩
                case round =>
                  clear hB11 hBo11
                  obtain ⟨k, hk, rfl, hB, hBo, hS⟩ := hrel
                  by_cases hlt : k < Q.length
                  · have HSL := Lib.hid hS
                    have hof := HOF.out (by omega)
                    have hle := HLE.out (by omega)
                    have HBO : Hid (Both wc.heap.size wr g b g' b' Q Q) := hBo
                    obtain ⟨off, v0, v1, v2, rfl, hbi, q0, q1, q2, f0, f1, f2⟩ := hS.at_ hlt
                    have hltI : (k : Int) < (Q.length : Nat) := by omega
                    clear hS hBo
                    go_wp2
                    go_roundw
                    case rel => exact ⟨k + 1, by omega, rfl, ((hB.setCell hle _).setCell hle _).setCell hle _, ((HBO.out.setCell hof _).setCell hof _).setCell hof _, ((HSL.out.set_ _ _).set_ _ _).set_ _ _⟩
                    case measure => simp [intOf]; omega
                  · obtain rfl : Q.length = k := by omega
                    clear hS
                    go_wp2_with fail
                    go_roundw
                    case rel => exact ⟨i + 1, Q, by omega, rfl, hB, hBo⟩
                    case measure => simp [intOf]; omega
              | false =>
                rw [hRi] at r0
                obtain ⟨v, hv⟩ : ∃ v, didE P = v := ⟨_, rfl⟩
                obtain ⟨Q, hQ⟩ : ∃ Q, didL P = Q := ⟨_, rfl⟩
                have hq : Q.length ≤ 32 := hQ ▸ (ok_did hBo.a.ok).1
                have hq6 : Q.length ≤ 65536 := by omega
                obtain ⟨x, hx⟩ : ∃ x, headOf Q = x := ⟨_, rfl⟩
                obtain ⟨is, his⟩ : ∃ is, (!Q.isEmpty) = is := ⟨_, rfl⟩
                have HE := Lib.hid hv
                have HQ := Lib.hid hQ
                have HX := Lib.hid hx
                have HI := Lib.hid his
                clear hv hQ hx his
                go_wp2_with (first
                  | (go_at_call 13; with_reducible refine (same_c A' A2 c' c2 Q _ hq6 (hF.reads.below hP10) hF2.reads).mono ?_; rintro e w11 ⟨rfl, hb11⟩; have hP11 := below_lift hP10 hb11 hP10.size)
                  | (go_at_call 25; with_reducible refine (rest_r g' b' Q _ (hBo5.below hP9).r.row hq6).mono ?_; rintro e w10 ⟨A2, c2, b2, rfl, hF2, hb10⟩; have hP10 := below_lift hP9 hb10 hP9.size)
                  | (go_at_call 24; with_reducible refine (lift (a := w5) (left_r g' b' Q _ (hBo5.below hP8).r.row hBo5.a.ok) hP8).mono ?_; rintro e w9 ⟨rfl, hP9⟩)
                  | (go_at_call 23; with_reducible refine (lift (a := w5) (left_a g b Q _ (hBo5.below hP7).a.row hBo5.a.ok) hP7).mono ?_; rintro e w8 ⟨rfl, hP8⟩)
                  | (go_at_call 22; with_reducible refine (lift (a := w5) (done_r g' b' Q _ (hBo5.below hP6).r.row) hP6).mono ?_; rintro e w7 ⟨rfl, hP7⟩)
                  | (go_at_call 21; with_reducible refine (done_a g b Q _ hBo5.a.row).mono ?_; rintro e w6 ⟨rfl, hP6⟩)
                  | (go_at_call 20; with_reducible refine (rest_a g b Q _ (hBo4.alloc _).a.row hq).mono ?_; rintro e w5 ⟨A', c', b5, rfl, hF, hb5⟩; have hBo5 := (hBo4.alloc _).below hb5; have hB5 := below_lift (hB4.alloc hB4.size _) hb5 (hB4.alloc hB4.size _).size; have ha := Blk.on ((Blk.on (Blk.new w3 23 #[.int .i64 x.k, .int .i64 x.n, .string x.s]) hb4).alloc _) hb5; have he := Blk.on (Blk.new w4 23 #[.int .i64 x.k, .int .i64 x.n, .string x.s]) hb5; have a0 : w5.cell? ⟨w3.heap.size, 0, none⟩ = some (.int .i64 x.k) := (ha.cell 0).trans rfl; have a1 : w5.cell? ⟨w3.heap.size, 1, none⟩ = some (.int .i64 x.n) := (ha.cell 1).trans rfl; have a2 : w5.cell? ⟨w3.heap.size, 2, none⟩ = some (.string x.s) := (ha.cell 2).trans rfl; have e0 : w5.cell? ⟨w4.heap.size, 0, none⟩ = some (.int .i64 x.k) := (he.cell 0).trans rfl; have e1 : w5.cell? ⟨w4.heap.size, 1, none⟩ = some (.int .i64 x.n) := (he.cell 1).trans rfl; have e2 : w5.cell? ⟨w4.heap.size, 2, none⟩ = some (.string x.s) := (he.cell 2).trans rfl)
                  | (go_at_call 19; with_reducible refine (next_vr ((hBo2.below hb3).alloc _).r.row HX.out HI.out).mono ?_; rintro e w4 ⟨rfl, hb4⟩; have hBo4 := ((hBo2.below hb3).alloc _).below hb4; have hB4 := below_lift (hB3.alloc hB3.size _) hb4 (hB3.alloc hB3.size _).size)
                  | (go_at_call 18; with_reducible refine (next_v hBo2.a.row HX.out HI.out).mono ?_; rintro e w3 ⟨rfl, hb3⟩; have hB3 := below_lift hB2 hb3 hB2.size)
                  | (go_at_call 17; with_reducible refine (didr_s hBo1.r hB1 HE.out HQ.out).mono ?_; rintro e w2 ⟨rfl, hs2, hB2, hK2⟩; have hBo2 := hBo1.right hs2 hK2)
                  | (go_at_call 16; with_reducible refine (did_s hBo.a hB HE.out HQ.out).mono ?_; rintro e w1 ⟨rfl, hs1, hB1, hK1⟩; have hBo1 := hBo.left hs1 hK1))
                have HOF := Lib.hid (fun (h : 0 < Q.length) => show Both.Off g b g' b' b5 from (hBo4.alloc (.cells #[.int .i64 x.k, .int .i64 x.n, .string x.s] 23)).off (by obtain ⟨_, _, _, h2, _⟩ := hF.slots h; exact h2))
                have HLE : Hid (0 < Q.length → wc.heap.size ≤ b5) := fun h => Nat.le_trans (hB4.alloc hB4.size _).size (by obtain ⟨_, _, _, h2, _⟩ := hF.slots h; exact h2)
                have HS := Lib.hid (hF.slots.below hP11)
                have hB11 := below_lift hB5 hP11 hB5.size
                have hBo11 := hBo5.below hP11
                clear hF hF2 hP6 hP7 hP8 hP9 hP10 hP11 hb10 hb11 hBo5 hB5 hb5 hBo4 hB4 hb4 hB3 hb3 hBo2 hB2 hs2 hK2 hBo1 hB1 hs1 hK1 hBo hB ha he a0 a1 a2 e0 e1 e2
                obtain ⟨wo, rfl⟩ : ∃ wo : World, wo = wr := ⟨_, rfl⟩
                go_loopw [18] (fun y wr => ∃ k : Nat, k ≤ Q.length ∧ y = .int .i64 k ∧ Below wc.heap.size wc wr ∧ Both wc.heap.size wr g b g' b' Q Q ∧ Slots wr (w4.alloc (.cells #[.int .i64 x.k, .int .i64 x.n, .string x.s] 23)).heap.size A' Q.length b5) (fun y _ => Q.length - (intOf y).toNat)
                case atStart => exact ⟨0, Nat.zero_le _, rfl, hB11, hBo11, HS.out⟩
                case round =>
                  clear hB11 hBo11
                  obtain ⟨k, hk, rfl, hB, hBo, hS⟩ := hrel
                  by_cases hlt : k < Q.length
                  · have HSL := Lib.hid hS
                    have hof := HOF.out (by omega)
                    have hle := HLE.out (by omega)
                    have HBO : Hid (Both wc.heap.size wr g b g' b' Q Q) := hBo
                    obtain ⟨off, v0, v1, v2, rfl, hbi, q0, q1, q2, f0, f1, f2⟩ := hS.at_ hlt
                    have hltI : (k : Int) < (Q.length : Nat) := by omega
                    clear hS hBo
                    go_wp2
                    go_roundw
                    case rel => exact ⟨k + 1, by omega, rfl, ((hB.setCell hle _).setCell hle _).setCell hle _, ((HBO.out.setCell hof _).setCell hof _).setCell hof _, ((HSL.out.set_ _ _).set_ _ _).set_ _ _⟩
                    case measure => simp [intOf]; omega
                  · obtain rfl : Q.length = k := by omega
                    clear hS
                    go_wp2_with fail
                    go_roundw
                    case rel => exact ⟨i + 1, Q, by omega, rfl, hB, hBo⟩
                    case measure => simp [intOf]; omega
            · clear hBo
              go_wp2_with (go_at_call 10; refine (lift (works_c _) hB).mono ?_; rintro e w5 ⟨rfl, hB5⟩)
              go_ret
              exact ⟨rfl, hB5⟩
          · obtain rfl : n1 = i := by omega
            clear hBo
            go_wp2_with (go_at_call 10; refine (lift (works_c _) hB).mono ?_; rintro e w5 ⟨rfl, hB5⟩)
            go_ret
            exact ⟨rfl, hB5⟩
end Go.Proofs.Ytcbmcengccealaa
