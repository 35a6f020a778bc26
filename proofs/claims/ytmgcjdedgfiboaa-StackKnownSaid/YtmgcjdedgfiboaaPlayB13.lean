/- StackPlays, of too many tasks. -/
import Derived.Test.YtmgcjdedgfiboaaPlayA13
import Derived.Test.YtmgcjdedgfiboaaStkW
namespace Go.Proofs.Ytmgcjdedgfiboaa
set_option linter.unusedVariables false
open Go.RowKit

set_option maxRecDepth 20000 in
set_option maxHeartbeats 1600000 in
theorem plays_bad (A : Option Addr) (n1 c : Nat) (D : Nat → Nat → Int) (A2 : Option Addr) (n2 c2 : Nat) (D2 : Nat → Nat → Int) (w : World) (hc : n1 ≤ c) (hl : n1 ≤ 140737488355328) (hn2 : n2 ≤ 1152921504606846976) (h : TasksAt w A n1 D) (hA : A = none → c = 0) (hD : DosAt w A2 n2 D2)
    (h4 : 4 < min n1 6) :
    Calls Try.prog 4 #[.slice A n1 c, .slice A2 n2 c2] w fun e w' => e = .returned (.bool true) ∧ Below w.heap.size w w' := by
  obtain ⟨i0, hi0, hz0, hz1, hz2⟩ := info_parts' task_info
  obtain ⟨n, hn⟩ : ∃ n, min n1 6 = n := ⟨_, rfl⟩
  rw [hn] at h4
  have hn6 : n ≤ 6 := by omega
  have hnn : n ≤ n1 := by omega
  have hT : TasksAt w A n D := fun h0 => by
    obtain ⟨b, off, e1, e2, e3⟩ := h (by omega)
    exact ⟨b, off, e1, e2, fun i hi => e3 i (by omega)⟩
  have HT := Lib.hid hT
  have HA := Lib.hid hA
  have HD := Lib.hid hD
  have hsl : Hid (SrcR w 8 A n c (tcs D n)) := hT.src hA
  have HN := Lib.hid hn
  have H4 := Lib.hid h4
  have hcI : (n1 : Int) ≤ c := by omega
  have hncI : n ≤ c := by omega
  clear h hT hA hD hn hnn h4
  go_enter Try.func4, Try.ntmps4
  go_upto_region 1 with fail
  go_cut [0] (fun s wx => s = .slice A n c ∧ wx = w)
  case first =>
    by_cases h6 : (n1 : Int) ≤ 6
    · go_wp2_with fail
      all_goals go_meet
      exact ⟨by rw [show n = n1 by have := HN.out; omega], rfl⟩
    · go_wp2_with fail
      all_goals go_meet
      exact ⟨by rw [show n = 6 by have := HN.out; omega], rfl⟩
  case rest =>
    obtain ⟨rfl, rfl⟩ := hcut
    clear hcI hl hc
    go_wp2_with (first
      | (go_at_call 19; with_reducible refine (dnew_bad A n c _ H4.out).mono ?_; rintro e w3 ⟨rfl, rfl⟩)
      | (go_at_call 8; with_reducible refine (snew_bad Ai n ci _ H4.out).mono ?_; rintro e w2 ⟨rfl, rfl⟩)
      | (at_builtin; refine wpList_append_src rfl _ _ _ rfl wc.heap.size 48 i0 _ 8 64 Try.underlying22 hi0 hz0 hz1 hz2 rfl (by omega) (.slice none 0 0) 0 [] rfl (own_none _ _ _ _) _ _ _ (tcs D n) rfl hsl.out (tcs_one D n) (by simp only [maxLen]; omega) (by omega) (by simp) ?_; intro v1 w1 hown hg _; have hb := below_grown (Below.refl wc.heap.size _) hg (by simp) (by simp [Value.ownBlock]); obtain ⟨Ai, ci, rfl, hci, hTi, hFi, hLt⟩ := InR.of_own (D := D) (by simpa using hown); have HTi := Lib.hid hTi; have HFi := Lib.hid hFi; have HLt := Lib.hid hLt; have HB1 := Lib.hid hb; clear hown hg hTi hFi hLt hb))
    have HB0 : Hid (Below wc.heap.size wc w1) := HB1.out
    have HF0 : Hid (InR wc.heap.size w1 Ai n 0 D) := HFi.out
    clear HTi HFi HB1
    go_loopw [10] (fun x wr => ∃ k : Nat, k ≤ n ∧ x = .int .i64 k ∧ Below wc.heap.size wc wr ∧ InR wc.heap.size wr Ai n k D) (fun x _ => n - (intOf x).toNat)
    case atStart => exact ⟨0, Nat.zero_le _, rfl, HB0.out, HF0.out⟩
    case round =>
      clear HB0 HF0
      obtain ⟨k, hk, rfl, hB, hF⟩ := hrel
      by_cases hlt : k < n
      · obtain ⟨g, rfl, hg, hr, hf⟩ := hF.at_ hlt
        obtain ⟨q0, q1, q2, q3, q4, q5, q6, q7⟩ := hr
        obtain ⟨b, off, rfl, hbl, hx⟩ := (HT.out.below hB) (by omega)
        obtain ⟨t0, t1, t2, t3, t4, t5, t6, t7⟩ := hx k hlt
        have hltI : (k : Int) < (n : Nat) := by omega
        have hgl : Hid (g < w1.heap.size) := HLt.out _ rfl
        have HG := Lib.hid hg
        have HBB := Lib.hid hB
        have HFF := Lib.hid hF.next
        skip
        have HQ : Hid (RowT wr g (k * 8) (D k)) := ⟨q0, q1, q2, q3, q4, q5, q6, q7⟩
        have HFR := Lib.hid hf
        clear hF hx hg hB hf
        generalize D k = d at *
        go_wp2_with fail
        go_quiet (fail)
        have HBB2 : Hid (Below wc.heap.size wc (wr.drewN nq)) := below_drewN HBB.out nq
        have HFF2 : Hid (InR wc.heap.size (wr.drewN nq) (some ⟨g, 0, none⟩) n (k + 1) D) := HFF.out.below (below_drewN (Below.refl _ _) _)
        skip
        obtain ⟨p0, p1, p2, p3, p4, p5, p6, p7⟩ : RowT (wr.drewN nq) g (k * 8) d := HQ.out
        have f0 : (wr.drewN nq).frozen? ⟨g, k * 8, none⟩ = false := HFR.out _
        have f1 : (wr.drewN nq).frozen? ⟨g, k * 8 + 1, none⟩ = false := HFR.out _
        have f2 : (wr.drewN nq).frozen? ⟨g, k * 8 + 2, none⟩ = false := HFR.out _
        have f3 : (wr.drewN nq).frozen? ⟨g, k * 8 + 3, none⟩ = false := HFR.out _
        have f4 : (wr.drewN nq).frozen? ⟨g, k * 8 + 4, none⟩ = false := HFR.out _
        have f5 : (wr.drewN nq).frozen? ⟨g, k * 8 + 5, none⟩ = false := HFR.out _
        have f6 : (wr.drewN nq).frozen? ⟨g, k * 8 + 6, none⟩ = false := HFR.out _
        have f7 : (wr.drewN nq).frozen? ⟨g, k * 8 + 7, none⟩ = false := HFR.out _
        clear q0 q1 q2 q3 q4 q5 q6 q7 t0 t1 t2 t3 t4 t5 t6 t7 HBB HFF HQ HFR
        generalize wr.drewN nq = wA at *
        go_wp2_with fail
        go_roundw
        case rel => exact ⟨k + 1, by omega, rfl, ((((((((HBB2.out.setCell HG.out _).setCell HG.out _).setCell HG.out _).setCell HG.out _).setCell HG.out _).setCell HG.out _).setCell HG.out _).setCell HG.out _), ((((((((HFF2.out.set_ (by omega) _).set_ (by omega) _).set_ (by omega) _).set_ (by omega) _).set_ (by omega) _).set_ (by omega) _).set_ (by omega) _).set_ (by omega) _)⟩
        case measure => simp [intOf]; omega
      · obtain rfl : n = k := by omega
        clear hF hlt
        go_wp2_with fail
        go_loopw [11] (fun x wr => x = .int .i64 0 ∧ Below wc.heap.size wc wr) (fun _ _ => 0)
        case atStart => exact ⟨rfl, hB⟩
        case round =>
          clear hB
          obtain ⟨rfl, hB⟩ := hrel
          by_cases h0 : (0 : Int) < (n2 : Nat)
          · go_wp2_with (go_at_call 18; refine (lift (works_c _) hB).mono ?_; rintro e w5 ⟨rfl, hB5⟩)
            go_ret
            exact ⟨rfl, hB5⟩
          · go_wp2_with (go_at_call 18; refine (lift (works_c _) hB).mono ?_; rintro e w5 ⟨rfl, hB5⟩)
            go_ret
            exact ⟨rfl, hB5⟩
end Go.Proofs.Ytmgcjdedgfiboaa
