/- ActPlays, of acts that may not be. -/
import Derived.Test.YtcbmcengccealaaBoth
namespace Go.Proofs.Ytcbmcengccealaa
set_option linter.unusedVariables false
open Go.RowKit

set_option maxRecDepth 20000 in
set_option maxHeartbeats 800000 in
theorem plays_bad (A : Option Addr) (n c : Nat) (L : List OpV) (A1 : Option Addr) (n1 c1 : Nat) (w : World) (hn : n = L.length) (hl : n ≤ 140737488355328) (hc : n ≤ c) (h : OpsR w A L) (hA : A = none → c = 0)
    (he : newE (L.take 40) ≠ 0) :
    Calls Try.prog 4 #[.slice A n c, .slice A1 n1 c1] w fun e w' => e = .returned (.bool true) ∧ Below w.heap.size w w' := by
  obtain ⟨i0, hi0, hz0, hz1, hz2⟩ := info_parts op_info
  have HL := Lib.hid (h.take 40)
  have HA := Lib.hid hA
  have hm : Hid ((L.take 40).length = min n 40) := by show (L.take 40).length = min n 40; simp; omega
  have hm40 : (L.take 40).length ≤ 40 := by simp; omega
  have hmn : (L.take 40).length ≤ c := by simp; omega
  have hsl : Hid (SrcR w 3 A (L.take 40).length c (opCells (L.take 40))) := (h.take 40).src hA
  clear h hA
  generalize L.take 40 = M at *
  have hcI : (n : Int) ≤ c := by omega
  have hl6 : M.length ≤ 65536 := by omega
  have hvc := newE_cases M
  obtain ⟨v, hv⟩ : ∃ v, newE M = v := ⟨_, rfl⟩
  have Hv := Lib.hid hv
  rw [hv] at he
  have hv0 : (v != 0) = true := by simp [he]
  have hv1 : (v == 0) = false := by simp [he]
  clear hn hl hc hmn hv hvc
  go_enter Try.func4, Try.ntmps4
  go_upto_region 1 with fail
  go_cut [0] (fun s wx => s = .slice A M.length c ∧ wx = w)
  case first =>
    by_cases h40 : (n : Int) ≤ 40
    · go_wp2_with fail
      all_goals go_meet
      exact ⟨by rw [show M.length = n by have := hm.out; omega], rfl⟩
    · go_wp2_with fail
      all_goals go_meet
      exact ⟨by rw [show M.length = 40 by have := hm.out; omega], rfl⟩
  case rest =>
    obtain ⟨rfl, rfl⟩ := hcut
    go_wp2_with (first
      | (go_at_call 13; with_reducible refine (same_c Ai A ci c M _ hl6 ((hF.reads.below hb2).below hb3) (HL.out.below hB3)).mono ?_; rintro e w4 ⟨rfl, hb4⟩; have hB4 := below_lift hB3 hb4 hB3.size)
      | (go_at_call 12; with_reducible refine (newbadr_s hl6 (HL.out.below hB2) Hv.out he hB2 hB2.size).mono ?_; rintro e w3 ⟨rfl, hB3, hb3⟩)
      | (go_at_call 11; with_reducible refine (newbad_s hl6 hF.reads Hv.out he hb hb.size).mono ?_; rintro e w2 ⟨rfl, hB2, hb2⟩)
      | (at_builtin; refine wpList_append_src rfl _ _ _ rfl wc.heap.size 23 i0 _ 3 32 Try.underlying28 hi0 hz0 hz1 hz2 rfl (by omega) (.slice none 0 0) 0 [] rfl (own_none _ _ _ _) _ _ _ (opCells M) rfl hsl.out (opCells_one M) (by simp only [maxLen]; omega) (by omega) (by simp) ?_; intro v1 w1 hown hg _; have hb := below_grown (Below.refl wc.heap.size _) hg (by simp) (by simp [Value.ownBlock]); obtain ⟨Ai, ci, bi, rfl, hF⟩ := fresh_of_own (L := M) (by simpa using hown); clear hown))
    have HS := Lib.hid (((hF.slots.below hb2).below hb3).below hb4)
    go_loopw [10] (fun x wr => ∃ k : Nat, k ≤ M.length ∧ x = .int .i64 k ∧ Below wc.heap.size wc wr ∧ Slots wr wc.heap.size Ai M.length bi) (fun x _ => M.length - (intOf x).toNat)
    case atStart => exact ⟨0, Nat.zero_le _, rfl, hB4, HS.out⟩
    case round =>
      obtain ⟨k, hk, rfl, hB, hS⟩ := hrel
      by_cases hlt : k < M.length
      · have HSL := Lib.hid hS
        obtain ⟨off, v0, v1, v2, rfl, hbi, q0, q1, q2, f0, f1, f2⟩ := hS.at_ hlt
        have hltI : (k : Int) < (M.length : Nat) := by omega
        clear hS
        go_wp2
        go_roundw
        case rel => exact ⟨k + 1, by omega, rfl, ((hB.setCell hbi _).setCell hbi _).setCell hbi _, ((HSL.out.set_ _ _).set_ _ _).set_ _ _⟩
        case measure => simp [intOf]; omega
      · obtain rfl : M.length = k := by omega
        clear hS
        go_wp2_with fail
        go_loopw [11] (fun x wr => x = .int .i64 0 ∧ Below wc.heap.size wc wr) (fun _ _ => 0)
        case atStart => exact ⟨rfl, hB⟩
        case round =>
          clear hB
          obtain ⟨rfl, hB⟩ := hrel
          by_cases h0 : (0 : Int) < (n1 : Nat)
          · go_wp2_with (go_at_call 10; refine (lift (works_c _) hB).mono ?_; rintro e w5 ⟨rfl, hB5⟩)
            go_ret
            exact ⟨rfl, hB5⟩
          · go_wp2_with (go_at_call 10; refine (lift (works_c _) hB).mono ?_; rintro e w5 ⟨rfl, hB5⟩)
            go_ret
            exact ⟨rfl, hB5⟩
end Go.Proofs.Ytcbmcengccealaa
