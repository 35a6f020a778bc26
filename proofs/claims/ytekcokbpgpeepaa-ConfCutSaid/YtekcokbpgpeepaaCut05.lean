/- ConfCut, walked. -/
import Derived.Test.YtekcokbpgpeepaaBack05
import Derived.Test.YtekcokbpgpeepaaCnfX
import Derived.Test.YtekcokbpgpeepaaBring
namespace Go.Proofs.Ytekcokbpgpeepaa
set_option linter.unusedVariables false
open Go.RowKit

theorem enc_pos (z : Int) : 0 < (enc z).length := by
  rcases enc_len z with h | h <;> omega
theorem bytesL_pos (c : Cfg) : 0 < (bytesL c).length := by
  unfold bytesL nums
  simp only [List.flatMap_append, List.flatMap_cons, List.length_append, List.cons_append, List.nil_append, List.append_assoc]
  have := enc_pos (c.ps.length : Int)
  omega
theorem bring_k (at_ : Int) (n : Nat) (hn : 0 < n) (hn' : (n : Int) ≤ 9223372036854775807) : ∃ k : Nat, k < n ∧ ∀ w, Calls Try.prog 21 #[.int .i64 at_, .int .i64 (n : Nat)] w fun e w' => e = .returned (.int .i64 (k : Nat)) ∧ w = w' := by
  have h0 : 0 ≤ at_ % (n : Int) := Int.emod_nonneg _ (by omega)
  have h1 : at_ % (n : Int) < (n : Int) := Int.emod_lt_of_pos _ (by omega)
  refine ⟨(at_ % (n : Int)).toNat, by omega, fun w => (bring_c at_ n w (by omega) hn').mono fun e w' ⟨h2, h3⟩ => ⟨?_, h3⟩⟩
  rw [h2, Int.toNat_of_nonneg h0]
set_option maxRecDepth 40000 in
set_option maxHeartbeats 1000000 in
theorem cutc_c (A A2 : Option Addr) (n1 n2 : Nat) (c : Cfg) (at_ z : Int) (w : World) (h : CfA w A n1 A2 n2 c) (hz : 0 ≤ z ∧ z ≤ 255) :
    Calls Try.prog 7 #[.agg #[.slice A c.ps.length n1, .slice A2 c.qs.length n2], .int .i64 at_, .int .u8 z] w fun e w' => e = .returned (.bool true) ∧ Below w.heap.size w w' := by
  have HB : Hid (Below w.heap.size w (w.alloc (.cells #[.slice A c.ps.length n1, .slice A2 c.qs.length n2] 25))) := (Below.refl _ _).alloc (Nat.le_refl _) _
  have HH := Lib.hid (h.below HB.out)
  clear h
  cases hb : checkB c with
  | false =>
    have Hb := Lib.hid hb
    clear hb hz
    go_enter Try.func7, Try.ntmps7
    go_wp2_with (first
      | (go_at_call 16; with_reducible refine (works_c _).mono ?_; rintro e w3 ⟨rfl, hb3⟩)
      | (go_at_call 10; with_reducible refine (bytes_n A A2 n1 n2 c _ HH.out Hb.out).mono ?_; rintro e w2 ⟨rfl, hb2⟩))
    go_ret
    have h2 := below_lift HB.out hb2 HB.out.size
    exact ⟨by simp, below_lift h2 hb3 h2.size⟩
  | true =>
    have hm := may_of hb
    have hlen : (bytesL c).length ≤ 9 * 190 := by
      have h1 := flat_len (f := enc) (m := 9) (nums c) fun z _ => enc_length z
      have h2 := numsQ_len hm c.qs.length
      rw [numsQ_end c (Nat.le_refl _)] at h2
      have : 9 * (nums c).length ≤ 9 * 190 := Nat.mul_le_mul_left _ h2
      unfold bytesL
      omega
    have hpos := bytesL_pos c
    obtain ⟨k, hk, hK⟩ := bring_k at_ (bytesL c).length hpos (by omega)
    have HK := Lib.hid hK
    have HL := Lib.hid (cut_law hb hk)
    obtain ⟨x, hx⟩ : ∃ x : UInt8, z = (x.toNat : Int) := ⟨_, byte_of z hz.1 hz.2⟩
    have HX := Lib.hid hx
    have HM := Lib.hid (more_law hb x)
    have Hb := Lib.hid hb
    have hkI : (k : Int) ≤ ((bytesL c).length : Nat) := by omega
    have hpI : ¬ ((bytesL c).length : Int) = 0 := by omega
    have hlt : ((bytesL c).take k).length = k := by rw [List.length_take]; omega
    have HLT := Lib.hid hlt.symm
    have hcp : (bytesL c).length ≤ 140737488355328 := by omega
    have hcp9 : Hid ((bytesL c).length + 1 ≤ 140737488355328) := by show _ ≤ _; omega
    clear hb hz hm hK hx hlt hlen
    go_enter Try.func7, Try.ntmps7
    go_wp2_with (first
      | (go_at_call 16; with_reducible refine (works_c _).mono ?_; rintro e w7 ⟨rfl, hb7⟩)
      | (go_at_call 18; with_reducible refine (parse_x A5 ((bytesL c).length + 1) c5 (bytesL c ++ [x]) _ hR5.out hA5 hc5 hl5 HM.out).mono ?_; rintro e w6 ⟨S1, s1, S2, s2, rfl, -, hb6⟩; have HB6 := Lib.hid (below_lift HB5.out hb6 HB5.out.size); clear hA5 hc5 hl5 hb6)
      | (at_builtin; rw [HX.out]; refine wpList_append_byte (w0 := w3.alloc (.cells #[.slice R1 noCfg.ps.length r1, .slice R2 noCfg.qs.length r2] 25)) rfl (.tmp 42) (.tmp 44) rfl rfl hO4 hB4 hB4.size _ x rfl rfl hcp9.out ?_; intro v5 w5 hO5 hb5; obtain ⟨A5, c5, rfl, hc5, hA5, hR5, hl5⟩ := hO5.formS; replace hR5 := Lib.hid hR5; have HB5 := Lib.hid (below_lift HB3.out hb5 HB3.out.size); clear hO5 hO4 hB4 hb5)
      | (go_at_call 17; with_reducible refine (copy_c AB (bytesL c).length cB (bytesL c) _ hcp ⟨rfl, HR3.out⟩ hA2).mono ?_; rintro e w4 ⟨v4, rfl, hO4, hB4⟩)
      | (go_at_call 18; with_reducible refine (parse_x AB k cB ((bytesL c).take k) _ ⟨HLT.out, hR2.take k⟩ hA2 (Nat.le_trans (Nat.le_of_lt hk) hc2) hl2 HL.out).mono ?_; rintro e w3 ⟨R1, r1, R2, r2, rfl, -, hb3⟩; have hx3 := hb3.alloc hb3.size (.cells #[.slice R1 noCfg.ps.length r1, .slice R2 noCfg.qs.length r2] 25); have HR3 := Lib.hid (hR2.below hx3); have HB3 := Lib.hid (below_lift HB2.out hx3 HB2.out.size); clear hb3 hx3)
      | (go_at_call 21; with_reducible refine (HK.out _).mono ?_; rintro e w9 ⟨rfl, rfl⟩)
      | (go_at_call 10; with_reducible refine (bytes_x A A2 n1 n2 c _ HH.out Hb.out).mono ?_; rintro e w2 ⟨AB, cB, rfl, hR2, hc2, hA2, hl2, hb2⟩; have hkc : (k : Int) ≤ (cB : Nat) := Int.ofNat_le.2 (Nat.le_trans (Nat.le_of_lt hk) hc2); have HB2 := Lib.hid (below_lift HB.out hb2 HB.out.size); clear hb2))
    go_ret
    have h6 := HB6.out.alloc HB6.out.size (.cells #[.slice S1 noCfg.ps.length s1, .slice S2 noCfg.qs.length s2] 25)
    exact ⟨by simp, below_lift h6 hb7 h6.size⟩
end Go.Proofs.Ytekcokbpgpeepaa
