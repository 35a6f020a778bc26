/- Put, the document's. -/
import Derived.Test.YtekcokbpgpeepaaPackP
namespace Go.Proofs.Ytekcokbpgpeepaa
set_option linter.unusedVariables false
open Go.RowKit

set_option maxHeartbeats 400000 in
theorem put_b (A : Option Addr) (n c : Nat) (L : List UInt8) (A1 : Option Addr) (n1 c1 : Nat) (R : Nat → Int) (w : World) (h : n = L.length ∧ BytesR w A L) (hA : A = none → c = 0) (hc : n ≤ c)
    (hR : IntsAt w A1 n1 R) (hl : n + 9 * n1 ≤ 140737488355328) :
    Calls Try.prog 24 #[.slice A n c, .slice A1 n1 c1] w fun e w' => PutQ R n1 L w.heap.size w' e ∧ Below w.heap.size w w' := by
  obtain ⟨i0, hi0, hz0, hz1, hz2⟩ := info_parts byte_info
  have HC := Lib.hid h
  have HR := Lib.hid hR
  have hl0 : n ≤ 140737488355328 := by omega
  clear h hR
  go_enter Try.func24, Try.ntmps24
  go_wp2_with (first
    | (go_at_call 17; with_reducible refine (copy_c A n c L _ hl0 HC.out hA).mono ?_; rintro e w1 ⟨v1, rfl, hO1, hB1⟩))
  go_loopw [6, 7] (fun v y wr => ∃ k : Nat, k ≤ n1 ∧ y = .int .i64 k ∧ OwnB wr w.heap.size v (L ++ encT R k) ∧ AllOk R k ∧ Below w.heap.size w wr) (fun _ y _ => n1 - (intOf y).toNat)
  case atStart => exact ⟨0, Nat.zero_le _, rfl, by simpa [encT] using hO1, fun i hi => absurd hi (by omega), hB1⟩
  case round =>
    clear hO1 hB1
    obtain ⟨k, hk, rfl, hO, hok, hB⟩ := hrel
    have HO := Lib.hid hO
    have HK := Lib.hid hok
    clear hO hok
    by_cases hlt : k < n1
    · have hltI : (k : Int) < (n1 : Nat) := by omega
      obtain ⟨b, off, rfl, hb, hx⟩ := HR.out (by omega)
      have o0 := (hB.cell (p := ⟨b, off + k, none⟩) hb).trans (hx k hlt)
      obtain ⟨z, hz⟩ : ∃ z, R k = z := ⟨_, rfl⟩
      rw [hz] at o0
      have HZ := Lib.hid hz
      clear hz hx
      by_cases h0 : z < 0
      · go_wp2_with fail
        go_ret2
        exact ⟨.inr ⟨fun h => by have := (h k hlt).1; rw [HZ.out] at this; omega, rfl⟩, hB⟩
      · by_cases h1 : 9007199254740991 < z
        · go_wp2_with fail
          go_ret2
          exact ⟨.inr ⟨fun h => by have := (h k hlt).2; rw [HZ.out] at this; omega, rfl⟩, hB⟩
        · have HL : Hid ((L ++ encT R k).length + 1 ≤ 140737488355328) := by
            show (L ++ encT R k).length + 1 ≤ 140737488355328
            have h3 := encT_length R k
            have h4 := HC.out.1
            simp only [List.length_append]; omega
          have HOK : Hid (AllOk R (k + 1)) := fun i hi => by
            rcases (by omega : i < k ∨ i = k) with h | rfl
            · exact HK.out i h
            · rw [HZ.out]; exact ⟨by omega, by omega⟩
          by_cases h2 : z < 255
          · go_wp2_with (at_builtin; refine wpList_append_byte rfl _ _ rfl rfl HO.out hB hB.size z (UInt8.ofNat z.toNat) (byte_of z (by omega) (by omega)) rfl HL.out ?_; intro v2 w2 hO2 hB2)
            go_roundw
            case rel =>
              refine ⟨k + 1, by omega, rfl, ?_, ?_, hB2⟩
              · rw [encT, HZ.out, enc, if_pos (by omega), ← List.append_assoc]; exact hO2
              · exact HOK.out
            case measure => simp [intOf]; omega
          · go_wp2_with (at_builtin; refine wpList_append_byte rfl _ _ rfl rfl HO.out hB hB.size 255 255 rfl rfl HL.out ?_; intro v2 w2 hO2 hB2)
            clear hB
            obtain ⟨wo, rfl⟩ : ∃ wo : World, wo = wr := ⟨_, rfl⟩
            go_loopw [6, 9] (fun v y wr => ∃ j : Nat, j ≤ 8 ∧ y = .int .i64 (7 - (j : Int)) ∧ OwnB wr w.heap.size v (L ++ encT R k ++ [255] ++ beK (z - 254) j) ∧ Below w.heap.size w wr) (fun _ y _ => (intOf y + 1).toNat)
            case atStart => exact ⟨0, by omega, rfl, by simpa [beK] using hO2, hB2⟩
            case round =>
              clear hO2 hB2
              obtain ⟨j, hj, rfl, hO3, hB3⟩ := hrel
              have HO3 := Lib.hid hO3
              clear hO3
              by_cases hlt3 : (0 : Int) ≤ 7 - (j : Int)
              · have HL3 : Hid ((L ++ encT R k ++ [255] ++ beK (z - 254) j).length + 1 ≤ 140737488355328) := by
                  show (L ++ encT R k ++ [255] ++ beK (z - 254) j).length + 1 ≤ 140737488355328
                  have h3 := encT_length R k
                  have h4 := HC.out.1
                  have h5 := beK_length (z - 254) j
                  simp only [List.length_append, List.length_cons, List.length_nil]; omega
                have HB3 : Hid ((z - 254) / 2 ^ (8 * (7 - j)) % 256 = ((bX (z - 254) j).toNat : Int)) := by
                  show (z - 254) / 2 ^ (8 * (7 - j)) % 256 = ((bX (z - 254) j).toNat : Int)
                  rw [show 8 * (7 - j) = 56 - 8 * j by omega]; exact bX_toNat _ _
                go_wp2_with (at_builtin; refine wpList_append_byte rfl _ _ rfl rfl HO3.out hB3 hB3.size _ (bX (z - 254) j) HB3.out rfl HL3.out ?_; intro v4 w4 hO4 hB4)
                go_roundw
                case rel => exact ⟨j + 1, by omega, by congr 1; omega, by rw [beK_succ, ← List.append_assoc]; exact hO4, hB4⟩
                case measure => simp [intOf]; omega
              · obtain rfl : 8 = j := by omega
                go_wp2_with fail
                go_roundw
                case rel =>
                  refine ⟨k + 1, by omega, rfl, ?_, ?_, hB3⟩
                  · rw [encT, HZ.out, enc, if_neg (by omega)]; simpa using HO3.out
                  · exact HOK.out
                case measure => simp [intOf]; omega
    · obtain rfl : n1 = k := by omega
      go_wp2_with fail
      go_ret2
      exact ⟨.inl ⟨HK.out, _, rfl, HO.out⟩, hB⟩
end Go.Proofs.Ytekcokbpgpeepaa
