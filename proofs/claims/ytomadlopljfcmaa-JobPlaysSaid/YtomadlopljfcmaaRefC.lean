/- The document's row: Left, Rest, New; Same. -/
import Derived.Test.YtomadlopljfcmaaRefB
namespace Go.Proofs.Ytomadlopljfcmaa
set_option linter.unusedVariables false
open Go.RowKit

set_option maxHeartbeats 400000 in
theorem left_r (g b : Nat) (L : List OpV) (w : World) (h : RowR w g b L) (hok : OkRow L) :
    Calls Try.prog 56 #[.pointer (some ⟨g, 0, none⟩)] w fun e w' => e = .returned (.int .i64 (leftOf L)) ∧ Below w.heap.size w w' := by
  obtain ⟨A, c, off, h1, h2, h3, h0⟩ := h
  have C0 := Lib.hid ((h1.cell 0).trans (show _ = some (.slice A L.length c) from rfl))
  have HR := Lib.hid (RowA.reads (g := g) h3)
  have HK := Lib.hid hok
  have hl : L.length ≤ 32 := hok.1
  have hgl := h1.lt
  clear h0 h1 h2 h3 hok
  go_enter Try.func56, Try.ntmps56
  go_wp2
  go_loopw [3, 4] (fun s x wr => ∃ k : Nat, k ≤ L.length ∧ x = .int .i64 k ∧ s = .int .i64 (leftOf (L.take k)) ∧ Below w.heap.size w wr) (fun _ x _ => L.length - (intOf x).toNat)
  case atStart => exact ⟨0, Nat.zero_le _, rfl, rfl, Below.refl _ _⟩
  case round =>
    obtain ⟨k, hk, rfl, rfl, hB⟩ := hrel
    have c0 := (hB.cell (p := ⟨g, 0, none⟩) hgl).trans C0.out
    by_cases hlt : k < L.length
    · obtain ⟨b, off, rfl, hb, hx⟩ := HR.out (by intro e; rw [e] at hlt; simp at hlt)
      obtain ⟨x, hxk⟩ : ∃ x, L[k]? = some x := ⟨_, List.getElem?_eq_getElem hlt⟩
      obtain ⟨o0, o1, o2⟩ := (hx k x hxk).keep (w' := wr) (fun p hp => hB.cell (by rw [hp]; exact hb))
      have HD := Lib.hid (left_take L k x hxk)
      have hbd := left_take_bounds L HK.out k
      have hok := HK.out.2 x (List.mem_of_getElem? hxk)
      clear hx hxk
      have hltI : (k : Int) < (L.length : Nat) := by omega
      by_cases hk1 : x.k = 1
      · have hkb : (x.k == 1) = true := by simp [hk1]
        have hr := ok_run x hok hk1
        have Hk := Lib.hid hk1
        clear hk1 hok
        go_wp2
        go_roundw
        case rel => exact ⟨k + 1, by omega, rfl, by rw [HD.out, if_pos Hk.out], hB⟩
        case measure => simp [intOf]; omega
      · have hkb : (x.k == 1) = false := by simp [hk1]
        have Hk := Lib.hid hk1
        clear hk1 hok
        go_wp2
        go_roundw
        case rel => exact ⟨k + 1, by omega, rfl, by rw [HD.out, if_neg Hk.out, Int.add_zero], hB⟩
        case measure => simp [intOf]; omega
    · obtain rfl : L.length = k := by omega
      go_wp2
      go_ret
      exact ⟨by rw [List.take_length]; rfl, hB⟩
end Go.Proofs.Ytomadlopljfcmaa
