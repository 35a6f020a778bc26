/- The document's row: Left, Rest, New; Same. -/
import Derived.Test.YtcbmcengccealaaRefB
namespace Go.Proofs.Ytcbmcengccealaa
set_option linter.unusedVariables false
open Go.RowKit

set_option maxHeartbeats 400000 in
theorem left_r (g b : Nat) (L : List OpV) (w : World) (h : RowR w g b L) (hok : OkRow L) :
    Calls Try.prog 24 #[.pointer (some ⟨g, 0, none⟩)] w fun e w' => e = .returned (.int .i64 (leftOf L)) ∧ Below w.heap.size w w' := by
  obtain ⟨A, c, off, h1, h2, h3, h0⟩ := h
  have C0 := Lib.hid ((h1.cell 0).trans (show _ = some (.slice A L.length c) from rfl))
  have HR := Lib.hid (RowA.reads (g := g) h3)
  have HK := Lib.hid hok
  have hl : L.length ≤ 32 := hok.1
  have hgl := h1.lt
  clear h0 h1 h2 h3 hok
  go_enter Try.func24, Try.ntmps24
  go_wp2
  go_loopw [3, 4] (fun s x wr => ∃ k : Nat, k ≤ L.length ∧ x = .int .i64 k ∧ s = .int .i64 (leftOf (L.take k)) ∧ Below w.heap.size w wr) (fun _ x _ => L.length - (intOf x).toNat)
  case atStart => exact ⟨0, Nat.zero_le _, rfl, rfl, Below.refl _ _⟩
  case round =>
    obtain ⟨k, hk, rfl, rfl, hB⟩ := hrel
    have c0 := (hB.cell (p := ⟨g, 0, none⟩) hgl).trans C0.out
    by_cases hlt : k < L.length
    · obtain ⟨b, off, rfl, hb, hx⟩ := HR.out (by intro e; rw [e] at hlt; simp at hlt)
      obtain ⟨x, hxk⟩ : ∃ x, L[k]? = some x := ⟨_, List.getElem?_eq_getElem hlt⟩
      obtain ⟨o0, o1, o2⟩ := (hx k x hxk).keep (w' := wr) (fun p hp => hB.cell (by rw [hp]; exact hb))
      have HD := Lib.hid (left_take L k x hxk)
      have hbd := left_take_bounds L HK.out k
      have hok := HK.out.2 x (List.mem_of_getElem? hxk)
      clear hx hxk
      have hltI : (k : Int) < (L.length : Nat) := by omega
      by_cases hk1 : x.k = 1
      · have hkb : (x.k == 1) = true := by simp [hk1]
        have hr := ok_run x hok hk1
        have Hk := Lib.hid hk1
        clear hk1 hok
        go_wp2
        go_roundw
        case rel => exact ⟨k + 1, by omega, rfl, by rw [HD.out, if_pos Hk.out], hB⟩
        case measure => simp [intOf]; omega
      · have hkb : (x.k == 1) = false := by simp [hk1]
        have Hk := Lib.hid hk1
        clear hk1 hok
        go_wp2
        go_roundw
        case rel => exact ⟨k + 1, by omega, rfl, by rw [HD.out, if_neg Hk.out, Int.add_zero], hB⟩
        case measure => simp [intOf]; omega
    · obtain rfl : L.length = k := by omega
      go_wp2
      go_ret
      exact ⟨by rw [List.take_length]; rfl, hB⟩
set_option maxHeartbeats 400000 in
theorem rest_r (g b : Nat) (L : List OpV) (w : World) (h : RowR w g b L) (hl : L.length ≤ 65536) :
    Calls Try.prog 25 #[.pointer (some ⟨g, 0, none⟩)] w fun e w' => ∃ A' c' b', e = .returned (.slice A' L.length c') ∧ FreshOps w' w.heap.size A' c' b' L ∧ Below w.heap.size w w' := by
  obtain ⟨i0, hi0, hz0, hz1, hz2⟩ := info_parts op_info
  obtain ⟨A, c, off, h1, h2, h3, h0⟩ := h
  have c0 := (h1.cell 0).trans (show _ = some (.slice A L.length c) from rfl)
  have hsl : Hid (SrcR w 3 A L.length c (opCells L)) := (RowA.reads (g := g) h3).src h0
  clear h0 h1 h2 h3
  go_enter Try.func25, Try.ntmps25
  go_wp2_with (at_builtin; refine wpList_append_src rfl _ _ _ rfl w.heap.size 23 i0 _ 3 32 Try.underlying28 hi0 hz0 hz1 hz2 rfl (by omega) (.slice none 0 0) 0 [] rfl (own_none w _ _ _) _ _ _ (opCells L) rfl hsl.out (opCells_one L) (by simp only [maxLen]; omega) (by omega) (by simp) ?_; intro v1 w1 hown hg _)
  go_ret
  have hb : Below w.heap.size w w1 := below_grown (Below.refl _ _) hg (by simp) (by simp [Value.ownBlock])
  obtain ⟨A', c', b', rfl, hF⟩ := fresh_of_own (L := L) (by simpa using hown)
  exact ⟨A', c', b', rfl, hF, hb⟩
set_option maxHeartbeats 400000 in
theorem same_c (A A' : Option Addr) (c c' : Nat) (L : List OpV) (w : World) (hl : L.length ≤ 65536) (h : OpsR w A L) (h' : OpsR w A' L) :
    Calls Try.prog 13 #[.slice A L.length c, .slice A' L.length c'] w fun e w' => e = .returned (.bool true) ∧ Below w.heap.size w w' := by
  have H := Lib.hid h
  have H' := Lib.hid h'
  clear h h'
  go_enter Try.func13, Try.ntmps13
  go_wp2
  go_loopw [5] (fun x wr => ∃ k : Nat, k ≤ L.length ∧ x = .int .i64 k ∧ Below w.heap.size w wr) (fun x _ => L.length - (intOf x).toNat)
  case atStart => exact ⟨0, Nat.zero_le _, rfl, Below.refl _ _⟩
  case round =>
    obtain ⟨k, hk, rfl, hB⟩ := hrel
    by_cases hlt : k < L.length
    · obtain ⟨b, off, rfl, hb, hx⟩ := H.out (by intro e; rw [e] at hlt; simp at hlt)
      obtain ⟨b', off', rfl, hb', hx'⟩ := H'.out (by intro e; rw [e] at hlt; simp at hlt)
      obtain ⟨x, hxk⟩ : ∃ x, L[k]? = some x := ⟨_, List.getElem?_eq_getElem hlt⟩
      obtain ⟨o0, o1, o2⟩ := (hx k x hxk).keep (w' := wr) (fun p hp => hB.cell (by rw [hp]; exact hb))
      obtain ⟨p0, p1, p2⟩ := (hx' k x hxk).keep (w' := wr) (fun p hp => hB.cell (by rw [hp]; exact hb'))
      clear hx hx' hxk
      have hltI : (k : Int) < (L.length : Nat) := by omega
      go_wp2_with fail
      go_quiet (fail)
      go_wp2
      go_roundw
      case rel => exact ⟨k + 1, by omega, rfl, below_drewN hB _⟩
      case measure => simp [intOf]; omega
    · obtain rfl : L.length = k := by omega
      go_wp2
      go_ret
      exact ⟨rfl, hB⟩
end Go.Proofs.Ytcbmcengccealaa
