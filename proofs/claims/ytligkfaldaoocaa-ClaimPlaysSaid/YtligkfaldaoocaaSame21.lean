/- same, of layer 21. -/
import Derived.Test.YtligkfaldaoocaaTwo21
namespace Go.Proofs.Ytligkfaldaoocaa
set_option linter.unusedVariables false
open Go.RowKit

def FreshI (w0 w : World) (A : Option Addr) (c : Nat) : Prop := ∀ a, A = some a → ∃ g cur, a = ⟨g, 0, none⟩ ∧ w0.heap.size ≤ g ∧ Blk w g 3 cur ∧ cur.size = c
theorem two_read {n m : Int} {b c : Bool} (k : b = c) (h : n = m) : (n == m) = true ∧ (b == c) = true := by subst h k; simp
set_option maxRecDepth 10000 in
set_option maxHeartbeats 800000 in
theorem same_c (B g m : Nat) (S : CS) (w : World) (h : TwoX B w g m S S) (hl : ∀ k, k < 4 → (S.l k).length ≤ 1000) :
    Calls Try.prog 18 #[.pointer (some ⟨g, 0, none⟩), .pointer (some ⟨m, 0, none⟩)] w fun e w' => e = .returned (.bool true) ∧ Below w.heap.size w w' := by
  obtain ⟨V, V2, h⟩ := h
  have HH := Lib.hid h
  have HL := Lib.hid hl
  clear h hl
  go_enter Try.func18, Try.ntmps18
  go_wp2_with fail
  go_loopw [5] (fun y wr => ∃ k : Int, -1 ≤ k ∧ k ≤ 6 ∧ y = .int .i64 k ∧ Below w.heap.size w wr) (fun y _ => (6 - intOf y).toNat)
  case atStart => exact ⟨-1, by omega, by omega, rfl, Below.refl _ _⟩
  case round =>
    obtain ⟨k, hk0, hk6, rfl, hB⟩ := hrel
    by_cases hlt : k < 6
    · have hA := HH.out.a.below hB
      have hM := HH.out.d.below hB
      have hLine := line_c B g V S k wr hA
      obtain ⟨L, hL⟩ : ∃ L, lineL S k = L := ⟨_, rfl⟩
      have hLl : L.length ≤ 1000 := by rw [← hL]; exact lineL_len S k HL.out
      obtain ⟨hn, hhn⟩ : ∃ x, holdN S k = x := ⟨_, rfl⟩
      obtain ⟨hb, hhb⟩ : ∃ x, holdB S k = x := ⟨_, rfl⟩
      obtain ⟨i1, hi1⟩ : ∃ (x : Int) , ∃ b, inV (inE S k) = .tuple #[.int .i64 x, .bool b] := by
        cases inE S k with
        | none => exact ⟨_, _, rfl⟩
        | some j => exact ⟨_, _, rfl⟩
      obtain ⟨i2, hi⟩ := hi1
      have hHold := fun W (hW : ClA B W g V S) => holder_c B g V S k W hW
      have hdHold := fun W (hW : ClM B W m V2 S) => dholder_c B m V2 S k W hW
      have hIn := fun W (hW : ClA B W g V S) => in_c B g V S k W hW
      have hdIn := fun W (hW : ClM B W m V2 S) => din_c B m V2 S k W hW
      have hdLine := fun W (hW : ClM B W m V2 S) => dline_c B m V2 S k W hW
      rw [hL] at hLine
      simp only [hL] at hdLine
      simp only [hhn, hhb] at hHold hdHold
      simp only [hi] at hIn hdIn
      have HA := Lib.hid hA
      have HM := Lib.hid hM
      have H1 := Lib.hid hLine
      have H2 := Lib.hid hHold
      have H3 := Lib.hid hdHold
      have H4 := Lib.hid hIn
      have H5 := Lib.hid hdIn
      have H6 := Lib.hid hdLine
      clear hA hM hLine hHold hdHold hIn hdIn hdLine hL hhn hhb hi
      go_wp2_with (first
        | (go_at_call 33; with_reducible refine HE.out.mono ?_; rintro e w6 ⟨rfl, hb6⟩; have hB6 := below_lift hB5 hb6 hB5.size; have hF6 := Lib.hid (hF5.out.below hb6))
        | (go_at_call 34; with_reducible refine (H6.out _ (HM.out.below hB3)).mono ?_; rintro e w5 ⟨v5, rfl, hO5, hb5⟩; have hB5 := below_lift hB3 hb5 hB3.size; obtain ⟨A5, c5, rfl, -, -, hR5, -⟩ := hO5.form; have hF5 := Lib.hid (hF3.out.below hb5); have HE := Lib.hid (eqints_c A1 L.length c1 L A5 L.length c5 L w5 ⟨rfl, (own_row hF5.out).2.2⟩ ⟨rfl, hR5⟩ (by omega)); rw [decide_eq_true (rfl : L = L)] at HE; clear hO5 hR5 hb5)
        | (go_at_call 27; with_reducible refine (H5.out _ (HM.out.below hB3)).mono ?_; rintro e w4 ⟨rfl, rfl⟩)
        | (go_at_call 23; with_reducible refine (H4.out _ (HA.out.below hB3)).mono ?_; rintro e w4 ⟨rfl, rfl⟩)
        | (go_at_call 32; with_reducible refine (H3.out _ (HM.out.below hB3)).mono ?_; rintro e w4 ⟨rfl, rfl⟩)
        | (go_at_call 21; with_reducible refine (H2.out _ (HA.out.below hB2)).mono ?_; rintro e w3 ⟨rfl, hb3⟩; have hB3 := below_lift hB2 hb3 hB2.size; have hF3 := Lib.hid (hF2.out.below hb3); clear hb3)
        | (go_at_call 20; with_reducible refine H1.out.mono ?_; rintro e w2 ⟨v1, rfl, hO1, hB2⟩; obtain ⟨A1, c1, rfl, -⟩ := hO1.form; have hF2 := Lib.hid hO1; clear hO1))
      obtain ⟨wI, hwI⟩ : ∃ x : World, x = w6 := ⟨_, rfl⟩
      have hF7 : FreshI wr w6 A1 c1 ∧ L.length ≤ c1 ∧ (A1 = none → c1 = 0) := by
        obtain ⟨A9, c9, e9, h9, h10, -, -, hk9⟩ := hF6.out.form
        injection e9 with e1 e2 e3
        subst e1 e3
        exact ⟨hk9, h9, h10⟩
      obtain ⟨hF8, hcL, hA0⟩ := hF7
      have HA0 := Lib.hid hA0
      clear hA0
      clear hwI hF2 hF3 hF5 hF6 HE hB2 hB3 hB5 hb6 H1 H2 H3 H4 H5 H6 HA HM
      obtain ⟨wo, rfl⟩ : ∃ x : World, x = wr := ⟨_, rfl⟩
      go_loopw [15] (fun y wx => ∃ i : Nat, i ≤ L.length ∧ y = .int .i64 i ∧ Below wo.heap.size wo wx ∧ FreshI wo wx A1 c1) (fun y _ => L.length - (intOf y).toNat)
      case atStart => exact ⟨0, by omega, rfl, hB6, hF8⟩
      case round =>
        clear hB6 hF8
        obtain ⟨i, hi, rfl, hBx, hF⟩ := hrel
        by_cases hlt2 : (i : Int) < (L.length : Nat)
        · have hA1 : A1 ≠ none := by
            intro e
            have := HA0.out e
            omega
          obtain ⟨a1, rfl⟩ : ∃ a, A1 = some a := by
            cases A1 with
            | none => exact absurd rfl hA1
            | some a => exact ⟨a, rfl⟩
          obtain ⟨b1, cur, rfl, hb1, hk, hs⟩ := hF _ rfl
          have fr := hk.frozen i
          have ci : wr.cell? ⟨b1, i, none⟩ = some (cur[i]'(by omega)) := (hk.cell i).trans (Array.getElem?_eq_getElem (by omega))
          generalize cur[i]'(by omega) = u at ci
          have HBX := Lib.hid hBx
          have HK := Lib.hid (hk.set_ i (.int .i64 (-1)))
          clear hF hk
          go_wp2_with fail
          go_roundw
          case rel => exact ⟨i + 1, by omega, rfl, HBX.out.setCell hb1 _, fun a ha => by injection ha with ha; subst ha; exact ⟨b1, _, rfl, hb1, HK.out, by simpa using hs⟩⟩
          case measure => simp [intOf]; omega
        · obtain rfl : L.length = i := by omega
          have hB9 := below_lift hB hBx hB.size
          go_wp2_with fail
          go_roundw
          case rel => exact ⟨k + 1, by omega, by omega, rfl, hB9⟩
          case measure => simp [intOf]; omega
    · obtain rfl : k = 6 := by omega
      go_wp2_with fail
      go_ret
      exact ⟨rfl, hB⟩
end Go.Proofs.Ytligkfaldaoocaa
