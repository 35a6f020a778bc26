/- same, of layer 13. -/
import Derived.Test.YtmgcjdedgfiboaaTwo13
namespace Go.Proofs.Ytmgcjdedgfiboaa
set_option linter.unusedVariables false
open Go.RowKit

def FreshI (w0 w : World) (A : Option Addr) (c : Nat) : Prop := ∀ a, A = some a → ∃ g cur, a = ⟨g, 0, none⟩ ∧ w0.heap.size ≤ g ∧ Blk w g 3 cur ∧ cur.size = c
set_option maxRecDepth 10000 in
set_option maxHeartbeats 800000 in
theorem same_c (B s m n : Nat) (D : Nat → Nat → Int) (E : List Ent) (w : World) (h : Two B w s m n D E E) (hI : Inv n E) :
    Calls Try.prog 21 #[.pointer (some ⟨s, 0, none⟩), .pointer (some ⟨m, 0, none⟩)] w fun e w' => e = .returned (.bool true) ∧ Below w.heap.size w w' := by
  obtain ⟨⟨TA, tc, v, hA⟩, TA2, tc2, v2, hM⟩ := h
  obtain ⟨z, hz⟩ : ∃ z, topE E = z := ⟨_, rfl⟩
  obtain ⟨y, hy⟩ : ∃ z, (!E.isEmpty) = z := ⟨_, rfl⟩
  obtain ⟨c, hc⟩ : ∃ z, ceilE n D E = z := ⟨_, rfl⟩
  have hTop := top_c hA
  have hdTop := fun W (b : Below w.heap.size w W) => dtop_c (hM.below b)
  have hCeil := fun W (b : Below w.heap.size w W) => ceiling_c (hA.below b)
  have hdCeil := fun W (b : Below w.heap.size w W) => dceil_c (hM.below b)
  have hLen := fun W (b : Below w.heap.size w W) => len_c (hA.below b)
  have hdLen := fun W (b : Below w.heap.size w W) => dlen_c (hM.below b)
  have hL2 := hA.len
  simp only [hz, hy, hc] at hTop hdTop hCeil hdCeil
  have H1 := Lib.hid hTop
  have H2 := Lib.hid hdTop
  have H3 := Lib.hid hCeil
  have H4 := Lib.hid hdCeil
  have H5 := Lib.hid hLen
  have H6 := Lib.hid hdLen
  have HA := Lib.hid hA
  have HM := Lib.hid hM
  have HI := Lib.hid hI
  clear hTop hdTop hCeil hdCeil hLen hdLen hA hM hI hz hy hc hL2
  go_enter Try.func21, Try.ntmps21
  go_wp2_with (first
    | (go_at_call 16; with_reducible refine H1.out.mono ?_; rintro e w1 ⟨rfl, hB1⟩)
    | (go_at_call 38; with_reducible refine (H2.out _ hB1).mono ?_; rintro e w2 ⟨rfl, hb2⟩; have hB2 := below_lift hB1 hb2 hB1.size; clear hb2)
    | (go_at_call 15; with_reducible refine (H3.out _ hB2).mono ?_; rintro e w3 ⟨rfl, hb3⟩; have hB3 := below_lift hB2 hb3 hB2.size; clear hb3)
    | (go_at_call 39; with_reducible refine (H4.out _ hB3).mono ?_; rintro e w4 ⟨rfl, hb4⟩; have hB4 := below_lift hB3 hb4 hB3.size; clear hb4)
    | (go_at_call 24; with_reducible refine (H5.out _ hB4).mono ?_; rintro e w5 ⟨rfl, rfl⟩)
    | (go_at_call 40; with_reducible refine (H6.out _ hB4).mono ?_; rintro e w5 ⟨rfl, rfl⟩))
  clear H1 H2 H3 H4 H5 H6 hB1 hB2 hB3
  have HB0 := Lib.hid hB4
  clear hB4
  go_loopw [9] (fun y wr => ∃ k : Int, -1 ≤ k ∧ k ≤ 5 ∧ y = .int .i64 k ∧ Below w.heap.size w wr) (fun y _ => (5 - intOf y).toNat)
  case atStart => exact ⟨-1, by omega, by omega, rfl, HB0.out⟩
  case round =>
    obtain ⟨k, hk0, hk6, rfl, hB⟩ := hrel
    by_cases hlt : k < 5
    · obtain ⟨L, hL⟩ : ∃ L, heldE E k = L := ⟨_, rfl⟩
      have hLl : L.length ≤ 4 := hL ▸ HI.out.l k
      have hH := held_c (HA.out.below hB) k
      have hdH := fun W (b : Below wr.heap.size wr W) => dheld_x (HM.out.below (below_lift hB b hB.size)) (t := k) hL rfl
      rw [hL] at hH
      have H1 := Lib.hid hH
      have H2 := Lib.hid hdH
      clear hH hdH hL
      go_wp2_with (first
        | (go_at_call 23; with_reducible refine HE.out.mono ?_; rintro e w6 ⟨rfl, hb6⟩; have hB6 := below_lift hB5 hb6 hB5.size; have hF6 := Lib.hid ((hF2.out.below hb5).below hb6))
        | (go_at_call 41; with_reducible refine (H2.out _ hB2).mono ?_; rintro e w5 ⟨A5, c5, rfl, hR5, hb5⟩; have hB5 := below_lift hB2 hb5 hB2.size; have HE := Lib.hid (eqints_c A1 _ c1 L A5 _ c5 L _ ⟨rfl, hR1.out.below hb5⟩ ⟨rfl, hR5⟩ (by omega)))
        | (go_at_call 13; with_reducible refine H1.out.mono ?_; rintro e w2 ⟨v1, rfl, hO1, hB2⟩; obtain ⟨A1, c1, rfl, -, -, k3, -⟩ := hO1.form; have hR1 := Lib.hid k3; have hF2 := Lib.hid hO1; clear hO1 k3))
      obtain ⟨wI, hwI⟩ : ∃ x : World, x = w6 := ⟨_, rfl⟩
      have hF7 : FreshI wr w6 A1 c1 ∧ L.length ≤ c1 ∧ (A1 = none → c1 = 0) := by
        obtain ⟨A9, c9, e9, h9, h10, -, -, hk9⟩ := hF6.out.form
        injection e9 with e1 e2 e3
        subst e1 e3
        exact ⟨hk9, h9, h10⟩
      obtain ⟨hF8, hcL, hA0⟩ := hF7
      have HA0 := Lib.hid hA0
      clear hA0
      clear hwI hF2 hF6 HE hB2 hB5 hb6 hb5 H1 H2 hR1 hR5
      obtain ⟨wo, rfl⟩ : ∃ x : World, x = wr := ⟨_, rfl⟩
      go_loopw [11] (fun y wx => ∃ i : Nat, i ≤ L.length ∧ y = .int .i64 i ∧ Below wo.heap.size wo wx ∧ FreshI wo wx A1 c1) (fun y _ => L.length - (intOf y).toNat)
      case atStart => exact ⟨0, by omega, rfl, hB6, hF8⟩
      case round =>
        clear hB6 hF8
        obtain ⟨i, hi, rfl, hBx, hF⟩ := hrel
        by_cases hlt2 : (i : Int) < (L.length : Nat)
        · have hA1 : A1 ≠ none := by
            intro e
            have := HA0.out e
            omega
          obtain ⟨a1, rfl⟩ : ∃ a, A1 = some a := by
            cases A1 with
            | none => exact absurd rfl hA1
            | some a => exact ⟨a, rfl⟩
          obtain ⟨b1, cur, rfl, hb1, hk, hs⟩ := hF _ rfl
          have fr := hk.frozen i
          have ci : wr.cell? ⟨b1, i, none⟩ = some (cur[i]'(by omega)) := (hk.cell i).trans (Array.getElem?_eq_getElem (by omega))
          generalize cur[i]'(by omega) = u at ci
          have HBX := Lib.hid hBx
          have HK := Lib.hid (hk.set_ i (.int .i64 (-1)))
          clear hF hk
          go_wp2_with fail
          go_roundw
          case rel => exact ⟨i + 1, by omega, rfl, HBX.out.setCell hb1 _, fun a ha => by injection ha with ha; subst ha; exact ⟨b1, _, rfl, hb1, HK.out, by simpa using hs⟩⟩
          case measure => simp [intOf]; omega
        · obtain rfl : L.length = i := by omega
          have hB9 := below_lift hB hBx hB.size
          go_wp2_with fail
          go_roundw
          case rel => exact ⟨k + 1, by omega, by omega, rfl, hB9⟩
          case measure => simp [intOf]; omega
    · obtain rfl : k = 5 := by omega
      go_wp2_with fail
      go_ret
      exact ⟨rfl, hB⟩
end Go.Proofs.Ytmgcjdedgfiboaa
