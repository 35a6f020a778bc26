/- ClaimPlays, walked. -/
import Derived.Test.YtligkfaldaoocaaSame21
import Derived.Test.YtligkfaldaoocaaDosA
import Derived.Test.YtligkfaldaoocaaClmW
namespace Go.Proofs.Ytligkfaldaoocaa
set_option linter.unusedVariables false
open Go.RowKit

set_option maxRecDepth 20000 in
set_option maxHeartbeats 1600000 in
theorem plays_c (A : Option Addr) (n c : Nat) (D : Nat → Nat → Int) (w : World) (hn : n ≤ 1152921504606846976) (h : DosAt w A n D) :
    Calls Try.prog 3 #[.slice A n c] w fun e w' => e = .returned (.bool true) ∧ Below w.heap.size w w' := by
  have HR := Lib.hid h
  clear h
  go_enter Try.func3, Try.ntmps3
  go_wp2_with (first
    | (go_at_call 7; with_reducible refine (cnew_c w).mono ?_; rintro e w1 ⟨rfl, h1, hB1⟩)
    | (go_at_call 8; with_reducible refine (dnew_c w1).mono ?_; rintro e w2 ⟨rfl, h2, hB2⟩))
  have H0 := Lib.hid (two_new w w1 w2 h1 hB1 h2 hB2)
  have HB0 := Lib.hid (below_lift hB1 hB2 hB1.size)
  generalize w1.heap.size = m at *
  obtain ⟨g, hg⟩ : ∃ g, w.heap.size = g := ⟨_, rfl⟩
  have H00 : Hid (TwoX w.heap.size w2 g m noC noC) := hg ▸ H0.out
  rw [show (Value.pointer (some ⟨w.heap.size, 0, none⟩)) = .pointer (some ⟨g, 0, none⟩) by rw [hg]]
  clear h1 hB1 h2 hB2 H0 hg
  go_loopw [5] (fun y wr => ∃ (i : Nat) (S : CS), i ≤ n ∧ i ≤ 100 ∧ y = .int .i64 i ∧ TwoX w.heap.size wr g m S S ∧ (∀ k, k < 4 → (S.l k).length ≤ i) ∧ Below w.heap.size w wr) (fun y _ => 100 - (intOf y).toNat)
  case atStart => exact ⟨0, noC, by omega, by omega, rfl, H00.out, fun k hk => by simp [noC], HB0.out⟩
  case round =>
    clear H00 HB0
    obtain ⟨i, S, hi, hi100, rfl, hT, hl, hB⟩ := hrel
    by_cases hlt : (i : Int) < (n : Nat) ∧ (i : Int) < 100
    · obtain ⟨hlt1, hlt2⟩ := hlt
      obtain ⟨b, off, rfl, hb, hx⟩ := HR.out (by omega)
      obtain ⟨o0, o1, o2⟩ := hx i (by omega)
      have c0 := (hB.cell (p := ⟨b, off + i * 3, none⟩) hb).trans o0
      have c1 := (hB.cell (p := ⟨b, off + i * 3 + 1, none⟩) hb).trans o1
      have c2 := (hB.cell (p := ⟨b, off + i * 3 + 2, none⟩) hb).trans o2
      obtain ⟨q, hq⟩ : ∃ p, bringN (D i 0) 5 = p := ⟨_, rfl⟩
      have hq5 : q < 5 := hq ▸ bringN_lt (D i 0) 5 (by omega)
      have hBq : ∀ w, Calls Try.prog 9 #[.int .i64 (D i 0), .int .i64 5] w fun e w' => e = .returned (.int .i64 (q : Nat)) ∧ w = w' := fun w => hq ▸ bring_n (D i 0) 5 5 w rfl (by omega) (by omega)
      have hi1 : i + 1 ≤ n := by omega
      have hi2 : i + 1 ≤ 100 := by omega
      obtain ⟨p, hp⟩ : ∃ p, D i 1 = p := ⟨_, rfl⟩
      obtain ⟨r, hr⟩ : ∃ p, D i 2 = p := ⟨_, rfl⟩
      obtain ⟨Q, hQ⟩ : ∃ P : Int, P = (q : Nat) := ⟨_, rfl⟩
      rw [hp] at c1
      rw [hr] at c2
      rw [← hQ] at hBq
      have HQ := Lib.hid hQ
      have HT := Lib.hid hT
      have HL := Lib.hid hl
      have HBB := Lib.hid hB
      clear hx o0 o1 o2 hq hT hB hl hQ hp hr
      go_wp2_with fail
      go_quiet (fail)
      have c0d : (wr.drewN nq).cell? ⟨b, off + i * 3, none⟩ = some (.int .i64 (D i 0)) := c0
      go_upto_block 2 with (go_at_call 9; with_reducible refine (hBq _).mono ?_; rintro e w4 ⟨rfl, rfl⟩)
      have HT2 : Hid (TwoX w.heap.size (wr.drewN nq) g m S S) := HT.out.below (below_drewN (Below.refl _ _) _)
      have HB2 : Hid (Below w.heap.size w (wr.drewN nq)) := below_drewN HBB.out nq
      clear c0 c1 c2 c0d
      generalize wr.drewN nq = wA at *
      clear HT hBq
      go_cut [8] (fun v wx => v = .bool true ∧ ∃ S', TwoX w.heap.size wx g m S' S' ∧ (∀ k, k < 4 → (S'.l k).length ≤ i + 1) ∧ Below w.heap.size w wx)
      case first =>
        have hl9 : ∀ k, k < 4 → (S.l k).length < 1000000 := fun k hk => by have := HL.out k hk; omega
        have HL9 := Lib.hid hl9
        clear hl9
        have hAsk := ask_2 (p := p) (r := r) HT2.out HB2.out HL9.out
        have hdAsk := fun W (t : TwoX w.heap.size W g m (askC S p r) S) (b : Below w.heap.size w W) => dask_2 (p := p) (r := r) t b HL9.out
        have hHold := hold_2 (p := p) (r := r) HT2.out HB2.out
        have hdHold := fun W (t : TwoX w.heap.size W g m (holdC S p r) S) (b : Below w.heap.size w W) => dhold_2 (p := p) (r := r) t b
        have hGive := give_2 (p := p) (r := r) HT2.out HB2.out
        have hdGive := fun W (t : TwoX w.heap.size W g m (giveC S p r) S) (b : Below w.heap.size w W) => dgive_2 (p := p) (r := r) t b
        have hDrop := drop_2 (p := p) HT2.out HB2.out
        have hdDrop := fun W (t : TwoX w.heap.size W g m (dropC S p) S) (b : Below w.heap.size w W) => ddrop_2 (p := p) t b
        obtain ⟨i1, hi1'⟩ : ∃ (x : Int) , ∃ b, inV (inE S p) = .tuple #[.int .i64 x, .bool b] := by
          cases inE S p with
          | none => exact ⟨_, _, rfl⟩
          | some j => exact ⟨_, _, rfl⟩
        obtain ⟨i2, hiv⟩ := hi1'
        simp only [hiv] at hDrop hdDrop
        obtain ⟨ab, hab⟩ : ∃ x, askB S p r = x := ⟨_, rfl⟩
        obtain ⟨ae, hae⟩ : ∃ x, askE S p r = x := ⟨_, rfl⟩
        obtain ⟨he, hhe⟩ : ∃ x, holdE S p r = x := ⟨_, rfl⟩
        obtain ⟨ge, hge⟩ : ∃ x, giveE S p r = x := ⟨_, rfl⟩
        simp only [hab, hae] at hAsk hdAsk
        simp only [hhe] at hHold hdHold
        simp only [hge] at hGive hdGive
        have HLa := Lib.hid (len_ask S p r HL.out)
        have HLh := Lib.hid (len_hold S p r HL.out)
        have HLg := Lib.hid (len_give S p r HL.out)
        have HLd := Lib.hid (len_drop S p HL.out)
        generalize askC S p r = Sa at *
        generalize holdC S p r = Sh at *
        generalize giveC S p r = Sg at *
        generalize dropC S p = Sd at *
        have HA := Lib.hid hAsk
        have HH := Lib.hid hHold
        have HG := Lib.hid hGive
        have HD := Lib.hid hDrop
        have HdA := Lib.hid hdAsk
        have HdH := Lib.hid hdHold
        have HdG := Lib.hid hdGive
        have HdD := Lib.hid hdDrop
        clear hAsk hHold hGive hDrop hdAsk hdHold hdGive hdDrop hab hae hhe hge hiv
        have HQQ := HQ.out
        rcases (by omega : q = 0 ∨ q = 1 ∨ q = 2 ∨ q = 3 ∨ q = 4) with rfl | rfl | rfl | rfl | rfl
        · obtain rfl : Q = 0 := HQQ
          go_wp2_with (first
            | (go_at_call 11; with_reducible refine (HdA.out _ h5.t h5.b).mono ?_; rintro e w6 ⟨rfl, h6⟩)
            | (go_at_call 10; with_reducible refine HA.out.mono ?_; rintro e w5 ⟨rfl, h5⟩))
          go_meet
          exact ⟨by simp, Sa, h6.t, HLa.out, h6.b⟩
        · obtain rfl : Q = 1 := HQQ
          go_wp2_with (first
            | (go_at_call 11; with_reducible refine (HdA.out _ h5.t h5.b).mono ?_; rintro e w6 ⟨rfl, h6⟩)
            | (go_at_call 10; with_reducible refine HA.out.mono ?_; rintro e w5 ⟨rfl, h5⟩))
          go_meet
          exact ⟨by simp, Sa, h6.t, HLa.out, h6.b⟩
        · obtain rfl : Q = 2 := HQQ
          go_wp2_with (first
            | (go_at_call 13; with_reducible refine (HdH.out _ h5.t h5.b).mono ?_; rintro e w6 ⟨rfl, h6⟩)
            | (go_at_call 12; with_reducible refine HH.out.mono ?_; rintro e w5 ⟨rfl, h5⟩))
          go_meet
          exact ⟨by simp, Sh, h6.t, HLh.out, h6.b⟩
        · obtain rfl : Q = 3 := HQQ
          go_wp2_with (first
            | (go_at_call 15; with_reducible refine (HdG.out _ h5.t h5.b).mono ?_; rintro e w6 ⟨rfl, h6⟩)
            | (go_at_call 14; with_reducible refine HG.out.mono ?_; rintro e w5 ⟨rfl, h5⟩))
          go_meet
          exact ⟨by simp, Sg, h6.t, HLg.out, h6.b⟩
        · obtain rfl : Q = 4 := HQQ
          go_wp2_with (first
            | (go_at_call 17; with_reducible refine (HdD.out _ h5.t h5.b).mono ?_; rintro e w6 ⟨rfl, h6⟩)
            | (go_at_call 16; with_reducible refine HD.out.mono ?_; rintro e w5 ⟨rfl, h5⟩))
          go_meet
          exact ⟨by simp, Sd, h6.t, HLd.out, h6.b⟩
      case rest =>
        obtain ⟨rfl, S', hT3, hl3, hB3⟩ := hcut
        have HT3 := Lib.hid hT3
        have HL3 := Lib.hid hl3
        have hS := same_c w.heap.size g m S' wc hT3 (fun k hk => by have := hl3 k hk; omega)
        clear hT3 hl3
        go_wp2_with (go_at_call 18; with_reducible refine hS.mono ?_; rintro e w7 ⟨rfl, hb7⟩; have hB7 := below_lift hB3 hb7 hB3.size; have HT7 := Lib.hid (HT3.out.below hb7))
        go_roundw
        case rel => exact ⟨i + 1, S', hi1, hi2, rfl, HT7.out, HL3.out, hB7⟩
        case measure => simp [intOf]; omega
    · rcases (by omega : (n : Int) ≤ i ∨ (100 : Int) ≤ i) with hge | hge
      · go_wp2_with (go_at_call 19; with_reducible refine (works_c _).mono ?_; rintro e w3 ⟨rfl, hb3⟩; have hB3 := below_lift hB hb3 hB.size)
        all_goals go_ret
        all_goals exact ⟨rfl, hB3⟩
      · go_wp2_with (go_at_call 19; with_reducible refine (works_c _).mono ?_; rintro e w3 ⟨rfl, hb3⟩; have hB3 := below_lift hB hb3 hB.size)
        all_goals go_ret
        all_goals exact ⟨rfl, hB3⟩
end Go.Proofs.Ytligkfaldaoocaa
