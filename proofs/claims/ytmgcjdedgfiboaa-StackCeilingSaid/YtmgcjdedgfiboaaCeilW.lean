/- StackCeiling, walked. -/
import Derived.Test.YtmgcjdedgfiboaaCeilL
import Derived.Test.YtmgcjdedgfiboaaFour
import Derived.Test.YtmgcjdedgfiboaaDosA
import Derived.Deep.CutBlock
import Derived.Deep.DeepCutAuto
namespace Go.Proofs.Ytmgcjdedgfiboaa
set_option linter.unusedVariables false
open Go.RowKit

theorem unlock_s {B s : Nat} {w w0 : World} {D : Nat → Nat → Int} {E : List Ent} (h : StX B w s 4 D E) (hB : Below B w0 w) (t : Int) :
    Calls Try.prog 11 #[.pointer (some ⟨s, 0, none⟩), .int .i64 t] w fun e w' => ∃ a z E', e = .returned (.tuple #[.int .i64 a, .int .i64 z]) ∧ UnlQ 4 E t a z E' ∧ StX B w' s 4 D E' ∧ Below B w0 w' := by
  obtain ⟨TA, tc, v, h⟩ := h
  exact (unlock_c h t).mono fun e w' ⟨a, z, E', h1, h2, h3⟩ => ⟨a, z, E', h1, h2, SQ.x h h3 hB⟩
theorem ceil_b8 {B s n : Nat} {w : World} {D : Nat → Nat → Int} {E : List Ent} (h : StX B w s n D E) {z : Int} (hz : ceilE n D E = z) :
    Calls Try.prog 15 #[.pointer (some ⟨s, 0, none⟩)] w fun e w' => e = .returned (.int .i64 z) ∧ Below w.heap.size w w' := by
  obtain ⟨TA, tc, v, h⟩ := h
  subst hz
  exact ceiling_c h
theorem top_b8 {B s n : Nat} {w : World} {D : Nat → Nat → Int} {E : List Ent} (h : StX B w s n D E) {z : Int} {b : Bool} (hz : topE E = z) (hb : (!E.isEmpty) = b) :
    Calls Try.prog 16 #[.pointer (some ⟨s, 0, none⟩)] w fun e w' => e = .returned (.tuple #[.int .i64 z, .bool b]) ∧ Below w.heap.size w w' := by
  obtain ⟨TA, tc, v, h⟩ := h
  subst hz hb
  exact top_c h
theorem high_q {w w' : World} {A Aa : Option Addr} {c ca m : Nat} {D : Nat → Nat → Int} {L : List Int} {z : Int} (hT : TasksAt w A 4 D) (hR : IntsR w Aa L) (hB : Below w.heap.size w w') (hz : z = highK D 4 (fun i => L.getD i 0) m) (hm : m ≤ 10000) (hl : L.length = m) :
    Calls Try.prog 17 #[.slice A 4 c, .slice Aa m ca] w' fun e w'' => e = .returned (.int .i64 z) ∧ Below w'.heap.size w' w'' := by
  subst hz hl
  exact high_a A 4 c D Aa L.length ca _ w' (by omega) (by omega) (hT.below hB) ((ints_at hR).below hB)
/-- Behind the call of a round. -/
structure CeilS (B : Nat) (w0 w : World) (s : Nat) (D : Nat → Nat → Int) (E : List Ent) (m : Nat) : Prop where
  st : StX B w s 4 D E
  inv : InvE D E
  len : E.length ≤ m
  b : Below B w0 w
theorem CeilS.below {B s m : Nat} {w0 w w' : World} {D : Nat → Nat → Int} {E : List Ent} (h : CeilS B w0 w s D E m) (k : Below w.heap.size w w') : CeilS B w0 w' s D E m := ⟨h.st.below k, h.inv, h.len, below_lift h.b k h.st.hs⟩
set_option maxRecDepth 20000 in
set_option maxHeartbeats 1600000 in
theorem ceil_law_c (A : Option Addr) (n c : Nat) (D : Nat → Nat → Int) (A1 : Option Addr) (n1 c1 : Nat) (D1 : Nat → Nat → Int) (w : World) (hn : n ≤ 1152921504606846976) (h : TasksAt w A n D) (hn1 : n1 ≤ 1152921504606846976) (h1 : DosAt w A1 n1 D1) :
    Calls Try.prog 3 #[.slice A n c, .slice A1 n1 c1] w fun e w' => e = .returned (.bool true) ∧ Below w.heap.size w w' := by
  have HF := Lib.hid (four_c A n c D w hn h)
  have HR := Lib.hid h1
  clear h h1
  go_enter Try.func3, Try.ntmps3
  go_wp2_with (first
    | (go_at_call 8; with_reducible refine (snew_ok _ 4 4 D' _ (by omega) hT1).mono ?_; rintro e w2 ⟨s, TA, tc, rfl, hS, hB2⟩)
    | (go_at_call 7; with_reducible refine HF.out.mono ?_; rintro e w1 ⟨g, D', rfl, hT1, hB1⟩))
  have HT1 := Lib.hid hT1
  have HB1 := Lib.hid hB1
  have HR1 := Lib.hid (HR.out.below hB1)
  have H0 : Hid (CeilS w1.heap.size w1 w2 s D' [] 0) := ⟨⟨_, _, _, hS⟩, fun x hx => (by cases hx), by simp, hB2⟩
  clear hT1 hB1 hS hB2 HR HF
  go_loopw [7] (fun y wr => ∃ (i : Nat) (E : List Ent), i ≤ n1 ∧ i ≤ 150 ∧ y = .int .i64 i ∧ CeilS w1.heap.size w1 wr s D' E i) (fun y _ => 150 - (intOf y).toNat)
  case atStart => exact ⟨0, [], by omega, by omega, rfl, H0.out⟩
  case round =>
    clear H0
    obtain ⟨i, E, hi, hi150, rfl, hC⟩ := hrel
    by_cases hlt : (i : Int) < (n1 : Nat) ∧ (i : Int) < 150
    · obtain ⟨hlt1, hlt2⟩ := hlt
      have hB := hC.b
      obtain ⟨b, off, rfl, hb, hx⟩ := HR1.out (by omega)
      obtain ⟨o0, o1, o2⟩ := hx i (by omega)
      have d0 := (hB.cell (p := ⟨b, off + i * 3, none⟩) hb).trans o0
      have d1 := (hB.cell (p := ⟨b, off + i * 3 + 1, none⟩) hb).trans o1
      have d2 := (hB.cell (p := ⟨b, off + i * 3 + 2, none⟩) hb).trans o2
      obtain ⟨p, hp⟩ : ∃ p, bringN (D1 i 1) 4 = p := ⟨_, rfl⟩
      have hp4 : p < 4 := hp ▸ bringN_lt (D1 i 1) 4 (by omega)
      have hBp : ∀ w, Calls Try.prog 9 #[.int .i64 (D1 i 1), .int .i64 4] w fun e w' => e = .returned (.int .i64 (p : Nat)) ∧ w' = w := fun w => (hp ▸ bring_n (D1 i 1) 4 4 w rfl (by omega) (by omega)).mono fun e w' ⟨k1, k2⟩ => ⟨k1, k2.symm⟩
      obtain ⟨r, hr⟩ : ∃ p, bringN (D1 i 2) 8 = p := ⟨_, rfl⟩
      have hr8 : r < 8 := hr ▸ bringN_lt (D1 i 2) 8 (by omega)
      have hBr : ∀ w, Calls Try.prog 9 #[.int .i64 (D1 i 2), .int .i64 8] w fun e w' => e = .returned (.int .i64 (r : Nat)) ∧ w' = w := fun w => (hr ▸ bring_n (D1 i 2) 8 8 w rfl (by omega) (by omega)).mono fun e w' ⟨k1, k2⟩ => ⟨k1, k2.symm⟩
      obtain ⟨q, hq⟩ : ∃ p, bringN (D1 i 0) 4 = p := ⟨_, rfl⟩
      have hq4 : q < 4 := hq ▸ bringN_lt (D1 i 0) 4 (by omega)
      have hBq : ∀ w, Calls Try.prog 9 #[.int .i64 (D1 i 0), .int .i64 4] w fun e w' => e = .returned (.int .i64 (q : Nat)) ∧ w = w' := fun w => hq ▸ bring_n (D1 i 0) 4 4 w rfl (by omega) (by omega)
      have hi1 : i + 1 ≤ n1 := by omega
      have hi2 : i + 1 ≤ 150 := by omega
      have HC := Lib.hid hC
      clear hx o0 o1 o2 hp hr hq hC hB
      obtain ⟨P, hP⟩ : ∃ P : Int, P = (p : Nat) := ⟨_, rfl⟩
      obtain ⟨R, hRr⟩ : ∃ P : Int, P = (r : Nat) := ⟨_, rfl⟩
      obtain ⟨Q, hQ⟩ : ∃ P : Int, P = (q : Nat) := ⟨_, rfl⟩
      rw [← hP] at hBp
      rw [← hRr] at hBr
      rw [← hQ] at hBq
      have HP := Lib.hid hP
      have HQ := Lib.hid hQ
      clear hP hRr hQ
      go_wp2_with fail
      go_quiet ((first
        | (go_at_call 9; with_reducible exact Calls.quiet_of_same (hBp _))
        | (go_at_call 9; with_reducible exact Calls.quiet_of_same (hBr _))))
      go_upto_block 2 with (go_at_call 9; with_reducible refine (hBq _).mono ?_; rintro e w4 ⟨rfl, rfl⟩)
      have HC2 : Hid (CeilS w1.heap.size w1 (wr.drewN nq) s D' E i) := HC.out.below (below_drewN (Below.refl _ _) _)
      generalize wr.drewN nq = wA at *
      clear HC d0 d1 d2 hBp hBr hBq
      go_cut [] (fun wx => ∃ E', CeilS w1.heap.size w1 wx s D' E' (i + 1))
      case first =>
        have hlE : E.length < 100000 := by have := HC2.out.len; omega
        have HL := Lib.hid (lock_x (t := P) (r := R) HC2.out.st HC2.out.b hlE rfl rfl)
        have HU := Lib.hid (unlock_s HC2.out.st HC2.out.b P)
        have HD := Lib.hid (drop_x (t := P) HC2.out.st HC2.out.b)
        have HIL := Lib.hid (inv_lock HC2.out.inv hp4 R)
        have HQQ := HQ.out
        rcases (by omega : q = 0 ∨ q = 1 ∨ q = 2 ∨ q = 3) with rfl | rfl | rfl | rfl
        · obtain rfl : Q = 0 := HQQ
          go_wp2_with (go_at_call 10; with_reducible refine HL.out.mono ?_; rintro e w5 ⟨rfl, hS5, hB5⟩)
          go_meet
          exact ⟨_, hS5, HP.out ▸ HIL.out, len_lock _ _ HC2.out.len, hB5⟩
        · obtain rfl : Q = 1 := HQQ
          go_wp2_with (go_at_call 10; with_reducible refine HL.out.mono ?_; rintro e w5 ⟨rfl, hS5, hB5⟩)
          go_meet
          exact ⟨_, hS5, HP.out ▸ HIL.out, len_lock _ _ HC2.out.len, hB5⟩
        · obtain rfl : Q = 2 := HQQ
          go_wp2_with (go_at_call 11; with_reducible refine HU.out.mono ?_; rintro e w5 ⟨a5, z5, E5, rfl, hq5, hS5, hB5⟩)
          go_meet
          exact ⟨E5, hS5, HC2.out.inv.sub (unl_sub hq5).1, by have := (unl_sub hq5).2; have := HC2.out.len; omega, hB5⟩
        · obtain rfl : Q = 3 := HQQ
          go_wp2_with (go_at_call 12; with_reducible refine HD.out.mono ?_; rintro e w5 ⟨o5, rfl, hO5, hS5, hB5⟩)
          go_meet
          exact ⟨_, hS5, HC2.out.inv.sub (drop_sub P).1, by have := (drop_sub (E := E) P).2; have := HC2.out.len; omega, hB5⟩
      case rest =>
        obtain ⟨E', hC3⟩ := hcut
        clear HC2
        have HC3 := Lib.hid hC3
        have hLE : E'.length ≤ 151 := by have := hC3.len; omega
        clear hC3
        obtain ⟨wB, rfl⟩ : ∃ x : World, x = wc := ⟨_, rfl⟩
        go_wp2_with fail
        go_loopw [10, 11] (fun v y wx => ∃ k : Nat, k ≤ 4 ∧ y = .int .i64 k ∧ OwnI wx wB.heap.size v (allE E' k) ∧ Below wB.heap.size wB wx) (fun _ y _ => 4 - (intOf y).toNat)
        case atStart => exact ⟨0, by omega, rfl, OwnI.nil, Below.refl _ _⟩
        case round =>
          obtain ⟨k, hk, rfl, hO, hBk⟩ := hrel
          have hCk := HC3.out.below hBk
          have hTk : TasksAt wr (some ⟨g, 0, none⟩) 4 D' := HT1.out.below hCk.b
          by_cases hlt3 : (k : Int) < 4
          · have hk4 : k < 4 := by omega
            have HH := Lib.hid (held_x (t := (k : Int)) hCk.st hCk.b rfl rfl)
            have HO := Lib.hid hO
            have HCk := Lib.hid hCk
            have hl1 : Hid ((allE E' k).length + (heldE E' k).length ≤ 10000000000000) := by
              have h1 := allE_len E' k
              have h2 := heldE_len E' k
              have h3 : k * E'.length ≤ 4 * 151 := Nat.mul_le_mul (by omega) hLE
              show (allE E' k).length + (heldE E' k).length ≤ 10000000000000
              omega
            have HLC : Hid (heldE E' k ≠ [] → lev D' 4 k ≤ ceilE 4 D' E') := fun e => lev_ceil hCk.inv hk4 e
            obtain ⟨HK, hHK⟩ : ∃ HK, heldE E' k = HK := ⟨_, rfl⟩
            have HAE : Hid (allE E' (k + 1) = allE E' k ++ HK) := by show allE E' (k + 1) = _; rw [← hHK]; rfl
            rw [hHK] at HH hl1 HLC
            obtain ⟨lv, hlv⟩ : ∃ z, lev D' 4 (k : Int) = z := ⟨_, rfl⟩
            obtain ⟨cv, hcv⟩ : ∃ z, ceilE 4 D' E' = z := ⟨_, rfl⟩
            rw [hlv, hcv] at HLC
            have HCV := Lib.hid hcv
            have HLV := Lib.hid hlv
            clear hO hCk hTk hHK hlv hcv
            go_upto_region 22 with (first
              | (go_at_call 13; with_reducible refine HH.out.mono ?_; rintro e w6 ⟨A6, c6, rfl, hc6, hR6, hO6, hA6, hS6, hB6, hb6⟩; have hO7 := HO.out.below hb6)
              | (at_builtin; refine wpList_append_ints (w0 := wr) (B := wB.heap.size) rfl _ _ rfl rfl hO7 (hb6.mono hBk.size) (Nat.le_trans hBk.size hb6.size) rfl rfl hR6 hA6 hl1.out ?_; intro v7 w7 hO8 hg7 hf7 hb7))
            have hB7 : Below wB.heap.size wB w7 := hBk.trans hb7
            have hC7 := HC3.out.below hB7
            have HT7 := Lib.hid (HT1.out.below hC7.b)
            have HC7 := Lib.hid hC7
            have HO8 := Lib.hid hO8
            have HB7 := Lib.hid hB7
            clear hO7 hR6 hO6 hS6 hB6 hb6 hb7 hC7 hO8 hB7 hg7 hf7 HH
            by_cases hne : HK = []
            · have hz : decide ((0 : Int) < (HK.length : Nat)) = false := decide_eq_false (by rw [hne]; simp)
              have hz2 : decide (0 < HK.length) = false := decide_eq_false (by rw [hne]; simp)
              have hz3 : ¬ 0 < HK.length := by rw [hne]; simp
              have hz4 : HK.length = 0 := by rw [hne]; rfl
              have HNE := Lib.hid hne
              clear hne
              go_wp2_with fail
              go_roundw
              case rel => exact ⟨k + 1, by omega, rfl, by rw [HAE.out]; exact HO8.out, HB7.out⟩
              case measure => simp [intOf]; omega
            · have hz : (0 : Int) < (HK.length : Nat) := by have := List.length_pos_iff.2 hne; omega
              have hz2 : 0 < HK.length := List.length_pos_iff.2 hne
              have hle := HLC.out hne
              have hgt : decide (lv > cv) = false := decide_eq_false (by omega)
              have hgt2 : decide (cv < lv) = false := decide_eq_false (by omega)
              have hgt3 : ¬ cv < lv := by omega
              have HNE := Lib.hid hne
              have HL7 := Lib.hid (level_a (some ⟨g, 0, none⟩) 4 4 D' (k : Int) w7 (by omega) HT7.out)
              rw [HLV.out] at HL7
              clear hne
              go_wp2_with (first
                | (go_at_call 14; with_reducible refine HL7.out.mono ?_; rintro e w8 ⟨rfl, hb8⟩; have HC8 := Lib.hid (HC7.out.below hb8); have HX8 := Lib.hid (ceil_x HC8.out.st HC8.out.b HCV.out); have hB8 := below_lift HB7.out hb8 HB7.out.size; have hO9 := HO8.out.below hb8)
                | (go_at_call 15; with_reducible refine (ceil_b8 HC8.out.st HCV.out).mono ?_; rintro e w9 ⟨rfl, hb9⟩; have hB9 := below_lift hB8 hb9 hB8.size; have hO10 := hO9.below hb9))
              go_roundw
              case rel => exact ⟨k + 1, by omega, rfl, by rw [HAE.out]; exact hO10, hB9⟩
              case measure => simp [intOf]; omega
          · obtain rfl : 4 = k := by omega
            obtain ⟨Aa, ca, rfl, hca, hAa, hRa, -⟩ := hO.form
            have HR9 := Lib.hid hRa
            have HCk := Lib.hid hCk
            have hla : (allE E' 4).length ≤ 10000 := by
              have h1 := allE_len E' 4
              omega
            have HTop := Lib.hid (top_b8 hCk.st (rfl : topE E' = topE E') (rfl : (!E'.isEmpty) = (!E'.isEmpty)))
            have HEQ : Hid (ceilE 4 D' E' = highK D' 4 (fun i => (allE E' 4).getD i 0) (allE E' 4).length) := by
              show ceilE 4 D' E' = _
              rw [highK_take 4 D' (allE E' 4) _ (Nat.le_refl _), List.take_length, ceil_all hCk.inv]
            have HNIL := Lib.hid (all_nil hCk.inv)
            obtain ⟨tp, htp⟩ : ∃ z, topE E' = z := ⟨_, rfl⟩
            obtain ⟨cv, hcv⟩ : ∃ z, ceilE 4 D' E' = z := ⟨_, rfl⟩
            have HTP := Lib.hid htp
            have HCV := Lib.hid hcv
            rw [htp] at HTop
            rw [hcv] at HEQ
            obtain ⟨AE, hAE⟩ : ∃ L, allE E' 4 = L := ⟨_, rfl⟩
            rw [hAE] at HEQ HNIL HR9 hla hca
            have HAE := Lib.hid hAE
            have HTk := Lib.hid hTk
            have HBk := Lib.hid hBk
            rw [hAE]
            clear hO hRa hCk hTk hBk htp hcv hAE hAa
            by_cases hE : E' = []
            · have h0 : AE = [] := HNIL.out.2 hE
              have hb0 : (!E'.isEmpty) = false := by rw [hE]; rfl
              rw [hb0] at HTop
              obtain ⟨m0, hm0⟩ : ∃ m, AE.length = m := ⟨_, rfl⟩
              have hm1 : m0 = 0 := by rw [← hm0, h0]; rfl
              rw [hm0] at HEQ hla ⊢
              have HM0 := Lib.hid hm0
              subst hm1
              clear hE h0 hb0 hm0 hca
              go_wp2_with (first
                | (go_at_call 16; with_reducible refine HTop.out.mono ?_; rintro e w8 ⟨rfl, hb8⟩; have HC8 := Lib.hid (HCk.out.below hb8); have HX8 := Lib.hid (ceil_b8 HC8.out.st HCV.out); have hB8 := hb8)
                | (go_at_call 15; with_reducible refine HX8.out.mono ?_; rintro e w9 ⟨rfl, hb9⟩; have HC9 := Lib.hid (HC8.out.below hb9); have hB9 := below_lift hB8 hb9 hB8.size; have HG9 := Lib.hid (high_q (c := 4) (ca := ca) HTk.out HR9.out hB9 HEQ.out hla HM0.out))
                | (go_at_call 17; with_reducible refine HG9.out.mono ?_; rintro e w10 ⟨rfl, hb10⟩; have HC10 := Lib.hid (HC9.out.below hb10)))
              go_roundw
              case rel => exact ⟨i + 1, E', hi1, hi2, rfl, HC10.out⟩
              case measure => simp [intOf]; omega
            · have h0 : AE ≠ [] := fun e => hE (HNIL.out.1 e)
              have hb0 : (!E'.isEmpty) = true := by cases E' with | nil => exact absurd rfl hE | cons x L => rfl
              rw [hb0] at HTop
              obtain ⟨m0, hm0⟩ : ∃ m, AE.length = m := ⟨_, rfl⟩
              have hm1 : 0 < m0 := by rw [← hm0]; exact List.length_pos_iff.2 h0
              have hm2 : (0 : Int) < (m0 : Nat) := by omega
              have htn := top_held hE
              rw [HTP.out] at htn
              obtain ⟨HT, hHT⟩ : ∃ L, heldE E' tp = L := ⟨_, rfl⟩
              rw [hHT] at htn
              have htl : ((HT.length : Int) == 0) = false := beq_false_of_ne (by have := List.length_pos_iff.2 htn; omega)
              rw [hm0] at HEQ hla ⊢
              have HM0 := Lib.hid hm0
              have HHT := Lib.hid hHT
              clear hE h0 hb0 hm0 hca htn hHT
              go_wp2_with (first
                | (go_at_call 16; with_reducible refine HTop.out.mono ?_; rintro e w8 ⟨rfl, hb8⟩; have HC8 := Lib.hid (HCk.out.below hb8); have HX8 := Lib.hid (ceil_b8 HC8.out.st HCV.out); have hB8 := hb8)
                | (go_at_call 15; with_reducible refine HX8.out.mono ?_; rintro e w9 ⟨rfl, hb9⟩; have HC9 := Lib.hid (HC8.out.below hb9); have hB9 := below_lift hB8 hb9 hB8.size; have HG9 := Lib.hid (high_q (c := 4) (ca := ca) HTk.out HR9.out hB9 HEQ.out hla HM0.out))
                | (go_at_call 17; with_reducible refine HG9.out.mono ?_; rintro e w10 ⟨rfl, hb10⟩; have HC10 := Lib.hid (HC9.out.below hb10); have HH10 := Lib.hid (held_x (t := tp) HC10.out.st HC10.out.b HHT.out rfl))
                | (go_at_call 13; with_reducible refine HH10.out.mono ?_; rintro e w11 ⟨A6, c6, rfl, hc6, hR6, hO6, hA6, hS6, hB6, hb6⟩; have HC11 := Lib.hid (HC10.out.below hb6)))
              go_roundw
              case rel => exact ⟨i + 1, E', hi1, hi2, rfl, HC11.out⟩
              case measure => simp [intOf]; omega
    · rcases (by omega : (n1 : Int) ≤ i ∨ (150 : Int) ≤ i) with hge | hge
      · go_wp2_with (go_at_call 18; with_reducible refine (works_c _).mono ?_; rintro e w3 ⟨rfl, hb3⟩; have hB3 := below_lift (below_lift HB1.out hC.b HB1.out.size) hb3 (Nat.le_trans HB1.out.size hC.b.size))
        all_goals go_ret
        all_goals exact ⟨rfl, hB3⟩
      · go_wp2_with (go_at_call 18; with_reducible refine (works_c _).mono ?_; rintro e w3 ⟨rfl, hb3⟩; have hB3 := below_lift (below_lift HB1.out hC.b HB1.out.size) hb3 (Nat.le_trans HB1.out.size hC.b.size))
        all_goals go_ret
        all_goals exact ⟨rfl, hB3⟩
end Go.Proofs.Ytmgcjdedgfiboaa
