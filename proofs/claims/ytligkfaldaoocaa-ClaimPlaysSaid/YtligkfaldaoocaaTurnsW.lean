/- ClaimTurns, walked. -/
import Derived.Test.YtligkfaldaoocaaClmL
import Derived.Test.YtligkfaldaoocaaBring
import Derived.Deep.CutBlock
import Derived.Deep.DeepCutAuto
namespace Go.Proofs.Ytligkfaldaoocaa
set_option linter.unusedVariables false
open Go.RowKit

theorem ownBlock_lt {w : World} {B : Nat} {v : Value} {L : List Int} (h : OwnI w B v L) : ∀ b, v.ownBlock = some b → b < w.heap.size := fun b hb => (h.lt b hb).2.1
/-- The law's row beside the claims. -/
theorem row_grown {B g : Nat} {w w' : World} {S : CS} {v v' : Value} {L : List Int} {z : Int} (hC : ClF B w g S (fun b => v.ownBlock = some b))
    (hg : (w.alloc (.cells #[.int .i64 z] 3)).grownBy w' v.ownBlock) (hf : v'.ownBlock = v.ownBlock ∨ v'.ownBlock = some (w.alloc (.cells #[.int .i64 z] 3)).heap.size)
    (hO : OwnI w' B v' L) : ClF B w' g S (fun b => v'.ownBlock = some b) := by
  refine ClF.keep (hC.below ((Below.refl _ _).alloc (Nat.le_refl _) (.cells #[.int .i64 z] 3))) (keeps_grown hg) fun b hb => ⟨?_, ownBlock_lt hO b hb⟩
  rcases hf with hf | hf
  · exact .inl (hf ▸ hb)
  · rw [hf] at hb
    injection hb with hb
    exact .inr (by omega)
/-- What the law knows at a round's start. -/
structure TrR (B : Nat) (w0 w : World) (g k0 : Nat) (v : Value) (L : List Int) (m : Nat) : Prop where
  c : ClF B w g (tS k0 L) (fun b => v.ownBlock = some b)
  o : OwnI w B v L
  r : Row1 L m
  b : Below B w0 w
theorem own_row {w : World} {B n c : Nat} {A : Option Addr} {L : List Int} (h : OwnI w B (.slice A n c) L) : n = L.length ∧ n ≤ c ∧ IntsR w A L := by
  obtain ⟨A', c', hv, h1, h2, h3, h4, h5⟩ := h.form
  injection hv with e1 e2 e3
  subst e1 e2 e3
  exact ⟨rfl, h1, h3⟩
theorem IntsR.at_ {w : World} {b off : Nat} {L : List Int} {i : Nat} {x : Int} (h : IntsR w (some ⟨b, off, none⟩) L) (hx : L[i]? = some x) : w.cell? ⟨b, off + i, none⟩ = some (.int .i64 x) := by
  obtain ⟨b', off', e, hb, hc⟩ := h (by rintro rfl; cases hx)
  injection e with e
  injection e with e1 e2
  subst e1 e2
  exact hc i x hx
theorem own_head {w : World} {B : Nat} {v : Value} {L : List Int} (h : OwnI w B v L) (hL : L ≠ []) : ∃ (g n c : Nat) (x : Int), v = .slice (some ⟨g, 0, none⟩) n c ∧ Hid (n = L.length) ∧ 0 < n ∧ n ≤ c ∧ L[0]? = some x ∧ w.cell? ⟨g, 0, none⟩ = some (.int .i64 x) := by
  obtain ⟨A, c, rfl, h1, h2, h3, h4, h5⟩ := h.form
  cases L with
  | nil => exact absurd rfl hL
  | cons x L =>
    obtain ⟨b, off, rfl, hb, hx⟩ := h3 (by simp)
    obtain ⟨g, cur, e, hg, hk, hs⟩ := h5 _ rfl
    injection e with e1 e2
    subst e1 e2
    exact ⟨_, _, c, x, rfl, rfl, by simp, h1, rfl, hx 0 x rfl⟩
set_option maxRecDepth 20000 in
set_option maxHeartbeats 400000 in
theorem turns_c (A : Option Addr) (n c : Nat) (D : Nat → Int) (gi : Int) (w : World) (hn : n ≤ 1152921504606846976) (h : IntsAt w A n D) :
    Calls Try.prog 5 #[.slice A n c, .int .i64 gi] w fun e w' => e = .returned (.bool true) ∧ Below w.heap.size w w' := by
  have HR := Lib.hid h
  clear h
  obtain ⟨k0, hk0⟩ : ∃ k0, bringN gi 4 = k0 := ⟨_, rfl⟩
  have hk4 : k0 < 4 := hk0 ▸ bringN_lt gi 4 (by omega)
  have hBr : ∀ w, Calls Try.prog 9 #[.int .i64 gi, .int .i64 4] w fun e w' => e = .returned (.int .i64 (k0 : Nat)) ∧ w = w' := fun w => hk0 ▸ bring_n gi 4 4 w rfl (by omega) (by omega)
  have hr64 : wrap64 (1 + (k0 : Int)) = 1 + (k0 : Int) := IntWalk.wrap64_in _ (by omega)
  clear hk0
  go_enter Try.func5, Try.ntmps5
  go_upto_block 0 with (first
    | (go_at_call 7; with_reducible refine (new_x w (Below.refl _ _) (Nat.le_refl _)).mono ?_; rintro e w1 ⟨g, rfl, h1, hB1⟩)
    | (go_at_call 9; with_reducible refine (hBr _).mono ?_; rintro e w2 ⟨rfl, rfl⟩))
  have H0 : Hid (TrR w.heap.size w w1 g k0 (.slice none 0 0) [] 0) := ⟨by rw [tS_nil]; exact h1.f.keep (Keeps.refl _ _) fun b hb => by simp [Value.ownBlock] at hb, OwnI.nil, ⟨by simp, by simp, by simp⟩, hB1⟩
  clear h1 hB1
  go_cut [6] (fun v wx => ∃ L m, TrR w.heap.size w wx g k0 v L m ∧ m ≤ 20)
  case first =>
    go_wp2_with fail
    go_loopw [6, 7] (fun v y wr => ∃ (i : Nat) (L : List Int), i ≤ n ∧ i ≤ 20 ∧ y = .int .i64 i ∧ TrR w.heap.size w wr g k0 v L i) (fun _ y _ => 20 - (intOf y).toNat)
    case atStart => exact ⟨0, [], by omega, by omega, rfl, H0.out⟩
    case round =>
      clear H0
      obtain ⟨i, L, hi, hi20, rfl, hT⟩ := hrel
      by_cases hlt : (i : Int) < (n : Nat) ∧ (i : Int) < 20
      · obtain ⟨hlt1, hlt2⟩ := hlt
        have hB := hT.b
        obtain ⟨b, off, rfl, hb, hx⟩ := HR.out (by omega)
        have o0 := (hB.cell (p := ⟨b, off + i, none⟩) hb).trans (hx i (by omega))
        obtain ⟨p, hp⟩ : ∃ p, bringN (D i) 4 = p := ⟨_, rfl⟩
        have hp4 : p < 4 := hp ▸ bringN_lt (D i) 4 (by omega)
        have hBp : ∀ w, Calls Try.prog 9 #[.int .i64 (D i), .int .i64 4] w fun e w' => e = .returned (.int .i64 (p : Nat)) ∧ w = w' := fun w => hp ▸ bring_n (D i) 4 4 w rfl (by omega) (by omega)
        have hn1 := hT.r.nxt hp4
        have hlen := hT.r.len
        have hA := ask_f hT.c hB (tS_len (by omega)) (p := p) (r := 1 + (k0 : Int)) (askB_tS hp4 hk4) (askE_tS hp4 hk4) (askC_tS hp4 hk4)
        obtain ⟨Aw, cw, rfl, hcw, hAw, hIw, hcm, hAc⟩ := hT.o.form
        have HO := Lib.hid hT.o
        obtain ⟨q, hq⟩ : ∃ q, isFirst (nxt L p) p = q := ⟨_, rfl⟩
        rw [hq] at hA
        have HQ := Lib.hid hq
        have HN := Lib.hid hn1
        have HA := Lib.hid hA
        have hlenh := Lib.hid hlen
        obtain ⟨P, hP⟩ : ∃ P : Int, P = (p : Nat) := ⟨_, rfl⟩
        have HP := Lib.hid hP
        rw [← hP] at hBp HA HQ HN
        clear hx hp hT hIw hAc hB hcm hq hn1 hA hP hlen
        go_wp2_with (first
          | (go_at_call 10; go_loud (with_reducible refine HA.out.mono ?_; rintro e w3 ⟨rfl, hC3, hK3, hB3⟩; have hO3 := HO.out.stay hK3 (fun b hb => hb)))
          | (go_at_call 9; with_reducible refine (hBp _).mono ?_; rintro e w2 ⟨rfl, rfl⟩))
        have HO3 := Lib.hid hO3
        have HC3 := Lib.hid hC3
        have HB3 := Lib.hid hB3
        have HI := Lib.hid (own_row hO3).2.2
        have hi1 : i + 1 ≤ n := by omega
        have hi2 : i + 1 ≤ 20 := by omega
        clear hO3 hC3 hB3 hK3 o0 hlt1 hlt2
        go_loopw [11, 12] (fun x y wr => ∃ (k : Nat) (t : Bool), k ≤ L.length ∧ x = .bool t ∧ y = .int .i64 k ∧ Hid (t = decide (P ∈ L.take k)) ∧ Below w3.heap.size w3 wr) (fun _ y _ => L.length - (intOf y).toNat)
        case atStart => exact ⟨0, false, by omega, rfl, rfl, Lib.hid (by simp), Below.refl _ _⟩
        case round =>
          obtain ⟨k, t, hk, rfl, rfl, Ht, hB4⟩ := hrel
          by_cases hlt : (k : Int) < (L.length : Nat)
          · have hkL : k < L.length := by omega
            obtain ⟨x, hx⟩ : ∃ x, L[k]? = some x := ⟨_, List.getElem?_eq_getElem hkL⟩
            obtain ⟨b2, off2, rfl, hb2, hx2⟩ := HI.out (by rintro rfl; simp at hkL)
            have o2 := (hB4.cell (p := ⟨b2, off2 + k, none⟩) hb2).trans (hx2 k x hx)
            have HX := Lib.hid (take_in P hx)
            have hw : wrap64 ((k : Int) + 1) = ((k + 1 : Nat) : Int) := by have := hlenh.out; rw [IntWalk.wrap64_in _ (by omega)]; omega
            clear hx hx2
            cases t with
            | true =>
              go_wp2_with fail
              rw [hw]
              clear hw
              go_roundw
              case rel => exact ⟨k + 1, true, by omega, rfl, rfl, Lib.hid (by rw [HX.out, ← Ht.out]; rfl), hB4⟩
              case measure => simp [intOf]; omega
            | false =>
              go_wp2_with fail
              rw [hw]
              clear hw
              go_roundw
              case rel => exact ⟨k + 1, (x == P), by omega, rfl, rfl, Lib.hid (by rw [HX.out, ← Ht.out, Bool.false_or]), hB4⟩
              case measure => simp [intOf]; omega
          · obtain rfl : L.length = k := by omega
            have Ht2 : Hid (t = decide (P ∈ L)) := Ht.out.trans (by rw [List.take_length])
            have hO4 := HO3.out.below hB4
            have hC4 := HC3.out.below hB4
            have hB5 := below_lift HB3.out hB4 HB3.out.size
            clear Ht hlt
            cases t with
            | true =>
              have hm : P ∈ L := of_decide_eq_true Ht2.out.symm
              have hnx : nxt L P = L := if_pos hm
              rw [hnx] at hC4 HQ HN
              obtain ⟨b2, off2, rfl, hb2, hx2⟩ := HI.out (by rintro rfl; cases hm)
              obtain ⟨x, hx⟩ : ∃ x, L[0]? = some x := by
                cases L with
                | nil => cases hm
                | cons x L => exact ⟨x, rfl⟩
              have o2 : wr.cell? ⟨b2, off2, none⟩ = some (.int .i64 x) := (hB4.cell (p := ⟨b2, off2, none⟩) hb2).trans (hx2 0 x hx)
              have hq : (q == (x == P)) = true := by rw [← HQ.out, first_eq P hx]; simp
              have hL0 : 0 < L.length := (List.getElem?_eq_some_iff.1 hx).1
              have HL := Lib.hid (show TrR w.heap.size w wr g k0 _ L (i + 1) from ⟨hC4, hO4, HN.out, hB5⟩)
              clear hm hnx hx hx2 hO4 hC4 hB5 Ht2
              go_wp2_with fail
              go_roundw
              case rel => exact ⟨i + 1, L, hi1, hi2, rfl, HL.out⟩
              case measure => simp [intOf]; omega
            | false =>
              have hm : P ∉ L := of_decide_eq_false Ht2.out.symm
              have hnx : nxt L P = L ++ [P] := if_neg hm
              rw [hnx] at hC4 HQ HN
              have HO4 := Lib.hid hO4
              have HC4 := Lib.hid hC4
              have hl : Hid (L.length + 1 ≤ 10000000000000) := by show L.length + 1 ≤ 10000000000000; have := hlenh.out; omega
              clear hO4 hC4 Ht2 hm hnx
              go_wp2_with (at_builtin; refine wpList_append_int rfl _ _ rfl rfl HO4.out hB5 hB5.size P rfl hl.out ?_; intro v4 w4 hO5 hg5 hf5 hB6; have HC5 := Lib.hid (row_grown HC4.out hg5 hf5 hO5); clear hg5 hf5; have HL := Lib.hid (show TrR w.heap.size w w4 g k0 v4 (L ++ [P]) (i + 1) from ⟨HC5.out, hO5, HN.out, hB6⟩); obtain ⟨g6, n6, c6, x, rfl, hn6, hn60, hnc6, hx, o6⟩ := own_head hO5 (by simp); have hq : (q == (x == P)) = true := (by rw [← HQ.out, first_eq P hx]; simp); clear hx hO5)
              go_roundw
              case rel => exact ⟨i + 1, L ++ [P], hi1, hi2, rfl, HL.out⟩
              case measure => simp [intOf]; omega
      · rcases (by omega : (n : Int) ≤ i ∨ (20 : Int) ≤ i) with hge | hge
        · go_wp2_with fail
          all_goals go_meet
          all_goals exact ⟨L, i, hT, hi20⟩
        · go_wp2_with fail
          all_goals go_meet
          all_goals exact ⟨L, i, hT, hi20⟩
  case rest =>
    clear H0
    obtain ⟨L, m, hT, hm⟩ := hcut
    obtain ⟨Aw, cw, rfl, hcw, -⟩ := hT.o.form
    have HR1 := Lib.hid hT.r
    have hlen : L.length ≤ 20 := by have := hT.r.len; omega
    have hC0 := hT.c
    have hO0 := hT.o
    have hB0 := hT.b
    clear hT HR
    go_wp2_with fail
    go_loopw [13] (fun y wr => ∃ i : Nat, i ≤ L.length ∧ y = .int .i64 i ∧ ClF w.heap.size wr g (tS k0 (L.drop i)) (fun b => (Value.slice Aw L.length cw).ownBlock = some b) ∧ OwnI wr w.heap.size (.slice Aw L.length cw) L ∧ Below w.heap.size w wr) (fun y _ => L.length - (intOf y).toNat)
    case atStart => exact ⟨0, by omega, rfl, hC0, hO0, hB0⟩
    case round =>
      clear hC0 hO0 hB0
      obtain ⟨i, hi, rfl, hC, hO, hB⟩ := hrel
      by_cases hlt : (i : Int) < (L.length : Nat)
      · have hiL : i < L.length := by omega
        have hw : wrap64 ((i : Int) + 1) = (i : Int) + 1 := IntWalk.wrap64_in _ (by omega)
        obtain ⟨x, hx⟩ : ∃ x, L[i]? = some x := ⟨_, List.getElem?_eq_getElem hiL⟩
        obtain ⟨p, rfl, hp4⟩ := HR1.out.at hx
        obtain ⟨b2, off2, rfl, hb2, hx2⟩ := (own_row hO).2.2 (by rintro rfl; simp at hiL)
        have o2 := hx2 i _ hx
        have hf := first_at hx
        have hHold := fun wz (hCz : ClF w.heap.size wz g (tS k0 (L.drop i)) (fun b => (Value.slice (some ⟨b2, off2, none⟩) L.length cw).ownBlock = some b)) (hBz : Below w.heap.size w wz) => hold_f hCz hBz (holdE_yes hp4 hk4 hf) (holdC_yes hp4 hk4 hf)
        have hGive := fun wz (hCz : ClF w.heap.size wz g (tH k0 (L.drop i)) (fun b => (Value.slice (some ⟨b2, off2, none⟩) L.length cw).ownBlock = some b)) (hBz : Below w.heap.size w wz) => give_f hCz hBz (giveE_yes hp4 hk4 hf) ((giveC_yes hp4 hk4 hf).trans (by rw [others_at HR1.out hx]))
        have HH := Lib.hid hHold
        have HG := Lib.hid hGive
        have HO := Lib.hid hO
        have HX := Lib.hid hx
        obtain ⟨P, hP⟩ : ∃ P : Int, P = (p : Nat) := ⟨_, rfl⟩
        rw [← hP] at HH HG HX o2
        clear hHold hGive hf hx hP hO
        by_cases hlt2 : (i : Int) + 1 < (L.length : Nat)
        · obtain ⟨x2, hxx⟩ : ∃ x, L[i + 1]? = some x := ⟨_, List.getElem?_eq_getElem (by omega)⟩
          obtain ⟨p2, rfl, hp24⟩ := HR1.out.at hxx
          have o3 := hx2 (i + 1) _ hxx
          have hf2 := first_next HR1.out hxx
          have hHold2 := hold_f hC hB (holdE_no hp24 hk4 hf2) (holdC_no hp24 hk4 hf2)
          have HH2 := Lib.hid hHold2
          obtain ⟨P2, hP2⟩ : ∃ P : Int, P = (p2 : Nat) := ⟨_, rfl⟩
          rw [← hP2] at HH2 o3
          clear hHold2 hf2 hxx hP2 hx2 hC hB
          go_wp2_with (first
            | (go_at_call 14; with_reducible refine (HG.out _ hC4 hB4).mono ?_; rintro e w5 ⟨rfl, hC5, hK5, hB5⟩; have hO5 := hO4.stay hK5 (fun b hb => hb))
            | (go_at_call 12; with_reducible refine (HH.out _ hC3 hB3).mono ?_; rintro e w4 ⟨rfl, hC4, hK4, hB4⟩; have hO4 := hO3.stay hK4 (fun b hb => hb); have o4 := (own_row hO4).2.2.at_ HX.out)
            | (go_at_call 12; with_reducible refine HH2.out.mono ?_; rintro e w3 ⟨rfl, hC3, hK3, hB3⟩; have hO3 := HO.out.stay hK3 (fun b hb => hb); have o3 := (own_row hO3).2.2.at_ HX.out))
          go_roundw
          case rel => exact ⟨i + 1, by omega, rfl, hC5, hO5, hB5⟩
          case measure => simp [intOf]; omega
        · have hC3 := hC
          have hB3 := hB
          have hO3 := HO.out
          clear hx2 hC hB
          go_wp2_with (first
            | (go_at_call 14; with_reducible refine (HG.out _ hC4 hB4).mono ?_; rintro e w5 ⟨rfl, hC5, hK5, hB5⟩; have hO5 := hO4.stay hK5 (fun b hb => hb))
            | (go_at_call 12; with_reducible refine (HH.out _ hC3 hB3).mono ?_; rintro e w4 ⟨rfl, hC4, hK4, hB4⟩; have hO4 := hO3.stay hK4 (fun b hb => hb); have o4 := (own_row hO4).2.2.at_ HX.out))
          go_roundw
          case rel => exact ⟨i + 1, by omega, rfl, hC5, hO5, hB5⟩
          case measure => simp [intOf]; omega
      · obtain rfl : L.length = i := by omega
        rw [List.drop_length] at hC
        have hL := line_f hC hB (lineL_tS hk4)
        clear hO
        go_wp2_with (first
          | (go_at_call 20; with_reducible refine hL.mono ?_; rintro e w2 ⟨A2, c2, rfl, _, _, _, _, hC2, hK2, hB2⟩)
          | (go_at_call 19; with_reducible refine (works_c _).mono ?_; rintro e w3 ⟨rfl, hb3⟩; have hB3 := below_lift hB2 hb3 hB2.size))
        go_ret
        exact ⟨by simp, hB3⟩
end Go.Proofs.Ytligkfaldaoocaa
