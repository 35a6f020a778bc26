/- The document's claims: Hold, Drop, Give, Ask. -/
import Derived.Test.YtligkfaldaoocaaDocA
import Derived.Test.YtligkfaldaoocaaTurnsW
import Derived.Deep.CutBlock
import Derived.Deep.DeepCutAuto
namespace Go.Proofs.Ytligkfaldaoocaa
set_option linter.unusedVariables false
open Go.RowKit

def DQ (B g : Nat) (V : Nat → Value) (S' : CS) (w w' : World) : Prop := ∃ V', ClM B w' g V' S' ∧ Turn g V V' w w'
theorem DQ.same {B g : Nat} {V : Nat → Value} {S S' : CS} {w : World} (h : ClM B w g V S) (hS : S' = S) : DQ B g V S' w w := ⟨V, hS ▸ h, Turn.refl _ _ _⟩
theorem first_cons (x : Int) (L : List Int) (p : Int) : isFirst (x :: L) p = (x == p) := by simp [isFirst]
theorem dhold_c (B g : Nat) (V : Nat → Value) (S : CS) (p r : Int) (w : World) (h : ClM B w g V S) :
    Calls Try.prog 13 #[.pointer (some ⟨g, 0, none⟩), .int .i64 p, .int .i64 r] w fun e w' => e = .returned (.int .i64 (holdE S p r)) ∧ DQ B g V (holdC S p r) w w' := by
  by_cases hok : okPR p r
  · obtain ⟨K, rfl⟩ : ∃ K : Nat, r = K := ⟨r.toNat, by have := hok.2.2.1; omega⟩
    have h1 : 1 ≤ K := by have := hok.2.2.1; omega
    have h4 : K ≤ 4 := by have := hok.2.2.2; omega
    have hKO : kOf (K : Int) = K - 1 := by unfold kOf; rw [Int.toNat_natCast]
    have hT := there_v (p := p) (r := (K : Int)) (decide_eq_true hok)
    have hL := holds_c h h1 h4 p
    have HL := Lib.hid hL
    have HOK := Lib.hid hok
    have HKO := Lib.hid hKO
    have HH := Lib.hid h
    obtain ⟨A, c, hv, cw, hR, -⟩ := h.line h1 h4
    have HE : Hid (holdE S p (K : Int) = if isFirst (S.l (K - 1)) p = false then 250 else if S.h (K - 1) = true then 131 else 0) := by show holdE S p (K : Int) = _; unfold holdE; rw [if_neg (by simpa using hok), hKO]
    have HC : Hid (holdE S p (K : Int) ≠ 0 → holdC S p (K : Int) = S) := fun e => if_neg e
    clear h hok hKO hL
    cases hl : S.l (K - 1) with
    | nil =>
      rw [hl] at cw HE HL
      have hf : Hid (isFirst [] p = false) := rfl
      clear hR hl
      obtain ⟨hh, hhh⟩ : ∃ x, (S.h (K - 1) && isFirst [] p) = x := ⟨_, rfl⟩
      have hh0 : hh = false := by rw [← hhh, hf.out, Bool.and_false]
      rw [hhh, hh0] at HL
      have he : Hid (holdE S p (K : Int) = 250) := HE.out.trans (if_pos hf.out)
      clear hhh hh0
      go_enter Try.func13, Try.ntmps13
      go_wp2_with (first | (go_at_call 26; with_reducible refine (hT _).mono ?_; rintro e w1 ⟨rfl, rfl⟩) | (go_at_call 28; with_reducible refine HL.out.mono ?_; rintro e w1 ⟨rfl, rfl⟩))
      go_ret
      exact ⟨by rw [he.out]; rfl, DQ.same HH.out (HC.out (by rw [he.out]; decide))⟩
    | cons x L =>
      rw [hl] at cw HE HL hR
      rw [first_cons] at HE HL
      obtain ⟨b, off, rfl, hb, hx⟩ := hR (by simp)
      have o0 : w.cell? ⟨b, off, none⟩ = some (.int .i64 x) := hx 0 x rfl
      have hpos : 0 < (x :: L).length := by simp
      obtain ⟨n0, hn0⟩ : ∃ n0, (x :: L).length = n0 := ⟨_, rfl⟩
      rw [hn0] at cw hpos
      have hz : ((n0 : Int) == 0) = false := beq_false_of_ne (by omega)
      have HLL := Lib.hid hl
      clear hx hR hn0 hl hv
      cases hxp : (x == p) with
      | false =>
        rw [hxp] at HE HL
        rw [Bool.and_false] at HL
        have he : Hid (holdE S p (K : Int) = 250) := HE.out.trans (if_pos rfl)
        go_enter Try.func13, Try.ntmps13
        go_wp2_with (first | (go_at_call 26; with_reducible refine (hT _).mono ?_; rintro e w1 ⟨rfl, rfl⟩) | (go_at_call 28; with_reducible refine HL.out.mono ?_; rintro e w1 ⟨rfl, rfl⟩))
        go_ret
        exact ⟨by rw [he.out]; rfl, DQ.same HH.out (HC.out (by rw [he.out]; decide))⟩
      | true =>
        rw [hxp] at HE HL
        rw [Bool.and_true] at HL
        cases hh : S.h (K - 1) with
        | true =>
          rw [hh] at HE HL
          have he : Hid (holdE S p (K : Int) = 131) := HE.out.trans (by simp)
          clear hh
          go_enter Try.func13, Try.ntmps13
          go_wp2_with (first | (go_at_call 26; with_reducible refine (hT _).mono ?_; rintro e w1 ⟨rfl, rfl⟩) | (go_at_call 28; with_reducible refine HL.out.mono ?_; rintro e w1 ⟨rfl, rfl⟩))
          go_ret
          exact ⟨by rw [he.out]; rfl, DQ.same HH.out (HC.out (by rw [he.out]; decide))⟩
        | false =>
          rw [hh] at HE HL
          have he : Hid (holdE S p (K : Int) = 0) := HE.out.trans (by simp)
          have fr := HH.out.blk.frozen (5 + K)
          have ch := HH.out.hld h1 h4
          clear hh
          go_enter Try.func13, Try.ntmps13
          go_wp2_with (first | (go_at_call 26; with_reducible refine (hT _).mono ?_; rintro e w1 ⟨rfl, rfl⟩) | (go_at_call 28; with_reducible refine HL.out.mono ?_; rintro e w1 ⟨rfl, rfl⟩))
          go_ret
          refine ⟨by rw [he.out]; rfl, V, ?_⟩
          have hP := HH.out.put_held (k := K - 1) (by omega) true (fun _ => by rw [HLL.out]; simp)
          rw [show 6 + (K - 1) = 5 + K by omega] at hP
          have hC2 : holdC S p (K : Int) = ⟨S.l, upd S.h (K - 1) true⟩ := by unfold holdC; rw [if_pos he.out, HKO.out]
          rw [hC2]
          exact hP
  · have hT := there_v (p := p) (r := r) (decide_eq_false hok)
    have he : Hid (holdE S p r = 9) := (show holdE S p r = 9 from if_pos hok)
    have HC : Hid (holdC S p r = S) := (show holdC S p r = S from if_neg (by rw [he.out]; decide))
    have HH := Lib.hid h
    clear h hok
    go_enter Try.func13, Try.ntmps13
    go_wp2_with (go_at_call 26; with_reducible refine (hT _).mono ?_; rintro e w1 ⟨rfl, rfl⟩)
    go_ret
    exact ⟨by rw [he.out]; rfl, DQ.same HH.out HC.out⟩
set_option maxRecDepth 10000 in
set_option maxHeartbeats 800000 in
theorem ddrop_c (B g : Nat) (V : Nat → Value) (S : CS) (p : Int) (w : World) (h : ClM B w g V S) :
    Calls Try.prog 17 #[.pointer (some ⟨g, 0, none⟩), .int .i64 p] w fun e w' => e = .returned (inV (inE S p)) ∧ DQ B g V (dropC S p) w w' := by
  have hI := din_c B g V S p w h
  cases hi : inE S p with
  | none =>
    rw [hi] at hI
    unfold inV at hI
    have HI := Lib.hid hI
    have HC : Hid (dropC S p = S) := by show dropC S p = S; unfold dropC; rw [hi]
    have HH := Lib.hid h
    clear h hI hi
    go_enter Try.func17, Try.ntmps17
    go_wp2_with (go_at_call 27; with_reducible refine HI.out.mono ?_; rintro e w1 ⟨rfl, rfl⟩)
    go_ret2
    exact ⟨rfl, DQ.same HH.out HC.out⟩
  | some k =>
    rw [hi] at hI
    obtain ⟨hk, hm⟩ := inE_some hi
    obtain ⟨K, hK⟩ : ∃ K : Nat, k + 1 = K := ⟨_, rfl⟩
    have h1 : 1 ≤ K := by omega
    have h4 : K ≤ 4 := by omega
    have hkK : k = K - 1 := by omega
    have HI : Hid (Calls Try.prog 27 #[.pointer (some ⟨g, 0, none⟩), .int .i64 p] w fun e w' => e = .returned (.tuple #[.int .i64 (K : Nat), .bool true]) ∧ w = w') := hI.mono fun e w' ⟨k1, k2⟩ => ⟨k1.trans (ret_two (by omega) rfl), k2⟩
    have HC : Hid (dropC S p = ⟨upd S.l (K - 1) (others (S.l (K - 1)) p), upd S.h (K - 1) (S.h (K - 1) && !isFirst (S.l (K - 1)) p)⟩) := by show dropC S p = _; unfold dropC; rw [hi]; subst hkK; rfl
    have HV : Hid (inV (some k) = .tuple #[.int .i64 (K : Nat), .bool true]) := by show Value.tuple #[.int .i64 ((k : Int) + 1), .bool true] = _; rw [show (k : Int) + 1 = (K : Int) by omega]
    rw [hkK] at hm
    obtain ⟨A, c, hv, cw, hR, -, -, hlen⟩ := h.line h1 h4
    obtain ⟨L, hL⟩ : ∃ L, S.l (K - 1) = L := ⟨_, rfl⟩
    rw [hL] at hm cw hR hlen hv
    have HLL := Lib.hid hL
    obtain ⟨x0, L0, rfl⟩ : ∃ x L0, L = x :: L0 := by
      cases L with
      | nil => cases hm
      | cons x L => exact ⟨x, L, rfl⟩
    obtain ⟨b, off, rfl, hb, hx⟩ := hR (by simp)
    have o0 : w.cell? ⟨b, off, none⟩ = some (.int .i64 x0) := hx 0 x0 rfl
    have hpos : 0 < (x0 :: L0).length := by simp
    have HF : Hid (isFirst (S.l (K - 1)) p = (x0 == p)) := by show isFirst (S.l (K - 1)) p = _; rw [hL]; simp [isFirst]
    have HR := Lib.hid hR
    have HH := Lib.hid h
    obtain ⟨n0, hn0⟩ : ∃ n0, (x0 :: L0).length = n0 := ⟨_, rfl⟩
    rw [hn0] at cw hpos
    have HN0 := Lib.hid hn0
    obtain ⟨ML, hML⟩ : ∃ M, x0 :: L0 = M := ⟨_, rfl⟩
    rw [hML] at HN0 HLL HR hlen hm hv
    have hn0b : n0 ≤ 1000000 := by rw [← HN0.out]; exact hlen
    clear h hI hi hkK hK hR hx hL hn0 hML
    go_enter Try.func17, Try.ntmps17
    go_upto_if 27 with (go_at_call 27; with_reducible refine HI.out.mono ?_; rintro e w1 ⟨rfl, rfl⟩)
    obtain ⟨wo, rfl⟩ : ∃ x : World, x = w := ⟨_, rfl⟩
    go_cut [] (fun wx => ClM B wx g V ⟨S.l, upd S.h (K - 1) (S.h (K - 1) && !isFirst (S.l (K - 1)) p)⟩ ∧ Turn g V V wo wx ∧ IntsR wx (some ⟨b, off, none⟩) ML)
    case first =>
      have hgb : Hid (b ≠ g) := by
        rintro rfl
        obtain ⟨b9, off9, e9, hb9, hx9⟩ := HR.out (by rintro rfl; cases hm)
        have hw := (HH.out.own (K - 1) (by omega)).form
        obtain ⟨A9, c9, hv9, -, -, -, -, h9⟩ := hw
        rw [hv] at hv9
        injection hv9 with e1 e2 e3
        obtain ⟨g9, cur, e4, _, hk9, _⟩ := h9 _ e1.symm
        injection e4 with e4 e5
        subst e4
        exact Blk.ne_ hk9 HH.out.blk (by decide) rfl
      cases hxp : (x0 == p) with
      | true =>
        have HX := Lib.hid hxp
        have fr := HH.out.blk.frozen (5 + K)
        have ch := HH.out.hld h1 h4
        go_wp2_with fail
        go_meet
        have hP := HH.out.put_held (k := K - 1) (by omega) false (fun e => by cases e)
        rw [show 6 + (K - 1) = 5 + K by omega] at hP
        rw [HF.out, HX.out, Bool.not_true, Bool.and_false]
        refine ⟨hP.1, hP.2, fun hne => ?_⟩
        obtain ⟨b9, off9, e9, hb9, hx9⟩ := HR.out hne
        injection e9 with e9
        injection e9 with e1 e2
        subst e1 e2
        refine ⟨b, off, rfl, by simpa [World.setCell] using hb9, fun i x hi => ?_⟩
        exact (Keeps.cell (S := fun b => b = g) (Keeps.setCell (S := fun b => b = g) (Keeps.refl _ wo) (p := ⟨g, 5 + K, none⟩) (.inl rfl) (.bool false)) (p := ⟨b, off + i, none⟩) hb9 hgb.out).trans (hx9 i x hi)
      | false =>
        have HX := Lib.hid hxp
        go_wp2_with fail
        go_meet
        rw [HF.out, HX.out, Bool.not_false, Bool.and_true, upd_same]
        exact ⟨HH.out, Turn.refl _ _ _, HR.out⟩
    case rest =>
      obtain ⟨hM, hT, hR2⟩ := hcut
      have HM := Lib.hid hM
      have HT := Lib.hid hT
      have HR2 := Lib.hid hR2
      have cw2 : wc.cell? ⟨g, K, none⟩ = some (.slice (some ⟨b, off, none⟩) n0 c) := by
        have := hM.who h1 h4
        rw [hv, HN0.out] at this
        exact this
      have HCW := Lib.hid cw2
      have hgl : g < wc.heap.size := hM.blk.lt
      clear HH HR hM hT hR2 cw o0 cw2 hb hm
      obtain ⟨wo, rfl⟩ : ∃ x : World, x = wc := ⟨_, rfl⟩
      go_wp2_with fail
      go_loopw [8, 9] (fun v y wr => ∃ i : Nat, i ≤ n0 ∧ y = .int .i64 i ∧ OwnI wr wo.heap.size v (others (ML.take i) p) ∧ Below wo.heap.size wo wr) (fun _ y _ => n0 - (intOf y).toNat)
      case atStart => exact ⟨0, by omega, rfl, OwnI.nil, Below.refl _ _⟩
      case round =>
        obtain ⟨i, hi, rfl, hO, hB⟩ := hrel
        have cw3 := (hB.cell (p := ⟨g, K, none⟩) hgl).trans HCW.out
        by_cases hlt : (i : Int) < (n0 : Nat)
        · have hlt2 : i < n0 := by omega
          obtain ⟨x, hx⟩ : ∃ x, ML[i]? = some x := ⟨_, List.getElem?_eq_getElem (by rw [HN0.out]; omega)⟩
          have o1 := (HR2.out.below hB).at_ hx
          have HOS := Lib.hid (others_succ (p := p) hx)
          have HO := Lib.hid hO
          have hlo : Hid ((others (ML.take i) p).length + 1 ≤ 10000000000000) := by have := others_len ML p i; show (others (ML.take i) p).length + 1 ≤ _; omega
          clear hx hO
          by_cases he : x = p
          · have he2 : (x != p) = false := by simp [he]
            have HEE := Lib.hid he
            clear he
            go_wp2_with fail
            go_roundw
            case rel => exact ⟨i + 1, by omega, rfl, by rw [HOS.out, if_pos HEE.out, List.append_nil]; exact HO.out, hB⟩
            case measure => simp [intOf]; omega
          · have he2 : (x != p) = true := by simp [he]
            have HEE := Lib.hid he
            clear he
            go_wp2_with (at_builtin; refine wpList_append_int rfl _ _ rfl rfl HO.out hB hB.size x rfl hlo.out ?_; intro v4 w4 hO4 _ _ hB4)
            go_roundw
            case rel => exact ⟨i + 1, by omega, rfl, by rw [HOS.out, if_neg HEE.out]; exact hO4, hB4⟩
            case measure => simp [intOf]; omega
        · obtain rfl : n0 = i := by omega
          rw [List.take_of_length_le (by rw [HN0.out]; exact Nat.le_refl _)] at hO
          have hO2 := hO
          obtain ⟨Av, cv, rfl, -⟩ := hO2.form
          have hM2 := HM.out.below hB
          have fr := hM2.blk.frozen K
          have hB2 : B ≤ wo.heap.size := HM.out.hs
          have hP : ClM B (wr.setCell ⟨g, 1 + (K - 1), none⟩ (.slice Av (others ML p).length cv)) g (upd V (K - 1) (.slice Av (others ML p).length cv)) ⟨upd S.l (K - 1) (others ML p), upd S.h (K - 1) (S.h (K - 1) && !isFirst (S.l (K - 1)) p)⟩ ∧ Turn g V (upd V (K - 1) (.slice Av (others ML p).length cv)) wo (wr.setCell ⟨g, 1 + (K - 1), none⟩ (.slice Av (others ML p).length cv)) := by
            refine HM.out.put_who (k := K - 1) (by omega) (hO2.mono hB2) (Keeps.of_below hB) (fun b9 hb9 => .inr (hO2.lt b9 hb9).1) ?_ ?_
            · have := List.length_filter_le (· != p) ML
              exact Nat.le_trans this hlen
            · show upd S.h (K - 1) (S.h (K - 1) && !isFirst (S.l (K - 1)) p) (K - 1) = true → _
              rw [upd_self, HLL.out]
              intro e
              simp only [Bool.and_eq_true, Bool.not_eq_true'] at e
              exact others_head (by rintro rfl; have := HN0.out; simp at this; omega) e.2
          rw [show 1 + (K - 1) = K by omega] at hP
          obtain ⟨nv, hnv⟩ : ∃ nv, (others ML p).length = nv := ⟨_, rfl⟩
          rw [hnv] at hP
          have HP := Lib.hid hP
          simp only [hnv]
          clear hP hM2 hO2 hO hnv
          go_wp2_with fail
          go_ret2
          refine ⟨HV.out ▸ rfl, upd V (K - 1) (.slice Av nv cv), ?_, HT.out.trans HP.out.2⟩
          rw [HC.out, HLL.out]
          have := HP.out.1
          rw [HLL.out] at this
          exact this
end Go.Proofs.Ytligkfaldaoocaa
