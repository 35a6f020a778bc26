/- The document's claims: Give, Ask. -/
import Derived.Test.YtligkfaldaoocaaDocB
namespace Go.Proofs.Ytligkfaldaoocaa
set_option linter.unusedVariables false
open Go.RowKit

theorem dgive_c (B g : Nat) (V : Nat → Value) (S : CS) (p r : Int) (w : World) (h : ClM B w g V S) :
    Calls Try.prog 15 #[.pointer (some ⟨g, 0, none⟩), .int .i64 p, .int .i64 r] w fun e w' => e = .returned (.int .i64 (giveE S p r)) ∧ DQ B g V (giveC S p r) w w' := by
  by_cases hok : okPR p r
  · obtain ⟨K, rfl⟩ : ∃ K : Nat, r = K := ⟨r.toNat, by have := hok.2.2.1; omega⟩
    have h1 : 1 ≤ K := by have := hok.2.2.1; omega
    have h4 : K ≤ 4 := by have := hok.2.2.2; omega
    have hKO : kOf (K : Int) = K - 1 := by unfold kOf; rw [Int.toNat_natCast]
    have hT := there_v (p := p) (r := (K : Int)) (decide_eq_true hok)
    have hL := holds_c h h1 h4 p
    have HL := Lib.hid hL
    have HOK := Lib.hid hok
    have HKO := Lib.hid hKO
    have HH := Lib.hid h
    obtain ⟨A, c, hv, cw, hR, -⟩ := h.line h1 h4
    have HE : Hid (giveE S p (K : Int) = if (S.h (K - 1) && isFirst (S.l (K - 1)) p) = false then 132 else 0) := by show giveE S p (K : Int) = _; unfold giveE; rw [if_neg (by simpa using hok), hKO]
    have HD := Lib.hid (ddrop_c B g V S p w h)
    obtain ⟨vd, hvd⟩ : ∃ v, inV (inE S p) = v := ⟨_, rfl⟩
    rw [hvd] at HD
    obtain ⟨x, hx⟩ : ∃ x, (S.h (K - 1) && isFirst (S.l (K - 1)) p) = x := ⟨_, rfl⟩
    rw [hx] at HE HL
    clear h hok hKO hL hR hv cw hvd hx
    cases x with
    | false =>
      have he : Hid (giveE S p (K : Int) = 132) := HE.out.trans (if_pos rfl)
      go_enter Try.func15, Try.ntmps15
      go_wp2_with (first | (go_at_call 26; with_reducible refine (hT _).mono ?_; rintro e w1 ⟨rfl, rfl⟩) | (go_at_call 28; with_reducible refine HL.out.mono ?_; rintro e w1 ⟨rfl, rfl⟩))
      go_ret
      exact ⟨by rw [he.out]; rfl, DQ.same HH.out (if_neg (by rw [he.out]; decide))⟩
    | true =>
      have he : Hid (giveE S p (K : Int) = 0) := HE.out.trans (by simp)
      have HG : Hid (giveC S p (K : Int) = dropC S p) := if_pos he.out
      go_enter Try.func15, Try.ntmps15
      go_wp2_with (first | (go_at_call 26; with_reducible refine (hT _).mono ?_; rintro e w1 ⟨rfl, rfl⟩) | (go_at_call 28; with_reducible refine HL.out.mono ?_; rintro e w1 ⟨rfl, rfl⟩) | (go_at_call 17; with_reducible refine HD.out.mono ?_; rintro e w2 ⟨rfl, hQ⟩))
      go_ret
      exact ⟨by rw [he.out]; rfl, HG.out ▸ hQ⟩
  · have hT := there_v (p := p) (r := r) (decide_eq_false hok)
    have he : Hid (giveE S p r = 9) := (show giveE S p r = 9 from if_pos hok)
    have HC : Hid (giveC S p r = S) := (show giveC S p r = S from if_neg (by rw [he.out]; decide))
    have HH := Lib.hid h
    clear h hok
    go_enter Try.func15, Try.ntmps15
    go_wp2_with (go_at_call 26; with_reducible refine (hT _).mono ?_; rintro e w1 ⟨rfl, rfl⟩)
    go_ret
    exact ⟨by rw [he.out]; rfl, DQ.same HH.out HC.out⟩
theorem ret_two' {n m : Int} {b c : Bool} (k : b = c) (h : n = m) : Ending.returned (.tuple #[.bool b, .int .i64 n]) = .returned (.tuple #[.bool c, .int .i64 m]) := by rw [h, k]
set_option maxRecDepth 10000 in
set_option maxHeartbeats 800000 in
theorem dask_c (B g : Nat) (V : Nat → Value) (S : CS) (p r : Int) (w : World) (h : ClM B w g V S) (hl : ∀ k, k < 4 → (S.l k).length < 1000000) :
    Calls Try.prog 11 #[.pointer (some ⟨g, 0, none⟩), .int .i64 p, .int .i64 r] w fun e w' => e = .returned (.tuple #[.bool (askB S p r), .int .i64 (askE S p r)]) ∧ DQ B g V (askC S p r) w w' := by
  by_cases hok : okPR p r
  · obtain ⟨K, rfl⟩ : ∃ K : Nat, r = K := ⟨r.toNat, by have := hok.2.2.1; omega⟩
    have h1 : 1 ≤ K := by have := hok.2.2.1; omega
    have h4 : K ≤ 4 := by have := hok.2.2.2; omega
    have hKO : kOf (K : Int) = K - 1 := by unfold kOf; rw [Int.toNat_natCast]
    have hT := there_v (p := p) (r := (K : Int)) (decide_eq_true hok)
    have hL := holds_c h h1 h4 p
    have HL := Lib.hid hL
    have HOK := Lib.hid hok
    have HKO := Lib.hid hKO
    have HH := Lib.hid h
    obtain ⟨A, c, hv, cw, hR, -⟩ := h.line h1 h4
    have HE : Hid (askE S p (K : Int) = if (inE S p).isSome = true ∧ inE S p ≠ some (K - 1) then 250 else if (S.h (K - 1) && isFirst (S.l (K - 1)) p) = true then 131 else 0) := by show askE S p (K : Int) = _; unfold askE; rw [if_neg (by simpa using hok), hKO]
    have HI := Lib.hid (din_c B g V S p w h)
    have hlen := hl (K - 1) (by omega)
    have HBE : Hid (askE S p (K : Int) ≠ 0 → askB S p (K : Int) = false) := fun e => if_neg e
    have HCE : Hid (askE S p (K : Int) ≠ 0 → askC S p (K : Int) = S) := fun e => if_neg fun e2 => e e2.1
    cases hi : inE S p with
    | some j =>
      rw [hi] at HI HE
      unfold inV at HI
      by_cases hj : j = K - 1
      · subst hj
        have hm := (inE_some hi).2
        obtain ⟨x, L, hxl⟩ : ∃ x L, S.l (K - 1) = x :: L := by
          cases hl2 : S.l (K - 1) with
          | nil => rw [hl2] at hm; cases hm
          | cons x L => exact ⟨x, L, rfl⟩
        have HCS : Hid (askC S p (K : Int) = S) := if_neg fun e => by rw [hi] at e; cases e.2
        have HF : Hid (isFirst (S.l (K - 1)) p = (x == p)) := by show isFirst (S.l (K - 1)) p = _; rw [hxl]; simp [isFirst]
        rw [hxl] at cw hR
        obtain ⟨b, off, rfl, hb, hx⟩ := hR (by simp)
        have o0 : w.cell? ⟨b, off, none⟩ = some (.int .i64 x) := hx 0 x rfl
        have hpos : 0 < (x :: L).length := by simp
        obtain ⟨n0, hn0⟩ : ∃ n0, (x :: L).length = n0 := ⟨_, rfl⟩
        rw [hn0] at cw hpos
        have hj1 : ((K - 1 : Nat) : Int) + 1 = (K : Int) := by omega
        replace HI : Hid (Calls Try.prog 27 #[.pointer (some ⟨g, 0, none⟩), .int .i64 p] w fun e w' => e = .returned (.tuple #[.int .i64 (K : Nat), .bool true]) ∧ w = w') := HI.out.mono fun e w' ⟨k1, k2⟩ => ⟨k1.trans (ret_two hj1 rfl), k2⟩
        obtain ⟨q, hq⟩ : ∃ x, (S.h (K - 1) && isFirst (S.l (K - 1)) p) = x := ⟨_, rfl⟩
        rw [hq] at HE HL
        clear h hok hKO hL hR hv hi hj1 hq hx hn0 hxl hm hlen hl
        cases q with
        | true =>
          have he : Hid (askE S p (K : Int) = 131) := HE.out.trans (by simp)
          go_enter Try.func11, Try.ntmps11
          go_wp2_with (first | (go_at_call 26; with_reducible refine (hT _).mono ?_; rintro e w1 ⟨rfl, rfl⟩) | (go_at_call 28; with_reducible refine HL.out.mono ?_; rintro e w1 ⟨rfl, rfl⟩) | (go_at_call 27; with_reducible refine HI.out.mono ?_; rintro e w1 ⟨rfl, rfl⟩))
          go_ret2
          exact ⟨ret_two' (HBE.out (by rw [he.out]; decide)).symm he.out.symm, DQ.same HH.out HCS.out⟩
        | false =>
          have he : Hid (askE S p (K : Int) = 0) := HE.out.trans (by simp)
          have HB : Hid (askB S p (K : Int) = (x == p)) := by show askB S p (K : Int) = _; unfold askB; rw [if_pos he.out, HCS.out, HKO.out, HF.out]
          go_enter Try.func11, Try.ntmps11
          go_wp2_with (first | (go_at_call 26; with_reducible refine (hT _).mono ?_; rintro e w1 ⟨rfl, rfl⟩) | (go_at_call 28; with_reducible refine HL.out.mono ?_; rintro e w1 ⟨rfl, rfl⟩) | (go_at_call 27; with_reducible refine HI.out.mono ?_; rintro e w1 ⟨rfl, rfl⟩))
          go_ret2
          exact ⟨ret_two' HB.out.symm he.out.symm, DQ.same HH.out HCS.out⟩
      · have hne : (((j : Int) + 1) != (K : Int)) = true := by simp; omega
        have he : Hid (askE S p (K : Int) = 250) := HE.out.trans (by simp; omega)
        clear h hok hKO hL hR hv cw hi hlen hl
        go_enter Try.func11, Try.ntmps11
        go_wp2_with (first | (go_at_call 26; with_reducible refine (hT _).mono ?_; rintro e w1 ⟨rfl, rfl⟩) | (go_at_call 28; with_reducible refine HL.out.mono ?_; rintro e w1 ⟨rfl, rfl⟩) | (go_at_call 27; with_reducible refine HI.out.mono ?_; rintro e w1 ⟨rfl, rfl⟩))
        go_ret2
        exact ⟨ret_two' (HBE.out (by rw [he.out]; decide)).symm he.out.symm, DQ.same HH.out (HCE.out (by rw [he.out]; decide))⟩
    | none =>
      rw [hi] at HI HE
      unfold inV at HI
      have hn := inE_none hi (K - 1) (by omega)
      have hf : isFirst (S.l (K - 1)) p = false := by
        cases hff : isFirst (S.l (K - 1)) p with
        | false => rfl
        | true => exact absurd (first_mem hff) hn
      rw [hf] at HE HL
      rw [Bool.and_false] at HE HL
      have he : Hid (askE S p (K : Int) = 0) := HE.out.trans (by simp)
      have HCS : Hid (askC S p (K : Int) = ⟨upd S.l (K - 1) (S.l (K - 1) ++ [p]), S.h⟩) := by show askC S p (K : Int) = _; unfold askC; rw [if_pos ⟨he.out, hi⟩, HKO.out]
      have HBS : Hid (askB S p (K : Int) = isFirst (S.l (K - 1) ++ [p]) p) := by show askB S p (K : Int) = _; unfold askB; rw [if_pos he.out, HCS.out, HKO.out]; show isFirst (upd S.l (K - 1) (S.l (K - 1) ++ [p]) (K - 1)) p = _; rw [upd_self]
      obtain ⟨L, hLL⟩ : ∃ L, S.l (K - 1) = L := ⟨_, rfl⟩
      rw [hLL] at cw hR hlen HCS HBS hv
      have hB0 : Below w.heap.size w ((w.alloc (.cells #[.int .i64 p] 3)).drew) := ((Below.refl _ _).alloc (Nat.le_refl _) _).drew
      have h0 := h.below hB0
      have hown0 := h0.own (K - 1) (by omega)
      rw [hv] at hown0
      have hown1 : OwnI ((w.alloc (.cells #[.int .i64 p] 3)).drew) B (.slice A L.length c) L := by
        have := hown0
        rwa [hLL] at this
      have hsrc : SrcR ((w.alloc (.cells #[.int .i64 p] 3)).drew) 1 (some ⟨w.heap.size, 0, none⟩) 1 1 (ics [p]) := ((intsR_new (w := w) (t := 3) (cs := #[.int .i64 p]) (L := [p]) rfl).below (Below.refl _ _).drew).src (c := 1) (fun e => by cases e)
      have HP : Hid (∀ v1 w1, w1.ownsRow B 3 1 v1 (L.length + 1) (ics L ++ ics [p]) → ((w.alloc (.cells #[.int .i64 p] 3)).drew).grownBy w1 (Value.ownBlock (.slice A L.length c)) →
          (v1.ownBlock = Value.ownBlock (.slice A L.length c) ∨ v1.ownBlock = some ((w.alloc (.cells #[.int .i64 p] 3)).drew).heap.size) →
          w1.frozen? ⟨g, K, none⟩ = false ∧ (∃ u, w1.cell? ⟨g, K, none⟩ = some u) ∧ ∃ (g1 n1 c1 : Nat) (x : Int), v1 = .slice (some ⟨g1, 0, none⟩) n1 c1 ∧ 0 < n1 ∧
            (w1.setCell ⟨g, K, none⟩ v1).cell? ⟨g, K, none⟩ = some v1 ∧
            (w1.setCell ⟨g, K, none⟩ v1).cell? ⟨g1, 0, none⟩ = some (.int .i64 x) ∧ Hid ((x == p) = isFirst (L ++ [p]) p) ∧
            Hid (DQ B g V (askC S p (K : Int)) w (w1.setCell ⟨g, K, none⟩ v1))) := by
        intro v1 w1 ho1 hg1 hf1
        rw [← ics_append] at ho1
        have hO := OwnI.of ho1
        rw [← hv] at hg1 hf1
        have hK1 := keeps_grown hg1
        have hgv : (V (K - 1)).ownBlock ≠ some g := by
          intro e
          obtain ⟨_, _, cur, hc⟩ := (h0.own (K - 1) (by omega)).lt _ e
          exact Blk.ne_ hc h0.blk (by decide) rfl
        have hb1 := hK1.blk h0.blk hgv
        obtain ⟨hZ, hT2⟩ := h0.put_who (k := K - 1) (by omega) hO hK1 (fun b hb => by
          rcases hf1 with hf1 | hf1
          · exact .inl (hf1 ▸ hb)
          · rw [hf1] at hb
            injection hb with hb
            exact .inr (by omega)) (by simp; omega) (fun _ => by simp)
        rw [show 1 + (K - 1) = K by omega] at hZ hT2
        have hc2 := hZ.who h1 h4
        rw [upd_self] at hc2
        have hO2 := hZ.own (K - 1) (by omega)
        rw [upd_self] at hO2
        simp only [upd_self] at hO2
        obtain ⟨g1, n1, c1, x, rfl, -, hn1, -, hx, hx1⟩ := own_head hO2 (by simp)
        have hu := (hb1.cell (1 + (K - 1))).trans (mc_who V S.h (by omega))
        rw [show 1 + (K - 1) = K by omega] at hu
        refine ⟨hb1.frozen _, ⟨_, hu⟩, g1, n1, c1, x, rfl, hn1, hc2, hx1, (first_eq p hx).symm, _, ?_, (Turn.below hB0).trans hT2⟩
        rw [HCS.out]
        exact hZ
      obtain ⟨i0, hi0, hz0, hz1, hz2⟩ := info_parts' int_info
      have HX := Lib.hid (And.intro hown1 (And.intro hsrc h0.hs))
      have hK5 : (K : Int) < 5 := by omega
      have cwd : w.drew.cell? ⟨g, K, none⟩ = some (.slice A L.length c) := cw
      have cwa : (w.alloc (.cells #[.int .i64 p] 3)).cell? ⟨g, K, none⟩ = some (.slice A L.length c) := by
        have := h0.who h1 h4
        rwa [hv] at this
      have HLN := Lib.hid hlen
      clear h0 hown0 hown1 hsrc hB0 hv hR hlen h hl
      go_enter Try.func11, Try.ntmps11
      go_wp2_with (first | (go_at_call 26; with_reducible refine (hT _).mono ?_; rintro e w1 ⟨rfl, rfl⟩) | (go_at_call 28; with_reducible refine HL.out.mono ?_; rintro e w1 ⟨rfl, rfl⟩) | (go_at_call 27; with_reducible refine HI.out.mono ?_; rintro e w1 ⟨rfl, rfl⟩))
      go_region_law ((refine step_append_src rfl _ _ _ (by rfl) B 3 i0 _ 1 8 Try.underlying39 hi0 hz0 hz1 hz2 rfl (by omega) (.slice A L.length c) L.length (ics L) (by rfl) HX.out.1 _ _ _ (ics [p]) (by rfl) HX.out.2.1 (ics_one _) (by have := HLN.out; simp only [maxLen]; omega) (by have := HLN.out; omega) HX.out.2.2 ?_; intro v1 w2 hown hg hfr; obtain ⟨f2, ⟨u2, c2⟩, g1, n1, c1, x, rfl, hn1, c3, c4, HXP, HQ⟩ := HP.out v1 w2 hown hg hfr; clear hown hg hfr))
      all_goals go_wp2
      all_goals go_ret2
      all_goals exact ⟨ret_two' (HXP.out.trans HBS.out.symm) he.out.symm, HQ.out⟩
  · have hT := there_v (p := p) (r := r) (decide_eq_false hok)
    have he : Hid (askE S p r = 9) := (show askE S p r = 9 from if_pos hok)
    have HC : Hid (askC S p r = S) := (show askC S p r = S from if_neg (by rw [he.out]; simp))
    have HB : Hid (askB S p r = false) := (show askB S p r = false from if_neg (by rw [he.out]; decide))
    have HH := Lib.hid h
    clear h hok hl
    go_enter Try.func11, Try.ntmps11
    go_wp2_with (go_at_call 26; with_reducible refine (hT _).mono ?_; rintro e w1 ⟨rfl, rfl⟩)
    go_ret2
    exact ⟨ret_two' HB.out.symm he.out.symm, DQ.same HH.out HC.out⟩
end Go.Proofs.Ytligkfaldaoocaa
