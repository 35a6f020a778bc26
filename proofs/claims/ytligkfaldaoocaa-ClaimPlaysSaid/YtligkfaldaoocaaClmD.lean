/- The program's claims: Give, Ask. -/
import Derived.Test.YtligkfaldaoocaaClmC
namespace Go.Proofs.Ytligkfaldaoocaa
set_option linter.unusedVariables false
open Go.RowKit

theorem give_c (B g : Nat) (V : Nat → Value) (S : CS) (p r : Int) (w : World) (h : ClA B w g V S) :
    Calls Try.prog 14 #[.pointer (some ⟨g, 0, none⟩), .int .i64 p, .int .i64 r] w fun e w' => e = .returned (.int .i64 (giveE S p r)) ∧ ∃ V', ClA B w' g V' (giveC S p r) ∧ Turn g V V' w w' := by
  by_cases hok : okPR p r
  · obtain ⟨hk, A, c, hv, cw, hR, ch⟩ := h.line hok
    have HA := Lib.hid (asked_ok g p r w h.made hok)
    have HF := Lib.hid (first_c g (1 + kOf r * 2) c A (S.l (kOf r)) p w cw hR)
    have HH := Lib.hid h
    have HD := Lib.hid (drop_c B g V S p w h)
    obtain ⟨f, hf⟩ : ∃ f, isFirst (S.l (kOf r)) p = f := ⟨_, rfl⟩
    rw [hf] at HF
    have HE : Hid (giveE S p r = if (S.h (kOf r) && f) = false then 132 else 0) := by show giveE S p r = _; unfold giveE; rw [if_neg (by simpa using hok), hf]
    have HC : Hid (giveC S p r = if giveE S p r = 0 then dropC S p else S) := (show giveC S p r = _ from rfl)
    obtain ⟨o, ho⟩ : ∃ o, 1 + (r.toNat - 1) * 2 = o := ⟨_, rfl⟩
    have ho' : 1 + kOf r * 2 = o := ho
    rw [ho] at HA
    rw [ho'] at HF ch cw
    clear h hok hk hR hf ho ho' hv cw
    cases hh : S.h (kOf r) with
    | false =>
      have HHH := Lib.hid hh
      rw [hh] at ch
      clear hh
      go_enter Try.func14, Try.ntmps14
      go_wp2_with (first
        | (go_at_call 24; refine HA.out.mono ?_; rintro e w1 ⟨rfl, rfl⟩)
        | (go_at_call 25; refine HF.out.mono ?_; rintro e w1 ⟨rfl, rfl⟩))
      go_ret
      have he : giveE S p r = 132 := HE.out.trans (by rw [HHH.out]; rfl)
      refine ⟨by rw [he]; rfl, V, ?_, Turn.refl _ _ _⟩
      rw [HC.out, if_neg (by rw [he]; decide)]
      exact HH.out
    | true =>
      have HHH := Lib.hid hh
      rw [hh] at ch
      clear hh
      cases f with
      | false =>
        go_enter Try.func14, Try.ntmps14
        go_wp2_with (first
          | (go_at_call 24; refine HA.out.mono ?_; rintro e w1 ⟨rfl, rfl⟩)
          | (go_at_call 25; refine HF.out.mono ?_; rintro e w1 ⟨rfl, rfl⟩))
        go_ret
        have he : giveE S p r = 132 := HE.out.trans (by rw [HHH.out]; rfl)
        refine ⟨by rw [he]; rfl, V, ?_, Turn.refl _ _ _⟩
        rw [HC.out, if_neg (by rw [he]; decide)]
        exact HH.out
      | true =>
        go_enter Try.func14, Try.ntmps14
        go_wp2_with (first
          | (go_at_call 24; refine HA.out.mono ?_; rintro e w1 ⟨rfl, rfl⟩)
          | (go_at_call 25; refine HF.out.mono ?_; rintro e w1 ⟨rfl, rfl⟩)
          | (go_at_call 16; refine HD.out.mono ?_; rintro e w1 ⟨rfl, V', hV', hT'⟩))
        go_ret
        have he : giveE S p r = 0 := HE.out.trans (by rw [HHH.out]; rfl)
        refine ⟨by rw [he]; rfl, V', ?_, hT'⟩
        rw [HC.out, if_pos he]
        exact hV'
  · have HA := Lib.hid (asked_bad g p r w h.made hok)
    have he : giveE S p r = 9 := if_pos hok
    rw [he, show giveC S p r = S by unfold giveC; rw [if_neg (by rw [he]; decide)]]
    have HH := Lib.hid h
    clear h he hok
    go_enter Try.func14, Try.ntmps14
    go_wp2_with (go_at_call 24; refine HA.out.mono ?_; rintro e w1 ⟨rfl, rfl⟩)
    go_ret
    exact ⟨rfl, V, HH.out, Turn.refl _ _ _⟩
theorem first_mem {L : List Int} {p : Int} (h : isFirst L p = true) : p ∈ L := by
  cases L with
  | nil => simp [isFirst] at h
  | cons x L => simp [isFirst] at h; simp [h]
/-! ### Ask -/
def AskQ (B g : Nat) (V : Nat → Value) (S : CS) (p r : Int) (w : World) (e : Ending) (w' : World) : Prop :=
  e = .returned (.tuple #[.bool (askB S p r), .int .i64 (askE S p r)]) ∧ ∃ V', ClA B w' g V' (askC S p r) ∧ Turn g V V' w w'
theorem askQ_same {B g : Nat} {V : Nat → Value} {S : CS} {p r : Int} {w : World} {b : Bool} {n : Int} (h : ClA B w g V S) (he : askE S p r = n) (hc : n ≠ 0 ∨ inE S p ≠ none) (hb : b = if n = 0 then isFirst (S.l (kOf r)) p else false) :
    AskQ B g V S p r w (.returned (.tuple #[.bool b, .int .i64 n])) w := by
  have hC : askC S p r = S := by
    unfold askC
    rw [if_neg]
    rintro ⟨h1, h2⟩
    rcases hc with hc | hc
    · exact hc (he ▸ h1)
    · exact hc h2
  refine ⟨?_, V, by rw [hC]; exact h, Turn.refl _ _ _⟩
  unfold askB
  rw [hC, he, hb]
set_option maxHeartbeats 400000 in
theorem ask_c (B g : Nat) (V : Nat → Value) (S : CS) (p r : Int) (w : World) (h : ClA B w g V S) (hl : ∀ k, k < 4 → (S.l k).length < 1000000) :
    Calls Try.prog 10 #[.pointer (some ⟨g, 0, none⟩), .int .i64 p, .int .i64 r] w (AskQ B g V S p r w) := by
  by_cases hok : okPR p r
  · obtain ⟨hk, A, c, hv, cw, hR, ch⟩ := h.line hok
    have HA := Lib.hid (asked_ok g p r w h.made hok)
    have HF := Lib.hid (first_c g (1 + kOf r * 2) c A (S.l (kOf r)) p w cw hR)
    have HH := Lib.hid h
    have HI := Lib.hid (in_c B g V S p w h)
    obtain ⟨f, hf⟩ : ∃ f, isFirst (S.l (kOf r)) p = f := ⟨_, rfl⟩
    rw [hf] at HF
    have HFF := Lib.hid hf
    have HE : Hid (askE S p r = if (inE S p).isSome = true ∧ inE S p ≠ some (kOf r) then 250 else if (S.h (kOf r) && f) = true then 131 else 0) := by show askE S p r = _; unfold askE; rw [if_neg (by simpa using hok), hf]
    have HOK := Lib.hid hok
    have hr1 : r = (kOf r : Int) + 1 := by obtain ⟨_, _, h3, h4⟩ := hok; unfold kOf; omega
    obtain ⟨o, ho⟩ : ∃ o, 1 + (r.toNat - 1) * 2 = o := ⟨_, rfl⟩
    have ho' : 1 + kOf r * 2 = o := ho
    have HOO := Lib.hid ho'
    rw [ho] at HA
    rw [ho'] at HF ch cw
    have HL := Lib.hid hl
    have HK := Lib.hid hk
    cases hi : inE S p with
    | some j =>
      have HIE := Lib.hid hi
      rw [hi] at HI
      by_cases hj : j = kOf r
      · have hb : ((j : Int) + 1 != r) = false := by simp; omega
        have HJ := Lib.hid hj
        have hE : Hid (askE S p r = if (S.h (kOf r) && f) = true then 131 else 0) := by
          show askE S p r = _
          rw [HE.out, if_neg]
          rintro ⟨_, h2⟩
          exact h2 (by rw [hi, hj])
        clear h hok hk hR hf ho ho' hv hl hi hj hr1
        cases hh : S.h (kOf r) with
        | false =>
          have HHH := Lib.hid hh
          rw [hh] at ch
          clear hh
          go_enter Try.func10, Try.ntmps10
          go_wp2_with (first
            | (go_at_call 24; refine HA.out.mono ?_; rintro e w1 ⟨rfl, rfl⟩)
            | (go_at_call 23; refine HI.out.mono ?_; unfold inV; rintro e w1 ⟨rfl, rfl⟩)
            | (go_at_call 25; refine HF.out.mono ?_; rintro e w1 ⟨rfl, rfl⟩))
          go_ret2
          exact askQ_same HH.out (hE.out.trans (by rw [HHH.out]; rfl)) (.inr (by rw [HIE.out]; simp)) (by rw [if_pos rfl]; exact HFF.out.symm)
        | true =>
          have HHH := Lib.hid hh
          rw [hh] at ch
          clear hh
          cases f with
          | false =>
            go_enter Try.func10, Try.ntmps10
            go_wp2_with (first
              | (go_at_call 24; refine HA.out.mono ?_; rintro e w1 ⟨rfl, rfl⟩)
              | (go_at_call 23; refine HI.out.mono ?_; unfold inV; rintro e w1 ⟨rfl, rfl⟩)
              | (go_at_call 25; refine HF.out.mono ?_; rintro e w1 ⟨rfl, rfl⟩))
            go_ret2
            exact askQ_same HH.out (hE.out.trans (by rw [HHH.out]; rfl)) (.inr (by rw [HIE.out]; simp)) (by rw [if_pos rfl]; exact HFF.out.symm)
          | true =>
            go_enter Try.func10, Try.ntmps10
            go_wp2_with (first
              | (go_at_call 24; refine HA.out.mono ?_; rintro e w1 ⟨rfl, rfl⟩)
              | (go_at_call 23; refine HI.out.mono ?_; unfold inV; rintro e w1 ⟨rfl, rfl⟩)
              | (go_at_call 25; refine HF.out.mono ?_; rintro e w1 ⟨rfl, rfl⟩))
            go_ret2
            exact askQ_same HH.out (hE.out.trans (by rw [HHH.out]; rfl)) (.inl (by decide)) rfl
      · have hb : ((j : Int) + 1 != r) = true := by simp; omega
        have hE : Hid (askE S p r = 250) := by
          show askE S p r = _
          rw [HE.out, if_pos]
          rw [hi]
          exact ⟨rfl, fun e => hj (Option.some.inj e)⟩
        clear h hok hk hR hf ho ho' hv hl hi hj hr1
        go_enter Try.func10, Try.ntmps10
        go_wp2_with (first
          | (go_at_call 24; refine HA.out.mono ?_; rintro e w1 ⟨rfl, rfl⟩)
          | (go_at_call 23; refine HI.out.mono ?_; unfold inV; rintro e w1 ⟨rfl, rfl⟩))
        go_ret2
        exact askQ_same HH.out hE.out (.inl (by decide)) rfl
    | none =>
      have HIE := Lib.hid hi
      rw [hi] at HI
      have hn := inE_none hi _ hk
      obtain rfl : f = false := by
        cases f with
        | false => rfl
        | true => exact absurd (first_mem hf) hn
      have hE : Hid (askE S p r = 0) := by
        show askE S p r = _
        rw [HE.out, if_neg (by rw [hi]; simp), Bool.and_false, if_neg (by decide)]
      have hB0 : Below w.heap.size w (w.alloc (.cells #[.int .i64 p] 3)) := (Below.refl _ _).alloc (Nat.le_refl _) _
      have h0 := h.below hB0
      have hown0 := h0.own _ hk
      rw [hv] at hown0
      have hown1 : (w.alloc (.cells #[.int .i64 p] 3)).ownsRow B 3 1 (.slice A (S.l (kOf r)).length c) (S.l (kOf r)).length (ics (S.l (kOf r))) := hown0
      have hsrc : SrcR (w.alloc (.cells #[.int .i64 p] 3)) 1 (some ⟨w.heap.size, 0, none⟩) 1 1 (ics [p]) := (intsR_new (w := w) (t := 3) (cs := #[.int .i64 p]) (L := [p]) rfl).src (c := 1) (fun e => by cases e)
      have hll := hl _ hk
      have HP : Hid (∀ v1 w1, w1.ownsRow B 3 1 v1 ((S.l (kOf r)).length + 1) (ics (S.l (kOf r)) ++ ics [p]) → (w.alloc (.cells #[.int .i64 p] 3)).grownBy w1 (Value.ownBlock (.slice A (S.l (kOf r)).length c)) →
          (v1.ownBlock = Value.ownBlock (.slice A (S.l (kOf r)).length c) ∨ v1.ownBlock = some (w.alloc (.cells #[.int .i64 p] 3)).heap.size) →
          w1.frozen? ⟨g, o, none⟩ = false ∧ (∃ u, w1.cell? ⟨g, o, none⟩ = some u) ∧ ∃ A1 n1 c1, v1 = .slice A1 n1 c1 ∧
            Calls Try.prog 25 #[.pointer (some ⟨g, o, none⟩), .int .i64 p] (w1.setCell ⟨g, o, none⟩ (.slice A1 n1 c1)) (fun e w' => e = .returned (.bool (isFirst (S.l (kOf r) ++ [p]) p)) ∧ (w1.setCell ⟨g, o, none⟩ (.slice A1 n1 c1)) = w') ∧
            AskQ B g V S p r w (.returned (.tuple #[.bool (isFirst (S.l (kOf r) ++ [p]) p), .int .i64 0])) (w1.setCell ⟨g, o, none⟩ (.slice A1 n1 c1))) := by
        intro v1 w1 ho1 hg1 hf1
        rw [← ics_append] at ho1
        have hO := OwnI.of ho1
        obtain ⟨A1, c1, rfl, -⟩ := hO.form
        rw [← hv] at hg1 hf1
        have hK1 := keeps_grown hg1
        have hgv : (V (kOf r)).ownBlock ≠ some g := by
          intro e
          obtain ⟨_, _, cur, hc⟩ := (h0.own _ hk).lt _ e
          exact Blk.ne_ hc h0.blk (by decide) rfl
        have hb1 := hK1.blk h0.blk hgv
        obtain ⟨hZ, hT⟩ := h0.put_who hk hO hK1 (by rcases hf1 with hf1 | hf1; exact .inl hf1; exact .inr ⟨_, hf1, Nat.le_refl _⟩) (by simp; omega) (fun _ => by simp)
        obtain ⟨A2, c2, hv2, _, _, hR2, _⟩ := (hZ.own _ hk).form
        rw [upd_self] at hv2
        simp only [upd_self] at hv2 hR2
        injection hv2 with e1 e2 e3
        subst e1
        have hw2 := hZ.who hk
        rw [upd_self] at hw2
        rw [ho'] at hZ hT hw2
        rw [← ho']
        refine ⟨hb1.frozen _, ⟨_, (hb1.cell _).trans (cc_who _ _ hk)⟩, A1, _, c1, rfl, ?_, ?_⟩
        · rw [ho']
          rw [ho'] at hR2
          exact first_c g o c1 A1 _ p _ hw2 hR2
        · rw [ho']
          have hA2 : askC S p r = ⟨upd S.l (kOf r) (S.l (kOf r) ++ [p]), S.h⟩ := by unfold askC; rw [if_pos ⟨hE.out, hi⟩]
          refine ⟨?_, _, by rw [hA2]; exact hZ, (Turn.below hB0).trans hT⟩
          unfold askB
          rw [hE.out, if_pos rfl, hA2]
          simp only [upd_self]
      obtain ⟨i0, hi0, hz0, hz1, hz2⟩ := info_parts' int_info
      have HX := Lib.hid (And.intro hown1 (And.intro hsrc h0.hs))
      have HLL := Lib.hid hll
      have cw0 := h0.who hk
      rw [hv, ho'] at cw0
      have hR0 : IntsR (w.alloc (.cells #[.int .i64 p] 3)) A (S.l (kOf r)) := hR.below hB0
      clear h hok hk hR hf ho ho' hv hl hi hr1 hn hB0 h0 hown0 hown1 hsrc hll hR0
      cases hh : S.h (kOf r) with
      | false =>
        rw [hh] at ch
        clear hh
        go_enter Try.func10, Try.ntmps10
        go_wp2_with (first
          | (go_at_call 24; refine HA.out.mono ?_; rintro e w1 ⟨rfl, rfl⟩)
          | (go_at_call 23; refine HI.out.mono ?_; unfold inV; rintro e w1 ⟨rfl, rfl⟩)
          | (go_at_call 25; refine HF2.mono ?_; rintro e w3 ⟨rfl, rfl⟩)
          | (at_builtin; refine wpList_append_src rfl _ _ _ rfl B 3 i0 _ 1 8 Try.underlying39 hi0 hz0 hz1 hz2 rfl (by omega) (.slice A (S.l (kOf r)).length c) (S.l (kOf r)).length (ics (S.l (kOf r))) rfl HX.out.1 _ _ _ (ics [p]) rfl HX.out.2.1 (ics_one _) (by have := HLL.out; simp only [maxLen]; omega) (by have := HLL.out; omega) HX.out.2.2 ?_; intro v1 w2 hown hg hfr; obtain ⟨f2, ⟨u2, c2⟩, A1, n1, c1, rfl, HF2, HQ⟩ := HP.out v1 w2 hown hg hfr))
        go_ret2
        exact HQ
      | true =>
        rw [hh] at ch
        clear hh
        go_enter Try.func10, Try.ntmps10
        go_wp2_with (first
          | (go_at_call 24; refine HA.out.mono ?_; rintro e w1 ⟨rfl, rfl⟩)
          | (go_at_call 23; refine HI.out.mono ?_; unfold inV; rintro e w1 ⟨rfl, rfl⟩)
          | (go_at_call 25; refine HF.out.mono ?_; rintro e w1 ⟨rfl, rfl⟩)
          | (go_at_call 25; refine HF2.mono ?_; rintro e w3 ⟨rfl, rfl⟩)
          | (at_builtin; refine wpList_append_src rfl _ _ _ rfl B 3 i0 _ 1 8 Try.underlying39 hi0 hz0 hz1 hz2 rfl (by omega) (.slice A (S.l (kOf r)).length c) (S.l (kOf r)).length (ics (S.l (kOf r))) rfl HX.out.1 _ _ _ (ics [p]) rfl HX.out.2.1 (ics_one _) (by have := HLL.out; simp only [maxLen]; omega) (by have := HLL.out; omega) HX.out.2.2 ?_; intro v1 w2 hown hg hfr; obtain ⟨f2, ⟨u2, c2⟩, A1, n1, c1, rfl, HF2, HQ⟩ := HP.out v1 w2 hown hg hfr))
        go_ret2
        exact HQ
  · have HA := Lib.hid (asked_bad g p r w h.made hok)
    have he : Hid (askE S p r = 9) := (show askE S p r = 9 from if_pos hok)
    have HH := Lib.hid h
    clear h hok hl
    go_enter Try.func10, Try.ntmps10
    go_wp2_with (go_at_call 24; refine HA.out.mono ?_; rintro e w1 ⟨rfl, rfl⟩)
    go_ret2
    exact askQ_same HH.out he.out (.inl (by decide)) rfl
end Go.Proofs.Ytligkfaldaoocaa
