/- The document's stack: Drop. -/
import Derived.Test.YtmgcjdedgfiboaaDocV
namespace Go.Proofs.Ytmgcjdedgfiboaa
set_option linter.unusedVariables false
open Go.RowKit

theorem heldE_nil_rest {L : List Ent} {t : Int} (h : heldE L t = []) : restE L t = L := by
  apply restE_no
  unfold heldE at h
  rw [List.map_eq_nil_iff, List.filter_eq_nil_iff] at h
  intro x hx e
  exact h x hx (by simpa using e)
theorem STurn.size {s : Nat} {v v' : Value} {w w' : World} (h : STurn s v v' w w') : w.heap.size ≤ w'.heap.size := h.1.size
theorem lenAt_ofM {B s n tc : Nat} {w : World} {TA : Option Addr} {D : Nat → Nat → Int} {v : Value} {E : List Ent} (h : StM B w s TA n tc D v E) : lenAt w s = E.length := by
  obtain ⟨A, c, rfl, c1, -⟩ := h.ent
  unfold lenAt
  rw [c1]
theorem dheld_x {B s n tc : Nat} {w : World} {TA : Option Addr} {D : Nat → Nat → Int} {v : Value} {E : List Ent} (h : StM B w s TA n tc D v E) {t : Int} {M : List Int} {m : Nat} (hM : heldE E t = M) (hm : M.length = m) :
    Calls Try.prog 41 #[.pointer (some ⟨s, 0, none⟩), .int .i64 t] w fun e w' => ∃ A c, e = .returned (.slice A m c) ∧ IntsR w' A M ∧ Below w.heap.size w w' := by
  subst hM hm
  refine (dheld_c h t).mono fun e w' ⟨u, h1, h2, h3⟩ => ?_
  obtain ⟨A, c, rfl, k1, k2, k3, _⟩ := h2.form
  first | exact ⟨A, c, h1, k3, h3⟩ | exact ⟨A, c, h1, k2, h3⟩
set_option maxHeartbeats 1600000 in
theorem ddrop_c {B s n tc : Nat} {w : World} {TA : Option Addr} {D : Nat → Nat → Int} {v : Value} {E : List Ent} (h : StM B w s TA n tc D v E) (t : Int) (hX : askE n t ≠ 0 → heldE E t = []) :
    Calls Try.prog 37 #[.pointer (some ⟨s, 0, none⟩), .int .i64 t] w fun e w' => ∃ o, e = .returned o ∧ OwnI w' w.heap.size o (dropL n E t) ∧ DQ B s TA n tc D v (dropC n E t) w w' := by
  have hEl := h.len
  have HDL : Hid (dropL n E t = (heldE E t).reverse) := by
    show dropL n E t = (heldE E t).reverse
    unfold dropL
    split
    · rfl
    · next e => rw [hX e]; rfl
  have HDC : Hid (dropC n E t = restE E t) := by
    show dropC n E t = restE E t
    unfold dropC
    split
    · rfl
    · next e => exact (heldE_nil_rest (hX e)).symm
  have HX := Lib.hid hX
  have HH := Lib.hid h
  clear h hX
  go_enter Try.func37, Try.ntmps37
  go_wp2_with fail
  go_loopw [5] (fun o wr => ∃ (L : List Int) (E1 : List Ent) (v1 : Value), Hid (L ++ (heldE E1 t).reverse = (heldE E t).reverse) ∧ Hid (restE E1 t = restE E t) ∧ OwnI wr w.heap.size o L ∧ StM B wr s TA n tc D v1 E1 ∧ STurn s v v1 w wr ∧ Hid (L.length ≤ 100000))
    (fun _ wr => lenAt wr s)
  case atStart => exact ⟨[], E, v, Lib.hid rfl, Lib.hid rfl, OwnI.nil, HH.out, STurn.below (Below.refl _ _), Lib.hid (by simp)⟩
  case round =>
    obtain ⟨L, E1, v1, hl, hr, hO, hS, hT, hL⟩ := hrel
    have hHl : (heldE E t).length ≤ 100000 := Nat.le_trans (heldE_len E t) hEl
    have hsz : w.heap.size ≤ wr.heap.size := hT.1.size
    have HS := Lib.hid hS
    have HT := Lib.hid hT
    have HO := Lib.hid hO
    have HM : Hid (lenAt wr s = E1.length) := lenAt_ofM hS
    by_cases hh : heldE E1 t = []
    · have HE1 : Hid (heldE E1 t = []) := hh
      have HC := Lib.hid (dheld_x hS hh rfl)
      clear hh hO hS hT hHl
      go_wp2_with (go_at_call 41; with_reducible refine HC.out.mono ?_; rintro e w1 ⟨A1, c1, rfl, -, hB1⟩)
      go_ret
      refine ⟨_, rfl, ?_, ?_⟩
      · rw [HDL.out, ← hl.out, HE1.out]
        simpa using HO.out.below hB1
      · rw [HDC.out, ← hr.out, heldE_nil_rest HE1.out]
        exact ⟨v1, HS.out.below hB1, HT.out.trans (STurn.below hB1)⟩
    · have ha : askE n t = 0 := by
        apply Classical.byContradiction
        intro e
        have h1 := hl.out
        rw [HX.out e] at h1
        simp at h1
        exact hh h1.2
      obtain ⟨m, hm⟩ : ∃ m, (heldE E1 t).length = m + 1 := by
        cases e : heldE E1 t with
        | nil => exact absurd e hh
        | cons a l => exact ⟨l.length, by simp⟩
      have HA := Lib.hid ha
      have HN : Hid (¬ heldE E1 t = []) := hh
      have HC := Lib.hid (dheld_x hS rfl hm)
      have hLl : Hid (L.length + 1 ≤ 10000000000000) := by show L.length + 1 ≤ 10000000000000; have := hL.out; omega
      clear hh hO hS hT hm ha
      go_wp2_with (first
        | (go_at_call 41; with_reducible refine HC.out.mono ?_; rintro e w1 ⟨A1, c1, rfl, -, hB1⟩; have HU := Lib.hid (dunlock_q (HS.out.below hB1) t); have HB1 := Lib.hid hB1; clear hB1)
        | (go_at_call 36; with_reducible refine HU.out.mono ?_; rintro e w2 ⟨r, z, E2, rfl, hq, v2, hS2, hT2⟩; have HO2 := Lib.hid ((HO.out.below HB1.out).turnM (HS.out.below HB1.out) hT2); have HQ := Lib.hid hq; have HS2 := Lib.hid hS2; have HT2 := Lib.hid ((HT.out.trans (STurn.below HB1.out)).trans hT2); have hsz2 := Nat.le_trans hsz (Nat.le_trans HB1.out.size (STurn.size hT2)); clear hq hS2 hT2)
        | (at_builtin; refine wpList_append_int (w0 := w2) (B := w.heap.size) rfl _ _ rfl rfl HO2.out (Below.refl _ _) hsz2 r rfl hLl.out ?_; intro v4 w4 hO4 hg4 hf4 hB4; have hg5 := keeps_grown hg4; have HS4 := Lib.hid ((HS2.out.below ((Below.refl _ w2).alloc (Nat.le_refl _) (.cells #[.int .i64 r] 3))).far hg5 (fun b hb hbl => (OwnI.lt (HO2.out.below ((Below.refl _ w2).alloc (Nat.le_refl _) (.cells #[.int .i64 r] 3))) b hb).2.2)); have HT4 := Lib.hid (turn_app HT2.out HO2.out hg5); have HO5 := Lib.hid hO4; clear hg4 hg5 hf4))
      have hm5 := lenAt_ofM HS4.out
      rcases unl_step HQ.out HA.out with ⟨e0, e1, e2, e3⟩ | ⟨_, e1, _⟩
      · have hl1 : L.length + 1 ≤ 100000 := by
          have := congrArg List.length hl.out
          rw [e1] at this
          simp at this
          omega
        go_roundw
        case rel => exact ⟨L ++ [r], E2, v2, Lib.hid (by rw [← hl.out, e1, List.reverse_append, List.append_assoc]; rfl), Lib.hid (by rw [← hr.out, e2]), HO5.out, HS4.out, HT4.out, Lib.hid (by simpa using hl1)⟩
        case measure => rw [hm5, HM.out]; omega
      · exact absurd e1 HN.out
end Go.Proofs.Ytmgcjdedgfiboaa
