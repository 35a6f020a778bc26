/- The document's reader: Num. -/
import Derived.Test.YtekcokbpgpeepaaRdH
namespace Go.Proofs.Ytekcokbpgpeepaa
set_option linter.unusedVariables false
open Go.RowKit

/-- How Num ends. -/
def NumD (B g : Nat) (s : RS) (w w' : World) (e : Ending) : Prop := e = .returned (.int .i64 (rdN s)) ∧ RdD B w' g (rdS s).1 (rdS s).2 ∧ Keeps (fun i => i = g) w w'
theorem numD_bad {B g : Nat} {L : List UInt8} {w w' : World} {E : Int} (hE : numE L 9007199254740991 = E) (h0 : E ≠ 0) (hR : RdD B w' g [] E) (hK : Keeps (fun i => i = g) w w') : NumD B g (L, 0) w w' (.returned (.int .i64 0)) := by
  have e1 : rdN (L, 0) = 0 := (if_pos rfl : rdN (L, 0) = numV L 9007199254740991).trans (if_neg (by rw [hE]; exact h0))
  have e2 : rdS (L, 0) = ([], E) := by
    have : rdS (L, 0) = (numL L 9007199254740991, numE L 9007199254740991) := if_pos rfl
    rw [this, hE, show numL L 9007199254740991 = [] from if_neg (by rw [hE]; exact h0)]
  unfold NumD
  rw [e1, e2]
  exact ⟨rfl, hR, hK⟩
theorem numD_ok {B g : Nat} {L : List UInt8} {w w' : World} {s : Nat} {v : Int} (hE : numE L 9007199254740991 = 0) (hs : numS L = s) (hv : numN L = v) (hR : RdD B w' g (L.drop s) 0) (hK : Keeps (fun i => i = g) w w') : NumD B g (L, 0) w w' (.returned (.int .i64 v)) := by
  have e1 : rdN (L, 0) = v := (if_pos rfl : rdN (L, 0) = numV L 9007199254740991).trans ((if_pos hE).trans hv)
  have e2 : rdS (L, 0) = (L.drop s, 0) := by
    have : rdS (L, 0) = (numL L 9007199254740991, numE L 9007199254740991) := if_pos rfl
    rw [this, hE, show numL L 9007199254740991 = L.drop (numS L) from if_pos hE, hs]
  unfold NumD
  rw [e1, e2]
  exact ⟨rfl, hR, hK⟩
theorem numd_f (B g : Nat) (L : List UInt8) (f : Int) (w : World) (h : RdD B w g L f) (hf : f ≠ 0) :
    Calls Try.prog 40 #[.pointer (some ⟨g, 0, none⟩), .int .i64 9007199254740991] w fun e w' => NumD B g (L, f) w w' e := by
  obtain ⟨v, hb⟩ := h.blk
  have c1 : w.cell? ⟨g, 1, none⟩ = some (.int .i64 f) := (hb.cell 1).trans rfl
  have hne : (f != 0) = true := by simp [hf]
  have e1 : rdN (L, f) = 0 := if_neg hf
  have e2 : rdS (L, f) = (L, f) := if_neg hf
  have HQ : Hid (NumD B g (L, f) w w (.returned (.int .i64 0))) := by
    show NumD _ _ _ _ _ _
    unfold NumD
    rw [e1, e2]
    exact ⟨rfl, h, Keeps.refl _ _⟩
  clear h hb hf e1 e2
  go_enter Try.func40, Try.ntmps40
  go_wp2
  go_ret
  exact HQ.out
set_option maxHeartbeats 2000000 in
theorem numd_c (B g : Nat) (L : List UInt8) (w : World) (h : RdD B w g L 0) :
    Calls Try.prog 40 #[.pointer (some ⟨g, 0, none⟩), .int .i64 9007199254740991] w fun e w' => NumD B g (L, 0) w w' e := by
  obtain ⟨A, c, h⟩ := h
  have c0 : w.cell? ⟨g, 0, none⟩ = some (.slice A L.length c) := (h.blk.cell 0).trans rfl
  have c1 : w.cell? ⟨g, 1, none⟩ = some (.int .i64 0) := (h.blk.cell 1).trans rfl
  have f0 := h.blk.frozen 0
  have hcap := h.cap
  have hlim := h.lim
  have HF := Lib.hid (fun E => fail_c g A L.length c 0 E w h.blk)
  have HH := Lib.hid h
  rcases L with _ | ⟨x, R⟩
  · clear h
    go_enter Try.func40, Try.ntmps40
    go_wp2_with (go_at_call 54; with_reducible refine (HF.out _).mono ?_; rintro e w1 ⟨rfl, hR, hK⟩)
    go_ret
    exact numD_bad (E := 3) rfl (by omega) (hR B) hK
  · obtain ⟨b, off, rfl, hbB, hb, hbg, hx⟩ := h.src (by simp)
    have HX := Lib.hid hx
    have b0 : w.cell? ⟨b, off, none⟩ = some (.int .u8 (x.toNat : Int)) := hx 0 x rfl
    obtain ⟨z, hz⟩ : ∃ z, x.toNat = z := ⟨_, rfl⟩
    have hz255 : z ≤ 255 := by have := UInt8.toNat_lt x; omega
    rw [hz] at b0
    have HZ := Lib.hid hz
    have hlen : (x :: R).length = R.length + 1 := rfl
    rw [hlen] at c0 hcap
    have hcI : (R.length : Int) + 1 ≤ (c : Nat) := by omega
    clear hx h hz hlen
    by_cases h255 : (z : Int) = 255
    · by_cases h9 : (R.length : Int) + 1 < 9
      · go_enter Try.func40, Try.ntmps40
        go_wp2_with (go_at_call 54; with_reducible refine (HF.out _).mono ?_; rintro e w1 ⟨rfl, hR, hK⟩)
        go_ret
        exact numD_bad (E := 3) (by rw [numE_long (by have := HZ.out; omega), if_pos (by omega)]) (by omega) (hR B) hK
      · go_enter Try.func40, Try.ntmps40
        go_wp2_with fail
        go_loopw [7, 8] (fun v y wr => ∃ k : Nat, k ≤ 8 ∧ y = .int .i64 (k + 1 : Nat) ∧ v = .int .u64 (valK R k : Nat) ∧ wr = w) (fun _ y _ => 9 - (intOf y).toNat)
        case atStart => exact ⟨0, by omega, rfl, rfl, rfl⟩
        case round =>
          obtain ⟨k, hk, rfl, rfl, rfl⟩ := hrel
          by_cases hlt : k < 8
          · have hlt' : ((k + 1 : Nat) : Int) < 9 := by omega
            obtain ⟨y, hy⟩ : ∃ y, R[k]? = some y := ⟨_, List.getElem?_eq_getElem (by omega)⟩
            have b1 : wr.cell? ⟨b, off + (k + 1), none⟩ = some (.int .u8 (y.toNat : Int)) := HX.out (k + 1) y (by simpa using hy)
            have hkl : ((k + 1 : Nat) : Int) < (R.length : Int) + 1 := by omega
            have hv : Hid (valK R (k + 1) < 18446744073709551616) := by
              show valK R (k + 1) < 18446744073709551616
              have h1 := valK_lt R (k + 1)
              rcases (by omega : k = 0 ∨ k = 1 ∨ k = 2 ∨ k = 3 ∨ k = 4 ∨ k = 5 ∨ k = 6 ∨ k = 7) with rfl | rfl | rfl | rfl | rfl | rfl | rfl | rfl <;> omega
            have HY := Lib.hid hy
            clear hy
            go_wp2_with fail
            go_roundw
            case rel =>
              refine ⟨k + 1, by omega, by simp, ?_, trivial⟩
              have hv' := hv.out
              rw [valK_succ R k y HY.out] at hv' ⊢
              rw [bits_or_byte _ _ hv' (UInt8.toNat_lt y)]
            case measure => simp [intOf]; omega
          · obtain rfl : 8 = k := by omega
            have hlt' : ¬ ((8 + 1 : Nat) : Int) < 9 := by omega
            have hE := numE_long (x := x) (R := R) (most := 9007199254740991) (by have := HZ.out; omega)
            rw [if_neg (by omega)] at hE
            have hN : numN (x :: R) = 254 + (valK R 8 : Int) := by simp only [numN]; rw [if_pos (by have := HZ.out; omega)]
            have hS : numS (x :: R) = 9 := by simp only [numS]; rw [if_pos (by have := HZ.out; omega)]
            have HE := Lib.hid hE
            have HN := Lib.hid hN
            have HS := Lib.hid hS
            clear hE hN hS
            generalize valK R 8 = V at *
            by_cases h0 : (V : Int) = 0
            · go_wp2_with (go_at_call 54; with_reducible refine (HF.out _).mono ?_; rintro e w1 ⟨rfl, hR, hK⟩)
              go_ret
              exact numD_bad (E := 4) (by rw [HE.out, if_pos (by omega)]) (by omega) (hR B) hK
            · by_cases h1 : 9007199254740737 < (V : Int)
              · go_wp2_with (go_at_call 54; with_reducible refine (HF.out _).mono ?_; rintro e w1 ⟨rfl, hR, hK⟩)
                go_ret
                exact numD_bad (E := 4) (by rw [HE.out, if_pos (by omega)]) (by omega) (hR B) hK
              · have h2 : ¬ (9007199254740991 : Int) < 254 + (V : Int) := by omega
                have h9' : (9 : Int) ≤ (R.length : Int) + 1 := by omega
                go_wp2_with fail
                all_goals go_ret
                all_goals refine numD_ok (s := 9) (by rw [HE.out, if_neg (by omega), if_neg (by omega)]) HS.out HN.out ?_ (Keeps.setCell (S := fun i => i = g) (p := ⟨g, 0, none⟩) (Keeps.refl _ _) (.inl rfl) _)
                all_goals exact HH.out.cut (s := 9) (by rw [List.length_cons]; omega) (by rw [List.length_cons]; omega) (by omega) (by omega)
    · have hmo : ¬ (9007199254740991 : Int) < (z : Int) := by omega
      go_enter Try.func40, Try.ntmps40
      go_wp2_with fail
      all_goals go_ret
      all_goals refine numD_ok (s := 1) (by rw [numE_short (by have := HZ.out; omega), if_neg (by have := HZ.out; omega)]) (by simp only [numS]; rw [if_neg (by have := HZ.out; omega)]) (by simp only [numN]; rw [if_neg (by have := HZ.out; omega), HZ.out]) ?_ (Keeps.setCell (S := fun i => i = g) (p := ⟨g, 0, none⟩) (Keeps.refl _ _) (.inl rfl) _)
      all_goals exact HH.out.cut (s := 1) (by rw [List.length_cons]; omega) (by rw [List.length_cons]; omega) (by omega) (by omega)
end Go.Proofs.Ytekcokbpgpeepaa
