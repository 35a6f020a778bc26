/- The program's job: the methods that write. -/
import Derived.Test.YtomadlopljfcmaaJobA
namespace Go.Proofs.Ytomadlopljfcmaa
set_option linter.unusedVariables false
open Go.RowKit

def didX (x : JV) (L : List OpV) : JV := { x with beg := x.beg || didE L == 0 }
def enterE (x : JV) (s : Int) : Int := if s < 1 ∨ 3 < s then 2 else if x.sec = 3 ∧ s = 2 then 0 else if x.sec ≠ 0 then 130 else if s ≠ 1 ∧ x.t.lk ≤ x.tkn then 170 else 0
def enterX (x : JV) (s : Int) : JV := if s < 1 ∨ 3 < s then x else if x.sec = 3 ∧ s = 2 then { x with sec := s } else if x.sec ≠ 0 then x else if s ≠ 1 ∧ x.t.lk ≤ x.tkn then x else if s ≠ 1 then { x with tkn := x.tkn + 1, sec := s, tk := 0 } else { x with sec := s, tk := 0 }
def leaveE (x : JV) : Int := if x.sec = 0 then 132 else 0
def leaveX (x : JV) : JV := if x.sec = 0 then x else { x with sec := 0, tk := 0 }
def runE (x : JV) (L : List OpV) : Int := if x.sec = 3 then 250 else ranE L
def runL (x : JV) (L : List OpV) : List OpV := if x.sec = 3 then L else ranL L
def runX (x : JV) (L : List OpV) : JV := if x.sec = 3 then x else if ranE L ≠ 0 then x else if x.sec ≠ 0 then { x with beg := true, ran := x.ran + 1, tk := x.tk + 1 } else { x with beg := true, ran := x.ran + 1 }
section
variable {w : World} {j : Nat} {r : Value} {x : JV}
theorem jc0 (h : Blk w j 42 (jCells r x)) : w.cell? ⟨j, 0, none⟩ = some r := (h.cell 0).trans rfl
theorem jc3 (h : Blk w j 42 (jCells r x)) : w.cell? ⟨j, 3, none⟩ = some (.int .i64 x.t.b) := (h.cell 3).trans rfl
theorem jc5 (h : Blk w j 42 (jCells r x)) : w.cell? ⟨j, 5, none⟩ = some (.int .i64 x.t.l) := (h.cell 5).trans rfl
theorem jc7 (h : Blk w j 42 (jCells r x)) : w.cell? ⟨j, 7, none⟩ = some (.int .i64 x.t.lg) := (h.cell 7).trans rfl
theorem jc8 (h : Blk w j 42 (jCells r x)) : w.cell? ⟨j, 8, none⟩ = some (.int .i64 x.t.lk) := (h.cell 8).trans rfl
theorem jc9 (h : Blk w j 42 (jCells r x)) : w.cell? ⟨j, 9, none⟩ = some (.int .i64 x.ends) := (h.cell 9).trans rfl
theorem jc10 (h : Blk w j 42 (jCells r x)) : w.cell? ⟨j, 10, none⟩ = some (.int .i64 x.ran) := (h.cell 10).trans rfl
theorem jc11 (h : Blk w j 42 (jCells r x)) : w.cell? ⟨j, 11, none⟩ = some (.int .i64 x.sec) := (h.cell 11).trans rfl
theorem jc12 (h : Blk w j 42 (jCells r x)) : w.cell? ⟨j, 12, none⟩ = some (.int .i64 x.tk) := (h.cell 12).trans rfl
theorem jc13 (h : Blk w j 42 (jCells r x)) : w.cell? ⟨j, 13, none⟩ = some (.int .i64 x.tkn) := (h.cell 13).trans rfl
theorem jc14 (h : Blk w j 42 (jCells r x)) : w.cell? ⟨j, 14, none⟩ = some (.bool x.beg) := (h.cell 14).trans rfl
end
section
variable {B j g b : Nat} {x : JV} {L : List OpV} {w0 w w' : World}
theorem JobS.put (h : JobS B w j g b x L) {i : Nat} {u : Value} {y : JV} (hy : (jCells (.pointer (some ⟨g, 0, none⟩)) x).setIfInBounds i u = jCells (.pointer (some ⟨g, 0, none⟩)) y) : JobS B (w.setCell ⟨j, i, none⟩ u) j g b y L := by
  refine ⟨?_, h.row.setCell (fun e => h.d (.inl e.symm)) (fun e => h.d (.inr e.symm)) _, h.jB, h.d⟩
  have := Blk.set_ h.blk i u
  rw [hy] at this
  exact this
theorem keeps_tri (w : World) (j g b i : Nat) (u : Value) : Keeps (tri j g b) w (w.setCell ⟨j, i, none⟩ u) := Keeps.setCell (S := tri j g b) (Keeps.refl _ _) (.inl (.inl rfl)) u
end
set_option maxHeartbeats 400000 in
theorem jdid_s (B j g b : Nat) (x : JV) (L : List OpV) (w0 w : World) (h : JobS B w j g b x L) (hB : Below B w0 w) :
    Calls Try.prog 9 #[.pointer (some ⟨j, 0, none⟩)] w fun e w' => e = .returned (.int .i64 (didE L)) ∧ JobS B w' j g b (didX x L) (didL L) ∧ Below B w0 w' ∧ Keeps (tri j g b) w w' := by
  have c0 : w.cell? ⟨j, 0, none⟩ = some (.pointer (some ⟨g, 0, none⟩)) := (Blk.cell h.blk 0).trans rfl
  have HH := Lib.hid h
  have HBk : Blk w j 42 (jCells (.pointer (some ⟨g, 0, none⟩)) x) := h.blk
  obtain ⟨v, hv⟩ : ∃ v, didE L = v := ⟨_, rfl⟩
  obtain ⟨L', hL'⟩ : ∃ v, didL L = v := ⟨_, rfl⟩
  have HX : Hid (didX x L = { x with beg := x.beg || v == 0 }) := by show didX x L = _; unfold didX; rw [hv]
  have HV := Lib.hid hv
  have HL := Lib.hid hL'
  rw [hv, hL']
  clear h hv hL'
  cases hbeg : x.beg with
  | true =>
    have HBB := Lib.hid hbeg
    have hX : Hid (didX x L = x) := by show didX x L = x; rw [HX.out, hbeg]; cases x; simp_all
    go_enter Try.func9, Try.ntmps9
    go_wp2_with (first
      | (go_at_call 30; with_reducible refine (jnone_c j g x _ HH.out.blk).mono ?_; rintro e w1 ⟨rfl, rfl⟩)
      | (go_at_call 31; with_reducible refine (did_s HH.out.row hB HV.out HL.out).mono ?_; rintro e w2 ⟨rfl, hS2, hB2, hK2⟩; have hJ := hK2.blk HBk HH.out.d; have c14 := jc14 hJ; have f14 := hJ.frozen 14))
    go_ret
    have hJS : JobS B w2 j g b x L' := ⟨hJ, hS2, HH.out.jB, HH.out.d⟩
    refine ⟨rfl, hJS.put (by rw [hX.out, ← HBB.out]; rfl), hB2.setCell HH.out.jB _, ?_⟩
    exact Keeps.setCell (S := tri j g b) (hK2.mono fun i hi => .inr hi) (.inl (.inl rfl)) _
  | false =>
    have HBB := Lib.hid hbeg
    go_enter Try.func9, Try.ntmps9
    go_wp2_with (first
      | (go_at_call 30; with_reducible refine (jnone_c j g x _ HH.out.blk).mono ?_; rintro e w1 ⟨rfl, rfl⟩)
      | (go_at_call 31; with_reducible refine (did_s HH.out.row hB HV.out HL.out).mono ?_; rintro e w2 ⟨rfl, hS2, hB2, hK2⟩; have hJ := hK2.blk HBk HH.out.d; have c14 := jc14 hJ; have f14 := hJ.frozen 14))
    go_ret
    have hJS : JobS B w2 j g b x L' := ⟨hJ, hS2, HH.out.jB, HH.out.d⟩
    refine ⟨rfl, hJS.put (by rw [HX.out, HBB.out]; rfl), hB2.setCell HH.out.jB _, ?_⟩
    exact Keeps.setCell (S := tri j g b) (hK2.mono fun i hi => .inr hi) (.inl (.inl rfl)) _
set_option maxHeartbeats 400000 in
theorem jleave_s (B j g b : Nat) (x : JV) (L : List OpV) (w0 w : World) (h : JobS B w j g b x L) (hB : Below B w0 w) :
    Calls Try.prog 8 #[.pointer (some ⟨j, 0, none⟩)] w fun e w' => e = .returned (.int .i64 (leaveE x)) ∧ JobS B w' j g b (leaveX x) L ∧ Below B w0 w' ∧ Keeps (tri j g b) w w' := by
  have c11 : w.cell? ⟨j, 11, none⟩ = some (.int .i64 x.sec) := (Blk.cell h.blk 11).trans rfl
  have c12 : w.cell? ⟨j, 12, none⟩ = some (.int .i64 x.tk) := (Blk.cell h.blk 12).trans rfl
  have f11 := Blk.frozen h.blk 11
  have f12 := Blk.frozen h.blk 12
  have HH := Lib.hid h
  have HBk : Blk w j 42 (jCells (.pointer (some ⟨g, 0, none⟩)) x) := h.blk
  clear h
  by_cases h0 : x.sec = 0
  · have hb0 : (x.sec == 0) = true := by simp [h0]
    have hE : Hid (leaveE x = 132) := by show leaveE x = 132; unfold leaveE; repeat (first | rw [if_pos (by omega)] | rw [if_neg (by omega)])
    have hX : Hid (leaveX x = x) := by show leaveX x = x; unfold leaveX; repeat (first | rw [if_pos (by omega)] | rw [if_neg (by omega)])
    clear h0
    go_enter Try.func8, Try.ntmps8
    go_wp2_with (go_at_call 30; with_reducible refine (jnone_c j g x _ HH.out.blk).mono ?_; rintro e w1 ⟨rfl, rfl⟩)
    go_ret
    rw [hE.out, hX.out]
    exact ⟨rfl, HH.out, hB, Keeps.refl _ _⟩
  · have hb0 : (x.sec == 0) = false := by simp [h0]
    have hE : Hid (leaveE x = 0) := by show leaveE x = 0; unfold leaveE; repeat (first | rw [if_pos (by omega)] | rw [if_neg (by omega)])
    have hX : Hid (leaveX x = { x with sec := 0, tk := 0 }) := by show leaveX x = { x with sec := 0, tk := 0 }; unfold leaveX; repeat (first | rw [if_pos (by omega)] | rw [if_neg (by omega)])
    clear h0
    go_enter Try.func8, Try.ntmps8
    go_wp2_with (go_at_call 30; with_reducible refine (jnone_c j g x _ HH.out.blk).mono ?_; rintro e w1 ⟨rfl, rfl⟩)
    go_ret
    rw [hE.out, hX.out]
    exact ⟨rfl, (HH.out.put (y := { x with sec := 0 }) rfl).put rfl, (hB.setCell HH.out.jB _).setCell HH.out.jB _, Keeps.setCell (S := tri j g b) (keeps_tri _ _ _ _ _ _) (.inl (.inl rfl)) _⟩
set_option maxHeartbeats 400000 in
theorem jrun_s (B j g b : Nat) (x : JV) (L : List OpV) (w0 w : World) (h : JobS B w j g b x L) (hB : Below B w0 w) (hr : -4611686018427387904 ≤ x.ran ∧ x.ran ≤ 4611686018427387904) (ht : -4611686018427387904 ≤ x.tk ∧ x.tk ≤ 4611686018427387904) :
    Calls Try.prog 12 #[.pointer (some ⟨j, 0, none⟩)] w fun e w' => e = .returned (.int .i64 (runE x L)) ∧ JobS B w' j g b (runX x L) (runL x L) ∧ Below B w0 w' ∧ Keeps (tri j g b) w w' := by
  have c0 : w.cell? ⟨j, 0, none⟩ = some (.pointer (some ⟨g, 0, none⟩)) := (Blk.cell h.blk 0).trans rfl
  have c11 : w.cell? ⟨j, 11, none⟩ = some (.int .i64 x.sec) := (Blk.cell h.blk 11).trans rfl
  have HH := Lib.hid h
  have HBk : Blk w j 42 (jCells (.pointer (some ⟨g, 0, none⟩)) x) := h.blk
  clear h
  obtain ⟨hr1, hr2⟩ := hr
  obtain ⟨ht1, ht2⟩ := ht
  by_cases h3 : x.sec = 3
  · have hb3 : (x.sec == 3) = true := by simp [h3]
    have hE : Hid (runE x L = 250) := by show runE x L = 250; unfold runE; repeat (first | rw [if_pos (by omega)] | rw [if_neg (by omega)])
    have hX : Hid (runX x L = x) := by show runX x L = x; unfold runX; repeat (first | rw [if_pos (by omega)] | rw [if_neg (by omega)])
    have hL : Hid (runL x L = L) := if_pos h3
    clear h3
    go_enter Try.func12, Try.ntmps12
    go_wp2_with (go_at_call 30; with_reducible refine (jnone_c j g x _ HH.out.blk).mono ?_; rintro e w1 ⟨rfl, rfl⟩)
    go_ret
    rw [hE.out, hX.out, hL.out]
    exact ⟨rfl, HH.out, hB, Keeps.refl _ _⟩
  · have hb3 : (x.sec == 3) = false := by simp [h3]
    have hL : Hid (runL x L = ranL L) := if_neg h3
    have hR : Hid (runE x L = ranE L) := if_neg h3
    obtain ⟨v, hv⟩ : ∃ v, ranE L = v := ⟨_, rfl⟩
    have HV := Lib.hid hv
    by_cases hv0 : v = 0
    · have hvb : (v != 0) = false := by simp [hv0]
      by_cases h0 : x.sec = 0
      · have hb0 : (x.sec != 0) = false := by simp [h0]
        have hX : Hid (runX x L = { x with beg := true, ran := x.ran + 1 }) := by show runX x L = _; unfold runX; rw [if_neg h3, if_neg (by rw [hv, hv0]; simp), if_neg (by simp [h0])]
        clear h3 hv hv0 h0
        go_enter Try.func12, Try.ntmps12
        go_wp2_with (first
          | (go_at_call 30; with_reducible refine (jnone_c j g x _ HH.out.blk).mono ?_; rintro e w1 ⟨rfl, rfl⟩)
          | (go_at_call 34; with_reducible refine (ran_s HH.out.row hB HV.out rfl).mono ?_; rintro e w2 ⟨rfl, hS2, hB2, hK2⟩; have hJ := hK2.blk HBk HH.out.d; have c14 := jc14 hJ; have c10 := jc10 hJ; have d11 := jc11 hJ; have f14 := hJ.frozen 14; have f10 := hJ.frozen 10))
        go_ret
        have hJS : JobS B w2 j g b x (ranL L) := ⟨hJ, hS2, HH.out.jB, HH.out.d⟩
        rw [hL.out, hX.out, hR.out, HV.out]
        exact ⟨ret_int (by have h : v = 0 := (by simpa using hvb); omega), (hJS.put (y := { x with beg := true }) rfl).put rfl, (hB2.setCell HH.out.jB _).setCell HH.out.jB _, Keeps.setCell (S := tri j g b) (Keeps.setCell (S := tri j g b) (hK2.mono fun i hi => .inr hi) (.inl (.inl rfl)) _) (.inl (.inl rfl)) _⟩
      · have hb0 : (x.sec != 0) = true := by simp [h0]
        have hX : Hid (runX x L = { x with beg := true, ran := x.ran + 1, tk := x.tk + 1 }) := by show runX x L = _; unfold runX; rw [if_neg h3, if_neg (by rw [hv, hv0]; simp), if_pos h0]
        clear h3 hv hv0 h0
        go_enter Try.func12, Try.ntmps12
        go_wp2_with (first
          | (go_at_call 30; with_reducible refine (jnone_c j g x _ HH.out.blk).mono ?_; rintro e w1 ⟨rfl, rfl⟩)
          | (go_at_call 34; with_reducible refine (ran_s HH.out.row hB HV.out rfl).mono ?_; rintro e w2 ⟨rfl, hS2, hB2, hK2⟩; have hJ := hK2.blk HBk HH.out.d; have c14 := jc14 hJ; have c10 := jc10 hJ; have d11 := jc11 hJ; have d12 := jc12 hJ; have f14 := hJ.frozen 14; have f10 := hJ.frozen 10; have f12 := hJ.frozen 12))
        go_ret
        have hJS : JobS B w2 j g b x (ranL L) := ⟨hJ, hS2, HH.out.jB, HH.out.d⟩
        rw [hL.out, hX.out, hR.out, HV.out]
        exact ⟨ret_int (by have h : v = 0 := (by simpa using hvb); omega), ((hJS.put (y := { x with beg := true }) rfl).put (y := { x with beg := true, ran := x.ran + 1 }) rfl).put rfl, ((hB2.setCell HH.out.jB _).setCell HH.out.jB _).setCell HH.out.jB _, Keeps.setCell (S := tri j g b) (Keeps.setCell (S := tri j g b) (Keeps.setCell (S := tri j g b) (hK2.mono fun i hi => .inr hi) (.inl (.inl rfl)) _) (.inl (.inl rfl)) _) (.inl (.inl rfl)) _⟩
    · have hvb : (v != 0) = true := by simp [hv0]
      have hX : Hid (runX x L = x) := by show runX x L = _; unfold runX; rw [if_neg h3, if_pos (by rw [hv]; exact hv0)]
      clear h3 hv hv0
      go_enter Try.func12, Try.ntmps12
      go_wp2_with (first
        | (go_at_call 30; with_reducible refine (jnone_c j g x _ HH.out.blk).mono ?_; rintro e w1 ⟨rfl, rfl⟩)
        | (go_at_call 34; with_reducible refine (ran_s HH.out.row hB HV.out rfl).mono ?_; rintro e w2 ⟨rfl, hS2, hB2, hK2⟩; have hJ := hK2.blk HBk HH.out.d))
      go_ret
      rw [hL.out, hX.out, hR.out, HV.out]
      exact ⟨rfl, ⟨hJ, hS2, HH.out.jB, HH.out.d⟩, hB2, hK2.mono fun i hi => .inr hi⟩
end Go.Proofs.Ytomadlopljfcmaa
