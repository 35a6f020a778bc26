/- The document's job in memory: Next, Did, Run, Enter, Leave. -/
import Derived.Test.YtomadlopljfcmaaJobG
import Derived.Test.YtomadlopljfcmaaRefD
namespace Go.Proofs.Ytomadlopljfcmaa
set_option linter.unusedVariables false
open Go.RowKit

def mCells (r : Value) (x : JV) : Array Value := #[.int .i64 x.t.p, .int .i64 x.t.d, .int .i64 x.t.b, .int .i64 x.t.ls, .int .i64 x.t.l, .int .i64 x.t.g, .int .i64 x.t.lg, .int .i64 x.t.lk, r, .int .i64 x.ends, .int .i64 x.ran, .int .i64 x.sec, .int .i64 x.tk, .int .i64 x.tkn, .bool x.beg]
def MB (w : World) (j g : Nat) (x : JV) : Prop := Blk w j 58 (mCells (.pointer (some ⟨g, 0, none⟩)) x)
/-- The document's job in memory, from block B on. -/
structure JobM (B : Nat) (w : World) (j g b : Nat) (x : JV) (L : List OpV) : Prop where
  blk : MB w j g x
  row : StdR B w g b L
  jB : B ≤ j
  d : ¬ two g b j
section
variable {w : World} {j : Nat} {r : Value} {x : JV}
theorem mc8 (h : Blk w j 58 (mCells r x)) : w.cell? ⟨j, 8, none⟩ = some r := (h.cell 8).trans rfl
theorem mc2 (h : Blk w j 58 (mCells r x)) : w.cell? ⟨j, 2, none⟩ = some (.int .i64 x.t.b) := (h.cell 2).trans rfl
theorem mc4 (h : Blk w j 58 (mCells r x)) : w.cell? ⟨j, 4, none⟩ = some (.int .i64 x.t.l) := (h.cell 4).trans rfl
theorem mc6 (h : Blk w j 58 (mCells r x)) : w.cell? ⟨j, 6, none⟩ = some (.int .i64 x.t.lg) := (h.cell 6).trans rfl
theorem mc7 (h : Blk w j 58 (mCells r x)) : w.cell? ⟨j, 7, none⟩ = some (.int .i64 x.t.lk) := (h.cell 7).trans rfl
theorem mc9 (h : Blk w j 58 (mCells r x)) : w.cell? ⟨j, 9, none⟩ = some (.int .i64 x.ends) := (h.cell 9).trans rfl
theorem mc10 (h : Blk w j 58 (mCells r x)) : w.cell? ⟨j, 10, none⟩ = some (.int .i64 x.ran) := (h.cell 10).trans rfl
theorem mc11 (h : Blk w j 58 (mCells r x)) : w.cell? ⟨j, 11, none⟩ = some (.int .i64 x.sec) := (h.cell 11).trans rfl
theorem mc12 (h : Blk w j 58 (mCells r x)) : w.cell? ⟨j, 12, none⟩ = some (.int .i64 x.tk) := (h.cell 12).trans rfl
theorem mc13 (h : Blk w j 58 (mCells r x)) : w.cell? ⟨j, 13, none⟩ = some (.int .i64 x.tkn) := (h.cell 13).trans rfl
theorem mc14 (h : Blk w j 58 (mCells r x)) : w.cell? ⟨j, 14, none⟩ = some (.bool x.beg) := (h.cell 14).trans rfl
end
section
variable {B j g b : Nat} {x : JV} {L : List OpV} {w0 w w' : World}
theorem JobM.below (h : JobM B w j g b x L) (k : Below w.heap.size w w') : JobM B w' j g b x L := ⟨Blk.below h.blk k (Blk.lt h.blk), h.row.below k, h.jB, h.d⟩
theorem JobM.alloc (h : JobM B w j g b x L) (o : Obj) : JobM B (w.alloc o) j g b x L := h.below ((Below.refl _ _).alloc (Nat.le_refl _) _)
theorem JobM.hs (h : JobM B w j g b x L) : B ≤ w.heap.size := h.row.hs
theorem JobM.keeps {S : Nat → Prop} (h : JobM B w j g b x L) (k : Keeps S w w') (hj : ¬ S j) (hg : ¬ S g) (hb : ¬ S b) : JobM B w' j g b x L := ⟨Keeps.blk k h.blk hj, h.row.keeps k hg hb, h.jB, h.d⟩
theorem JobS.keeps {S : Nat → Prop} (h : JobS B w j g b x L) (k : Keeps S w w') (hj : ¬ S j) (hg : ¬ S g) (hb : ¬ S b) : JobS B w' j g b x L := ⟨Keeps.blk k h.blk hj, h.row.keeps k hg hb, h.jB, h.d⟩
theorem JobM.put (h : JobM B w j g b x L) {i : Nat} {u : Value} {y : JV} (hy : (mCells (.pointer (some ⟨g, 0, none⟩)) x).setIfInBounds i u = mCells (.pointer (some ⟨g, 0, none⟩)) y) : JobM B (w.setCell ⟨j, i, none⟩ u) j g b y L := by
  refine ⟨?_, h.row.setCell (fun e => h.d (.inl e.symm)) (fun e => h.d (.inr e.symm)) _, h.jB, h.d⟩
  have := Blk.set_ h.blk i u
  rw [hy] at this
  exact this
end
theorem mnext_c (B j g b : Nat) (x : JV) (L : List OpV) (w : World) (h : JobM B w j g b x L) {y : OpV} {is : Bool} (hy : headOf L = y) (hi : (!L.isEmpty) = is) :
    Calls Try.prog 39 #[.pointer (some ⟨j, 0, none⟩)] w fun e w' => e = .returned (.tuple #[.agg #[.int .i64 y.k, .int .i64 y.n, .string y.s], .bool is]) ∧ Below w.heap.size w w' := by
  have hW := h.alloc (.cells #[.int .i64 0, .int .i64 0, .string { data := #[] }] 29)
  have HBk : Blk (w.alloc (.cells #[.int .i64 0, .int .i64 0, .string { data := #[] }] 29)) j 58 (mCells (.pointer (some ⟨g, 0, none⟩)) x) := hW.blk
  have c8 := mc8 HBk
  have HQ : Hid (Calls Try.prog 55 #[.pointer (some ⟨g, 0, none⟩)] (w.alloc (.cells #[.int .i64 0, .int .i64 0, .string { data := #[] }] 29)) fun e w' => e = .returned (.tuple #[.agg #[.int .i64 y.k, .int .i64 y.n, .string y.s], .bool is]) ∧ Below (w.alloc (.cells #[.int .i64 0, .int .i64 0, .string { data := #[] }] 29)).heap.size (w.alloc (.cells #[.int .i64 0, .int .i64 0, .string { data := #[] }] 29)) w') := (next_r g b L _ hW.row.row).mono fun e w' ⟨he, hb⟩ => ⟨by rw [he, hy, hi]; rfl, hb⟩
  have hlt : w.heap.size < (w.alloc (.cells #[.int .i64 0, .int .i64 0, .string { data := #[] }] 29)).heap.size := by simp
  have hA := Blk.new w 29 #[.int .i64 0, .int .i64 0, .string { data := #[] }]
  clear h hW hy hi HBk
  go_enter Try.func39, Try.ntmps39
  go_wp2_with (go_at_call 55; with_reducible refine HQ.out.mono ?_; rintro e w1 ⟨rfl, hb⟩; have hA1 := hA.below hb hlt; have a0 : w1.cell? ⟨w.heap.size, 0, none⟩ = some (.int .i64 0) := (hA1.cell 0).trans rfl; have a1 : w1.cell? ⟨w.heap.size, 1, none⟩ = some (.int .i64 0) := (hA1.cell 1).trans rfl; have a2 : w1.cell? ⟨w.heap.size, 2, none⟩ = some (.string { data := #[] }) := (hA1.cell 2).trans rfl; have f0 := hA1.frozen 0; have f1 := hA1.frozen 1; have f2 := hA1.frozen 2)
  have hA2 := ((hA1.set_ 0 (.int .i64 y.k)).set_ 1 (.int .i64 y.n)).set_ 2 (.string y.s)
  have d0 := hA2.cell 0
  have d1 := hA2.cell 1
  have d2 := hA2.cell 2
  refine bodyPost_ret (v := .tuple #[.agg #[.int .i64 y.k, .int .i64 y.n, .string y.s], .bool is]) (by simp [results, Try.results39, go_sem, d0, d1, d2] <;> rfl) rfl ⟨rfl, ?_⟩
  exact (((below_lift ((Below.refl _ _).alloc (Nat.le_refl _) _) hb (Nat.le_of_lt hlt)).setCell (Nat.le_refl _) _).setCell (Nat.le_refl _) _).setCell (Nat.le_refl _) _
set_option maxHeartbeats 400000 in
theorem mdid_s (B j g b : Nat) (x : JV) (L : List OpV) (w0 w : World) (h : JobM B w j g b x L) (hB : Below B w0 w) :
    Calls Try.prog 24 #[.pointer (some ⟨j, 0, none⟩)] w fun e w' => e = .returned (.int .i64 (didE L)) ∧ JobM B w' j g b (didX x L) (didL L) ∧ Below B w0 w' ∧ Keeps (tri j g b) w w' := by
  have HH := Lib.hid h
  have HBk : Blk w j 58 (mCells (.pointer (some ⟨g, 0, none⟩)) x) := h.blk
  have c8 := mc8 HBk
  obtain ⟨v, hv⟩ : ∃ v, didE L = v := ⟨_, rfl⟩
  obtain ⟨L', hL'⟩ : ∃ v, didL L = v := ⟨_, rfl⟩
  have HX : Hid (didX x L = { x with beg := x.beg || v == 0 }) := by show didX x L = _; unfold didX; rw [hv]
  have HV := Lib.hid hv
  have HL := Lib.hid hL'
  rw [hv, hL']
  clear h hv hL'
  by_cases h0 : v = 0
  · have hb0 : (v == 0) = true := by simp [h0]
    have hX : Hid (didX x L = { x with beg := true }) := by show didX x L = _; rw [HX.out, hb0]; simp
    clear h0
    go_enter Try.func24, Try.ntmps24
    go_wp2_with (go_at_call 41; with_reducible refine (didr_s HH.out.row hB HV.out HL.out).mono ?_; rintro e w2 ⟨rfl, hS2, hB2, hK2⟩; have hJ := hK2.blk HBk HH.out.d; have c14 := mc14 hJ; have f14 := hJ.frozen 14)
    go_ret
    have hJS : JobM B w2 j g b x L' := ⟨hJ, hS2, HH.out.jB, HH.out.d⟩
    exact ⟨rfl, hJS.put (by rw [hX.out]; rfl), (hB2.setCell HH.out.jB _), Keeps.setCell (S := tri j g b) (hK2.mono fun i hi => .inr hi) (.inl (.inl rfl)) _⟩
  · have hb0 : (v == 0) = false := by simp [h0]
    have hX : Hid (didX x L = x) := by show didX x L = _; rw [HX.out, hb0]; cases x; simp
    clear h0
    go_enter Try.func24, Try.ntmps24
    go_wp2_with (go_at_call 41; with_reducible refine (didr_s HH.out.row hB HV.out HL.out).mono ?_; rintro e w2 ⟨rfl, hS2, hB2, hK2⟩; have hJ := hK2.blk HBk HH.out.d)
    go_ret
    rw [hX.out]
    exact ⟨rfl, ⟨hJ, hS2, HH.out.jB, HH.out.d⟩, hB2, hK2.mono fun i hi => .inr hi⟩
set_option maxHeartbeats 400000 in
theorem mleave_s (B j g b : Nat) (x : JV) (L : List OpV) (w0 w : World) (h : JobM B w j g b x L) (hB : Below B w0 w) :
    Calls Try.prog 27 #[.pointer (some ⟨j, 0, none⟩)] w fun e w' => e = .returned (.int .i64 (leaveE x)) ∧ JobM B w' j g b (leaveX x) L ∧ Below B w0 w' ∧ Keeps (tri j g b) w w' := by
  have HH := Lib.hid h
  have HBk : Blk w j 58 (mCells (.pointer (some ⟨g, 0, none⟩)) x) := h.blk
  have c11 := mc11 HBk
  have c12 := mc12 HBk
  have f11 := HBk.frozen 11
  have f12 := HBk.frozen 12
  clear h
  by_cases h0 : x.sec = 0
  · have hb0 : (x.sec == 0) = true := by simp [h0]
    have hE : Hid (leaveE x = 132) := if_pos h0
    have hX : Hid (leaveX x = x) := if_pos h0
    clear h0
    go_enter Try.func27, Try.ntmps27
    go_wp2
    go_ret
    rw [hE.out, hX.out]
    exact ⟨rfl, HH.out, hB, Keeps.refl _ _⟩
  · have hb0 : (x.sec == 0) = false := by simp [h0]
    have hE : Hid (leaveE x = 0) := if_neg h0
    have hX : Hid (leaveX x = { x with sec := 0, tk := 0 }) := if_neg h0
    clear h0
    go_enter Try.func27, Try.ntmps27
    go_wp2
    go_ret
    rw [hE.out, hX.out]
    exact ⟨rfl, (HH.out.put (y := { x with sec := 0 }) rfl).put rfl, ((hB.setCell HH.out.jB _).setCell HH.out.jB _), Keeps.setCell (S := tri j g b) (keeps_tri _ _ _ _ _ _) (.inl (.inl rfl)) _⟩
set_option maxHeartbeats 400000 in
theorem mrun_s (B j g b : Nat) (x : JV) (L : List OpV) (w0 w : World) (h : JobM B w j g b x L) (hB : Below B w0 w) (hr : sm x.ran) (ht : sm x.tk) :
    Calls Try.prog 25 #[.pointer (some ⟨j, 0, none⟩)] w fun e w' => e = .returned (.int .i64 (runE x L)) ∧ JobM B w' j g b (runX x L) (runL x L) ∧ Below B w0 w' ∧ Keeps (tri j g b) w w' := by
  have HH := Lib.hid h
  have HBk : Blk w j 58 (mCells (.pointer (some ⟨g, 0, none⟩)) x) := h.blk
  have c8 := mc8 HBk
  have c11 := mc11 HBk
  clear h
  obtain ⟨hr1, hr2⟩ := hr
  obtain ⟨ht1, ht2⟩ := ht
  by_cases h3 : x.sec = 3
  · have hb3 : (x.sec == 3) = true := by simp [h3]
    have hE : Hid (runE x L = 250) := if_pos h3
    have hX : Hid (runX x L = x) := if_pos h3
    have hL : Hid (runL x L = L) := if_pos h3
    clear h3
    go_enter Try.func25, Try.ntmps25
    go_wp2
    go_ret
    rw [hE.out, hX.out, hL.out]
    exact ⟨rfl, HH.out, hB, Keeps.refl _ _⟩
  · have hb3 : (x.sec == 3) = false := by simp [h3]
    have hL : Hid (runL x L = ranL L) := if_neg h3
    have hR : Hid (runE x L = ranE L) := if_neg h3
    obtain ⟨v, hv⟩ : ∃ v, ranE L = v := ⟨_, rfl⟩
    have HV := Lib.hid hv
    by_cases hv0 : v = 0
    · have hvb : (v != 0) = false := by simp [hv0]
      by_cases h0 : x.sec = 0
      · have hb0 : (x.sec != 0) = false := by simp [h0]
        have hX : Hid (runX x L = { x with beg := true, ran := x.ran + 1 }) := by show runX x L = _; unfold runX; rw [if_neg h3, if_neg (by rw [hv, hv0]; simp), if_neg (by simp [h0])]
        clear h3 hv hv0 h0
        go_enter Try.func25, Try.ntmps25
        go_wp2_with (go_at_call 42; with_reducible refine (ranr_s HH.out.row hB HV.out rfl).mono ?_; rintro e w2 ⟨rfl, hS2, hB2, hK2⟩; have hJ := hK2.blk HBk HH.out.d; have c14 := mc14 hJ; have c10 := mc10 hJ; have d11 := mc11 hJ; have f14 := hJ.frozen 14; have f10 := hJ.frozen 10)
        go_ret
        have hJS : JobM B w2 j g b x (ranL L) := ⟨hJ, hS2, HH.out.jB, HH.out.d⟩
        rw [hL.out, hX.out, hR.out, HV.out]
        exact ⟨ret_int (by have h : v = 0 := (by simpa using hvb); omega), (hJS.put (y := { x with beg := true }) rfl).put rfl, ((hB2.setCell HH.out.jB _).setCell HH.out.jB _), Keeps.setCell (S := tri j g b) (Keeps.setCell (S := tri j g b) (hK2.mono fun i hi => .inr hi) (.inl (.inl rfl)) _) (.inl (.inl rfl)) _⟩
      · have hb0 : (x.sec != 0) = true := by simp [h0]
        have hX : Hid (runX x L = { x with beg := true, ran := x.ran + 1, tk := x.tk + 1 }) := by show runX x L = _; unfold runX; rw [if_neg h3, if_neg (by rw [hv, hv0]; simp), if_pos h0]
        clear h3 hv hv0 h0
        go_enter Try.func25, Try.ntmps25
        go_wp2_with (go_at_call 42; with_reducible refine (ranr_s HH.out.row hB HV.out rfl).mono ?_; rintro e w2 ⟨rfl, hS2, hB2, hK2⟩; have hJ := hK2.blk HBk HH.out.d; have c14 := mc14 hJ; have c10 := mc10 hJ; have d11 := mc11 hJ; have d12 := mc12 hJ; have f14 := hJ.frozen 14; have f10 := hJ.frozen 10; have f12 := hJ.frozen 12)
        go_ret
        have hJS : JobM B w2 j g b x (ranL L) := ⟨hJ, hS2, HH.out.jB, HH.out.d⟩
        rw [hL.out, hX.out, hR.out, HV.out]
        exact ⟨ret_int (by have h : v = 0 := (by simpa using hvb); omega), ((hJS.put (y := { x with beg := true }) rfl).put (y := { x with beg := true, ran := x.ran + 1 }) rfl).put rfl, (((hB2.setCell HH.out.jB _).setCell HH.out.jB _).setCell HH.out.jB _), Keeps.setCell (S := tri j g b) (Keeps.setCell (S := tri j g b) (Keeps.setCell (S := tri j g b) (hK2.mono fun i hi => .inr hi) (.inl (.inl rfl)) _) (.inl (.inl rfl)) _) (.inl (.inl rfl)) _⟩
    · have hvb : (v != 0) = true := by simp [hv0]
      have hX : Hid (runX x L = x) := by show runX x L = _; unfold runX; rw [if_neg h3, if_pos (by rw [hv]; exact hv0)]
      clear h3 hv hv0
      go_enter Try.func25, Try.ntmps25
      go_wp2_with (go_at_call 42; with_reducible refine (ranr_s HH.out.row hB HV.out rfl).mono ?_; rintro e w2 ⟨rfl, hS2, hB2, hK2⟩; have hJ := hK2.blk HBk HH.out.d)
      go_ret
      rw [hL.out, hX.out, hR.out, HV.out]
      exact ⟨rfl, ⟨hJ, hS2, HH.out.jB, HH.out.d⟩, hB2, hK2.mono fun i hi => .inr hi⟩
set_option maxHeartbeats 800000 in
theorem menter_s (B j g b : Nat) (x : JV) (L : List OpV) (s : Int) (w0 w : World) (h : JobM B w j g b x L) (hB : Below B w0 w) (hk : sm x.tkn) :
    Calls Try.prog 26 #[.pointer (some ⟨j, 0, none⟩), .int .i64 s] w fun e w' => e = .returned (.int .i64 (enterE x s)) ∧ JobM B w' j g b (enterX x s) L ∧ Below B w0 w' ∧ Keeps (tri j g b) w w' := by
  have HH := Lib.hid h
  have HBk : Blk w j 58 (mCells (.pointer (some ⟨g, 0, none⟩)) x) := h.blk
  have c7 := mc7 HBk
  have c11 := mc11 HBk
  have c12 := mc12 HBk
  have c13 := mc13 HBk
  have f11 := HBk.frozen 11
  have f12 := HBk.frozen 12
  have f13 := HBk.frozen 13
  clear h
  obtain ⟨hk1, hk2⟩ := hk
  by_cases hlo : s < 1
  · skip
    have hE : Hid (enterE x s = 2) := by show enterE x _ = 2; unfold enterE; repeat (first | rw [if_pos (by omega)] | rw [if_neg (by omega)])
    have hX : Hid (enterX x s = x) := by show enterX x _ = x; unfold enterX; repeat (first | rw [if_pos (by omega)] | rw [if_neg (by omega)])
    clear hk1
    go_enter Try.func26, Try.ntmps26
    go_wp2
    go_ret
    rw [hE.out, hX.out]
    exact ⟨rfl, HH.out, hB, Keeps.refl _ _⟩
  by_cases hhi : 3 < s
  · skip
    have hE : Hid (enterE x s = 2) := by show enterE x _ = 2; unfold enterE; repeat (first | rw [if_pos (by omega)] | rw [if_neg (by omega)])
    have hX : Hid (enterX x s = x) := by show enterX x _ = x; unfold enterX; repeat (first | rw [if_pos (by omega)] | rw [if_neg (by omega)])
    clear hk1
    go_enter Try.func26, Try.ntmps26
    go_wp2
    go_ret
    rw [hE.out, hX.out]
    exact ⟨rfl, HH.out, hB, Keeps.refl _ _⟩
  rcases (by omega : s = 1 ∨ s = 2 ∨ s = 3) with rfl | rfl | rfl
  · by_cases h0 : x.sec = 0
    · have hb0 : (x.sec != 0) = false := by simp [h0]
      have hb3 : (x.sec == 3) = false := by simp [h0]
      have hE : Hid (enterE x 1 = 0) := by show enterE x _ = 0; unfold enterE; repeat (first | rw [if_pos (by omega)] | rw [if_neg (by omega)])
      have hX : Hid (enterX x 1 = { x with sec := 1, tk := 0 }) := by show enterX x _ = { x with sec := 1, tk := 0 }; unfold enterX; repeat (first | rw [if_pos (by omega)] | rw [if_neg (by omega)])
      clear h0 hlo hhi
      go_enter Try.func26, Try.ntmps26
      go_wp2
      go_ret
      rw [hE.out, hX.out]
      exact ⟨rfl, (HH.out.put (y := { x with sec := 1 }) rfl).put rfl, ((hB.setCell HH.out.jB _).setCell HH.out.jB _), Keeps.setCell (S := tri j g b) (keeps_tri _ _ _ _ _ _) (.inl (.inl rfl)) _⟩
    · have hb0 : (x.sec != 0) = true := by simp [h0]
      by_cases h3 : x.sec = 3
      · have hb3 : (x.sec == 3) = true := by simp [h3]
        have hE : Hid (enterE x 1 = 130) := by show enterE x _ = 130; unfold enterE; repeat (first | rw [if_pos (by omega)] | rw [if_neg (by omega)])
        have hX : Hid (enterX x 1 = x) := by show enterX x _ = x; unfold enterX; repeat (first | rw [if_pos (by omega)] | rw [if_neg (by omega)])
        clear h0 h3 hlo hhi
        go_enter Try.func26, Try.ntmps26
        go_wp2
        go_ret
        rw [hE.out, hX.out]
        exact ⟨rfl, HH.out, hB, Keeps.refl _ _⟩
      · have hb3 : (x.sec == 3) = false := by simp [h3]
        have hE : Hid (enterE x 1 = 130) := by show enterE x _ = 130; unfold enterE; repeat (first | rw [if_pos (by omega)] | rw [if_neg (by omega)])
        have hX : Hid (enterX x 1 = x) := by show enterX x _ = x; unfold enterX; repeat (first | rw [if_pos (by omega)] | rw [if_neg (by omega)])
        clear h0 h3 hlo hhi
        go_enter Try.func26, Try.ntmps26
        go_wp2
        go_ret
        rw [hE.out, hX.out]
        exact ⟨rfl, HH.out, hB, Keeps.refl _ _⟩
  · by_cases h0 : x.sec = 0
    · have hb0 : (x.sec != 0) = false := by simp [h0]
      have hb3 : (x.sec == 3) = false := by simp [h0]
      by_cases hlk : x.t.lk ≤ x.tkn
      · skip
        have hE : Hid (enterE x 2 = 170) := by show enterE x _ = 170; unfold enterE; repeat (first | rw [if_pos (by omega)] | rw [if_neg (by omega)])
        have hX : Hid (enterX x 2 = x) := by show enterX x _ = x; unfold enterX; repeat (first | rw [if_pos (by omega)] | rw [if_neg (by omega)])
        clear h0 hlo hhi
        go_enter Try.func26, Try.ntmps26
        go_wp2_with fail
        go_quiet (fail)
        go_wp2
        go_ret
        rw [hE.out, hX.out]
        exact ⟨rfl, HH.out.below (below_drewN (Below.refl _ _) _), below_drewN hB _, (Keeps.refl _ _).drewN _⟩
      · skip
        have hE : Hid (enterE x 2 = 0) := by show enterE x _ = 0; unfold enterE; repeat (first | rw [if_pos (by omega)] | rw [if_neg (by omega)])
        have hX : Hid (enterX x 2 = { x with tkn := x.tkn + 1, sec := 2, tk := 0 }) := by show enterX x _ = { x with tkn := x.tkn + 1, sec := 2, tk := 0 }; unfold enterX; repeat (first | rw [if_pos (by omega)] | rw [if_neg (by omega)])
        clear h0 hlo hhi
        go_enter Try.func26, Try.ntmps26
        go_wp2_with fail
        go_quiet (fail)
        go_wp2
        go_ret
        rw [hE.out, hX.out]
        exact ⟨rfl, (((HH.out.below (below_drewN (Below.refl _ _) _)).put (y := { x with tkn := x.tkn + 1 }) rfl).put (y := { x with tkn := x.tkn + 1, sec := 2 }) rfl).put rfl, ((((below_drewN hB _).setCell HH.out.jB _).setCell HH.out.jB _).setCell HH.out.jB _), Keeps.setCell (S := tri j g b) (Keeps.setCell (S := tri j g b) (Keeps.setCell (S := tri j g b) ((Keeps.refl _ _).drewN _) (.inl (.inl rfl)) _) (.inl (.inl rfl)) _) (.inl (.inl rfl)) _⟩
    · have hb0 : (x.sec != 0) = true := by simp [h0]
      by_cases h3 : x.sec = 3
      · have hb3 : (x.sec == 3) = true := by simp [h3]
        have hE : Hid (enterE x 2 = 0) := by show enterE x _ = 0; unfold enterE; repeat (first | rw [if_pos (by omega)] | rw [if_neg (by omega)])
        have hX : Hid (enterX x 2 = { x with sec := 2 }) := by show enterX x _ = { x with sec := 2 }; unfold enterX; repeat (first | rw [if_pos (by omega)] | rw [if_neg (by omega)])
        clear h0 h3 hlo hhi
        go_enter Try.func26, Try.ntmps26
        go_wp2
        go_ret
        rw [hE.out, hX.out]
        exact ⟨rfl, HH.out.put rfl, (hB.setCell HH.out.jB _), keeps_tri _ _ _ _ _ _⟩
      · have hb3 : (x.sec == 3) = false := by simp [h3]
        have hE : Hid (enterE x 2 = 130) := by show enterE x _ = 130; unfold enterE; repeat (first | rw [if_pos (by omega)] | rw [if_neg (by omega)])
        have hX : Hid (enterX x 2 = x) := by show enterX x _ = x; unfold enterX; repeat (first | rw [if_pos (by omega)] | rw [if_neg (by omega)])
        clear h0 h3 hlo hhi
        go_enter Try.func26, Try.ntmps26
        go_wp2
        go_ret
        rw [hE.out, hX.out]
        exact ⟨rfl, HH.out, hB, Keeps.refl _ _⟩
  · by_cases h0 : x.sec = 0
    · have hb0 : (x.sec != 0) = false := by simp [h0]
      have hb3 : (x.sec == 3) = false := by simp [h0]
      by_cases hlk : x.t.lk ≤ x.tkn
      · skip
        have hE : Hid (enterE x 3 = 170) := by show enterE x _ = 170; unfold enterE; repeat (first | rw [if_pos (by omega)] | rw [if_neg (by omega)])
        have hX : Hid (enterX x 3 = x) := by show enterX x _ = x; unfold enterX; repeat (first | rw [if_pos (by omega)] | rw [if_neg (by omega)])
        clear h0 hlo hhi
        go_enter Try.func26, Try.ntmps26
        go_wp2_with fail
        go_quiet (fail)
        go_wp2
        go_ret
        rw [hE.out, hX.out]
        exact ⟨rfl, HH.out.below (below_drewN (Below.refl _ _) _), below_drewN hB _, (Keeps.refl _ _).drewN _⟩
      · skip
        have hE : Hid (enterE x 3 = 0) := by show enterE x _ = 0; unfold enterE; repeat (first | rw [if_pos (by omega)] | rw [if_neg (by omega)])
        have hX : Hid (enterX x 3 = { x with tkn := x.tkn + 1, sec := 3, tk := 0 }) := by show enterX x _ = { x with tkn := x.tkn + 1, sec := 3, tk := 0 }; unfold enterX; repeat (first | rw [if_pos (by omega)] | rw [if_neg (by omega)])
        clear h0 hlo hhi
        go_enter Try.func26, Try.ntmps26
        go_wp2_with fail
        go_quiet (fail)
        go_wp2
        go_ret
        rw [hE.out, hX.out]
        exact ⟨rfl, (((HH.out.below (below_drewN (Below.refl _ _) _)).put (y := { x with tkn := x.tkn + 1 }) rfl).put (y := { x with tkn := x.tkn + 1, sec := 3 }) rfl).put rfl, ((((below_drewN hB _).setCell HH.out.jB _).setCell HH.out.jB _).setCell HH.out.jB _), Keeps.setCell (S := tri j g b) (Keeps.setCell (S := tri j g b) (Keeps.setCell (S := tri j g b) ((Keeps.refl _ _).drewN _) (.inl (.inl rfl)) _) (.inl (.inl rfl)) _) (.inl (.inl rfl)) _⟩
    · have hb0 : (x.sec != 0) = true := by simp [h0]
      by_cases h3 : x.sec = 3
      · have hb3 : (x.sec == 3) = true := by simp [h3]
        have hE : Hid (enterE x 3 = 130) := by show enterE x _ = 130; unfold enterE; repeat (first | rw [if_pos (by omega)] | rw [if_neg (by omega)])
        have hX : Hid (enterX x 3 = x) := by show enterX x _ = x; unfold enterX; repeat (first | rw [if_pos (by omega)] | rw [if_neg (by omega)])
        clear h0 h3 hlo hhi
        go_enter Try.func26, Try.ntmps26
        go_wp2
        go_ret
        rw [hE.out, hX.out]
        exact ⟨rfl, HH.out, hB, Keeps.refl _ _⟩
      · have hb3 : (x.sec == 3) = false := by simp [h3]
        have hE : Hid (enterE x 3 = 130) := by show enterE x _ = 130; unfold enterE; repeat (first | rw [if_pos (by omega)] | rw [if_neg (by omega)])
        have hX : Hid (enterX x 3 = x) := by show enterX x _ = x; unfold enterX; repeat (first | rw [if_pos (by omega)] | rw [if_neg (by omega)])
        clear h0 h3 hlo hhi
        go_enter Try.func26, Try.ntmps26
        go_wp2
        go_ret
        rw [hE.out, hX.out]
        exact ⟨rfl, HH.out, hB, Keeps.refl _ _⟩
end Go.Proofs.Ytomadlopljfcmaa
