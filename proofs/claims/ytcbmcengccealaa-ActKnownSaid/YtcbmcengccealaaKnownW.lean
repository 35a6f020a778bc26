/- ActKnown, walked. -/
import Derived.Test.YtcbmcengccealaaKnownN
import Derived.Test.YtcbmcengccealaaPlaysC
import Derived.Test.YtcbmcengccealaaActK
namespace Go.Proofs.Ytcbmcengccealaa
set_option linter.unusedVariables false
open Go.RowKit

theorem make_ops32 (W : World) : (Instr.makeSlice 28 (.int .i64 32) (.int .i64 32)).run Try.prog W = .ok (.slice (some ⟨W.heap.size, 0, none⟩) 32 32) (W.alloc (.cells (opCells (List.replicate 32 (opN 0 0))).toArray 23)) := by kernel_rfl
theorem make_truths40 (W : World) : (Instr.makeSlice 29 (.int .i64 40) (.int .i64 40)).run Try.prog W = .ok (.slice (some ⟨W.heap.size, 0, none⟩) 40 40) (W.alloc (.cells (List.replicate 40 (Value.bool false)).toArray 4)) := by kernel_rfl
/-- The ends and the texts in memory. -/
structure Ends (a b : Nat) (w : World) : Prop where
  e : ∀ i, i < 10 → ∃ n : Int, w.cell? ⟨a, i, none⟩ = some (.int .i64 n)
  t : ∀ i, i < 4 → ∃ s : ByteArray, w.cell? ⟨b, i, none⟩ = some (.string s)
  al : a < w.heap.size
  bl : b < w.heap.size
theorem Ends.below {a b : Nat} {w w' : World} (h : Ends a b w) (k : Below w.heap.size w w') : Ends a b w' :=
  ⟨fun i hi => (h.e i hi).imp fun n hn => (k.cell h.al).trans hn, fun i hi => (h.t i hi).imp fun n hn => (k.cell h.bl).trans hn, Nat.lt_of_lt_of_le h.al k.size, Nat.lt_of_lt_of_le h.bl k.size⟩
theorem Ends.new (w : World) (x0 x1 x2 x3 x4 x5 x6 x7 x8 x9 : Int) (s0 s1 s2 s3 : ByteArray) (t t' : TypeId) :
    Ends w.heap.size (w.heap.size + 1) ((w.alloc (.cells #[.int .i64 x0, .int .i64 x1, .int .i64 x2, .int .i64 x3, .int .i64 x4, .int .i64 x5, .int .i64 x6, .int .i64 x7, .int .i64 x8, .int .i64 x9] t)).alloc (.cells #[.string s0, .string s1, .string s2, .string s3] t')) := by
  have h1 := (Blk.new w t #[.int .i64 x0, .int .i64 x1, .int .i64 x2, .int .i64 x3, .int .i64 x4, .int .i64 x5, .int .i64 x6, .int .i64 x7, .int .i64 x8, .int .i64 x9]).alloc (.cells #[.string s0, .string s1, .string s2, .string s3] t')
  have h2 := Blk.new (w.alloc (.cells #[.int .i64 x0, .int .i64 x1, .int .i64 x2, .int .i64 x3, .int .i64 x4, .int .i64 x5, .int .i64 x6, .int .i64 x7, .int .i64 x8, .int .i64 x9] t)) t' #[.string s0, .string s1, .string s2, .string s3]
  have hs : (w.alloc (.cells #[.int .i64 x0, .int .i64 x1, .int .i64 x2, .int .i64 x3, .int .i64 x4, .int .i64 x5, .int .i64 x6, .int .i64 x7, .int .i64 x8, .int .i64 x9] t)).heap.size = w.heap.size + 1 := by simp
  rw [hs] at h2
  refine ⟨fun i hi => ?_, fun i hi => ?_, h1.lt, h2.lt⟩
  · have hc := h1.cell i
    rcases (by omega : i = 0 ∨ i = 1 ∨ i = 2 ∨ i = 3 ∨ i = 4 ∨ i = 5 ∨ i = 6 ∨ i = 7 ∨ i = 8 ∨ i = 9) with rfl | rfl | rfl | rfl | rfl | rfl | rfl | rfl | rfl | rfl <;> exact ⟨_, hc.trans rfl⟩
  · have hc := h2.cell i
    rcases (by omega : i = 0 ∨ i = 1 ∨ i = 2 ∨ i = 3) with rfl | rfl | rfl | rfl <;> exact ⟨_, hc.trans rfl⟩
theorem bools2 (w : World) (u v : Bool) (t : TypeId) : BoolsAt (w.alloc (.cells #[.bool u, .bool v] t)) (some ⟨w.heap.size, 0, none⟩) 2 (fun i => if i = 0 then u else v) := fun _ => by
  have h := Blk.new w t #[.bool u, .bool v]
  refine ⟨_, 0, rfl, by simp, fun i hi => ?_⟩
  rw [h.cell]
  rcases (by omega : i = 0 ∨ i = 1) with rfl | rfl <;> rfl
theorem opsR_blk {w : World} {g : Nat} {t : TypeId} {L : List OpV} (h : Blk w g t (opCells L).toArray) : OpsR w (some ⟨g, 0, none⟩) L := fun _ => by
  refine ⟨_, 0, rfl, h.lt, fun i x hi => ?_⟩
  obtain ⟨e0, e1, e2⟩ := opCells_get L i x hi
  refine ⟨?_, ?_, ?_⟩
  · rw [h.cell]; simpa using e0
  · rw [h.cell, show 0 + i * 3 + 1 = i * 3 + 1 by omega]; simpa using e1
  · rw [h.cell, show 0 + i * 3 + 2 = i * 3 + 2 by omega]; simpa using e2
theorem opCells_set (y : OpV) : ∀ (L : List OpV) (i : Nat), i < L.length → opCells (L.set i y) = (((opCells L).set (i * 3) (.int .i64 y.k)).set (i * 3 + 1) (.int .i64 y.n)).set (i * 3 + 2) (.string y.s)
  | [], _, h => absurd h (by simp)
  | x :: L, 0, _ => rfl
  | x :: L, i + 1, h => by
    have ih := opCells_set y L i (by simpa using h)
    show _ :: _ :: _ :: opCells (L.set i y) = _
    rw [ih, show (i + 1) * 3 = i * 3 + 3 by omega]
    rfl
/-- 32 acts in a block of their own. -/
def Row32 (w : World) (m : Nat) : Prop := ∃ L : List OpV, L.length = 32 ∧ Blk w m 23 (opCells L).toArray
theorem Row32.set_ {w : World} {m : Nat} (h : Row32 w m) {i : Nat} (hi : i < 32) (y : OpV) : Row32 (((w.setCell ⟨m, i * 3, none⟩ (.int .i64 y.k)).setCell ⟨m, i * 3 + 1, none⟩ (.int .i64 y.n)).setCell ⟨m, i * 3 + 2, none⟩ (.string y.s)) m := by
  obtain ⟨L, hL, hb⟩ := h
  refine ⟨L.set i y, by simpa using hL, ?_⟩
  have h3 := ((hb.set_ (i * 3) (.int .i64 y.k)).set_ (i * 3 + 1) (.int .i64 y.n)).set_ (i * 3 + 2) (.string y.s)
  rw [opCells_set y L i (by omega)]
  simpa using h3
theorem Row32.at_ {w : World} {m : Nat} (h : Row32 w m) {i : Nat} (hi : i < 32) : ∃ v0 v1 v2, w.cell? ⟨m, i * 3, none⟩ = some v0 ∧ w.cell? ⟨m, i * 3 + 1, none⟩ = some v1 ∧ w.cell? ⟨m, i * 3 + 2, none⟩ = some v2 ∧
    w.frozen? ⟨m, i * 3, none⟩ = false ∧ w.frozen? ⟨m, i * 3 + 1, none⟩ = false ∧ w.frozen? ⟨m, i * 3 + 2, none⟩ = false := by
  obtain ⟨L, hL, hb⟩ := h
  obtain ⟨e0, e1, e2⟩ := opCells_get L i _ (List.getElem?_eq_getElem (by omega))
  refine ⟨.int .i64 L[i].k, .int .i64 L[i].n, .string L[i].s, ?_, ?_, ?_, hb.frozen _, hb.frozen _, hb.frozen _⟩
  · rw [hb.cell]; simpa using e0
  · rw [hb.cell]; simpa using e1
  · rw [hb.cell]; simpa using e2
theorem bools40 (w : World) (t : TypeId) (T : List Value) (hT : List.replicate 40 (Value.bool false) = T) : BoolsAt (w.alloc (.cells T.toArray t)) (some ⟨w.heap.size, 0, none⟩) 40 (fun _ => false) := fun _ => by
  subst hT
  have h := Blk.new w t (List.replicate 40 (Value.bool false)).toArray
  refine ⟨_, 0, rfl, by simp, fun i hi => ?_⟩
  rw [h.cell]
  have e : (List.replicate 40 (Value.bool false)).toArray[0 + i]? = (List.replicate 40 (Value.bool false))[i]? := by rw [Nat.zero_add]; exact List.getElem?_toArray
  rw [e, List.getElem?_replicate, if_pos hi]
theorem plays_many (m : Nat) (L : List OpV) (w : World) (t : TypeId) (T : List Value) (hT : List.replicate 40 (Value.bool false) = T) (hL : L.length = 32) (h : OpsR w (some ⟨m, 0, none⟩) L) :
    Calls Try.prog 4 #[.slice (some ⟨m, 0, none⟩) 32 32, .slice (some ⟨w.heap.size, 0, none⟩) 40 40] (w.alloc (.cells T.toArray t)) fun e w' => e = .returned (.bool true) ∧ Below (w.alloc (.cells T.toArray t)).heap.size (w.alloc (.cells T.toArray t)) w' :=
  plays_c _ 32 32 L _ 40 40 _ _ (by omega) (by omega) ⟨hL.symm, h.below ((Below.refl _ _).alloc (Nat.le_refl _) _)⟩ (fun h => by cases h) (bools40 w t T hT) (by omega)
theorem new_zeros (w : World) (t : TypeId) (Z : List OpV) (hZ : List.replicate 32 (opN 0 0) = Z) :
    Calls Try.prog 11 #[.slice (some ⟨w.heap.size, 0, none⟩) 32 32] (w.alloc (.cells (opCells Z).toArray t)) fun e w' => e = .returned (.tuple #[.pointer none, .int .i64 2]) ∧ Below w.heap.size w w' := by
  subst hZ
  exact (newbad_s (L := List.replicate 32 (opN 0 0)) (c := 32) (by simp) (opsR_new rfl) (v := 2) rfl (by decide) ((Below.refl _ _).alloc (Nat.le_refl _) _) (by simp)).mono fun e w' ⟨h1, h2, _⟩ => ⟨h1, h2⟩
theorem plays_one (k n : Int) (s : ByteArray) (w : World) (t t' : TypeId) :
    Calls Try.prog 4 #[.slice (some ⟨w.heap.size, 0, none⟩) 1 1, .slice (some ⟨w.heap.size + 1, 0, none⟩) 2 2] ((w.alloc (.cells #[.int .i64 k, .int .i64 n, .string s] t)).alloc (.cells #[.bool false, .bool true] t')) fun e w' => e = .returned (.bool true) ∧ Below ((w.alloc (.cells #[.int .i64 k, .int .i64 n, .string s] t)).alloc (.cells #[.bool false, .bool true] t')).heap.size ((w.alloc (.cells #[.int .i64 k, .int .i64 n, .string s] t)).alloc (.cells #[.bool false, .bool true] t')) w' := by
  have h1 : OpsR (w.alloc (.cells #[.int .i64 k, .int .i64 n, .string s] t)) (some ⟨w.heap.size, 0, none⟩) [⟨k, n, s⟩] := opsR_new rfl
  have h2 := bools2 (w.alloc (.cells #[.int .i64 k, .int .i64 n, .string s] t)) false true t'
  have hs : (w.alloc (.cells #[.int .i64 k, .int .i64 n, .string s] t)).heap.size = w.heap.size + 1 := by simp
  rw [hs] at h2
  exact plays_c _ 1 1 [⟨k, n, s⟩] _ 2 2 _ _ (by omega) (by omega) ⟨rfl, h1.below ((Below.refl _ _).alloc (Nat.le_refl _) _)⟩ (fun h => by cases h) h2 (by omega)
theorem checks_one (k n : Int) (s : ByteArray) (w : World) : Calls Try.prog 3 #[.agg #[.int .i64 k, .int .i64 n, .string s]] w fun e w' => e = .returned (.bool true) ∧ Below w.heap.size w w' := checks_c ⟨k, n, s⟩ w
set_option maxRecDepth 20000 in
set_option maxHeartbeats 800000 in
theorem actKnown_c (w : World) : Calls Try.prog 7 #[] w fun e w' => e = .returned (.bool true) ∧ Below w.heap.size w w' := by
  have hmk := make_ops32
  have hmk' := make_truths40
  obtain ⟨Z, hZ⟩ : ∃ Z, List.replicate 32 (opN 0 0) = Z := ⟨_, rfl⟩
  obtain ⟨T, hT⟩ : ∃ T, List.replicate 40 (Value.bool false) = T := ⟨_, rfl⟩
  simp only [hZ] at hmk
  simp only [hT] at hmk'
  have HZ := Lib.hid hZ
  have HT := Lib.hid hT
  have hZl : Hid (Z.length = 32) := by show Z.length = 32; rw [← hZ]; simp
  clear hZ hT
  go_enter Try.func7, Try.ntmps7
  go_wp2_with fail
  go_loopw [1, 2] (fun v y wr => ∃ i : Nat, i ≤ 2 ∧ y = .int .i64 i ∧ NoRow wr v ∧ Below w.heap.size w wr) (fun _ y _ => 2 - (intOf y).toNat)
  case atStart => exact ⟨0, by omega, rfl, .inl rfl, Below.refl _ _⟩
  case round =>
    obtain ⟨i, hi, rfl, hN, hB⟩ := hrel
    by_cases hlt : (i : Int) < 2
    · go_wp2_with (first
        | (go_at_call 20; with_reducible refine (rest_n _ _ ((((hN.below hC1).below hC2).below hC3).below hC4 |>.below hC5)).mono ?_; rintro e w6 ⟨rfl, hC6⟩)
        | (go_at_call 23; with_reducible refine (left_n _ _ ((((hN.below hC1).below hC2).below hC3).below hC4)).mono ?_; rintro e w5 ⟨rfl, hC5⟩)
        | (go_at_call 21; with_reducible refine (done_n _ _ (((hN.below hC1).below hC2).below hC3)).mono ?_; rintro e w4 ⟨rfl, hC4⟩)
        | (go_at_call 14; with_reducible refine (ran_n _ _ ((hN.below hC1).below hC2)).mono ?_; rintro e w3 ⟨rfl, hC3⟩)
        | (go_at_call 16; with_reducible refine (did_n _ _ (hN.below hC1)).mono ?_; rintro e w2 ⟨rfl, hC2⟩)
        | (go_at_call 18; with_reducible refine (nextz_n _ _ hN).mono ?_; rintro e w1 ⟨rfl, hC0⟩; have hC1 := hC0.alloc hC0.size (.cells #[.int .i64 0, .int .i64 0, .string { data := #[] }] 23)))
      have hBB := below_lift hB (below_lift (below_lift (below_lift (below_lift (below_lift hC1 hC2 hC1.size) hC3 (Nat.le_trans hC1.size hC2.size)) hC4 (Nat.le_trans (Nat.le_trans hC1.size hC2.size) hC3.size)) hC5 (Nat.le_trans (Nat.le_trans (Nat.le_trans hC1.size hC2.size) hC3.size) hC4.size)) hC6 (Nat.le_trans (Nat.le_trans (Nat.le_trans (Nat.le_trans hC1.size hC2.size) hC3.size) hC4.size) hC5.size)) hB.size
      go_roundw
      case rel => exact ⟨i + 1, by omega, rfl, .inr ⟨w6.heap.size, rfl, ((Blk.new w6 _ _).cell 1).trans rfl⟩, hBB.alloc hBB.size _⟩
      case measure => simp [intOf]; omega
    · obtain rfl : 2 = i := by omega
      clear hN
      go_wp2_with fail
      obtain ⟨a, ha⟩ : ∃ a, wr.heap.size = a := ⟨_, rfl⟩
      have hE0 := Ends.new wr (-9223372036854775808) (-1) 0 1 7 8 63 64 65 9223372036854775807 { data := #[] } { data := #[97] } { data := #[48, 49, 50, 51, 52, 53, 54, 55, 56, 57, 97, 98, 99, 100, 101, 102] } { data := #[48, 49, 50, 51, 52, 53, 54, 55, 56, 57, 97, 98, 99, 100, 101, 102, 48] } 3 9
      have hB0 := (hB.alloc hB.size (.cells #[.int .i64 (-9223372036854775808), .int .i64 (-1), .int .i64 0, .int .i64 1, .int .i64 7, .int .i64 8, .int .i64 63, .int .i64 64, .int .i64 65, .int .i64 9223372036854775807] 3))
      have hB1 := hB0.alloc hB0.size (.cells #[.string { data := #[] }, .string { data := #[97] }, .string { data := #[48, 49, 50, 51, 52, 53, 54, 55, 56, 57, 97, 98, 99, 100, 101, 102] }, .string { data := #[48, 49, 50, 51, 52, 53, 54, 55, 56, 57, 97, 98, 99, 100, 101, 102, 48] }] 9)
      rw [ha] at hE0
      rw [ha]
      generalize (wr.alloc (.cells #[.int .i64 (-9223372036854775808), .int .i64 (-1), .int .i64 0, .int .i64 1, .int .i64 7, .int .i64 8, .int .i64 63, .int .i64 64, .int .i64 65, .int .i64 9223372036854775807] 3)).alloc (.cells #[.string { data := #[] }, .string { data := #[97] }, .string { data := #[48, 49, 50, 51, 52, 53, 54, 55, 56, 57, 97, 98, 99, 100, 101, 102] }, .string { data := #[48, 49, 50, 51, 52, 53, 54, 55, 56, 57, 97, 98, 99, 100, 101, 102, 48] }] 9) = w1 at *
      clear hB hB0 ha
      go_loopw [7] (fun y wr => ∃ kd : Int, -1 ≤ kd ∧ kd ≤ 11 ∧ y = .int .i64 kd ∧ Ends a (a + 1) wr ∧ Below w.heap.size w wr) (fun y _ => (11 - intOf y).toNat)
      case atStart => exact ⟨-1, by omega, by omega, rfl, hE0, hB1⟩
      case round =>
        clear hE0 hB1
        obtain ⟨kd, hk0, hk1, rfl, hE, hB⟩ := hrel
        by_cases hkd : kd < 11
        · go_wp2_with fail
          obtain ⟨wo, rfl⟩ : ∃ wo : World, wo = wr := ⟨_, rfl⟩
          go_loopw [8] (fun y wr => ∃ i : Nat, i ≤ 10 ∧ y = .int .i64 i ∧ Ends a (a + 1) wr ∧ Below w.heap.size w wr) (fun y _ => 10 - (intOf y).toNat)
          case atStart => exact ⟨0, by omega, rfl, hE, hB⟩
          case round =>
            clear hE hB
            obtain ⟨i, hi, rfl, hE, hB⟩ := hrel
            by_cases hlt : (i : Int) < 10
            · go_wp2_with fail
              obtain ⟨wo2, rfl⟩ : ∃ wo : World, wo = wr := ⟨_, rfl⟩
              go_loopw [9] (fun y wr => ∃ k : Nat, k ≤ 4 ∧ y = .int .i64 k ∧ Ends a (a + 1) wr ∧ Below w.heap.size w wr) (fun y _ => 4 - (intOf y).toNat)
              case atStart => exact ⟨0, by omega, rfl, hE, hB⟩
              case round =>
                clear hE hB
                obtain ⟨k, hk, rfl, hE, hB⟩ := hrel
                by_cases hlt2 : (k : Int) < 4
                · obtain ⟨y, hy⟩ := hE.e i (by omega)
                  obtain ⟨s, hs⟩ := hE.t k (by omega)
                  go_wp2_with fail
                  have hC : Below wr.heap.size wr (wr.alloc (.cells #[.int .i64 0, .int .i64 0, .string { data := #[] }] 23)) := (Below.refl _ _).alloc (Nat.le_refl _) _
                  have hy' := (hC.cell (p := ⟨a, i, none⟩) hE.al).trans hy
                  have hs' := (hC.cell (p := ⟨a + 1, k, none⟩) hE.bl).trans hs
                  go_region
                  have hA1 : Blk (wr.alloc (.cells #[.int .i64 kd, .int .i64 y, .string s] 23)).drew wr.heap.size 23 #[.int .i64 kd, .int .i64 y, .string s] := (Blk.new wr _ _).drew
                  have hB1 : Below w.heap.size w (wr.alloc (.cells #[.int .i64 kd, .int .i64 y, .string s] 23)).drew := (hB.alloc hB.size _).drew
                  have hE1 : Ends a (a + 1) (wr.alloc (.cells #[.int .i64 kd, .int .i64 y, .string s] 23)).drew := hE.below (((Below.refl _ _).alloc (Nat.le_refl _) _).drew)
                  clear hC hy' hs' hE hB hy hs
                  generalize (wr.alloc (.cells #[.int .i64 kd, .int .i64 y, .string s] 23)).drew = w2 at *
                  have a0 := cell3a hA1
                  have a1 := cell3b hA1
                  have a2 := cell3c hA1
                  go_wp2_with (first
                    | (go_at_call 4; with_reducible refine (plays_one kd y s _ _ _).mono ?_; rintro e w4 ⟨rfl, hb4⟩; have hC4 := hC3.alloc hC3.size (.cells #[.int .i64 kd, .int .i64 y, .string s] 23); have hC5 := hC4.alloc hC4.size (.cells #[.bool false, .bool true] 4); have hC6 := below_lift hC5 hb4 hC5.size)
                    | (go_at_call 3; with_reducible refine (checks_one kd y s _).mono ?_; clear a0 a1 a2; rintro e w3 ⟨rfl, hC3⟩; have hA3 := hA1.on' hC3; have a0 := cell3a hA3; have a1 := cell3b hA3; have a2 := cell3c hA3))
                  go_roundw
                  case rel => exact ⟨k + 1, by omega, rfl, hE1.below hC6, below_lift hB1 hC6 hB1.size⟩
                  case measure => simp [intOf]; omega
                · obtain rfl : 4 = k := by omega
                  go_wp2_with fail
                  go_roundw
                  case rel => exact ⟨i + 1, by omega, rfl, hE, hB⟩
                  case measure => simp [intOf]; omega
            · obtain rfl : 10 = i := by omega
              go_wp2_with fail
              go_roundw
              case rel => exact ⟨kd + 1, by omega, by omega, rfl, hE, hB⟩
              case measure => simp [intOf]; omega
        · obtain rfl : kd = 11 := by omega
          go_wp2_with (first
            | (go_at_call 11; refine (new_zeros _ _ Z HZ.out).mono ?_; rintro e w5 ⟨rfl, hb5⟩; have hB5 := below_lift hB hb5 hB.size))
          have hR : Row32 (w5.alloc (.cells (opCells Z).toArray 23)) w5.heap.size := ⟨Z, hZl.out, Blk.new _ _ _⟩
          have hB6 := hB5.alloc hB5.size (.cells (opCells Z).toArray 23)
          have hm : w.heap.size ≤ w5.heap.size := hB5.size
          generalize w5.alloc (.cells (opCells Z).toArray 23) = w6 at *
          generalize w5.heap.size = m at *
          clear hB hb5 hB5 hE HZ hZl hmk
          go_loopw [14] (fun y wr => ∃ i : Nat, i ≤ 32 ∧ y = .int .i64 i ∧ Row32 wr m ∧ Below w.heap.size w wr) (fun y _ => 32 - (intOf y).toNat)
          case atStart => exact ⟨0, by omega, rfl, hR, hB6⟩
          case round =>
            clear hR hB6
            obtain ⟨i, hi, rfl, hR, hB⟩ := hrel
            by_cases hlt : (i : Int) < 32
            · obtain ⟨v0, v1, v2, q0, q1, q2, f0, f1, f2⟩ := hR.at_ (i := i) (by omega)
              have HR := Lib.hid hR
              clear hR
              go_wp2_with fail
              go_roundw
              case rel => exact ⟨i + 1, by omega, rfl, HR.out.set_ (i := i) (by omega) (opN 3 0), ((hB.setCell hm _).setCell hm _).setCell hm _⟩
              case measure => simp [intOf]; omega
            · obtain rfl : 32 = i := by omega
              obtain ⟨L, hL, hb⟩ := hR
              have hX := opsR_blk hb
              clear hb
              go_wp2_with (first
                | (go_at_call 5; with_reducible refine (through_c _ 32 32 L _ (by omega) ⟨hL.symm, (hX.below hb7).below hb8'⟩).mono ?_; rintro e w9 ⟨rfl, hb9⟩)
                | (go_at_call 4; with_reducible refine (plays_many m L _ _ T HT.out hL (hX.below hb7)).mono ?_; rintro e w8 ⟨rfl, hb8⟩; have hb8' := below_lift ((Below.refl _ _).alloc (Nat.le_refl _) _) hb8 (by simp))
                | (go_at_call 10; with_reducible refine (works_c _).mono ?_; rintro e w7 ⟨rfl, hb7⟩))
              go_ret
              exact ⟨rfl, below_lift (below_lift (below_lift hB hb7 hB.size) hb8' (Nat.le_trans hB.size hb7.size)) hb9 (Nat.le_trans (Nat.le_trans hB.size hb7.size) hb8'.size)⟩
end Go.Proofs.Ytcbmcengccealaa
