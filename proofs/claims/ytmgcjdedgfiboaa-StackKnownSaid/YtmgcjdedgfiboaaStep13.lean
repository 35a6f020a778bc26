/- step, of layer 13. -/
import Derived.Test.YtmgcjdedgfiboaaTwo13
import Derived.Test.YtmgcjdedgfiboaaDosA
import Derived.Test.YtmgcjdedgfiboaaBring
namespace Go.Proofs.Ytmgcjdedgfiboaa
set_option linter.unusedVariables false
open Go.RowKit

theorem do_c1 {w : World} {g : Nat} {x y z : Value} (h : Blk w g 31 #[x, y, z]) : w.cell? ⟨g, 1, none⟩ = some y := h.cell 1
theorem do_c2 {w : World} {g : Nat} {x y z : Value} (h : Blk w g 31 #[x, y, z]) : w.cell? ⟨g, 2, none⟩ = some z := h.cell 2
theorem TQ.k {B s m n : Nat} {D : Nat → Nat → Int} {E E2 : List Ent} {w w' : World} (h : TQ B w s m n D E E2 w') {g : Nat} {cs : Array Value} (hb : Blk w g 31 cs) : Blk w' g 31 cs := h.o _ _ hb
theorem do_below {w w' : World} {g : Nat} {cs : Array Value} (h : Blk w g 31 cs) (k : Below w.heap.size w w') : Blk w' g 31 cs := (k.block g h.lt).trans h
/-- What a step leaves. -/
structure StepQ (B : Nat) (w : World) (s m n : Nat) (D : Nat → Nat → Int) (E : List Ent) (w' : World) : Prop where
  t : ∃ E', Two B w' s m n D E' E' ∧ Inv n E' ∧ E'.length ≤ E.length + 1
  b : Below B w w'
set_option maxRecDepth 20000 in
set_option maxHeartbeats 1600000 in
theorem step_c (B s m n : Nat) (D : Nat → Nat → Int) (E : List Ent) (k t r : Int) (w : World) (h : Two B w s m n D E E) (hI : Inv n E) (hl : E.length < 100000) :
    Calls Try.prog 20 #[.pointer (some ⟨s, 0, none⟩), .pointer (some ⟨m, 0, none⟩), .agg #[.int .i64 k, .int .i64 t, .int .i64 r]] w fun e w' => e = .returned (.bool true) ∧ StepQ B w s m n D E w' := by
  have hAB : Below w.heap.size w (w.alloc (.cells #[.int .i64 k, .int .i64 t, .int .i64 r] 31)) := (Below.refl _ _).alloc (Nat.le_refl _) _
  have hk : Hid (Blk (w.alloc (.cells #[.int .i64 k, .int .i64 t, .int .i64 r] 31)) w.heap.size 31 #[.int .i64 k, .int .i64 t, .int .i64 r]) := Blk.new _ _ _
  have hT := Lib.hid (h.below hAB)
  have hBA : Hid (Below B w (w.alloc (.cells #[.int .i64 k, .int .i64 t, .int .i64 r] 31))) := hAB.mono h.hs
  obtain ⟨q, hq⟩ : ∃ p, bringN k 3 = p := ⟨_, rfl⟩
  have hq3 : q < 3 := hq ▸ bringN_lt k 3 (by omega)
  have hBq : ∀ w, Calls Try.prog 9 #[.int .i64 k, .int .i64 3] w fun e w' => e = .returned (.int .i64 (q : Nat)) ∧ w = w' := fun w => hq ▸ bring_n k 3 3 w rfl (by omega) (by omega)
  obtain ⟨g, hg⟩ : ∃ g, w.heap.size = g := ⟨_, rfl⟩
  have HI := Lib.hid hI
  have HLE := Lib.hid hl
  obtain ⟨Q, hQ⟩ : ∃ P : Int, P = (q : Nat) := ⟨_, rfl⟩
  rw [← hQ] at hBq
  have HQ := Lib.hid hQ
  clear h hI hl hq hQ hAB
  have HK : Hid (Blk (w.alloc (.cells #[.int .i64 k, .int .i64 t, .int .i64 r] 31)) g 31 #[.int .i64 k, .int .i64 t, .int .i64 r]) := hg ▸ hk.out
  clear hk
  have HQQ := HQ.out
  rcases (by omega : q = 0 ∨ q = 1 ∨ q = 2) with rfl | rfl | rfl
  · obtain rfl : Q = 0 := HQQ
    go_enter Try.func20, Try.ntmps20
    go_wp2_with (go_at_call 9; with_reducible refine (hBq _).mono ?_; rintro e w4 ⟨rfl, rfl⟩)
    generalize w.alloc (.cells #[.int .i64 k, .int .i64 t, .int .i64 r] 31) = wA at *
    clear hg hBq
    have hT9 : Two B wA.drew s m n D E E := hT.out.below (Below.refl _ _).drew
    have hK9 : Blk wA.drew g 31 #[.int .i64 k, .int .i64 t, .int .i64 r] := HK.out
    have HW : Hid (Below B w wA.drew) := hBA.out.drew
    obtain ⟨z, hz⟩ : ∃ z, lockE n D E t r = z := ⟨_, rfl⟩
    obtain ⟨E', hE'⟩ : ∃ z, lockC n D E t r = z := ⟨_, rfl⟩
    have h1 := lock_2 (t := t) (r := r) hT9 (Below.refl B wA.drew) (fun _ _ h => h) HLE.out
    have h2 := fun W (a : TQ B wA.drew s m n D E' E W) => dlock_2 (t := t) (r := r) a.t a.b a.o HLE.out
    have h3 := HI.out.put (D := D) (t := t) (r := r)
    simp only [HI.out.eqE, HI.out.eqC] at h2
    rw [hE'] at h3
    simp only [hz, hE'] at h1 h2
    have s1 : wA.drew.cell? ⟨g, 1, none⟩ = some (.int .i64 t) := hK9.cell 1
    have s2 : wA.drew.cell? ⟨g, 2, none⟩ = some (.int .i64 r) := hK9.cell 2
    have HK9 := Lib.hid hK9
    have H1 := Lib.hid h1
    have H2 := Lib.hid h2
    have H3 := Lib.hid h3
    clear h1 h2 h3 hz hE' hK9 hT9
    go_region_held3 (fun w' => w'.cell? ⟨g, 1, none⟩ = some (.int .i64 t) ∧ w'.cell? ⟨g, 2, none⟩ = some (.int .i64 r)) (go_keep)
      (first
        | (go_at_call 10; with_reducible refine H1.out.mono ?_; clear s1 s2; rintro e w5 ⟨rfl, h5⟩; have s1  := do_c1 (h5.k HK9.out); have s2  := do_c2 (h5.k HK9.out); have H5 := Lib.hid h5; clear h5)
        | (go_at_call 35; with_reducible refine (H2.out _ H5.out).mono ?_; clear s1 s2; rintro e w6 ⟨rfl, h6⟩; have s1  := do_c1 (h6.k HK9.out); have s2  := do_c2 (h6.k HK9.out); have H6 := Lib.hid h6; clear h6))
    go_wp2
    go_ret
    exact ⟨by simp, ⟨E', H6.out.t, H3.out.1, H3.out.2⟩, HW.out.trans H6.out.b⟩
  · obtain rfl : Q = 1 := HQQ
    have h1 := unlock_2 (t := t) hT.out (Below.refl B _) (fun _ _ h => h)
    have h2 := fun W E' (a : TQ B (w.alloc (.cells #[.int .i64 k, .int .i64 t, .int .i64 r] 31)) s m n D E' E W) => dunlock_2 (t := t) a.t a.b a.o
    have H1 := Lib.hid h1
    have H2 := Lib.hid h2
    clear h1 h2
    go_enter Try.func20, Try.ntmps20
    go_wp2_with (first
      | (go_at_call 9; with_reducible refine (hBq _).mono ?_; rintro e w4 ⟨rfl, rfl⟩)
      | (go_at_call 11; with_reducible refine H1.out.mono ?_; rintro e w5 ⟨r5, z5, E5, rfl, hq5, h5⟩; have s1  := do_c1 (h5.k HK.out); have H5 := Lib.hid h5; have HQ5 := Lib.hid hq5; clear h5 hq5)
      | (go_at_call 36; with_reducible refine (H2.out _ _ H5.out).mono ?_; rintro e w6 ⟨r6, z6, E6, rfl, hq6, h6⟩; obtain ⟨rfl, rfl, rfl⟩ := unl_uniq HQ5.out hq6; have H6 := Lib.hid h6; clear h6 hq6))
    go_ret
    exact ⟨by simp, ⟨_, H6.out.t, (HI.out.unl HQ5.out).1, Nat.le_succ_of_le (HI.out.unl HQ5.out).2⟩, hBA.out.trans H6.out.b⟩
  · obtain rfl : Q = 2 := HQQ
    go_enter Try.func20, Try.ntmps20
    go_wp2_with (go_at_call 9; with_reducible refine (hBq _).mono ?_; rintro e w4 ⟨rfl, rfl⟩)
    generalize w.alloc (.cells #[.int .i64 k, .int .i64 t, .int .i64 r] 31) = wA at *
    clear hg hBq
    have hT9 : Two B wA.drew s m n D E E := hT.out.below (Below.refl _ _).drew
    have hK9 : Blk wA.drew g 31 #[.int .i64 k, .int .i64 t, .int .i64 r] := HK.out
    have HW : Hid (Below B w wA.drew) := hBA.out.drew
    obtain ⟨L, hL⟩ : ∃ z, dropL n E t = z := ⟨_, rfl⟩
    obtain ⟨E', hE'⟩ : ∃ z, dropC n E t = z := ⟨_, rfl⟩
    have h1 := drop_2 (t := t) hT9 (Below.refl B wA.drew) (fun _ _ h => h)
    have h2 := fun W (a : TQ B wA.drew s m n D E' E W) (B1 : Nat) (u : Value) (hO : OwnI W B1 u L) => ddrop_2 (t := t) a.t a.b a.o (fun e => HI.out.none e) hO
    have h3 := HI.out.drop (t := t)
    have hLl : L.length ≤ 4 := by
      rw [← hL]
      unfold dropL
      split
      · rw [List.length_reverse]; exact HI.out.l t
      · simp
    rw [hE'] at h3
    simp only [hL, hE'] at h1 h2
    have s1 : wA.drew.cell? ⟨g, 1, none⟩ = some (.int .i64 t) := hK9.cell 1
    have HK9 := Lib.hid hK9
    have HLL := Lib.hid hLl
    have H1 := Lib.hid h1
    have H2 := Lib.hid h2
    have H3 := Lib.hid h3
    clear h1 h2 h3 hL hE' hK9 hT9 hLl
    go_region_held3 (fun w' => w'.cell? ⟨g, 1, none⟩ = some (.int .i64 t)) (go_keep)
      (first
        | (go_at_call 12; with_reducible refine H1.out.mono ?_; clear s1; rintro e w5 ⟨o5, rfl, hO5, h5⟩; have s1  := do_c1 (h5.k HK9.out); have H5 := Lib.hid h5; have HO5 := Lib.hid hO5; clear h5 hO5)
        | (go_at_call 37; with_reducible refine (H2.out _ H5.out _ _ HO5.out).mono ?_; clear s1; rintro e w6 ⟨o6, rfl, hO6, hO56, h6⟩; have s1  := do_c1 (h6.k HK9.out); obtain ⟨A5, c5, rfl, -, -, hR5, -⟩ := hO56.form; obtain ⟨A6, c6, rfl, -, -, hR6, -⟩ := hO6.form; have HEQ := Lib.hid (eqints_c A5 _ c5 L A6 _ c6 L _ ⟨rfl, by assumption⟩ ⟨rfl, by assumption⟩ (by have := HLL.out; omega)); have H6 := Lib.hid h6; clear h6 hO6 hO56 hR5 hR6)
        | (go_at_call 23; with_reducible refine HEQ.out.mono ?_; clear s1; rintro e w7 ⟨rfl, hb7⟩; have s1 := do_c1 (do_below (H6.out.k HK9.out) hb7); have HT7 := Lib.hid (H6.out.t.below hb7); have HB7 := Lib.hid (below_lift H6.out.b hb7 H6.out.t.hs)))
    go_wp2
    go_ret
    exact ⟨by simp, ⟨E', HT7.out, H3.out.1, Nat.le_succ_of_le H3.out.2⟩, HW.out.trans HB7.out⟩
end Go.Proofs.Ytmgcjdedgfiboaa
