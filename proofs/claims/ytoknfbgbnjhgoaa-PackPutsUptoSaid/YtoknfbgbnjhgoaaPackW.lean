/- works: the chapter's bytes; number. -/
import Derived.Test.YtoknfbgbnjhgoaaRdF
import Derived.Test.YtoknfbgbnjhgoaaBring
namespace Go.Proofs.Ytoknfbgbnjhgoaa
set_option linter.unusedVariables false
open Go.RowKit

theorem intsAt_list (w : World) (t : TypeId) (R : Nat → Int) (n : Nat) (cs : Array Value) (h : ∀ i, i < n → cs[i]? = some (.int .i64 (R i))) : IntsAt (w.alloc (.cells cs t)) (some ⟨w.heap.size, 0, none⟩) n R := fun _ => by
  refine ⟨_, 0, rfl, by simp, fun i hi => ?_⟩
  rw [Nat.zero_add]
  exact ((Blk.new w t cs).cell i).trans (h i hi)
def R4 (i : Nat) : Int := if i = 0 then 3 else if i = 1 then 254 else if i = 2 then 255 else 256
theorem r4_ok : AllOk R4 4 := fun i hi => by
  rcases (by omega : i = 0 ∨ i = 1 ∨ i = 2 ∨ i = 3) with rfl | rfl | rfl | rfl <;> exact ⟨by decide, by decide⟩
theorem r4_enc : encT R4 4 = [3, 254, 255, 0, 0, 0, 0, 0, 0, 0, 1, 255, 0, 0, 0, 0, 0, 0, 0, 2] := by decide +kernel
theorem put4 (w : World) (t : TypeId) : Calls Try.prog 8 #[.slice none 0 0, .slice (some ⟨w.heap.size, 0, none⟩) 4 4] (w.alloc (.cells #[.int .i64 3, .int .i64 254, .int .i64 255, .int .i64 256] t))
    fun e w' => ∃ v, e = .returned (.tuple #[v, .int .i64 0]) ∧ OwnB w' w.heap.size v [3, 254, 255, 0, 0, 0, 0, 0, 0, 0, 1, 255, 0, 0, 0, 0, 0, 0, 0, 2] ∧ Below w.heap.size w w' := by
  refine (put_a none 0 0 [] (some ⟨w.heap.size, 0, none⟩) 4 4 R4 _ ⟨rfl, BytesR.nil⟩ (fun _ => rfl) (Nat.le_refl _) (intsAt_list w t R4 4 _ ?_) (by omega)).mono ?_
  · intro i hi
    rcases (by omega : i = 0 ∨ i = 1 ∨ i = 2 ∨ i = 3) with rfl | rfl | rfl | rfl <;> rfl
  · rintro e w' ⟨⟨-, v, rfl, hO⟩ | ⟨hn, -⟩, hB⟩
    · refine ⟨v, rfl, ?_, below_lift ((Below.refl _ _).alloc (Nat.le_refl _) _) hB (by simp)⟩
      rw [List.nil_append, r4_enc] at hO
      exact hO.mono (by simp)
    · exact absurd r4_ok hn
theorem putbad (w : World) (t : TypeId) : Calls Try.prog 8 #[.slice none 0 0, .slice (some ⟨w.heap.size, 0, none⟩) 1 1] (w.alloc (.cells #[.int .i64 (-1)] t))
    fun e w' => e = .returned (.tuple #[.slice none 0 0, .int .i64 2]) ∧ Below w.heap.size w w' := by
  refine (put_a none 0 0 [] (some ⟨w.heap.size, 0, none⟩) 1 1 (fun _ => -1) _ ⟨rfl, BytesR.nil⟩ (fun _ => rfl) (Nat.le_refl _) (intsAt_new w t (-1)) (by omega)).mono ?_
  rintro e w' ⟨⟨ha, -⟩ | ⟨hn, rfl⟩, hB⟩
  · have h0 : (0 : Int) ≤ -1 := (ha 0 (by omega)).1
    omega
  · exact ⟨rfl, below_lift ((Below.refl _ _).alloc (Nat.le_refl _) _) hB (by simp)⟩
def sAB : ByteArray := ⟨#[97, 98]⟩
theorem putab (w : World) : Calls Try.prog 10 #[.slice none 0 0, .string { data := #[97, 98] }] w
    fun e w' => ∃ v, e = .returned (.tuple #[v, .int .i64 0]) ∧ OwnB w' w.heap.size v [2, 97, 98] ∧ Below w.heap.size w w' := by
  refine (text_a none 0 0 [] sAB w ⟨rfl, BytesR.nil⟩ (fun _ => rfl) (Nat.le_refl _) (by omega)).mono ?_
  rintro e w' ⟨⟨-, v, rfl, hO⟩ | ⟨hn, -⟩, hB⟩
  · refine ⟨v, rfl, ?_, hB⟩
    have e : ([] : List UInt8) ++ enc (sAB.size : Nat) ++ sbs sAB = [2, 97, 98] := by decide +kernel
    rw [e] at hO
    exact hO
  · exact absurd hn (by decide)
theorem own_eq (v : Value) (L : List UInt8) (w : World) (B n : Nat) (cs : Array Value) (t : TypeId) (h : OwnB w B v L) (hcs : cs.toList = bcs L) (hn : n = L.length) :
    Calls Try.prog 12 #[v, .slice (some ⟨w.heap.size, 0, none⟩) n n] (w.alloc (.cells cs t)) fun e w' => e = .returned (.bool true) ∧ Below w.heap.size w w' := by
  obtain ⟨A, c, rfl, h1, h2, h3, -⟩ := h.form
  refine (eq_c A L.length c L _ n n L _ ⟨rfl, h3.below ((Below.refl _ _).alloc (Nat.le_refl _) _)⟩ ⟨hn, bytesR_new hcs⟩).mono ?_
  rintro e w' ⟨rfl, rfl⟩
  exact ⟨by simp, (Below.refl _ _).alloc (Nat.le_refl _) _⟩
theorem eq_20 (v : Value) (w : World) (B : Nat) (t : TypeId) (h : OwnB w B v [3, 254, 255, 0, 0, 0, 0, 0, 0, 0, 1, 255, 0, 0, 0, 0, 0, 0, 0, 2]) :
    Calls Try.prog 12 #[v, .slice (some ⟨w.heap.size, 0, none⟩) 20 20] (w.alloc (.cells #[.int .u8 3, .int .u8 254, .int .u8 255, .int .u8 0, .int .u8 0, .int .u8 0, .int .u8 0, .int .u8 0, .int .u8 0, .int .u8 0, .int .u8 1, .int .u8 255, .int .u8 0, .int .u8 0, .int .u8 0, .int .u8 0, .int .u8 0, .int .u8 0, .int .u8 0, .int .u8 2] t)) fun e w' => e = .returned (.bool true) ∧ Below w.heap.size w w' := own_eq v _ w B 20 _ t h rfl rfl
theorem eq_3 (v : Value) (w : World) (B : Nat) (t : TypeId) (h : OwnB w B v [2, 97, 98]) :
    Calls Try.prog 12 #[v, .slice (some ⟨w.heap.size, 0, none⟩) 3 3] (w.alloc (.cells #[.int .u8 2, .int .u8 97, .int .u8 98] t)) fun e w' => e = .returned (.bool true) ∧ Below w.heap.size w w' := own_eq v _ w B 3 _ t h rfl rfl
theorem read4 (w : World) (t : TypeId) : Calls Try.prog 15 #[.slice (some ⟨w.heap.size, 0, none⟩) 4 4] (w.alloc (.cells #[.int .u8 2, .int .u8 97, .int .u8 98, .int .u8 7] t))
    fun e w' => ∃ g, e = .returned (.pointer (some ⟨g, 0, none⟩)) ∧ w.heap.size ≤ g ∧ RdE w' g [2, 97, 98, 7] 0 ∧ Below w.heap.size w w' := by
  refine (read_c _ 4 4 [2, 97, 98, 7] _ ⟨rfl, bytesR_new rfl⟩ (fun h => by cases h) (Nat.le_refl _) (by omega)).mono ?_
  rintro e w' ⟨rfl, hR, hB⟩
  exact ⟨_, rfl, by simp, hR, below_lift ((Below.refl _ _).alloc (Nat.le_refl _) _) hB (by simp)⟩
theorem text_ab (g : Nat) (w : World) (h : RdE w g [2, 97, 98, 7] 0) : Calls Try.prog 19 #[.pointer (some ⟨g, 0, none⟩), .int .i64 9] w
    fun e w' => e = .returned (.string { data := #[97, 98] }) ∧ RdE w' g [7] 0 ∧ Keeps (fun i => i = g) w w' :=
  (rtext_c g _ 9 w h).mono fun e w' ⟨h1, h2, h3⟩ => ⟨(by rw [h1, show txS [2, 97, 98, 7] 9 = [97, 98] by decide +kernel]; rfl), by
    have e1 : txL [2, 97, 98, 7] 9 = [7] := by decide +kernel
    have e2 : txE [2, 97, 98, 7] 9 = 0 := by decide +kernel
    rw [e1, e2] at h2; exact h2, h3⟩
theorem num_7 (g : Nat) (w : World) (h : RdE w g [7] 0) : Calls Try.prog 17 #[.pointer (some ⟨g, 0, none⟩), .int .i64 6] w
    fun e w' => e = .returned (.int .i64 0) ∧ RdE w' g [] 5 ∧ Keeps (fun i => i = g) w w' :=
  (num_c g _ 6 w h).mono fun e w' ⟨h1, h2, h3⟩ => ⟨(by rw [h1, show numV [7] 6 = 0 by decide +kernel]), by
    have e1 : numL [7] 6 = [] := by decide +kernel
    have e2 : numE [7] 6 = 5 := by decide +kernel
    rw [e1, e2] at h2; exact h2, h3⟩
theorem below_rd {B g : Nat} {a w w' : World} (h : Below B a w) (k : Keeps (fun i => i = g) w w') (hB : B ≤ w.heap.size) (hg : B ≤ g) : Below B a w' := Below.keeps h k hB (fun i hi => by omega)
set_option maxHeartbeats 400000 in
theorem works_c (w : World) : Calls Try.prog 13 #[] w fun e w' => e = .returned (.bool true) ∧ Below w.heap.size w w' := by
  go_enter Try.func13, Try.ntmps13
  go_wp2_with (first
    | (go_at_call 17; with_reducible refine (num_f g [] 9 5 _ hR8 (by omega)).mono ?_; rintro e w9 ⟨rfl, hb9⟩; have hB9 := below_lift hB8 hb9 hB8.size)
    | (go_at_call 18; with_reducible refine (err_c g [] 5 _ hR8).mono ?_; rintro e w8' ⟨rfl, rfl⟩)
    | (go_at_call 17; with_reducible refine (num_7 g _ hR7).mono ?_; rintro e w8 ⟨rfl, hR8, hk8⟩; have hB8 := below_rd hB7 hk8 hB7.size hgw)
    | (go_at_call 19; with_reducible refine (text_ab g _ hR6).mono ?_; rintro e w7 ⟨rfl, hR7, hk7⟩; have hB7 := below_rd hB6 hk7 hB6.size hgw)
    | (go_at_call 12; with_reducible refine (eq_3 vt _ _ _ hT5).mono ?_; rintro e w6 ⟨rfl, hb6⟩; have hB6 := below_lift hB5 hb6 hB5.size; have hR6 := hR5.below hb6)
    | (go_at_call 12; with_reducible refine (eq_20 va _ _ _ hO4).mono ?_; rintro e w5 ⟨rfl, hb5⟩; have hB5 := below_lift hB4 hb5 hB4.size; have hT5 := hT4.below hb5; have hR5 := hR.below hb5)
    | (go_at_call 15; with_reducible refine (read4 _ _).mono ?_; rintro e w4 ⟨g, rfl, hg, hR, hb4⟩; have hB4 := below_lift hB3 hb4 hB3.size; have hgw : w.heap.size ≤ g := Nat.le_trans hB3.size hg; have hO4 := hO3.below hb4; have hT4 := hT3.below hb4)
    | (go_at_call 8; with_reducible refine (putbad _ _).mono ?_; rintro e w3 ⟨rfl, hb3⟩; have hB3 := below_lift hB2 hb3 hB2.size; have hO3 := hO2.below hb3; have hT3 := hT2.below hb3)
    | (go_at_call 10; with_reducible refine (putab _).mono ?_; rintro e w2 ⟨vt, rfl, hT2, hb2⟩; have hB2 := below_lift hB1 hb2 hB1.size; have hO2 := hO1.below hb2)
    | (go_at_call 8; with_reducible refine (put4 _ _).mono ?_; rintro e w1 ⟨va, rfl, hO1, hB1⟩))
  go_ret
  exact ⟨rfl, hB9⟩
end Go.Proofs.Ytoknfbgbnjhgoaa
