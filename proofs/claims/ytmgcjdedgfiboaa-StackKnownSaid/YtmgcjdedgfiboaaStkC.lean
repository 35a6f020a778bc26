/- The program's stack: Held, Ceiling, New. -/
import Derived.Test.YtmgcjdedgfiboaaStkB
import Derived.Test.YtmgcjdedgfiboaaAppI
namespace Go.Proofs.Ytmgcjdedgfiboaa
set_option linter.unusedVariables false
open Go.RowKit

def heldE (E : List Ent) (t : Int) : List Int := (E.filter fun x => x.1 == t).map fun x => x.2
theorem heldE_take {E : List Ent} {k : Nat} {x : Ent} (t : Int) (h : E[k]? = some x) : heldE (E.take (k + 1)) t = heldE (E.take k) t ++ (if x.1 == t then [x.2] else []) := by
  unfold heldE
  rw [List.take_add_one, h]
  simp only [Option.toList_some, List.filter_append, List.map_append]
  congr 1
  by_cases e : x.1 == t
  · simp [e]
  · simp [e]
theorem heldE_len (E : List Ent) (t : Int) : (heldE E t).length ≤ E.length := by
  unfold heldE
  rw [List.length_map]
  exact List.length_filter_le _ _
theorem of_v (t : Int) (w : World) : Calls Try.prog 30 #[.int .i64 t] w fun e w' => e = .returned (ofV w.heap.size) ∧ w'.cell? ⟨w.heap.size, 0, none⟩ = some (.int .i64 t) ∧ w.heap.size < w'.heap.size ∧ Below w.heap.size w w' :=
  (of_c t w).mono fun e w' ⟨h1, h2⟩ => by
    subst h2
    exact ⟨h1, ((Blk.new w 3 #[.int .i64 t]).cell 0).trans rfl, by simp, (Below.refl _ _).alloc (Nat.le_refl _) _⟩
set_option maxHeartbeats 800000 in
theorem held_c {B s n tc : Nat} {w : World} {TA : Option Addr} {D : Nat → Nat → Int} {v : Value} {E : List Ent} (h : StA B w s TA n tc D v E) (t : Int) :
    Calls Try.prog 13 #[.pointer (some ⟨s, 0, none⟩), .int .i64 t] w fun e w' => ∃ u, e = .returned u ∧ OwnI w' w.heap.size u (heldE E t) ∧ Below w.heap.size w w' := by
  obtain ⟨A, c, rfl, c1, hR, -⟩ := h.ent
  have hl := h.len
  have HH := Lib.hid h
  have HR := Lib.hid hR
  have HO := Lib.hid (of_v t w)
  clear h hR
  unfold ofV at HO
  go_enter Try.func13, Try.ntmps13
  go_wp2_with (go_at_call 30; with_reducible refine HO.out.mono ?_; rintro e w1 ⟨rfl, hq, hql, hB0⟩; have c2 := (HH.out.below hB0).c1)
  have HR1 := Lib.hid (HR.out.below hB0)
  go_loopw [4, 17] (fun u y wr => ∃ k : Nat, k ≤ E.length ∧ y = .int .i64 k ∧ OwnI wr w1.heap.size u (heldE (E.take k) t) ∧ Below w1.heap.size w1 wr) (fun _ y _ => E.length - (intOf y).toNat)
  case atStart => exact ⟨0, by omega, rfl, by simpa [heldE] using OwnI.nil, Below.refl _ _⟩
  case round =>
    obtain ⟨k, hk, rfl, hO, hB⟩ := hrel
    by_cases hlt : (k : Int) < (E.length : Nat)
    · obtain ⟨x, hx⟩ : ∃ x, E[k]? = some x := ⟨_, List.getElem?_eq_getElem (by omega)⟩
      obtain ⟨b, off, rfl, hbl, hcc⟩ := HR1.out (by intro e; rw [e] at hx; cases hx)
      have hbe := hcc k x hx
      have d1 := (hB.cell (p := ⟨b, off + k * 2, none⟩) hbl).trans hbe.1
      have d2 := (hB.cell (p := ⟨b, off + k * 2 + 1, none⟩) hbl).trans hbe.2
      obtain ⟨y, hy⟩ : ∃ y, (x.1 == t) = y := ⟨_, rfl⟩
      have hH := heldE_take t hx
      rw [hy] at hH
      have hlt1 : Hid ((heldE (E.take k) t).length + 1 ≤ 10000000000000) := by
        have h1 := heldE_len (E.take k) t
        have h2 : (E.take k).length ≤ E.length := by simp; omega
        show (heldE (E.take k) t).length + 1 ≤ 10000000000000
        omega
      have hBx : Below wr.heap.size wr (wr.alloc (.cells #[.int .i64 x.1, .int .i64 x.2] 60)) := (Below.refl _ _).alloc (Nat.le_refl _) _
      have hB1 := below_lift hB hBx hB.size
      have hcl := of1_c w.heap.size x t _ ((hB1.cell (p := ⟨w.heap.size, 0, none⟩) hql).trans hq)
      rw [hy] at hcl
      have hO1 := hO.below hBx
      have hBe : Hid (Blk (wr.alloc (.cells #[.int .i64 x.1, .int .i64 x.2] 60)) wr.heap.size 60 #[.int .i64 x.1, .int .i64 x.2]) := Blk.new _ _ _
      have HC := Lib.hid hcl
      have HX := Lib.hid hH
      have HO1 := Lib.hid hO1
      clear hx hcc hbe hH hcl hy hO hBx hO1
      cases y with
      | true =>
        go_wp2_with (first
          | (go_at_call 44; with_reducible refine HC.out.mono ?_; rintro e w2 ⟨rfl, hb2⟩; have hB2 := below_lift hB1 hb2 hB1.size; have e2 := ((hBe.out.below hb2 hBe.out.lt).cell 1).trans (show _ = some (.int .i64 x.2) from rfl); have hO3 := HO1.out.below hb2)
          | (at_builtin; refine wpList_append_int rfl _ _ rfl rfl hO3 hB2 hB2.size x.2 rfl hlt1.out ?_; intro v4 w4 hO4 hg4 hf4 hB4))
        go_roundw
        case rel => exact ⟨k + 1, by omega, rfl, by rw [HX.out]; exact hO4, hB4⟩
        case measure => simp [intOf]; omega
      | false =>
        go_wp2_with (go_at_call 44; with_reducible refine HC.out.mono ?_; rintro e w2 ⟨rfl, hb2⟩; have hB2 := below_lift hB1 hb2 hB1.size; have hO3 := HO1.out.below hb2)
        go_roundw
        case rel => exact ⟨k + 1, by omega, rfl, by rw [HX.out]; simpa using hO3, hB2⟩
        case measure => simp [intOf]; omega
    · obtain rfl : E.length = k := by omega
      rw [List.take_length] at hO
      go_wp2_with fail
      go_ret
      exact ⟨_, rfl, hO.mono hB0.size, below_lift hB0 hB hB0.size⟩
/-- The ceiling of the resources that are locked. -/
def ceilE (n : Nat) (D : Nat → Nat → Int) (E : List Ent) : Int := E.foldl (fun m x => max m (ceil D n x.2)) 0
theorem ceilE_take {n : Nat} {D : Nat → Nat → Int} {E : List Ent} {k : Nat} {x : Ent} (h : E[k]? = some x) : ceilE n D (E.take (k + 1)) = max (ceilE n D (E.take k)) (ceil D n x.2) := by
  unfold ceilE
  rw [List.take_add_one, h, List.foldl_append]
  rfl
set_option maxHeartbeats 800000 in
theorem ceiling_c {B s n tc : Nat} {w : World} {TA : Option Addr} {D : Nat → Nat → Int} {v : Value} {E : List Ent} (h : StA B w s TA n tc D v E) :
    Calls Try.prog 15 #[.pointer (some ⟨s, 0, none⟩)] w fun e w' => e = .returned (.int .i64 (ceilE n D E)) ∧ Below w.heap.size w w' := by
  obtain ⟨A, c, rfl, c1, hR, -⟩ := h.ent
  have hl := h.len
  have hn := h.n4
  have HH := Lib.hid h
  have HR := Lib.hid hR
  clear h hR
  go_enter Try.func15, Try.ntmps15
  go_wp2_with fail
  go_loopw [2, 12] (fun u y wr => ∃ k : Nat, k ≤ E.length ∧ y = .int .i64 k ∧ u = .int .i64 (ceilE n D (E.take k)) ∧ Below w.heap.size w wr) (fun _ y _ => E.length - (intOf y).toNat)
  case atStart => exact ⟨0, by omega, rfl, rfl, Below.refl _ _⟩
  case round =>
    obtain ⟨k, hk, rfl, rfl, hB⟩ := hrel
    by_cases hlt : (k : Int) < (E.length : Nat)
    · obtain ⟨x, hx⟩ : ∃ x, E[k]? = some x := ⟨_, List.getElem?_eq_getElem (by omega)⟩
      obtain ⟨b, off, rfl, hbl, hcc⟩ := HR.out (by intro e; rw [e] at hx; cases hx)
      have hbe := hcc k x hx
      have d1 := (hB.cell (p := ⟨b, off + k * 2, none⟩) hbl).trans hbe.1
      have d2 := (hB.cell (p := ⟨b, off + k * 2 + 1, none⟩) hbl).trans hbe.2
      have HX := Lib.hid (ceilE_take (n := n) (D := D) hx)
      obtain ⟨z, hz⟩ : ∃ z, ceilE n D (E.take k) = z := ⟨_, rfl⟩
      have hBx : Below w.heap.size w (wr.alloc (.cells #[.int .i64 x.1, .int .i64 x.2] 60)) := hB.alloc hB.size _
      have hS2 := HH.out.below hBx.drew
      have s0 := hS2.c0
      have e1 : (wr.alloc (.cells #[.int .i64 x.1, .int .i64 x.2] 60)).drew.cell? ⟨wr.heap.size, 1, none⟩ = some (.int .i64 x.2) := ((Blk.new wr 60 #[.int .i64 x.1, .int .i64 x.2]).cell 1).trans rfl
      have hlx : wr.heap.size < (wr.alloc (.cells #[.int .i64 x.1, .int .i64 x.2] 60)).drew.heap.size := (Blk.new wr 60 #[.int .i64 x.1, .int .i64 x.2]).lt
      have HC := Lib.hid (ceil_a TA n tc D x.2 _ (by omega) hS2.tasks)
      obtain ⟨cv, hcv⟩ : ∃ cv, ceil D n x.2 = cv := ⟨_, rfl⟩
      rw [hcv] at HC HX
      rw [hz] at HX ⊢
      have HBx := Lib.hid hBx
      clear hx hcc hbe hz hS2 hcv hBx
      go_wp2_with fail
      go_region_held3 (fun w' => w'.cell? ⟨s, 0, none⟩ = some (.slice TA n tc) ∧ w'.cell? ⟨wr.heap.size, 1, none⟩ = some (.int .i64 x.2)) (go_keep)
        (first | (go_at_call 31; with_reducible refine HC.out.mono ?_; rintro e w8 ⟨rfl, hb8⟩; have hB8 := below_lift HBx.out.drew hb8 HBx.out.drew.size; have s8 : w8.cell? ⟨s, 0, none⟩ = some (.slice TA n tc) := (HH.out.below hB8).c0; have e8 : w8.cell? ⟨wr.heap.size, 1, none⟩ = some (.int .i64 x.2) := (hb8.cell (p := ⟨wr.heap.size, 1, none⟩) hlx).trans e1; clear s0 e1))
      go_wp2
      go_roundw
      case rel => exact ⟨k + 1, by omega, rfl, by rw [HX.out]; first | rfl | rw [max_form], hB8⟩
      case measure => simp [intOf]; omega
    · obtain rfl : E.length = k := by omega
      rw [List.take_length]
      go_wp2_with fail
      go_ret
      exact ⟨rfl, hB⟩
end Go.Proofs.Ytmgcjdedgfiboaa
