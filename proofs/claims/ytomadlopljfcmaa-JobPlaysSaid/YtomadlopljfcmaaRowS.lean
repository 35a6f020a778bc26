/- The program's row as a caller sees it: one word for its memory, one contract for each method. -/
import Derived.Test.YtomadlopljfcmaaRowC
namespace Go.Proofs.Ytomadlopljfcmaa
set_option linter.unusedVariables false
open Go.RowKit

/-- A row of the program, in memory from block B on. -/
structure Std (B : Nat) (w : World) (g b : Nat) (L : List OpV) : Prop where
  row : RowA w g b L
  ok : OkRow L
  gB : B ≤ g
  bB : B ≤ b
  gl : g < w.heap.size
  bl : b < w.heap.size
section
variable {B g b : Nat} {L : List OpV} {w0 w w' : World}
theorem Std.alloc (h : Std B w g b L) (o : Obj) : Std B (w.alloc o) g b L :=
  ⟨h.row.keep (Below.heap_alloc _ _ _ h.gl) (Below.heap_alloc _ _ _ h.bl), h.ok, h.gB, h.bB, by have := h.gl; simp; omega, by have := h.bl; simp; omega⟩
theorem Std.setCell (h : Std B w g b L) {p : Addr} (h1 : g ≠ p.block) (h2 : b ≠ p.block) (u : Value) : Std B (w.setCell p u) g b L :=
  ⟨h.row.keep (Below.heap_setCell _ _ _ _ h1) (Below.heap_setCell _ _ _ _ h2), h.ok, h.gB, h.bB, by have := h.gl; simpa [World.setCell] using this, by have := h.bl; simpa [World.setCell] using this⟩
theorem Std.drew (h : Std B w g b L) : Std B w.drew g b L := ⟨h.row, h.ok, h.gB, h.bB, h.gl, h.bl⟩
theorem Std.drewN (h : Std B w g b L) (n : Nat) : Std B (w.drewN n) g b L := ⟨h.row, h.ok, h.gB, h.bB, h.gl, h.bl⟩
theorem Std.below (h : Std B w g b L) (k : Below w.heap.size w w') : Std B w' g b L :=
  ⟨h.row.keep (k.block _ h.gl) (k.block _ h.bl), h.ok, h.gB, h.bB, Nat.lt_of_lt_of_le h.gl k.size, Nat.lt_of_lt_of_le h.bl k.size⟩
theorem Std.keeps {S : Nat → Prop} (h : Std B w g b L) (k : Keeps S w w') (h1 : ¬ S g) (h2 : ¬ S b) : Std B w' g b L :=
  ⟨h.row.keep (k.block _ h.gl h1) (k.block _ h.bl h2), h.ok, h.gB, h.bB, Nat.lt_of_lt_of_le h.gl k.size, Nat.lt_of_lt_of_le h.bl k.size⟩
theorem Std.turn (h : Std B w g b L) {L' : List OpV} (hR : RowA w' g b L') (ho : OkRow L') (hK : Keeps (two g b) w w') : Std B w' g b L' :=
  ⟨hR, ho, h.gB, h.bB, Nat.lt_of_lt_of_le h.gl hK.size, Nat.lt_of_lt_of_le h.bl hK.size⟩
theorem Std.bel (h : Std B w g b L) (hB : Below B w0 w) (hs : B ≤ w.heap.size) (hK : Keeps (two g b) w w') : Below B w0 w' :=
  Below.keeps hB hK hs (fun i hi => by
    have := h.gB; have := h.bB
    rcases hi with rfl | rfl <;> assumption)
theorem Std.hs (h : Std B w g b L) : B ≤ w.heap.size := by have := h.gB; have := h.gl; omega
theorem ok_did (h : OkRow L) : OkRow (didL L) := by
  cases L with
  | nil => exact h
  | cons x L =>
    by_cases hk : x.k = 1
    · rw [show didL (x :: L) = x :: L from if_pos hk]; exact h
    · rw [show didL (x :: L) = L from if_neg hk]; exact h.tail
theorem ok_ran (h : OkRow L) : OkRow (ranL L) := by
  cases L with
  | nil => exact h
  | cons x L =>
    by_cases hk : x.k = 1
    · by_cases hz : x.n - 1 = 0
      · rw [show ranL (x :: L) = L by simp only [ranL]; rw [if_pos hk, if_pos hz]]; exact h.tail
      · rw [show ranL (x :: L) = { x with n := x.n - 1 } :: L by simp only [ranL]; rw [if_pos hk, if_neg hz]]
        refine ⟨h.1, fun y hy => ?_⟩
        rcases List.mem_cons.1 hy with rfl | hy
        · exact ok_less x h.head hk hz
        · exact h.2 y (by simp [hy])
    · rw [show ranL (x :: L) = x :: L from if_neg hk]; exact h
theorem next_s (h : Std B w g b L) (hB : Below B w0 w) {x : OpV} {is : Bool} (hx : headOf L = x) (hi : (!L.isEmpty) = is) :
    Calls Try.prog 35 #[.pointer (some ⟨g, 0, none⟩)] w fun e w' => e = .returned (.tuple #[.agg #[.int .i64 x.k, .int .i64 x.n, .string x.s], .bool is]) ∧ Std B w' g b L ∧ Below B w0 w' ∧ Keeps (two g b) w w' :=
  (next_a g b L w h.row).mono fun e w' ⟨he, hb⟩ => ⟨by rw [he, hx, hi]; rfl, h.below hb, below_lift hB hb h.hs, Keeps.of_below hb⟩
theorem done_s (h : Std B w g b L) (hB : Below B w0 w) {is : Bool} (hi : L.isEmpty = is) :
    Calls Try.prog 36 #[.pointer (some ⟨g, 0, none⟩)] w fun e w' => e = .returned (.bool is) ∧ Std B w' g b L ∧ Below B w0 w' ∧ Keeps (two g b) w w' :=
  (done_a g b L w h.row).mono fun e w' ⟨he, hb⟩ => ⟨by rw [he, hi], h.below hb, below_lift hB hb h.hs, Keeps.of_below hb⟩
theorem left_s (h : Std B w g b L) (hB : Below B w0 w) {v : Int} (hv : leftOf L = v) :
    Calls Try.prog 32 #[.pointer (some ⟨g, 0, none⟩)] w fun e w' => e = .returned (.int .i64 v) ∧ Std B w' g b L ∧ Below B w0 w' ∧ Keeps (two g b) w w' :=
  (left_a g b L w h.row h.ok).mono fun e w' ⟨he, hb⟩ => ⟨by rw [he, hv], h.below hb, below_lift hB hb h.hs, Keeps.of_below hb⟩
theorem did_s (h : Std B w g b L) (hB : Below B w0 w) {v : Int} {L' : List OpV} (hv : didE L = v) (hl : didL L = L') :
    Calls Try.prog 31 #[.pointer (some ⟨g, 0, none⟩)] w fun e w' => e = .returned (.int .i64 v) ∧ Std B w' g b L' ∧ Below B w0 w' ∧ Keeps (two g b) w w' :=
  (did_a g b L w h.row h.ok.1).mono fun e w' ⟨he, hR, hK⟩ => ⟨by rw [he, hv], hl ▸ h.turn hR (ok_did h.ok) hK, h.bel hB h.hs hK, hK⟩
theorem ran_s (h : Std B w g b L) (hB : Below B w0 w) {v : Int} {L' : List OpV} (hv : ranE L = v) (hl : ranL L = L') :
    Calls Try.prog 34 #[.pointer (some ⟨g, 0, none⟩)] w fun e w' => e = .returned (.int .i64 v) ∧ Std B w' g b L' ∧ Below B w0 w' ∧ Keeps (two g b) w w' :=
  (ran_a g b L w h.row h.ok).mono fun e w' ⟨he, hR, hK⟩ => ⟨by rw [he, hv], hl ▸ h.turn hR (ok_ran h.ok) hK, h.bel hB h.hs hK, hK⟩
theorem new_s {A : Option Addr} {c : Nat} (h : OpsR w A L) (hA : A = none → c = 0) (he : newE L = 0) (hB : Below B w0 w) (hs : B ≤ w.heap.size) :
    Calls Try.prog 29 #[.slice A L.length c] w fun e w' => ∃ g b, e = .returned (.tuple #[.pointer (some ⟨g, 0, none⟩), .int .i64 0]) ∧ Std B w' g b L ∧ Below B w0 w' ∧ Below w.heap.size w w' ∧ w.heap.size ≤ g ∧ w.heap.size ≤ b :=
  (new_a A c L w h hA he).mono fun e w' ⟨g, b, h1, h2, h3, h4, h5, h6, h7⟩ => ⟨g, b, h1, ⟨h2, newE_ok L he, by omega, by omega, h5, h6⟩, below_lift hB h7 hs, h7, h3, h4⟩
theorem newbad_s {A : Option Addr} {c : Nat} (hl : L.length ≤ 65536) (h : OpsR w A L) {v : Int} (hv : newE L = v) (he : v ≠ 0) (hB : Below B w0 w) (hs : B ≤ w.heap.size) :
    Calls Try.prog 29 #[.slice A L.length c] w fun e w' => e = .returned (.tuple #[.pointer none, .int .i64 v]) ∧ Below B w0 w' ∧ Below w.heap.size w w' :=
  (new_bad A c L w hl h (by rw [hv]; exact he)).mono fun e w' ⟨h1, h7⟩ => ⟨by rw [h1, hv], below_lift hB h7 hs, h7⟩
end
/-- Acts in a block that was made last. -/
theorem opsR_new {w : World} {cs : Array Value} {t : TypeId} {L : List OpV} (h : cs.toList = opCells L) : OpsR (w.alloc (.cells cs t)) (some ⟨w.heap.size, 0, none⟩) L := fun _ => by
  refine ⟨_, 0, rfl, by simp, fun i x hi => ?_⟩
  obtain ⟨e0, e1, e2⟩ := opCells_get L i x hi
  have hb := Blk.new w t cs
  have hc : ∀ j, cs[j]? = (opCells L)[j]? := fun j => by rw [← h]; exact Array.getElem?_toList.symm
  refine ⟨?_, ?_, ?_⟩
  · rw [hb.cell, hc]; simpa using e0
  · rw [hb.cell, hc, show 0 + i * 3 + 1 = i * 3 + 1 by omega]; exact e1
  · rw [hb.cell, hc, show 0 + i * 3 + 2 = i * 3 + 2 by omega]; exact e2
end Go.Proofs.Ytomadlopljfcmaa
