/- The program's job: what it is in memory; the methods that only read. -/
import Derived.Test.YtomadlopljfcmaaRowS
import Derived.BigQuiet
import Derived.Deep.RegionHeld3
namespace Go.Proofs.Ytomadlopljfcmaa
set_option linter.unusedVariables false
open Go.RowKit

structure TV where
  p : Int
  d : Int
  b : Int
  ls : Int
  l : Int
  g : Int
  lg : Int
  lk : Int
def tCells (t : TV) : Array Value := #[.int .i64 t.p, .int .i64 t.d, .int .i64 t.b, .int .i64 t.ls, .int .i64 t.l, .int .i64 t.g, .int .i64 t.lg, .int .i64 t.lk]
structure JV where
  t : TV
  ends : Int
  ran : Int
  sec : Int
  tk : Int
  tkn : Int
  beg : Bool
def jCells (r : Value) (x : JV) : Array Value := #[r, .int .i64 x.t.p, .int .i64 x.t.d, .int .i64 x.t.b, .int .i64 x.t.ls, .int .i64 x.t.l, .int .i64 x.t.g, .int .i64 x.t.lg, .int .i64 x.t.lk, .int .i64 x.ends, .int .i64 x.ran, .int .i64 x.sec, .int .i64 x.tk, .int .i64 x.tkn, .bool x.beg]
/-- A job's own block. -/
def JB (w : World) (j g : Nat) (x : JV) : Prop := Blk w j 42 (jCells (.pointer (some ⟨g, 0, none⟩)) x)
theorem jnone_c (j g : Nat) (x : JV) (w : World) (h : JB w j g x) :
    Calls Try.prog 30 #[.pointer (some ⟨j, 0, none⟩)] w fun e w' => e = .returned (.bool false) ∧ w = w' := by
  have c0 : w.cell? ⟨j, 0, none⟩ = some (.pointer (some ⟨g, 0, none⟩)) := (h.cell 0).trans rfl
  go_enter Try.func30, Try.ntmps30
  go_wp2
  go_ret
  exact ⟨rfl, rfl⟩
theorem deadline_c (j g : Nat) (x : JV) (w : World) (h : JB w j g x) :
    Calls Try.prog 15 #[.pointer (some ⟨j, 0, none⟩)] w fun e w' => e = .returned (.int .i64 x.ends) ∧ w = w' := by
  have c9 : w.cell? ⟨j, 9, none⟩ = some (.int .i64 x.ends) := (h.cell 9).trans rfl
  go_enter Try.func15, Try.ntmps15
  go_wp2_with (go_at_call 30; with_reducible refine (jnone_c j g x _ h).mono ?_; rintro e w1 ⟨rfl, rfl⟩)
  go_ret
  exact ⟨rfl, rfl⟩
theorem jran_c (j g : Nat) (x : JV) (w : World) (h : JB w j g x) :
    Calls Try.prog 16 #[.pointer (some ⟨j, 0, none⟩)] w fun e w' => e = .returned (.int .i64 x.ran) ∧ w = w' := by
  have c9 : w.cell? ⟨j, 10, none⟩ = some (.int .i64 x.ran) := (h.cell 10).trans rfl
  go_enter Try.func16, Try.ntmps16
  go_wp2_with (go_at_call 30; with_reducible refine (jnone_c j g x _ h).mono ?_; rintro e w1 ⟨rfl, rfl⟩)
  go_ret
  exact ⟨rfl, rfl⟩
theorem takes_c (j g : Nat) (x : JV) (w : World) (h : JB w j g x) :
    Calls Try.prog 17 #[.pointer (some ⟨j, 0, none⟩)] w fun e w' => e = .returned (.int .i64 x.tkn) ∧ w = w' := by
  have c9 : w.cell? ⟨j, 13, none⟩ = some (.int .i64 x.tkn) := (h.cell 13).trans rfl
  go_enter Try.func17, Try.ntmps17
  go_wp2_with (go_at_call 30; with_reducible refine (jnone_c j g x _ h).mono ?_; rintro e w1 ⟨rfl, rfl⟩)
  go_ret
  exact ⟨rfl, rfl⟩
theorem begun_c (j g : Nat) (x : JV) (w : World) (h : JB w j g x) :
    Calls Try.prog 10 #[.pointer (some ⟨j, 0, none⟩)] w fun e w' => e = .returned (.bool x.beg) ∧ w = w' := by
  have c9 : w.cell? ⟨j, 14, none⟩ = some (.bool x.beg) := (h.cell 14).trans rfl
  go_enter Try.func10, Try.ntmps10
  go_wp2_with (go_at_call 30; with_reducible refine (jnone_c j g x _ h).mono ?_; rintro e w1 ⟨rfl, rfl⟩)
  go_ret
  exact ⟨rfl, rfl⟩
theorem in_c (j g : Nat) (x : JV) (w : World) (h : JB w j g x) :
    Calls Try.prog 14 #[.pointer (some ⟨j, 0, none⟩)] w fun e w' => e = .returned (.tuple #[.int .i64 x.sec, .int .i64 x.tk]) ∧ Below w.heap.size w w' := by
  have c8 : w.cell? ⟨j, 11, none⟩ = some (.int .i64 x.sec) := (h.cell 11).trans rfl
  have c9 : w.cell? ⟨j, 12, none⟩ = some (.int .i64 x.tk) := (h.cell 12).trans rfl
  go_enter Try.func14, Try.ntmps14
  go_wp2_with (go_at_call 30; with_reducible refine (jnone_c j g x _ h).mono ?_; rintro e w1 ⟨rfl, rfl⟩)
  go_quiet (fail)
  go_wp2
  go_ret2
  exact ⟨rfl, below_drewN (Below.refl _ _) _⟩
/-- A job in memory, from block B on. -/
structure JobS (B : Nat) (w : World) (j g b : Nat) (x : JV) (L : List OpV) : Prop where
  blk : JB w j g x
  row : Std B w g b L
  jB : B ≤ j
  d : ¬ two g b j
def tri (j g b : Nat) (i : Nat) : Prop := i = j ∨ two g b i
section
variable {B j g b : Nat} {x : JV} {L : List OpV} {w0 w w' : World}
theorem JobS.below (h : JobS B w j g b x L) (k : Below w.heap.size w w') : JobS B w' j g b x L := ⟨Blk.below h.blk k (Blk.lt h.blk), h.row.below k, h.jB, h.d⟩
theorem JobS.alloc (h : JobS B w j g b x L) (o : Obj) : JobS B (w.alloc o) j g b x L := h.below ((Below.refl _ _).alloc (Nat.le_refl _) _)
theorem JobS.hs (h : JobS B w j g b x L) : B ≤ w.heap.size := h.row.hs
end
theorem jdone_c (B j g b : Nat) (x : JV) (L : List OpV) (w : World) (h : JobS B w j g b x L) :
    Calls Try.prog 18 #[.pointer (some ⟨j, 0, none⟩)] w fun e w' => e = .returned (.bool L.isEmpty) ∧ Below w.heap.size w w' := by
  have c0 : w.cell? ⟨j, 0, none⟩ = some (.pointer (some ⟨g, 0, none⟩)) := (Blk.cell h.blk 0).trans rfl
  have HH := Lib.hid h
  clear h
  go_enter Try.func18, Try.ntmps18
  go_wp2_with (first
    | (go_at_call 30; with_reducible refine (jnone_c j g x _ HH.out.blk).mono ?_; rintro e w1 ⟨rfl, rfl⟩)
    | (go_at_call 36; with_reducible refine (done_a g b L _ HH.out.row.row).mono ?_; rintro e w1 ⟨rfl, hb⟩))
  go_ret
  exact ⟨rfl, hb⟩
theorem jnext_c (B j g b : Nat) (x : JV) (L : List OpV) (w : World) (h : JobS B w j g b x L) :
    Calls Try.prog 13 #[.pointer (some ⟨j, 0, none⟩)] w fun e w' => e = .returned (.tuple #[opV (headOf L), .bool (!L.isEmpty)]) ∧ Below w.heap.size w w' := by
  have hW := h.alloc (.cells #[.int .i64 0, .int .i64 0, .string { data := #[] }] 29)
  have c0 : (w.alloc (.cells #[.int .i64 0, .int .i64 0, .string { data := #[] }] 29)).cell? ⟨j, 0, none⟩ = some (.pointer (some ⟨g, 0, none⟩)) := (Blk.cell hW.blk 0).trans rfl
  have hN : Calls Try.prog 35 #[.pointer (some ⟨g, 0, none⟩)] (w.alloc (.cells #[.int .i64 0, .int .i64 0, .string { data := #[] }] 29)) fun e w' => e = .returned (.tuple #[.agg #[.int .i64 (headOf L).k, .int .i64 (headOf L).n, .string (headOf L).s], .bool (!L.isEmpty)]) ∧ Below (w.alloc (.cells #[.int .i64 0, .int .i64 0, .string { data := #[] }] 29)).heap.size (w.alloc (.cells #[.int .i64 0, .int .i64 0, .string { data := #[] }] 29)) w' := next_a g b L _ hW.row.row
  have HB := hW.blk
  have hlt : w.heap.size < (w.alloc (.cells #[.int .i64 0, .int .i64 0, .string { data := #[] }] 29)).heap.size := by simp
  have hA := Blk.new w 29 #[.int .i64 0, .int .i64 0, .string { data := #[] }]
  obtain ⟨y, hy⟩ : ∃ y, headOf L = y := ⟨_, rfl⟩
  obtain ⟨is, his⟩ : ∃ y, (!L.isEmpty) = y := ⟨_, rfl⟩
  rw [hy, his] at hN
  rw [hy, his]
  clear h hW hy his
  go_enter Try.func13, Try.ntmps13
  go_wp2_with (first
    | (go_at_call 30; with_reducible refine (jnone_c j g x _ HB).mono ?_; rintro e w1 ⟨rfl, rfl⟩)
    | (go_at_call 35; with_reducible refine hN.mono ?_; rintro e w1 ⟨rfl, hb⟩; have hA1 := hA.below hb hlt; have a0 : w1.cell? ⟨w.heap.size, 0, none⟩ = some (.int .i64 0) := (hA1.cell 0).trans rfl; have a1 : w1.cell? ⟨w.heap.size, 1, none⟩ = some (.int .i64 0) := (hA1.cell 1).trans rfl; have a2 : w1.cell? ⟨w.heap.size, 2, none⟩ = some (.string { data := #[] }) := (hA1.cell 2).trans rfl; have f0 := hA1.frozen 0; have f1 := hA1.frozen 1; have f2 := hA1.frozen 2))
  have hA2 := ((hA1.set_ 0 (.int .i64 y.k)).set_ 1 (.int .i64 y.n)).set_ 2 (.string y.s)
  have d0 := hA2.cell 0
  have d1 := hA2.cell 1
  have d2 := hA2.cell 2
  refine bodyPost_ret (v := .tuple #[opV y, .bool is]) (by simp [results, Try.results13, go_sem, opV, d0, d1, d2] <;> rfl) rfl ⟨rfl, ?_⟩
  exact (((below_lift ((Below.refl _ _).alloc (Nat.le_refl _) _) hb (Nat.le_of_lt hlt)).setCell (Nat.le_refl _) _).setCell (Nat.le_refl _) _).setCell (Nat.le_refl _) _
end Go.Proofs.Ytomadlopljfcmaa
