/- The program's stack in memory; its closures; the methods that only read. -/
import Derived.Test.YtmgcjdedgfiboaaStkA
namespace Go.Proofs.Ytmgcjdedgfiboaa
set_option linter.unusedVariables false
open Go.RowKit

theorem ret_two {n m : Int} {b c : Bool} (h : n = m) (k : b = c) : Ending.returned (.tuple #[.int .i64 n, .bool b]) = .returned (.tuple #[.int .i64 m, .bool c]) := by rw [h, k]
theorem ret_two' {n m p q : Int} (h : n = m) (k : p = q) : Ending.returned (.tuple #[.int .i64 n, .int .i64 p]) = .returned (.tuple #[.int .i64 m, .int .i64 q]) := by rw [h, k]
def sCells (TA : Option Addr) (n tc : Nat) (v : Value) : Array Value := #[.slice TA n tc, v, .bool true]
/-- The program's stack: tasks D, entries E. -/
structure StA (B : Nat) (w : World) (s : Nat) (TA : Option Addr) (n tc : Nat) (D : Nat → Nat → Int) (v : Value) (E : List Ent) : Prop where
  blk : Blk w s 57 (sCells TA n tc v)
  sB : B ≤ s
  own : EntS w B v E
  len : E.length ≤ 100000
  n4 : n ≤ 4
  tasks : TasksAt w TA n D
  tb : ∀ a, TA = some a → ∃ cs, B ≤ a.block ∧ Blk w a.block 48 cs
/-- What a call may write. -/
def sfoot (s : Nat) (v : Value) (b : Nat) : Prop := b = s ∨ v.ownBlock = some b
section
variable {B s n tc : Nat} {w w' w0 : World} {TA : Option Addr} {D : Nat → Nat → Int} {v : Value} {E : List Ent}
theorem StA.below (h : StA B w s TA n tc D v E) (k : Below w.heap.size w w') : StA B w' s TA n tc D v E :=
  ⟨h.blk.below k h.blk.lt, h.sB, h.own.below k, h.len, h.n4, h.tasks.below k, fun a ha => by
    obtain ⟨cs, h1, h2⟩ := h.tb a ha
    exact ⟨cs, h1, h2.below k h2.lt⟩⟩
theorem StA.drewN (h : StA B w s TA n tc D v E) (k : Nat) : StA B (w.drewN k) s TA n tc D v E := h.below (below_drewN (Below.refl _ _) _)
theorem StA.hs (h : StA B w s TA n tc D v E) : B ≤ w.heap.size := Nat.le_trans h.sB (Nat.le_of_lt h.blk.lt)
theorem StA.footB (h : StA B w s TA n tc D v E) : ∀ b, sfoot s v b → B ≤ b ∧ b < w.heap.size := by
  intro b hb
  rcases hb with rfl | hb
  · exact ⟨h.sB, h.blk.lt⟩
  · exact ⟨(h.own.lt b hb).1, (h.own.lt b hb).2.1⟩
theorem StA.c0 (h : StA B w s TA n tc D v E) : w.cell? ⟨s, 0, none⟩ = some (.slice TA n tc) := (h.blk.cell 0).trans rfl
theorem StA.c1 (h : StA B w s TA n tc D v E) : w.cell? ⟨s, 1, none⟩ = some v := (h.blk.cell 1).trans rfl
theorem StA.c2 (h : StA B w s TA n tc D v E) : w.cell? ⟨s, 2, none⟩ = some (.bool true) := (h.blk.cell 2).trans rfl
/-- The entries' slice. -/
theorem StA.ent (h : StA B w s TA n tc D v E) : ∃ A c, v = .slice A E.length c ∧ w.cell? ⟨s, 1, none⟩ = some (.slice A E.length c) ∧ EntR w A E ∧ (A = none → c = 0) ∧ E.length ≤ c := by
  obtain ⟨A, c, rfl, h1, h2, h3, -⟩ := h.own.form
  exact ⟨A, c, rfl, h.c1, h3, h2, h1⟩
end
/-- of: the closure. -/
def ofV (q : Nat) : Value := .func (.func 44) #[] #[.pointer (some ⟨q, 0, none⟩)]
theorem of_c (t : Int) (w : World) : Calls Try.prog 30 #[.int .i64 t] w fun e w' => e = .returned (ofV w.heap.size) ∧ w' = w.alloc (.cells #[.int .i64 t] 3) := by
  unfold ofV
  go_enter Try.func30, Try.ntmps30
  go_wp2
  go_ret
  exact ⟨rfl, rfl⟩
theorem of1_c (q : Nat) (x : Ent) (t : Int) (w : World) (h : w.cell? ⟨q, 0, none⟩ = some (.int .i64 t)) :
    Calls Try.prog 44 #[.agg #[.int .i64 x.1, .int .i64 x.2], .pointer (some ⟨q, 0, none⟩)] w fun e w' => e = .returned (.bool (x.1 == t)) ∧ Below w.heap.size w w' := by
  have hlt : q < w.heap.size := by
    rcases Nat.lt_or_ge q w.heap.size with hlt | hge
    · exact hlt
    · unfold World.cell? at h
      rw [Array.getElem?_eq_none hge] at h
      cases h
  have hB : Below w.heap.size w (w.alloc (.cells #[.int .i64 x.1, .int .i64 x.2] 60)) := (Below.refl _ _).alloc (Nat.le_refl _) _
  have h2 := (hB.cell (p := ⟨q, 0, none⟩) hlt).trans h
  go_enter Try.func44, Try.ntmps44
  go_wp2
  go_ret
  exact ⟨rfl, hB⟩
def lockV (q : Nat) : Value := .func (.func 27) #[] #[.pointer (some ⟨q, 0, none⟩)]
theorem lock1_c (q : Nat) (x : Ent) (r : Int) (w : World) (h : w.cell? ⟨q, 0, none⟩ = some (.int .i64 r)) :
    Calls Try.prog 27 #[.agg #[.int .i64 x.1, .int .i64 x.2], .pointer (some ⟨q, 0, none⟩)] w fun e w' => e = .returned (.bool (x.2 == r)) ∧ Below w.heap.size w w' := by
  have hlt : q < w.heap.size := by
    rcases Nat.lt_or_ge q w.heap.size with hlt | hge
    · exact hlt
    · unfold World.cell? at h
      rw [Array.getElem?_eq_none hge] at h
      cases h
  have hB : Below w.heap.size w (w.alloc (.cells #[.int .i64 x.1, .int .i64 x.2] 60)) := (Below.refl _ _).alloc (Nat.le_refl _) _
  have h2 := (hB.cell (p := ⟨q, 0, none⟩) hlt).trans h
  go_enter Try.func27, Try.ntmps27
  go_wp2
  go_ret
  exact ⟨rfl, hB⟩
def lockedB (E : List Ent) (r : Int) : Bool := E.any fun x => x.2 == r
theorem lockedB_take {E : List Ent} {k : Nat} {x : Ent} (r : Int) (h : E[k]? = some x) : lockedB (E.take (k + 1)) r = (lockedB (E.take k) r || (x.2 == r)) := by
  unfold lockedB
  rw [List.take_add_one, h, List.any_append]
  simp
theorem indexe_c (A : Option Addr) (c q : Nat) (E : List Ent) (r : Int) (w : World) (h : EntR w A E) (hm : E.length ≤ 1000000) (hq : w.cell? ⟨q, 0, none⟩ = some (.int .i64 r)) (hql : q < w.heap.size) :
    Calls Try.prog 42 #[.slice A E.length c, lockV q] w fun e w' => ∃ z, e = .returned (.int .i64 z) ∧ decide (0 ≤ z) = lockedB E r ∧ Below w.heap.size w w' := by
  have HR := Lib.hid h
  clear h
  unfold lockV
  go_enter Try.func42, Try.ntmps42
  go_wp2
  go_loopw [8] (fun x wr => ∃ k : Nat, x = .int .i64 k ∧ Hid (k ≤ E.length ∧ lockedB (E.take k) r = false) ∧ Below w.heap.size w wr) (fun x _ => E.length - (intOf x).toNat)
  case atStart => exact ⟨0, rfl, Lib.hid ⟨Nat.zero_le _, by simp [lockedB]⟩, Below.refl _ _⟩
  case round =>
    obtain ⟨k, rfl, HK, hB⟩ := hrel
    have hq2 := (hB.cell (p := ⟨q, 0, none⟩) hql).trans hq
    by_cases hlt : k < E.length
    · obtain ⟨x, hx⟩ : ∃ x, E[k]? = some x := ⟨_, List.getElem?_eq_getElem hlt⟩
      obtain ⟨b, off, rfl, hbl, hc⟩ := (HR.out.below hB) (by intro e; rw [e] at hx; cases hx)
      obtain ⟨d1, d2⟩ := hc k x hx
      have hk1 : (k : Int) < (E.length : Int) := by omega
      have hw : wrap64 ((k : Int) + 1) = ((k + 1 : Nat) : Int) := by rw [IntWalk.wrap64_in _ (by omega)]; omega
      have HX := Lib.hid hx
      obtain ⟨t, ht⟩ : ∃ t, (x.2 == r) = t := ⟨_, rfl⟩
      have hcl := lock1_c q x r wr hq2
      rw [ht] at hcl
      have HT := Lib.hid ht
      have HCL := Lib.hid hcl
      clear hx hc ht hcl
      cases t with
      | true =>
        go_wp2_with (go_at_call 27; with_reducible refine HCL.out.mono ?_; rintro e w1 ⟨rfl, hb1⟩)
        go_ret
        refine ⟨_, rfl, ?_, below_lift hB hb1 hB.size⟩
        have h1 : lockedB (E.take (k + 1)) r = true := by rw [lockedB_take r HX.out, HT.out, Bool.or_true]
        have h2 : lockedB E r = true := by
          unfold lockedB at h1 ⊢
          rw [List.any_eq_true] at h1 ⊢
          obtain ⟨y, hy, he⟩ := h1
          exact ⟨y, List.mem_of_mem_take hy, he⟩
        rw [h2]
        simp
      | false =>
        go_wp2_with (go_at_call 27; with_reducible refine HCL.out.mono ?_; rintro e w1 ⟨rfl, hb1⟩)
        go_roundw
        case rel => exact ⟨k + 1, rfl, Lib.hid ⟨by omega, by rw [lockedB_take r HX.out, HK.out.2, HT.out]; rfl⟩, below_lift hB hb1 hB.size⟩
        case measure => simp [intOf]; omega
    · have hk1 : ¬ (k : Int) < (E.length : Int) := by omega
      go_wp2
      go_ret
      refine ⟨_, rfl, ?_, hB⟩
      have h1 := HK.out.2
      rw [List.take_of_length_le (by omega)] at h1
      rw [h1]
      rfl
theorem containse_c (A : Option Addr) (c q : Nat) (E : List Ent) (r : Int) (w : World) (h : EntR w A E) (hm : E.length ≤ 1000000) (hq : w.cell? ⟨q, 0, none⟩ = some (.int .i64 r)) (hql : q < w.heap.size) :
    Calls Try.prog 28 #[.slice A E.length c, lockV q] w fun e w' => e = .returned (.bool (lockedB E r)) ∧ Below w.heap.size w w' := by
  have H := Lib.hid (indexe_c A c q E r w h hm hq hql)
  clear h hq
  unfold lockV at H ⊢
  go_enter Try.func28, Try.ntmps28
  go_wp2_with (go_at_call 42; with_reducible refine H.out.mono ?_; rintro e w1 ⟨z, rfl, hz, hb1⟩)
  go_ret
  exact ⟨by first | exact rfl | exact ret_bool hz, hb1⟩
def askE (n : Nat) (t : Int) : Int := if t < 0 ∨ (n : Int) ≤ t then 9 else 0
theorem asked_c {B s n tc : Nat} {w : World} {TA : Option Addr} {D : Nat → Nat → Int} {v : Value} {E : List Ent} (h : StA B w s TA n tc D v E) (t : Int) :
    Calls Try.prog 26 #[.pointer (some ⟨s, 0, none⟩), .int .i64 t] w fun e w' => e = .returned (.int .i64 (askE n t)) ∧ w = w' := by
  have c0 := h.c0
  have c2 := h.c2
  by_cases h1 : t < 0
  · have he : Hid (askE n t = 9) := if_pos (.inl h1)
    clear h
    go_enter Try.func26, Try.ntmps26
    go_wp2
    go_ret
    exact ⟨by rw [he.out]; rfl, rfl⟩
  · by_cases h2 : (n : Int) ≤ t
    · have he : Hid (askE n t = 9) := if_pos (.inr h2)
      clear h
      go_enter Try.func26, Try.ntmps26
      go_wp2
      go_ret
      exact ⟨by rw [he.out]; rfl, rfl⟩
    · have he : Hid (askE n t = 0) := if_neg (by omega)
      clear h
      go_enter Try.func26, Try.ntmps26
      go_wp2
      go_ret
      exact ⟨by rw [he.out]; rfl, rfl⟩
theorem len_c {B s n tc : Nat} {w : World} {TA : Option Addr} {D : Nat → Nat → Int} {v : Value} {E : List Ent} (h : StA B w s TA n tc D v E) :
    Calls Try.prog 24 #[.pointer (some ⟨s, 0, none⟩)] w fun e w' => e = .returned (.int .i64 (E.length : Nat)) ∧ w = w' := by
  obtain ⟨A, c, rfl, c1, -⟩ := h.ent
  clear h
  go_enter Try.func24, Try.ntmps24
  go_wp2
  go_ret
  exact ⟨rfl, rfl⟩
def topE (E : List Ent) : Int := match E.getLast? with
  | some x => x.1
  | none => 0
theorem top_c {B s n tc : Nat} {w : World} {TA : Option Addr} {D : Nat → Nat → Int} {v : Value} {E : List Ent} (h : StA B w s TA n tc D v E) :
    Calls Try.prog 16 #[.pointer (some ⟨s, 0, none⟩)] w fun e w' => e = .returned (.tuple #[.int .i64 (topE E), .bool (!E.isEmpty)]) ∧ Below w.heap.size w w' := by
  obtain ⟨A, c, rfl, c1, hR, -⟩ := h.ent
  have hl := h.len
  clear h
  cases hE : E.isEmpty with
  | true =>
    obtain rfl : E = [] := List.isEmpty_iff.1 hE
    clear hR
    go_enter Try.func16, Try.ntmps16
    go_wp2
    go_ret2
    exact ⟨rfl, Below.refl _ _⟩
  | false =>
    have hne : E ≠ [] := by rintro rfl; cases hE
    have hpos : 0 < E.length := List.length_pos_iff.2 hne
    obtain ⟨x, hx⟩ : ∃ x, E[E.length - 1]? = some x := ⟨_, List.getElem?_eq_getElem (by omega)⟩
    have hT : Hid (topE E = x.1) := by show topE E = x.1; unfold topE; rw [List.getLast?_eq_getElem?, hx]
    obtain ⟨b, off, rfl, hb, hc⟩ := hR hne
    obtain ⟨d1, d2⟩ := hc _ x hx
    obtain ⟨m, hm⟩ : ∃ m, E.length - 1 = m := ⟨_, rfl⟩
    have hm2 : E.length = m + 1 := by omega
    rw [hm] at d1 d2
    rw [hm2] at c1 hl
    clear hR hc hx hm hm2 hne hE hpos
    go_enter Try.func16, Try.ntmps16
    go_wp2
    go_quiet (fail)
    go_wp2
    go_ret2
    exact ⟨ret_two hT.out.symm rfl, below_drewN (Below.refl _ _) _⟩
end Go.Proofs.Ytmgcjdedgfiboaa
