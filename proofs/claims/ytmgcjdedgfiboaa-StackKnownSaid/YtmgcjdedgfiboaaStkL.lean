/- The program's stack: last. -/
import Derived.Test.YtmgcjdedgfiboaaStkI
import Derived.Laws.EntriesVeiled
namespace Go.Proofs.Ytmgcjdedgfiboaa
set_option linter.unusedVariables false
open Go.RowKit Go.Shelf
attribute [local go_sem] Oper.semAt_some

/-- What last tells. -/
def LastQ (E : List Ent) (t z : Int) : Prop := (z = -1 ∧ ∀ x ∈ E, x.1 ≠ t) ∨ ∃ (k : Nat) (x : Ent), z = k ∧ E[k]? = some x ∧ x.1 = t ∧ ∀ y ∈ E.drop (k + 1), y.1 ≠ t
theorem up_all {E : List Ent} {t : Int} {k : Nat} (hk : k ≤ E.length) (h : ∀ p ∈ upto (bkAt E) k, p.2.1 ≠ t) : ∀ y ∈ E.drop (E.length - k), y.1 ≠ t := by
  intro y hy
  obtain ⟨j, hj⟩ := List.mem_iff_getElem?.1 hy
  rw [List.getElem?_drop] at hj
  have hjl : E.length - k + j < E.length := (List.getElem?_eq_some_iff.1 hj).1
  have hm : bkAt E (E.length - 1 - (E.length - k + j)) ∈ upto (bkAt E) k := by
    unfold upto
    exact List.mem_map_of_mem (List.mem_range.2 (by omega))
  have := h _ hm
  unfold bkAt at this
  rw [show E.length - 1 - (E.length - 1 - (E.length - k + j)) = E.length - k + j by omega, hj] at this
  exact this
set_option maxHeartbeats 1000000 in
theorem of_in (F : Fence) (n : Nat) (hF : F.fn 30) (hro : F.round = none) (t : Int) (w : World) :
    CallsIn F n Try.prog 30 #[.int .i64 t] w fun e w' => e = .returned (ofV w.heap.size) ∧ w' = w.alloc (.cells #[.int .i64 t] 3) := by
  unfold ofV
  refine callsIn_of_wp Try.func30 rfl hF ?_ hro
  simp only [Try.ntmps30, List.size_toArray, List.length_cons, List.length_nil, Nat.reduceAdd, Nat.reduceSub, Array.replicate_succ, Array.replicate_zero, List.push_toArray, List.append_toArray, List.nil_append, List.cons_append]
  gi_wp2
  go_ret
  exact ⟨rfl, rfl⟩
set_option maxHeartbeats 1000000 in
theorem of1_in (F : Fence) (n : Nat) (hF : F.fn 44) (hro : F.round = none) (q : Nat) (x : Ent) (t : Int) (w : World) (h : w.cell? ⟨q, 0, none⟩ = some (.int .i64 t)) (hlt : q < w.heap.size) :
    CallsIn F n Try.prog 44 #[.agg #[.int .i64 x.1, .int .i64 x.2], .pointer (some ⟨q, 0, none⟩)] w fun e w' => e = .returned (.bool (x.1 == t)) ∧ w' = w.alloc (.cells #[.int .i64 x.1, .int .i64 x.2] 60) := by
  have hB : Below w.heap.size w (w.alloc (.cells #[.int .i64 x.1, .int .i64 x.2] 60)) := (Below.refl _ _).alloc (Nat.le_refl _) _
  have h2 := (hB.cell (p := ⟨q, 0, none⟩) hlt).trans h
  refine callsIn_of_wp Try.func44 rfl hF ?_ hro
  simp only [Try.ntmps44, List.size_toArray, List.length_cons, List.length_nil, Nat.reduceAdd, Nat.reduceSub, Array.replicate_succ, Array.replicate_zero, List.push_toArray, List.append_toArray, List.nil_append, List.cons_append]
  gi_wp2
  go_ret
  exact ⟨rfl, rfl⟩
set_option maxRecDepth 100000 in
set_option maxHeartbeats 2000000 in
theorem last_in (F : Fence) (n : Nat) (hl : F.fn 29) (ho : F.fn 30) (ho1 : F.fn 44) (hb : F.fn 43) (hb1 : F.fn 49)
    (hro : F.round = none) (hn : 5 ≤ n) {B s nt tc : Nat} {w : World} {TA : Option Addr} {D : Nat → Nat → Int} {v : Value} {E : List Ent} (h : StA B w s TA nt tc D v E) (t : Int) :
    CallsIn F n Try.prog 29 #[.pointer (some ⟨s, 0, none⟩), .int .i64 t] w fun e w' => ∃ z, e = .returned (.int .i64 z) ∧ LastQ E t z ∧ Below w.heap.size w w' := by
  have h1 : 1 ≤ n := by omega
  obtain ⟨A, c, rfl, c1, hR, -⟩ := h.ent
  have hEl := h.len
  have HH := Lib.hid h
  have HR := Lib.hid hR
  clear hR
  have hB1 : Below w.heap.size w (w.alloc (.cells #[.int .i64 0] 3)) := (Below.refl _ _).alloc (Nat.le_refl _) _
  have hB2 : Below w.heap.size w ((w.alloc (.cells #[.int .i64 0] 3)).alloc (.cells #[.int .i64 t] 3)) := hB1.alloc hB1.size _
  have hz2 : ((w.alloc (.cells #[.int .i64 0] 3)).alloc (.cells #[.int .i64 t] 3)).heap.size = w.heap.size + 1 + 1 := by simp
  have hb3 : Blk (((w.alloc (.cells #[.int .i64 0] 3)).alloc (.cells #[.int .i64 t] 3)).alloc (.cells #[(.func (.func 44) #[] #[.pointer (some ⟨w.heap.size + 1, 0, none⟩)])] 61)) (w.heap.size + 1 + 1) 61 #[(.func (.func 44) #[] #[.pointer (some ⟨w.heap.size + 1, 0, none⟩)])] := hz2 ▸ Blk.new ((w.alloc (.cells #[.int .i64 0] 3)).alloc (.cells #[.int .i64 t] 3)) _ _
  have hB3 : Below w.heap.size w (((w.alloc (.cells #[.int .i64 0] 3)).alloc (.cells #[.int .i64 t] 3)).alloc (.cells #[(.func (.func 44) #[] #[.pointer (some ⟨w.heap.size + 1, 0, none⟩)])] 61)) := hB2.alloc hB2.size _
  have hbR : Blk (((w.alloc (.cells #[.int .i64 0] 3)).alloc (.cells #[.int .i64 t] 3)).alloc (.cells #[(.func (.func 44) #[] #[.pointer (some ⟨w.heap.size + 1, 0, none⟩)])] 61)) w.heap.size 3 #[.int .i64 0] := ((Blk.new w 3 #[.int .i64 0]).alloc _).alloc _
  have hbT : Blk (((w.alloc (.cells #[.int .i64 0] 3)).alloc (.cells #[.int .i64 t] 3)).alloc (.cells #[(.func (.func 44) #[] #[.pointer (some ⟨w.heap.size + 1, 0, none⟩)])] 61)) (w.heap.size + 1) 3 #[.int .i64 t] := by
    have := Blk.new (w.alloc (.cells #[.int .i64 0] 3)) 3 #[.int .i64 t]
    rw [World.size_alloc] at this
    exact this.alloc _
  have hz3 : (((w.alloc (.cells #[.int .i64 0] 3)).alloc (.cells #[.int .i64 t] 3)).alloc (.cells #[(.func (.func 44) #[] #[.pointer (some ⟨w.heap.size + 1, 0, none⟩)])] 61)).heap.size = w.heap.size + 1 + 1 + 1 := by simp
  have c3 := (h.below hB3).c1
  have HR3 := Lib.hid (HR.out.below hB3)
  have hAb : Hid (∀ b off, A = some ⟨b, off, none⟩ → b < w.heap.size) := fun b off e => by
    subst e
    exact (h.own.lt b rfl).2.1
  clear h
  refine callsIn_of_wp_marks Try.func29 rfl hl ?_ hro
  simp only [Try.ntmps29, List.size_toArray, List.length_cons, List.length_nil, Nat.reduceAdd, Nat.reduceSub, Array.replicate_succ, Array.replicate_zero, List.push_toArray, List.append_toArray, List.nil_append, List.cons_append]
  gi_wp2_with (first
    | (gi_at_call 30; refine (of_in F (n - 1) ho hro _ _).mono ?_; unfold ofV; rintro e w' ⟨rfl, rfl⟩)
    | (gi_at_call 43; refine (back_in F (n - 1) hb hro _ _ _ _).mono ?_; rintro e w' ⟨rfl, rfl⟩))
  obtain ⟨W0, hW0⟩ : ∃ W0, (((w.alloc (.cells #[.int .i64 0] 3)).alloc (.cells #[.int .i64 t] 3)).alloc (.cells #[(.func (.func 44) #[] #[.pointer (some ⟨w.heap.size + 1, 0, none⟩)])] 61)).alloc (.cells #[.slice A E.length c] 55) = W0 := ⟨_, rfl⟩
  have hX : Below (((w.alloc (.cells #[.int .i64 0] 3)).alloc (.cells #[.int .i64 t] 3)).alloc (.cells #[(.func (.func 44) #[] #[.pointer (some ⟨w.heap.size + 1, 0, none⟩)])] 61)).heap.size (((w.alloc (.cells #[.int .i64 0] 3)).alloc (.cells #[.int .i64 t] 3)).alloc (.cells #[(.func (.func 44) #[] #[.pointer (some ⟨w.heap.size + 1, 0, none⟩)])] 61)) W0 := hW0 ▸ (Below.refl _ _).alloc (Nat.le_refl _) _
  have bN : Blk W0 (w.heap.size + 1 + 1 + 1) 55 #[.slice A E.length c] := by
    have := Blk.new (((w.alloc (.cells #[.int .i64 0] 3)).alloc (.cells #[.int .i64 t] 3)).alloc (.cells #[(.func (.func 44) #[] #[.pointer (some ⟨w.heap.size + 1, 0, none⟩)])] 61)) 55 #[.slice A E.length c]
    rw [hz3, hW0] at this
    exact this
  have bR := hbR.below hX hbR.lt
  have bT := hbT.below hX hbT.lt
  have bF := hb3.below hX hb3.lt
  have hB0 : Below w.heap.size w W0 := below_lift hB3 hX hB3.size
  have hR0 := HR3.out.below hX
  have hsz : W0.heap.size = w.heap.size + 1 + 1 + 1 + 1 := by rw [← hW0]; simp
  rw [hW0]
  have HB0 := Lib.hid hB0
  have HAB := Lib.hid hAb.out
  clear hB1 hB2 hB3 hb3 hbR hbT hX c3 hz2 hz3
  refine wpIn_rangeFunc_ownH hro h1 (gf := 49) (lb := #[.pointer (some ⟨w.heap.size + 1 + 1 + 1, 0, none⟩)]) rfl hb1 (enters_of Try.func49 (by kernel_rfl) rfl)
    (back_stops F (n - 1) hb1 hro (by omega) (w.heap.size + 1 + 1 + 1) W0.heap.size c A E (by omega) W0 (by omega) (Nat.le_refl _) ((bN.cell 0).trans rfl) hR0 (fun b off e => by have := hAb.out b off e; omega)) belowK_t (belowK_b (Nat.le_refl _)) (Below.refl _ _) (fun _ => rfl)
    (fun pre W => (∀ x ∈ pre, x.2.1 ≠ t) ∧ Below W0.heap.size W0 W)
    (fun cd pre W => ((cd = .ret ∧ ∃ (ini : List (Nat × Ent)) (last : Nat × Ent), pre = ini ++ [last] ∧ (∀ x ∈ ini, x.2.1 ≠ t) ∧ last.2.1 = t ∧ W.cell? ⟨w.heap.size, 0, none⟩ = some (.int .i64 (last.1 : Int))) ∧ Below w.heap.size w W))
    (OwnFrom.and (ownFrom_pure _ _) (ownFrom_below (Nat.le_refl _) (Nat.le_refl _)))
    (fun cd => OwnFrom.and (Own.from (fun s A B row hs hg hr => by obtain ⟨hc, ini, last, e1, e2, e3, e4⟩ := hs; exact ⟨hc, ini, last, e1, e2, e3, cell_kept e4 hg hr⟩) _) (ownFrom_below (Nat.le_refl _) (by omega)))
    ⟨(fun x hx => by cases hx), Below.refl _ _⟩
    (fun x a' W => ∃ Bx, W0.heap.size ≤ Bx ∧ Blk W Bx 60 #[.int .i64 x.2.1, .int .i64 x.2.2] ∧ a' = { tmps := #[.pointer (some ⟨s, 0, none⟩), .int .i64 t, undef, undef, .pointer (some ⟨w.heap.size, 0, none⟩), .pointer (some ⟨w.heap.size + 1 + 1, 0, none⟩), .int .i64 (x.1 : Int), .pointer (some ⟨Bx, 0, none⟩), .int .i64 t, (.func (.func 44) #[] #[.pointer (some ⟨w.heap.size + 1, 0, none⟩)]), .pointer (some ⟨s, 0, none⟩), .pointer (some ⟨s, 0, none⟩), .pointer (some ⟨s, 1, none⟩), .slice A E.length c, .func (.func 49) #[] #[.pointer (some ⟨w.heap.size + 1 + 1 + 1, 0, none⟩)], .int .i64 (x.1 : Int), .agg #[.int .i64 x.2.1, .int .i64 x.2.2], undef, undef, undef, undef], defers := [] })
    (fun x a' _ X Y row hs hg hr => by
      obtain ⟨Bx, h1, h2, h3⟩ := hs
      exact ⟨Bx, h1, (grownBy_keeps_cells hg (fun r e => (hr r e).2) h2 rfl).trans h2, h3⟩)
    ?assign ?body ?done ?stop
  case assign =>
    rintro l pre x W K ⟨hne, hB⟩ hK
    unfold bkEnc
    gi_wp2
    exact hK _ _ ((KeepsOthers.alloc _ _).from _) ((Below.refl _ W).alloc hB.size _) ⟨hne, hB.alloc hB.size _⟩ ⟨W.heap.size, hB.size, Blk.new W _ _, rfl⟩
  case body =>
    rintro l pre x a' W hl0 ⟨r, hr⟩ ⟨hne, hB⟩ ⟨Bx, hBx, bX, rfl⟩ hlt
    have kF := ((bF.below hB bF.lt).cell 0).trans (show _ = some (.func (.func 44) #[] #[.pointer (some ⟨w.heap.size + 1, 0, none⟩)]) from rfl)
    have kT := ((bT.below hB bT.lt).cell 0).trans (show _ = some (.int .i64 t) from rfl)
    have kR := ((bR.below hB bR.lt).cell 0).trans (show _ = some (.int .i64 0) from rfl)
    have x0 := (bX.cell 0).trans (show _ = some (.int .i64 x.2.1) from rfl)
    have x1 := (bX.cell 1).trans (show _ = some (.int .i64 x.2.2) from rfl)
    have hTl : w.heap.size + 1 < W.heap.size := (bT.below hB bT.lt).lt
    have h1' : 1 ≤ n - 1 - 1 := by omega
    obtain ⟨y, hy⟩ : ∃ y, (x.2.1 == t) = y := ⟨_, rfl⟩
    have hcl := of1_in F (n - 1 - 1 - 1) ho1 hro (w.heap.size + 1) x.2 t W kT hTl
    rw [hy] at hcl
    cases y with
    | true =>
      have bR2 := (bR.below hB bR.lt).alloc (.cells #[.int .i64 x.2.1, .int .i64 x.2.2] 60)
      have kR2 := (bR2.cell 0).trans (show _ = some (.int .i64 0) from rfl)
      have fR2 := bR2.frozen 0
      gi_wp2_with (gi_at_call 44; refine (CallsIn.inRound l hcl).mono ?_; rintro e w' ⟨rfl, rfl⟩)
      have hBW : Below w.heap.size w W := below_lift HB0.out hB HB0.out.size
      exact ⟨((KeepsOthers.alloc _ _).trans (KeepsOthers.setCell _ _ _)).from _, ⟨rfl, pre, x, rfl, hne, by simpa using hy, World.cell?_setCell_same' _ _ _ (by rw [kR2]; rfl)⟩, (hBW.alloc hBW.size _).setCell (p := ⟨w.heap.size, 0, none⟩) (Nat.le_refl _) _⟩
    | false =>
      gi_wp2_with (gi_at_call 44; refine (CallsIn.inRound l hcl).mono ?_; rintro e w' ⟨rfl, rfl⟩)
      exact ⟨(KeepsOthers.alloc _ _).from _, (Below.refl _ W).alloc hB.size _, fun p hp => (List.mem_append.1 hp).elim (hne p) (fun e => by rw [List.mem_singleton] at e; subst e; simpa using hy), hB.alloc hB.size _⟩
  case done =>
    rintro D ys W hD rfl ⟨hne, hB⟩ hK
    have bR2 := bR.below hB bR.lt
    have hcr := (bR2.cell 0).trans (show _ = some (.int .i64 0) from rfl)
    have hfr := bR2.frozen 0
    have hBW : Below w.heap.size w W := below_lift HB0.out hB HB0.out.size
    gi_wp2
    have hK' := (KeepsOthers.setCell W ⟨w.heap.size, 0, none⟩ (.int .i64 (-1))).same D _ hK rfl
    refine ⟨by simp, .inl ⟨_, _, rfl, run_takeDeferred hK', ?_⟩⟩
    have hc5 := cell_kept (World.cell?_setCell_same' W ⟨w.heap.size, 0, none⟩ (.int .i64 (-1)) (by rw [hcr]; rfl)) (grownBy_putObj' _ D (.deferred none)) (fun r e => by cases e; exact ⟨_, hK', rfl⟩)
    refine ⟨.int .i64 (-1), ?_, -1, rfl, .inl ⟨rfl, fun y hy => ?_⟩, (hBW.setCell (p := ⟨w.heap.size, 0, none⟩) (Nat.le_refl _) _).trans (belowK_b (w := w) (Nat.le_refl _) _ D _ _ (by omega) hK' rfl rfl)⟩
    · simp [results, Try.f29, go_sem, hc5]
    · have := up_all (Nat.le_refl _) hne
      rw [Nat.sub_self, List.drop_zero] at this
      exact this y hy
  case stop =>
    rintro D cd pre W hD ⟨k, hk, rfl⟩ ⟨⟨rfl, ini, last, e1, e2, e3, hcr⟩, hB⟩ hK
    gi_wp2
    refine ⟨by simp, .inl ⟨_, _, rfl, run_takeDeferred hK, ?_⟩⟩
    have hc5 := cell_kept hcr (grownBy_putObj' _ D (.deferred none)) (fun r e => by cases e; exact ⟨_, hK, rfl⟩)
    obtain ⟨k', rfl⟩ : ∃ k', k = k' + 1 := by
      cases k with
      | zero => simp [upto] at e1
      | succ k' => exact ⟨k', rfl⟩
    rw [upto_succ] at e1
    obtain ⟨rfl, e5⟩ := List.append_inj' e1 rfl
    obtain rfl : bkAt E k' = last := by simpa using e5
    obtain ⟨i, hi⟩ : ∃ i, E.length - 1 - k' = i := ⟨_, rfl⟩
    obtain ⟨x, hx⟩ : ∃ x, E[i]? = some x := ⟨_, List.getElem?_eq_getElem (by omega)⟩
    have hbk : bkAt E k' = (i, x) := by unfold bkAt; rw [hi, hx]; rfl
    rw [hbk] at e3 hc5
    refine ⟨.int .i64 (i : Int), ?_, i, rfl, .inr ⟨i, x, rfl, hx, e3, ?_⟩, hB.trans (belowK_b (w := w) (Nat.le_refl _) W D _ _ (by omega) hK rfl rfl)⟩
    · simp [results, Try.f29, go_sem, hc5]
    · have := up_all (show k' ≤ E.length by omega) e2
      rw [show E.length - k' = i + 1 by omega] at this
      exact this
theorem last_c {B s nt tc : Nat} {w : World} {TA : Option Addr} {D : Nat → Nat → Int} {v : Value} {E : List Ent} (h : StA B w s TA nt tc D v E) (t : Int) :
    Calls Try.prog 29 #[.pointer (some ⟨s, 0, none⟩), .int .i64 t] w fun e w' => ∃ z, e = .returned (.int .i64 z) ∧ LastQ E t z ∧ Below w.heap.size w w' :=
  (callsIn_wide (n := 5)).1 (last_in Fence.wide 5 trivial trivial trivial trivial trivial rfl (by omega) h t)
end Go.Proofs.Ytmgcjdedgfiboaa
