/- The document's stack in memory; the methods that only read. -/
import Derived.Test.YtmgcjdedgfiboaaStkX
namespace Go.Proofs.Ytmgcjdedgfiboaa
set_option linter.unusedVariables false
open Go.RowKit

def EntD (w : World) (B : Nat) (v : Value) (L : List Ent) : Prop := w.ownsRow B 77 2 v L.length (ecs L)
theorem entd_info : (Try.prog.info? 77).map (fun i => (i.zero, i.size, i.bytes)) = some (some (.agg #[.int .i64 0, .int .i64 0]), 2, 16) := by kernel_rfl
theorem ent_readsT {w : World} {t : TypeId} {g n : Nat} {cur : Array Value} {L : List Ent} (hk : Blk w g t cur) (ht : cur.toList.take (n * 2) = ecs L) : EntR w (some ⟨g, 0, none⟩) L := fun hL => by
  refine ⟨g, 0, rfl, hk.lt, fun i x hi => ?_⟩
  have := ecs_at hi
  rw [Nat.zero_add]
  exact ⟨(hk.cell _).trans (take_at ht this.1), (hk.cell _).trans (take_at ht this.2)⟩
section
variable {w w' : World} {A : Option Addr} {L M : List Ent} {B : Nat} {v : Value}
theorem EntD.keep (h : EntD w B v L) (hb : ∀ b, v.ownBlock = some b → w'.heap[b]? = w.heap[b]?) : EntD w' B v L := own_below' h hb
theorem EntD.form (h : EntD w B v L) : ∃ A c, v = .slice A L.length c ∧ L.length ≤ c ∧ (A = none → c = 0) ∧ EntR w A L ∧ c ≤ 9223372036854775807 ∧ (∀ a, A = some a → ∃ g cur, a = ⟨g, 0, none⟩ ∧ B ≤ g ∧ Blk w g 77 cur ∧ cur.toList.take (L.length * 2) = ecs L) := by
  obtain ⟨A, c, rfl, h1, h2, h3, h4⟩ := own_form h
  refine ⟨A, c, rfl, h1, fun e => (h3 e).2, ?_, by simp [maxLen] at h2; omega, fun a ha => ?_⟩
  · cases A with
    | none => intro hL; exact absurd (List.eq_nil_of_length_eq_zero (h3 rfl).1) hL
    | some a =>
      obtain ⟨g, cur, rfl, hg, hk, _, ht⟩ := h4 a rfl
      exact ent_readsT hk ht
  · obtain ⟨g, cur, rfl, hg, hk, _, ht⟩ := h4 a ha
    exact ⟨g, cur, rfl, hg, hk, ht⟩
theorem EntD.lt (h : EntD w B v L) : ∀ b, v.ownBlock = some b → B ≤ b ∧ b < w.heap.size ∧ ∃ cur, Blk w b 77 cur := by
  intro b hb
  obtain ⟨A, c, rfl, h1, h2, h3, h4⟩ := own_form h
  cases A with
  | none => simp [Value.ownBlock] at hb
  | some a =>
    obtain ⟨g, cur, rfl, hg, hk, _⟩ := h4 a rfl
    simp [Value.ownBlock] at hb
    subst hb
    exact ⟨hg, hk.lt, cur, hk⟩
theorem EntD.below (h : EntD w B v L) (k : Below w.heap.size w w') : EntD w' B v L := h.keep fun b hb => k.block b (h.lt b hb).2.1
theorem EntD.mono {B' : Nat} (h : EntD w B v L) (hB : B' ≤ B) : EntD w B' v L := by
  obtain ⟨h1, h2⟩ := h
  refine ⟨h1, ?_⟩
  rcases h2 with h2 | ⟨g, cap, cur, e1, e0, e3⟩
  · exact .inl h2
  · exact .inr ⟨g, cap, cur, e1, Nat.le_trans hB e0, e3⟩
theorem EntD.nil : EntD w B (.slice none 0 0) [] := ⟨rfl, .inl ⟨rfl, rfl⟩⟩
theorem run_append_entd (h : EntD w B v L) {m c : Nat} (hr : SrcR w 2 A m c (ecs M)) (hm : m = M.length) (hl : L.length + m ≤ 1000000) (hB : B ≤ w.heap.size) (ty : TypeId) :
    ∃ v' w', (Builtin.append_ #[67, 67] ty #[v, .slice A m c]).run Try.prog w = .ok v' w' ∧ EntD w' B v' (L ++ M) ∧ w.grownBy w' v.ownBlock ∧ (∀ b, v'.ownBlock = some b → v.ownBlock = some b ∨ w.heap.size ≤ b) := by
  obtain ⟨i0, hi0, hz0, hz1, hz2⟩ := info_parts' entd_info
  subst hm
  obtain ⟨v', w', h1, h2, h3, h4⟩ := run_append_src (P := Try.prog) B 67 ty 77 i0 _ 2 16 Try.underlying67 hi0 hz0 hz1 hz2 rfl (by omega) v L.length (ecs L) h A M.length c (ecs M) hr (ecs_one M)
    (by simp only [maxLen]; omega) (by omega) hB
  refine ⟨v', w', h1, by unfold EntD; rw [List.length_append, ecs_app]; exact h2, h3, fun b hb => ?_⟩
  rcases h4 with h4 | h4
  · exact .inl (h4 ▸ hb)
  · rw [h4] at hb
    injection hb with hb
    exact .inr (by omega)
theorem wpList_append_entd {ops : Array Oper} {rest : List Oper} {o : Oper} {a : Act} {Q : Exit → Act → World → Prop} (hgd : o.guard = none) (s x : Operand)
    (ho : o.op = .call { callee := .builtin .append, args := #[s, x], argTypes := #[67, 67] })
    (hs : a.eval s = v) (h : EntD w B v L) {m c : Nat} (hx : a.eval x = .slice A m c) (hr : SrcR w 2 A m c (ecs M)) (hm : m = M.length) (hl : L.length + m ≤ 1000000) (hB : B ≤ w.heap.size)
    (hK : ∀ v' w', EntD w' B v' (L ++ M) → w.grownBy w' v.ownBlock → (∀ b, v'.ownBlock = some b → v.ownBlock = some b ∨ w.heap.size ≤ b) → wpList Try.prog ops Q rest (a.put o.dst v') w') : wpList Try.prog ops Q (o :: rest) a w := by
  obtain ⟨v', w', hrun, h2, h3, h4⟩ := run_append_entd h hr hm hl hB o.type
  refine wpList_plain hgd fun _ hK' => ?_
  unfold Oper.wp execOp
  simp only [ho, resolve, invoke, builtin, Sem.run_bind, Sem.run_pure, Result.andThen_ok, List.map_toArray, List.map_cons, List.map_nil, hs, hx, hrun]
  exact hK' _ _ (hK v' w' h2 h3 h4)
end
def mCells (TA : Option Addr) (n tc : Nat) (v : Value) : Array Value := #[.slice TA n tc, v]
/-- The document's stack: tasks D, entries E. -/
structure StM (B : Nat) (w : World) (s : Nat) (TA : Option Addr) (n tc : Nat) (D : Nat → Nat → Int) (v : Value) (E : List Ent) : Prop where
  blk : Blk w s 69 (mCells TA n tc v)
  sB : B ≤ s
  own : EntD w B v E
  len : E.length ≤ 100000
  n4 : n ≤ 4
  tasks : TasksAt w TA n D
  tb : ∀ a, TA = some a → ∃ cs, B ≤ a.block ∧ Blk w a.block 48 cs
section
variable {B s n tc : Nat} {w w' w0 : World} {TA : Option Addr} {D : Nat → Nat → Int} {v v' : Value} {E E' : List Ent} {F : Nat → Prop}
theorem StM.below (h : StM B w s TA n tc D v E) (k : Below w.heap.size w w') : StM B w' s TA n tc D v E :=
  ⟨h.blk.below k h.blk.lt, h.sB, h.own.below k, h.len, h.n4, h.tasks.below k, fun a ha => by
    obtain ⟨cs, h1, h2⟩ := h.tb a ha
    exact ⟨cs, h1, h2.below k h2.lt⟩⟩
theorem StM.drewN (h : StM B w s TA n tc D v E) (k : Nat) : StM B (w.drewN k) s TA n tc D v E := h.below (below_drewN (Below.refl _ _) _)
theorem StM.hs (h : StM B w s TA n tc D v E) : B ≤ w.heap.size := Nat.le_trans h.sB (Nat.le_of_lt h.blk.lt)
theorem StM.footB (h : StM B w s TA n tc D v E) : ∀ b, sfoot s v b → B ≤ b ∧ b < w.heap.size := by
  intro b hb
  rcases hb with rfl | hb
  · exact ⟨h.sB, h.blk.lt⟩
  · exact ⟨(h.own.lt b hb).1, (h.own.lt b hb).2.1⟩
theorem StM.c0 (h : StM B w s TA n tc D v E) : w.cell? ⟨s, 0, none⟩ = some (.slice TA n tc) := (h.blk.cell 0).trans rfl
theorem StM.c1 (h : StM B w s TA n tc D v E) : w.cell? ⟨s, 1, none⟩ = some v := (h.blk.cell 1).trans rfl
/-- The entries' slice. -/
theorem StM.ent (h : StM B w s TA n tc D v E) : ∃ A c, v = .slice A E.length c ∧ w.cell? ⟨s, 1, none⟩ = some (.slice A E.length c) ∧ EntR w A E ∧ (A = none → c = 0) ∧ E.length ≤ c := by
  obtain ⟨A, c, rfl, h1, h2, h3, -⟩ := h.own.form
  exact ⟨A, c, rfl, h.c1, h3, h2, h1⟩
/-- The entries are put anew. -/
theorem StM.put (h : StM B w s TA n tc D v E) (hO : EntD w' B v' E') (hK : Keeps (fun b => v.ownBlock = some b) w w') (hv : ∀ b, v'.ownBlock = some b → v.ownBlock = some b ∨ w.heap.size ≤ b) (hl : E'.length ≤ 100000) :
    StM B (w'.setCell ⟨s, 1, none⟩ v') s TA n tc D v' E' ∧ STurn s v v' w (w'.setCell ⟨s, 1, none⟩ v') := by
  have hvs : v.ownBlock ≠ some s := by
    intro e
    obtain ⟨_, _, cur, hc⟩ := h.own.lt _ e
    exact Blk.ne_ hc h.blk (by decide) rfl
  have hb1 : Blk w' s 69 (mCells TA n tc v) := hK.blk h.blk hvs
  have hb := hb1.set_ 1 v'
  have hs1 : (mCells TA n tc v).setIfInBounds 1 v' = mCells TA n tc v' := rfl
  rw [hs1] at hb
  have hvs' : ∀ b, v'.ownBlock = some b → b ≠ s := by
    rintro b he rfl
    rcases hv _ he with hv | hb'
    · exact hvs hv
    · have := h.blk.lt
      omega
  have htb : ∀ a, TA = some a → ∃ cs, B ≤ a.block ∧ Blk (w'.setCell ⟨s, 1, none⟩ v') a.block 48 cs := fun a ha => by
    obtain ⟨cs, h1, h2⟩ := h.tb a ha
    have hne : a.block ≠ s := Blk.ne_ h2 h.blk (by decide)
    have h3 : Blk w' a.block 48 cs := hK.blk h2 fun e => by
      obtain ⟨_, _, cur, hc⟩ := h.own.lt _ e
      exact Blk.ne_ hc h2 (by decide) rfl
    exact ⟨cs, h1, h3.far hne _⟩
  refine ⟨⟨hb, h.sB, hO.keep fun b he => Below.heap_setCell _ _ _ _ (hvs' b he), hl, h.n4, fun hn => ?_, htb⟩, ?_, fun b hb => ?_⟩
  · obtain ⟨b, off, hA, hbl, hr⟩ := h.tasks hn
    obtain ⟨cs, h1, h2⟩ := h.tb _ hA
    have hne : b ≠ s := Blk.ne_ h2 h.blk (by decide)
    have h3 : w'.heap[b]? = w.heap[b]? := hK.block b hbl fun e => by
      obtain ⟨_, _, cur, hc⟩ := h.own.lt _ e
      exact Blk.ne_ hc h2 (by decide) rfl
    have h4 : (w'.setCell ⟨s, 1, none⟩ v').heap[b]? = w.heap[b]? := (Below.heap_setCell _ _ _ _ hne).trans h3
    refine ⟨b, off, hA, Nat.lt_of_lt_of_le hbl (by simpa [World.setCell] using hK.size), fun i hi => (hr i hi).keep fun p hp => World.cell?_of_block (w := w) (by rw [hp]; exact h4)⟩
  · exact Keeps.setCell (S := sfoot s v) (hK.mono fun i hi => .inr hi) (.inl (.inl rfl)) _
  · rcases hb with rfl | he
    · exact .inl (.inl rfl)
    · rcases hv _ he with hv | hb'
      · exact .inl (.inr hv)
      · exact .inr hb'
/-- Blocks of other kinds are turned: the stack stands. -/
theorem StM.far (h : StM B w s TA n tc D v E) (k : Keeps F w w') (hF : ∀ b, F b → b < w.heap.size → ∃ cs, Blk w b 3 cs) : StM B w' s TA n tc D v E := by
  have h1 : ∀ {b : Nat} {t : TypeId} {cs : Array Value}, Blk w b t cs → t ≠ 3 → w'.heap[b]? = w.heap[b]? := fun {b t cs} hb ht => k.block b hb.lt fun e => by
    obtain ⟨cs2, h2⟩ := hF b e hb.lt
    exact Blk.ne_ hb h2 ht rfl
  refine ⟨(h1 h.blk (by decide)).trans h.blk, h.sB, h.own.keep fun b hb => ?_, h.len, h.n4, fun hn => ?_, fun a ha => ?_⟩
  · obtain ⟨_, _, cur, hc⟩ := h.own.lt b hb
    exact h1 hc (by decide)
  · obtain ⟨b, off, hA, hbl, hr⟩ := h.tasks hn
    obtain ⟨cs, _, h2⟩ := h.tb _ hA
    exact ⟨b, off, hA, Nat.lt_of_lt_of_le hbl k.size, fun i hi => (hr i hi).keep fun p hp => World.cell?_of_block (w := w) (by rw [hp]; exact h1 h2 (by decide))⟩
  · obtain ⟨cs, h2, h3⟩ := h.tb a ha
    exact ⟨cs, h2, (h1 h3 (by decide)).trans h3⟩
theorem STurn.belowM (h : StM B w s TA n tc D v E) (hT : STurn s v v' w w') (hB : Below B w0 w) : Below B w0 w' := Below.keeps hB hT.1 h.hs fun i hi => (h.footB i hi).1
/-- A row of numbers, where the stack turns. -/
theorem OwnI.turnM {L : List Int} {u : Value} (h : OwnI w B u L) {B2 : Nat} (hS : StM B2 w s TA n tc D v E) (hT : STurn s v v' w w') : OwnI w' B u L :=
  h.keep fun b hb => hT.1.block b (h.lt b hb).2.1 fun e => by
    obtain ⟨_, _, cur, hc⟩ := h.lt b hb
    rcases e with rfl | e
    · exact Blk.ne_ hc hS.blk (by decide) rfl
    · obtain ⟨_, _, cur2, hc2⟩ := hS.own.lt b e
      exact Blk.ne_ hc hc2 (by decide) rfl
end
theorem dlen_c {B s n tc : Nat} {w : World} {TA : Option Addr} {D : Nat → Nat → Int} {v : Value} {E : List Ent} (h : StM B w s TA n tc D v E) :
    Calls Try.prog 40 #[.pointer (some ⟨s, 0, none⟩)] w fun e w' => e = .returned (.int .i64 (E.length : Nat)) ∧ w = w' := by
  obtain ⟨A, c, rfl, c1, -⟩ := h.ent
  clear h
  go_enter Try.func40, Try.ntmps40
  go_wp2
  go_ret
  exact ⟨rfl, rfl⟩
theorem dtop_c {B s n tc : Nat} {w : World} {TA : Option Addr} {D : Nat → Nat → Int} {v : Value} {E : List Ent} (h : StM B w s TA n tc D v E) :
    Calls Try.prog 38 #[.pointer (some ⟨s, 0, none⟩)] w fun e w' => e = .returned (.tuple #[.int .i64 (topE E), .bool (!E.isEmpty)]) ∧ Below w.heap.size w w' := by
  obtain ⟨A, c, rfl, c1, hR, -⟩ := h.ent
  have hl := h.len
  clear h
  cases hE : E.isEmpty with
  | true =>
    obtain rfl : E = [] := List.isEmpty_iff.1 hE
    clear hR
    go_enter Try.func38, Try.ntmps38
    go_wp2
    go_ret2
    exact ⟨rfl, Below.refl _ _⟩
  | false =>
    have hne : E ≠ [] := by rintro rfl; cases hE
    have hpos : 0 < E.length := List.length_pos_iff.2 hne
    obtain ⟨x, hx⟩ : ∃ x, E[E.length - 1]? = some x := ⟨_, List.getElem?_eq_getElem (by omega)⟩
    have hT : Hid (topE E = x.1) := by show topE E = x.1; unfold topE; rw [List.getLast?_eq_getElem?, hx]
    obtain ⟨b, off, rfl, hb, hc⟩ := hR hne
    obtain ⟨d1, d2⟩ := hc _ x hx
    obtain ⟨m, hm⟩ : ∃ m, E.length - 1 = m := ⟨_, rfl⟩
    have hm2 : E.length = m + 1 := by omega
    rw [hm] at d1 d2
    rw [hm2] at c1 hl
    clear hR hc hx hm hm2 hne hE hpos
    go_enter Try.func38, Try.ntmps38
    go_wp2
    go_quiet (fail)
    go_wp2
    go_ret2
    exact ⟨ret_two hT.out.symm rfl, below_drewN (Below.refl _ _) _⟩
set_option maxHeartbeats 800000 in
theorem dheld_c {B s n tc : Nat} {w : World} {TA : Option Addr} {D : Nat → Nat → Int} {v : Value} {E : List Ent} (h : StM B w s TA n tc D v E) (t : Int) :
    Calls Try.prog 41 #[.pointer (some ⟨s, 0, none⟩), .int .i64 t] w fun e w' => ∃ u, e = .returned u ∧ OwnI w' w.heap.size u (heldE E t) ∧ Below w.heap.size w w' := by
  obtain ⟨A, c, rfl, c1, hR, -⟩ := h.ent
  have hl := h.len
  have HR := Lib.hid hR
  have hsl : s < w.heap.size := h.blk.lt
  have HC1 := Lib.hid c1
  clear h hR
  go_enter Try.func41, Try.ntmps41
  go_wp2_with fail
  go_loopw [5, 6] (fun u y wr => ∃ k : Nat, k ≤ E.length ∧ y = .int .i64 k ∧ OwnI wr w.heap.size u (heldE (E.take k) t) ∧ Below w.heap.size w wr) (fun _ y _ => E.length - (intOf y).toNat)
  case atStart => exact ⟨0, by omega, rfl, by simpa [heldE] using OwnI.nil, Below.refl _ _⟩
  case round =>
    obtain ⟨k, hk, rfl, hO, hB⟩ := hrel
    have c2 := (hB.cell (p := ⟨s, 1, none⟩) hsl).trans HC1.out
    by_cases hlt : (k : Int) < (E.length : Nat)
    · obtain ⟨x, hx⟩ : ∃ x, E[k]? = some x := ⟨_, List.getElem?_eq_getElem (by omega)⟩
      obtain ⟨b, off, rfl, hbl, hcc⟩ := HR.out (by intro e; rw [e] at hx; cases hx)
      have hbe := hcc k x hx
      have d1 := (hB.cell (p := ⟨b, off + k * 2, none⟩) hbl).trans hbe.1
      have d2 := (hB.cell (p := ⟨b, off + k * 2 + 1, none⟩) hbl).trans hbe.2
      obtain ⟨y, hy⟩ : ∃ y, (x.1 == t) = y := ⟨_, rfl⟩
      have hH := heldE_take t hx
      rw [hy] at hH
      have hlt1 : Hid ((heldE (E.take k) t).length + 1 ≤ 10000000000000) := by
        have h1 := heldE_len (E.take k) t
        have h2 : (E.take k).length ≤ E.length := by simp; omega
        show (heldE (E.take k) t).length + 1 ≤ 10000000000000
        omega
      have HX := Lib.hid hH
      have HO1 := Lib.hid hO
      clear hx hcc hbe hH hO
      cases y with
      | true =>
        go_wp2_with (at_builtin; refine wpList_append_int rfl _ _ rfl rfl HO1.out hB hB.size x.2 rfl hlt1.out ?_; intro v4 w4 hO4 hg4 hf4 hB4)
        go_roundw
        case rel => exact ⟨k + 1, by omega, rfl, by rw [HX.out]; exact hO4, hB4⟩
        case measure => simp [intOf]; omega
      | false =>
        go_wp2_with fail
        go_roundw
        case rel => exact ⟨k + 1, by omega, rfl, by rw [HX.out]; simpa using HO1.out, hB⟩
        case measure => simp [intOf]; omega
    · obtain rfl : E.length = k := by omega
      rw [List.take_length] at hO
      go_wp2_with fail
      go_ret
      exact ⟨_, rfl, hO, hB⟩
set_option maxHeartbeats 800000 in
theorem dceil_c {B s n tc : Nat} {w : World} {TA : Option Addr} {D : Nat → Nat → Int} {v : Value} {E : List Ent} (h : StM B w s TA n tc D v E) :
    Calls Try.prog 39 #[.pointer (some ⟨s, 0, none⟩)] w fun e w' => e = .returned (.int .i64 (ceilE n D E)) ∧ Below w.heap.size w w' := by
  obtain ⟨A, c, rfl, c1, hR, -⟩ := h.ent
  have hl := h.len
  have hn := h.n4
  have HH := Lib.hid h
  have HR := Lib.hid hR
  clear h hR c1
  go_enter Try.func39, Try.ntmps39
  go_wp2_with fail
  go_loopw [3, 4] (fun u y wr => ∃ k : Nat, k ≤ E.length ∧ y = .int .i64 k ∧ u = .int .i64 (ceilE n D (E.take k)) ∧ Below w.heap.size w wr) (fun _ y _ => E.length - (intOf y).toNat)
  case atStart => exact ⟨0, by omega, rfl, rfl, Below.refl _ _⟩
  case round =>
    obtain ⟨k, hk, rfl, rfl, hB⟩ := hrel
    have c2 := (HH.out.below hB).c1
    by_cases hlt : (k : Int) < (E.length : Nat)
    · obtain ⟨x, hx⟩ : ∃ x, E[k]? = some x := ⟨_, List.getElem?_eq_getElem (by omega)⟩
      obtain ⟨b, off, rfl, hbl, hcc⟩ := HR.out (by intro e; rw [e] at hx; cases hx)
      have hbe := hcc k x hx
      have d2 : wr.drew.cell? ⟨b, off + k * 2 + 1, none⟩ = some (.int .i64 x.2) := (hB.cell (p := ⟨b, off + k * 2 + 1, none⟩) hbl).trans hbe.2
      have HX := Lib.hid (ceilE_take (n := n) (D := D) hx)
      obtain ⟨z, hz⟩ : ∃ z, ceilE n D (E.take k) = z := ⟨_, rfl⟩
      have hS2 := HH.out.below hB.drew
      have s0 : wr.drew.cell? ⟨s, 0, none⟩ = some (.slice TA n tc) := hS2.c0
      have s1 : wr.drew.cell? ⟨s, 1, none⟩ = some (.slice (some ⟨b, off, none⟩) E.length c) := hS2.c1
      have HC := Lib.hid (ceil_b TA n tc D x.2 wr.drew (by omega) hS2.tasks)
      have hsl : s < wr.drew.heap.size := hS2.blk.lt
      have hbl2 : b < wr.drew.heap.size := Nat.lt_of_lt_of_le hbl hB.size
      obtain ⟨cv, hcv⟩ : ∃ cv, ceil D n x.2 = cv := ⟨_, rfl⟩
      rw [hcv] at HC HX
      rw [hz] at HX ⊢
      have HB := Lib.hid hB
      clear hx hcc hbe hz hS2 hcv
      go_wp2_with fail
      go_region_held3 (fun w' => w'.cell? ⟨s, 0, none⟩ = some (.slice TA n tc) ∧ w'.cell? ⟨s, 1, none⟩ = some (.slice (some ⟨b, off, none⟩) E.length c) ∧ w'.cell? ⟨b, off + k * 2 + 1, none⟩ = some (.int .i64 x.2)) (go_keep)
        (first | (go_at_call 48; with_reducible refine HC.out.mono ?_; rintro e w8 ⟨rfl, hb8⟩; have hB8 := below_lift HB.out.drew hb8 HB.out.drew.size; have s8 := (HH.out.below hB8).c0; have t8 := (HH.out.below hB8).c1; have e8 := (hb8.cell (p := ⟨b, off + k * 2 + 1, none⟩) hbl2).trans d2; clear s0 s1 d2 c2))
      go_wp2
      go_roundw
      case rel => exact ⟨k + 1, by omega, rfl, by rw [HX.out]; first | rfl | rw [max_form], hB8⟩
      case measure => simp [intOf]; omega
    · obtain rfl : E.length = k := by omega
      rw [List.take_length]
      go_wp2_with fail
      go_ret
      exact ⟨rfl, hB⟩
end Go.Proofs.Ytmgcjdedgfiboaa
