/- The program's stack: Lock. -/
import Derived.Test.YtmgcjdedgfiboaaStkC
namespace Go.Proofs.Ytmgcjdedgfiboaa
set_option linter.unusedVariables false
open Go.RowKit

/-- What a call leaves of the rest. -/
def STurn (s : Nat) (v v' : Value) (w w' : World) : Prop := Keeps (sfoot s v) w w' ∧ ∀ b, sfoot s v' b → sfoot s v b ∨ w.heap.size ≤ b
theorem STurn.refl (s : Nat) (v : Value) (w : World) : STurn s v v w w := ⟨Keeps.refl _ _, fun _ h => .inl h⟩
theorem STurn.below {s : Nat} {v : Value} {w w' : World} (k : Below w.heap.size w w') : STurn s v v w w' := ⟨Keeps.of_below k, fun _ h => .inl h⟩
theorem STurn.trans {s : Nat} {v v' v'' : Value} {w w' w'' : World} (h : STurn s v v' w w') (k : STurn s v' v'' w' w'') : STurn s v v'' w w'' :=
  ⟨h.1.trans k.1 h.2, fun b hb => by
    rcases k.2 b hb with h1 | h1
    · exact h.2 b h1
    · exact .inr (Nat.le_trans h.1.size h1)⟩
/-- How the stack stands behind a call. -/
def SQ (B s : Nat) (TA : Option Addr) (n tc : Nat) (D : Nat → Nat → Int) (v : Value) (E' : List Ent) (w w' : World) : Prop := ∃ v', StA B w' s TA n tc D v' E' ∧ STurn s v v' w w'
section
variable {B s n tc : Nat} {w w' w0 : World} {TA : Option Addr} {D : Nat → Nat → Int} {v v' : Value} {E E' : List Ent}
theorem SQ.same (h : StA B w s TA n tc D v E) : SQ B s TA n tc D v E w w := ⟨v, h, STurn.refl _ _ _⟩
theorem SQ.below (h : StA B w s TA n tc D v E) (k : Below w.heap.size w w') : SQ B s TA n tc D v E w w' := ⟨v, h.below k, STurn.below k⟩
theorem keeps_grown {v : Value} (h : w.grownBy w' v.ownBlock) : Keeps (fun b => v.ownBlock = some b) w w' := ⟨h.os, h.tape, h.output, h.size, fun k hk hn => h.block k hk fun e => hn e.symm⟩
/-- The entries are put anew. -/
theorem StA.put (h : StA B w s TA n tc D v E) (hO : EntS w' B v' E') (hK : Keeps (fun b => v.ownBlock = some b) w w') (hv : ∀ b, v'.ownBlock = some b → v.ownBlock = some b ∨ w.heap.size ≤ b) (hl : E'.length ≤ 100000) :
    StA B (w'.setCell ⟨s, 1, none⟩ v') s TA n tc D v' E' ∧ STurn s v v' w (w'.setCell ⟨s, 1, none⟩ v') := by
  have hvs : v.ownBlock ≠ some s := by
    intro e
    obtain ⟨_, _, cur, hc⟩ := h.own.lt _ e
    exact Blk.ne_ hc h.blk (by decide) rfl
  have hb1 : Blk w' s 57 (sCells TA n tc v) := hK.blk h.blk hvs
  have hb := hb1.set_ 1 v'
  have hs1 : (sCells TA n tc v).setIfInBounds 1 v' = sCells TA n tc v' := rfl
  rw [hs1] at hb
  have hvs' : ∀ b, v'.ownBlock = some b → b ≠ s := by
    rintro b he rfl
    rcases hv _ he with hv | hb'
    · exact hvs hv
    · have := h.blk.lt
      omega
  have htb : ∀ a, TA = some a → ∃ cs, B ≤ a.block ∧ Blk (w'.setCell ⟨s, 1, none⟩ v') a.block 48 cs := fun a ha => by
    obtain ⟨cs, h1, h2⟩ := h.tb a ha
    have hne : a.block ≠ s := Blk.ne_ h2 h.blk (by decide)
    have h3 : Blk w' a.block 48 cs := hK.blk h2 fun e => by
      obtain ⟨_, _, cur, hc⟩ := h.own.lt _ e
      exact Blk.ne_ hc h2 (by decide) rfl
    exact ⟨cs, h1, h3.far hne _⟩
  refine ⟨⟨hb, h.sB, hO.keep fun b he => Below.heap_setCell _ _ _ _ (hvs' b he), hl, h.n4, fun hn => ?_, htb⟩, ?_, fun b hb => ?_⟩
  · obtain ⟨b, off, hA, hbl, hr⟩ := h.tasks hn
    obtain ⟨cs, h1, h2⟩ := h.tb _ hA
    have hne : b ≠ s := Blk.ne_ h2 h.blk (by decide)
    have h3 : w'.heap[b]? = w.heap[b]? := hK.block b hbl fun e => by
      obtain ⟨_, _, cur, hc⟩ := h.own.lt _ e
      exact Blk.ne_ hc h2 (by decide) rfl
    have h4 : (w'.setCell ⟨s, 1, none⟩ v').heap[b]? = w.heap[b]? := (Below.heap_setCell _ _ _ _ hne).trans h3
    refine ⟨b, off, hA, Nat.lt_of_lt_of_le hbl (by simpa [World.setCell] using hK.size), fun i hi => (hr i hi).keep fun p hp => World.cell?_of_block (w := w) (by rw [hp]; exact h4)⟩
  · exact Keeps.setCell (S := sfoot s v) (hK.mono fun i hi => .inr hi) (.inl (.inl rfl)) _
  · rcases hb with rfl | he
    · exact .inl (.inl rfl)
    · rcases hv _ he with hv | hb'
      · exact .inl (.inr hv)
      · exact .inr hb'
end
theorem undrew {W w3 : World} (h : Below W.drew.heap.size W.drew w3) : Below W.heap.size W w3 := ⟨h.os, h.tape, h.output, h.size, h.block⟩
def lockE (n : Nat) (D : Nat → Nat → Int) (E : List Ent) (t r : Int) : Int :=
  if askE n t ≠ 0 then askE n t else if usesB D n t r = false then 133 else if lockedB E r = true then 131 else if 4 ≤ (heldE E t).length then 130 else 0
def lockC (n : Nat) (D : Nat → Nat → Int) (E : List Ent) (t r : Int) : List Ent := if lockE n D E t r = 0 then E ++ [(t, r)] else E
set_option maxHeartbeats 1600000 in
theorem lock_c {B s n tc : Nat} {w : World} {TA : Option Addr} {D : Nat → Nat → Int} {v : Value} {E : List Ent} (h : StA B w s TA n tc D v E) (hl : E.length < 100000) (t r : Int) :
    Calls Try.prog 10 #[.pointer (some ⟨s, 0, none⟩), .int .i64 t, .int .i64 r] w fun e w' => e = .returned (.int .i64 (lockE n D E t r)) ∧ SQ B s TA n tc D v (lockC n D E t r) w w' := by
  obtain ⟨A, c, rfl, c1, hR, hA, hc⟩ := h.ent
  have HSAME : Hid (∀ w', Below w.heap.size w w' → lockE n D E t r ≠ 0 → SQ B s TA n tc D (.slice A E.length c) (lockC n D E t r) w w') := fun w' hB e => by
    rw [show lockC n D E t r = E from if_neg e]
    exact SQ.below h hB
  have hB1 : Below w.heap.size w (w.alloc (.cells #[.int .i64 r] 3)) := (Below.refl _ _).alloc (Nat.le_refl _) _
  have hq : (w.alloc (.cells #[.int .i64 r] 3)).cell? ⟨w.heap.size, 0, none⟩ = some (.int .i64 r) := ((Blk.new w 3 #[.int .i64 r]).cell 0).trans rfl
  have hql : w.heap.size < (w.alloc (.cells #[.int .i64 r] 3)).heap.size := by simp
  have h1 := h.below hB1
  have HASK := Lib.hid (asked_c h1 t)
  have hn4 := h.n4
  have HU := Lib.hid (uses_a TA n tc D t r (w.alloc (.cells #[.int .i64 r] 3)).drew (by omega) (h.below hB1.drew).tasks)
  have HL := Lib.hid (fun W (hW : Below (w.alloc (.cells #[.int .i64 r] 3)).heap.size (w.alloc (.cells #[.int .i64 r] 3)) W) => containse_c A c w.heap.size E r W ((hR.below hB1).below hW) (by omega) ((hW.cell (p := ⟨w.heap.size, 0, none⟩) hql).trans hq) (Nat.lt_of_lt_of_le hql hW.size))
  have HE := Lib.hid (fun W (hW : StA B W s TA n tc D (.slice A E.length c) E) => held_c hW t)
  have HH1 := Lib.hid h1
  have HB1 := Lib.hid hB1
  have HH := Lib.hid h
  have HQ := Lib.hid hq
  have HQL := Lib.hid hql
  have HLE : Hid (lockE n D E t r = if askE n t ≠ 0 then askE n t else if usesB D n t r = false then 133 else if lockedB E r = true then 131 else if 4 ≤ (heldE E t).length then 130 else 0) := rfl
  have hmf : ∀ (fn : Fn) (first cap : Array Value) (w : World), (Instr.makeFunc fn first cap).run Try.prog w = .ok (.func fn first cap) w := fun _ _ _ _ => rfl
  obtain ⟨a, ha⟩ : ∃ a, askE n t = a := ⟨_, rfl⟩
  obtain ⟨u, hu⟩ : ∃ u, usesB D n t r = u := ⟨_, rfl⟩
  obtain ⟨l, hll⟩ : ∃ l, lockedB E r = l := ⟨_, rfl⟩
  obtain ⟨HEt, hm⟩ : ∃ m, heldE E t = m := ⟨_, rfl⟩
  have hhl : HEt.length ≤ 100000 := by rw [← hm]; have := heldE_len E t; omega
  rw [ha] at HASK HLE
  rw [hu, hll, hm] at HLE
  rw [hu] at HU
  simp only [hll] at HL
  simp only [hm] at HE
  unfold lockV at HL
  have c0' := h1.c0
  have s0 : (w.alloc (.cells #[.int .i64 r] 3)).drew.cell? ⟨s, 0, none⟩ = some (.slice TA n tc) := c0'
  have e0 : (w.alloc (.cells #[.int .i64 r] 3)).drew.cell? ⟨w.heap.size, 0, none⟩ = some (.int .i64 r) := hq
  clear h h1 hB1 ha hu hll hm hR hq hql c1
  by_cases ha0 : a = 0
  · subst ha0
    rw [if_neg (by simp)] at HLE
    go_enter Try.func10, Try.ntmps10
    go_wp2_with (go_at_call 26; with_reducible refine HASK.out.mono ?_; rintro e w2 ⟨rfl, rfl⟩)
    go_region_held3 (fun w' => w'.cell? ⟨s, 0, none⟩ = some (.slice TA n tc) ∧ w'.cell? ⟨w.heap.size, 0, none⟩ = some (.int .i64 r)) (go_keep)
      (first | (go_at_call 22; with_reducible refine HU.out.mono ?_; rintro e w3 ⟨rfl, hb3⟩; have hb31 : Hid (Below (w.alloc (.cells #[.int .i64 r] 3)).heap.size (w.alloc (.cells #[.int .i64 r] 3)) w3) := Lib.hid (undrew hb3); have hB3 := Lib.hid (below_lift HB1.out hb31.out HB1.out.size); have e3 : w3.cell? ⟨w.heap.size, 0, none⟩ = some (.int .i64 r) := (hb31.out.cell (p := ⟨w.heap.size, 0, none⟩) HQL.out).trans HQ.out; have s3 : w3.cell? ⟨s, 0, none⟩ = some (.slice TA n tc) := (HH.out.below hB3.out).c0; have t3 : w3.cell? ⟨s, 1, none⟩ = some (.slice A E.length c) := (HH.out.below hB3.out).c1; clear s0 e0 hb3))
    cases u with
    | false =>
      rw [if_pos rfl] at HLE
      go_wp2
      go_ret
      exact ⟨ret_int HLE.out.symm, HSAME.out _ hB3.out (by rw [HLE.out]; decide)⟩
    | true =>
      rw [if_neg (by simp)] at HLE
      have HLL := Lib.hid (HL.out w3 hb31.out)
      cases l with
      | true =>
        rw [if_pos rfl] at HLE
        go_wp2_with (go_at_call 28; with_reducible refine HLL.out.mono ?_; rintro e w4 ⟨rfl, hb4⟩; have hB4 := Lib.hid (below_lift hB3.out hb4 hB3.out.size))
        go_ret
        exact ⟨ret_int HLE.out.symm, HSAME.out _ hB4.out (by rw [HLE.out]; decide)⟩
      | false =>
        rw [if_neg (by simp)] at HLE
        have HNEW : Hid (∀ W5, Below w.heap.size w W5 → lockE n D E t r = 0 → ∀ v1 w6, EntS w6 B v1 (E ++ [(t, r)]) → ((W5.alloc (.cells #[.int .i64 t, .int .i64 r] 60)).drew).grownBy w6 (Value.ownBlock (.slice A E.length c)) →
            (∀ b, v1.ownBlock = some b → Value.ownBlock (.slice A E.length c) = some b ∨ ((W5.alloc (.cells #[.int .i64 t, .int .i64 r] 60)).drew).heap.size ≤ b) →
            w6.frozen? ⟨s, 1, none⟩ = false ∧ (∃ u, w6.cell? ⟨s, 1, none⟩ = some u) ∧ ∃ A1 n1 c1, v1 = .slice A1 n1 c1 ∧ Hid (SQ B s TA n tc D (.slice A E.length c) (lockC n D E t r) w (w6.setCell ⟨s, 1, none⟩ v1))) := by
          intro W5 hB5 he v1 w6 hO6 hg6 hv6
          have hB6 : Below w.heap.size w ((W5.alloc (.cells #[.int .i64 t, .int .i64 r] 60)).drew) := (hB5.alloc hB5.size _).drew
          have h6 := HH.out.below hB6
          have hK6 := keeps_grown hg6
          obtain ⟨hZ, hT⟩ := h6.put hO6 hK6 hv6 (by simp; omega)
          have hvs : (Value.slice A E.length c).ownBlock ≠ some s := by
            intro e
            obtain ⟨_, _, cur, hc⟩ := h6.own.lt _ e
            exact Blk.ne_ hc h6.blk (by decide) rfl
          have hb1 := hK6.blk h6.blk hvs
          obtain ⟨A1, c1, rfl, -⟩ := hO6.form
          refine ⟨hb1.frozen _, ⟨_, (hb1.cell 1).trans rfl⟩, A1, _, c1, rfl, _, ?_, (STurn.below hB6).trans hT⟩
          rw [show lockC n D E t r = E ++ [(t, r)] from if_pos he]
          exact hZ
        by_cases hm4 : (4 : Int) ≤ HEt.length
        · rw [if_pos (by omega)] at HLE
          go_wp2_with (first
            | (go_at_call 28; with_reducible refine HLL.out.mono ?_; rintro e w4 ⟨rfl, hb4⟩; have hB4 := Lib.hid (below_lift hB3.out hb4 hB3.out.size); have HE4 := Lib.hid (HE.out w4 (HH.out.below hB4.out)))
            | (go_at_call 13; with_reducible refine HE4.out.mono ?_; rintro e w5 ⟨u5, rfl, hO5, hb5⟩; obtain ⟨A5, c5, rfl, -⟩ := hO5.form; have hB5 := Lib.hid (below_lift hB4.out hb5 hB4.out.size)))
          go_ret
          exact ⟨ret_int HLE.out.symm, HSAME.out _ hB5.out (by rw [HLE.out]; decide)⟩
        rw [if_neg (by omega)] at HLE
        go_wp2_with (first
          | (go_at_call 28; with_reducible refine HLL.out.mono ?_; rintro e w4 ⟨rfl, hb4⟩; have hB4 := Lib.hid (below_lift hB3.out hb4 hB3.out.size); have e4 := (hb4.cell (p := ⟨w.heap.size, 0, none⟩) (Nat.lt_of_lt_of_le HQL.out hb31.out.size)).trans e3; clear e3; have HE4 := Lib.hid (HE.out w4 (HH.out.below hB4.out)))
          | (go_at_call 13; with_reducible refine HE4.out.mono ?_; rintro e w5 ⟨u5, rfl, hO5, hb5⟩; obtain ⟨A5, c5, rfl, -⟩ := hO5.form; have hB5 := Lib.hid (below_lift hB4.out hb5 hB4.out.size); have e5 := (hb5.cell (p := ⟨w.heap.size, 0, none⟩) (Nat.lt_of_lt_of_le HQL.out (Nat.le_trans hb31.out.size hb4.size))).trans e4; clear e4 hO5))
        have hB5a := hB5.out
        have h5 := HH.out.below hB5a
        have c5' : w5.cell? ⟨s, 1, none⟩ = some (.slice A E.length c) := h5.c1
        have hX : Below w5.heap.size w5 (w5.alloc (.cells #[.int .i64 t, .int .i64 r] 60)) := (Below.refl _ _).alloc (Nat.le_refl _) _
        have c6' : (w5.alloc (.cells #[.int .i64 t, .int .i64 r] 60)).cell? ⟨s, 1, none⟩ = some (.slice A E.length c) := (h5.below hX).c1
        have e6 : (w5.alloc (.cells #[.int .i64 t, .int .i64 r] 60)).cell? ⟨w.heap.size, 0, none⟩ = some (.int .i64 r) := (hX.cell (p := ⟨w.heap.size, 0, none⟩) (by have h9 := hb31.out.size; have h8 := HQL.out; have h7 := hb4.size; have h6 := hb5.size; show w.heap.size < w5.heap.size; omega)).trans e5
        have hOwn : EntS ((w5.alloc (.cells #[.int .i64 t, .int .i64 r] 60)).drew) B (.slice A E.length c) E := (h5.below hX.drew).own
        have hsrc : SrcR ((w5.alloc (.cells #[.int .i64 t, .int .i64 r] 60)).drew) 2 (some ⟨w5.heap.size, 0, none⟩) 1 1 (ecs [(t, r)]) := by
          have hbk : Blk ((w5.alloc (.cells #[.int .i64 t, .int .i64 r] 60)).drew) w5.heap.size 60 #[.int .i64 t, .int .i64 r] := Blk.new _ _ _
          exact (ent_reads (n := 1) (L := [(t, r)]) hbk rfl).src (fun e => by cases e)
        have HXX := Lib.hid (And.intro hOwn (And.intro hsrc (show B ≤ ((w5.alloc (.cells #[.int .i64 t, .int .i64 r] 60)).drew).heap.size from (h5.below hX.drew).hs)))
        have HN5 := Lib.hid (HNEW.out w5 hB5a HLE.out)
        have hlH := Lib.hid hl
        clear hOwn hsrc h5 hX hB5a hb4 hb5
        go_region_law ((refine step_append_ent rfl _ _ (by rfl) (by rfl) HXX.out.1 (by rfl) HXX.out.2.1 rfl (by have := hlH.out; omega) HXX.out.2.2 ?_; intro v1 w6 hown hg6 hf6; obtain ⟨f6, ⟨u6, k6⟩, A6, n6, c6, rfl, HQ6⟩ := HN5.out v1 w6 hown hg6 hf6; clear hown hg6 hf6))
        all_goals go_wp2
        all_goals go_ret
        all_goals exact ⟨ret_int HLE.out.symm, HQ6.out⟩
  · rw [if_pos ha0] at HLE
    have ha1 : (a != 0) = true := by simp [ha0]
    go_enter Try.func10, Try.ntmps10
    go_wp2_with (go_at_call 26; with_reducible refine HASK.out.mono ?_; rintro e w2 ⟨rfl, rfl⟩)
    go_ret
    exact ⟨ret_int HLE.out.symm, HSAME.out _ HB1.out (by rw [HLE.out]; exact ha0)⟩
end Go.Proofs.Ytmgcjdedgfiboaa
