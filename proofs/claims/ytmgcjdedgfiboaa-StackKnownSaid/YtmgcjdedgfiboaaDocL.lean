/- The document's stack: New, Lock. -/
import Derived.Test.YtmgcjdedgfiboaaDocS
namespace Go.Proofs.Ytmgcjdedgfiboaa
set_option linter.unusedVariables false
open Go.RowKit

theorem dnew_ok (A : Option Addr) (n c : Nat) (D : Nat → Nat → Int) (w : World) (hn : n ≤ 4) (h : TasksAt w A n D) (hA : A = none → c = 0) :
    Calls Try.prog 19 #[.slice A n c] w fun e w' => ∃ s TA tc, e = .returned (.tuple #[.pointer (some ⟨s, 0, none⟩), .int .i64 0]) ∧ StM w.heap.size w' s TA n tc D (.slice none 0 0) [] ∧ Below w.heap.size w w' := by
  obtain ⟨i0, hi0, hz0, hz1, hz2⟩ := info_parts' task_info
  have h4 : ¬ (4 : Int) < (n : Nat) := by omega
  have h5 : decide ((4 : Int) < (n : Nat)) = false := decide_eq_false h4
  have h6 : ¬ 4 < n := by omega
  have hB1 : Below w.heap.size w (w.alloc (.cells #[.slice none 0 0, .slice none 0 0] 69)) := (Below.refl _ _).alloc (Nat.le_refl _) _
  have hsl : Hid (SrcR (w.alloc (.cells #[.slice none 0 0, .slice none 0 0] 69)) 8 A n c (tcs D n)) := (h.below hB1).src hA
  have hk : Blk (w.alloc (.cells #[.slice none 0 0, .slice none 0 0] 69)) w.heap.size 69 #[.slice none 0 0, .slice none 0 0] := Blk.new _ _ _
  have kc := hk.cell 0
  have HP : Hid (∀ v1 w1, w1.ownsRow w.heap.size 48 8 v1 n (tcs D n) → (w.alloc (.cells #[.slice none 0 0, .slice none 0 0] 69)).grownBy w1 none →
      w1.frozen? ⟨w.heap.size, 0, none⟩ = false ∧ w1.cell? ⟨w.heap.size, 0, none⟩ = some (.slice none 0 0) ∧ ∃ A1 n1 c1, v1 = .slice A1 n1 c1 ∧
        Hid (∃ TA tc, StM w.heap.size (w1.setCell ⟨w.heap.size, 0, none⟩ (.slice A1 n1 c1)) w.heap.size TA n tc D (.slice none 0 0) [] ∧ Below w.heap.size w (w1.setCell ⟨w.heap.size, 0, none⟩ (.slice A1 n1 c1)))) := by
    intro v1 w1 ho hg
    have hK : Below (w.alloc (.cells #[.slice none 0 0, .slice none 0 0] 69)).heap.size (w.alloc (.cells #[.slice none 0 0, .slice none 0 0] 69)) w1 := ⟨hg.os, hg.tape, hg.output, hg.size, fun i hi => hg.block i hi (by simp)⟩
    have hk1 := hk.below hK hk.lt
    obtain ⟨A1, c1, rfl, k1, k2, k3, k4⟩ := own_form ho
    have hb := hk1.set_ 0 (.slice A1 n c1)
    have hz : (#[.slice none 0 0, .slice none 0 0] : Array Value).setIfInBounds 0 (.slice A1 n c1) = mCells A1 n c1 (.slice none 0 0) := rfl
    rw [hz] at hb
    have htb : ∀ a, A1 = some a → ∃ cur, a = ⟨a.block, 0, none⟩ ∧ w.heap.size ≤ a.block ∧ Blk w1 a.block 48 cur ∧ cur.toList.take (n * 8) = tcs D n := fun a ha => by
      obtain ⟨g, cur, rfl, hg2, hk2, hs2, ht2⟩ := k4 a ha
      exact ⟨cur, rfl, hg2, hk2, ht2⟩
    refine ⟨hk1.frozen _, (hk1.cell 0).trans rfl, A1, n, c1, rfl, A1, c1, ⟨hb, Nat.le_refl _, EntD.nil, by simp, hn, fun hn0 => ?_, fun a ha => ?_⟩, ?_⟩
    · cases A1 with
      | none => have := (k3 rfl).1; omega
      | some a =>
        obtain ⟨cur, e, hg2, hk2, ht2⟩ := htb a rfl
        have hne : a.block ≠ w.heap.size := Blk.ne_ hk2 hk1 (by decide)
        have hk3 := hk2.far (p := ⟨w.heap.size, 0, none⟩) hne (.slice (some a) n c1)
        have hts := tasks_of hk3 ht2
        rw [← e] at hts
        exact hts hn0
    · obtain ⟨cur, e, hg2, hk2, ht2⟩ := htb a ha
      have hne : a.block ≠ w.heap.size := Blk.ne_ hk2 hk1 (by decide)
      exact ⟨cur, hg2, hk2.far hne _⟩
    · exact (below_lift hB1 hK hB1.size).setCell (p := ⟨w.heap.size, 0, none⟩) (Nat.le_refl _) _
  clear h
  go_enter Try.func19, Try.ntmps19
  go_wp2_with (at_builtin; refine wpList_append_src rfl _ _ _ rfl w.heap.size 48 i0 _ 8 64 Try.underlying22 hi0 hz0 hz1 hz2 rfl (by omega) (.slice none 0 0) 0 [] rfl (own_none _ _ _ _) _ _ _ (tcs D n) rfl hsl.out (tcs_one D n) (by simp only [maxLen]; omega) (by omega) (by simp) ?_; intro v1 w1 hown hg hfr; obtain ⟨f1, k1, A1, n1, c1, rfl, HQ⟩ := HP.out v1 w1 (by simpa using hown) hg; clear hown hg hfr)
  go_ret2
  obtain ⟨TA, tc, q1, q2⟩ := HQ.out
  first
    | exact ⟨w.heap.size, TA, tc, rfl, q1, q2⟩
    | exact ⟨w.heap.size, rfl, ⟨TA, tc, q1⟩, q2⟩
    | exact ⟨w.heap.size, rfl, TA, tc, q1, q2⟩
    | exact ⟨w.heap.size, rfl, TA, ⟨tc, q1⟩, q2⟩
def dlockE (n : Nat) (D : Nat → Nat → Int) (E : List Ent) (t r : Int) : Int :=
  if askE n t ≠ 0 then askE n t else if usesB D n t r = false then 133 else if lockedB E r = true then 131 else if (heldE E t).length = 4 then 130 else 0
def dlockC (n : Nat) (D : Nat → Nat → Int) (E : List Ent) (t r : Int) : List Ent := if dlockE n D E t r = 0 then E ++ [(t, r)] else E
def DQ (B s : Nat) (TA : Option Addr) (n tc : Nat) (D : Nat → Nat → Int) (v : Value) (E' : List Ent) (w w' : World) : Prop := ∃ v', StM B w' s TA n tc D v' E' ∧ STurn s v v' w w'
theorem DQ.below {B s n tc : Nat} {w : World} {TA : Option Addr} {D : Nat → Nat → Int} {v : Value} {E : List Ent} {w' : World} (h : StM B w s TA n tc D v E) (k : Below w.heap.size w w') : DQ B s TA n tc D v E w w' := ⟨v, h.below k, STurn.below k⟩
theorem dlock_src {B s n tc c : Nat} {w : World} {TA A : Option Addr} {D : Nat → Nat → Int} {E : List Ent} (h : StM B w s TA n tc D (.slice A E.length c) E) (t r : Int) :
    EntD (w.alloc (.cells #[.int .i64 t, .int .i64 r] 77)) B (.slice A E.length c) E ∧ SrcR (w.alloc (.cells #[.int .i64 t, .int .i64 r] 77)) 2 (some ⟨w.heap.size, 0, none⟩) 1 1 (ecs [(t, r)]) ∧ B ≤ (w.alloc (.cells #[.int .i64 t, .int .i64 r] 77)).heap.size ∧
      (w.alloc (.cells #[.int .i64 t, .int .i64 r] 77)).cell? ⟨s, 1, none⟩ = some (.slice A E.length c) := by
  have hX : Below w.heap.size w (w.alloc (.cells #[.int .i64 t, .int .i64 r] 77)) := (Below.refl _ _).alloc (Nat.le_refl _) _
  have h1 := h.below hX
  have hbk : Blk (w.alloc (.cells #[.int .i64 t, .int .i64 r] 77)) w.heap.size 77 #[.int .i64 t, .int .i64 r] := Blk.new _ _ _
  exact ⟨h1.own, (ent_readsT (n := 1) (L := [(t, r)]) hbk rfl).src (fun e => by cases e), h1.hs, h1.c1⟩
set_option maxRecDepth 10000 in
set_option maxHeartbeats 1600000 in
theorem dlock_c {B s n tc : Nat} {w : World} {TA : Option Addr} {D : Nat → Nat → Int} {v : Value} {E : List Ent} (h : StM B w s TA n tc D v E) (hl : E.length < 100000) (t r : Int) :
    Calls Try.prog 35 #[.pointer (some ⟨s, 0, none⟩), .int .i64 t, .int .i64 r] w fun e w' => e = .returned (.int .i64 (dlockE n D E t r)) ∧ DQ B s TA n tc D v (dlockC n D E t r) w w' := by
  obtain ⟨A, c, rfl, c1, hR, hA, hc⟩ := h.ent
  have c0 := h.c0
  have HSAME : Hid (∀ w', Below w.heap.size w w' → dlockE n D E t r ≠ 0 → DQ B s TA n tc D (.slice A E.length c) (dlockC n D E t r) w w') := fun w' hB e => by
    rw [show dlockC n D E t r = E from if_neg e]
    exact DQ.below h hB
  have hn4 := h.n4
  have HU := Lib.hid (uses_b TA n tc D t r w (by omega) h.tasks)
  have HH := Lib.hid h
  have HR := Lib.hid hR
  have HLE : Hid (dlockE n D E t r = if askE n t ≠ 0 then askE n t else if usesB D n t r = false then 133 else if lockedB E r = true then 131 else if (heldE E t).length = 4 then 130 else 0) := rfl
  obtain ⟨u, hu⟩ : ∃ u, usesB D n t r = u := ⟨_, rfl⟩
  rw [hu] at HU HLE
  clear h hR hu
  by_cases ha : t < 0 ∨ (n : Int) ≤ t
  · have hae : askE n t = 9 := if_pos ha
    rw [hae, if_pos (by decide)] at HLE
    have HAE := Lib.hid hae
    clear hae
    by_cases ht0 : t < 0
    · clear ha
      go_enter Try.func35, Try.ntmps35
      go_wp2
      go_ret
      exact ⟨ret_int HLE.out.symm, HSAME.out _ (Below.refl _ _) (by rw [HLE.out]; decide)⟩
    · have ht1 : (n : Int) ≤ t := by omega
      clear ha
      go_enter Try.func35, Try.ntmps35
      go_wp2
      go_ret
      exact ⟨ret_int HLE.out.symm, HSAME.out _ (Below.refl _ _) (by rw [HLE.out]; decide)⟩
  · have hae : askE n t = 0 := if_neg ha
    rw [hae, if_neg (by simp)] at HLE
    have ht0 : ¬ t < 0 := by omega
    have ht1 : ¬ (n : Int) ≤ t := by omega
    clear ha hae
    cases u with
    | false =>
      rw [if_pos rfl] at HLE
      go_enter Try.func35, Try.ntmps35
      go_wp2_with (go_at_call 47; with_reducible refine HU.out.mono ?_; rintro e w3 ⟨rfl, hb3⟩)
      go_ret
      exact ⟨ret_int HLE.out.symm, HSAME.out _ hb3 (by rw [HLE.out]; decide)⟩
    | true =>
      rw [if_neg (by simp)] at HLE
      go_enter Try.func35, Try.ntmps35
      go_wp2_with (go_at_call 47; with_reducible refine HU.out.mono ?_; rintro e w3 ⟨rfl, hb3⟩)
      have H3 := Lib.hid (HH.out.below hb3)
      have HR3 := Lib.hid (HR.out.below hb3)
      have t3 : w3.cell? ⟨s, 1, none⟩ = some (.slice A E.length c) := H3.out.c1
      have HB3 := Lib.hid hb3
      clear c0 c1 HU hb3
      go_loopw [7] (fun y wr => ∃ k : Nat, y = .int .i64 k ∧ Hid (k ≤ E.length ∧ lockedB (E.take k) r = false) ∧ Hid (w3 = wr)) (fun y _ => E.length - (intOf y).toNat)
      case atStart => exact ⟨0, rfl, Lib.hid ⟨Nat.zero_le _, by simp [lockedB]⟩, Lib.hid (by trivial)⟩
      case round =>
        obtain ⟨k, rfl, HK, hww⟩ := hrel
        obtain rfl := hww.out
        by_cases hlt : (k : Int) < (E.length : Nat)
        · obtain ⟨x, hx⟩ : ∃ x, E[k]? = some x := ⟨_, List.getElem?_eq_getElem (by omega)⟩
          obtain ⟨b, off, rfl, hbl, hcc⟩ := HR3.out (by intro e; rw [e] at hx; cases hx)
          obtain ⟨d1, d2⟩ := hcc k x hx
          have HX := Lib.hid hx
          obtain ⟨y, hy⟩ : ∃ y, (x.2 == r) = y := ⟨_, rfl⟩
          have HY := Lib.hid hy
          clear hx hcc hy
          cases y with
          | true =>
            have hyy := HY.out
            go_wp2_with fail
            go_ret
            have h1 : lockedB (E.take (k + 1)) r = true := by rw [lockedB_take r HX.out, HY.out, Bool.or_true]
            have h2 : lockedB E r = true := by
              unfold lockedB at h1 ⊢
              rw [List.any_eq_true] at h1 ⊢
              obtain ⟨y, hy, he⟩ := h1
              exact ⟨y, List.mem_of_mem_take hy, he⟩
            have h3 : dlockE n D E t r = 131 := by rw [HLE.out, if_pos h2]
            exact ⟨ret_int h3.symm, HSAME.out _ HB3.out (by rw [h3]; decide)⟩
          | false =>
            have hyy := HY.out
            go_wp2_with fail
            go_roundw
            case rel => exact ⟨k + 1, rfl, Lib.hid ⟨by omega, by rw [lockedB_take r HX.out, HK.out.2, HY.out]; rfl⟩, Lib.hid (by trivial)⟩
            case measure => simp [intOf]; omega
        · have hE : lockedB E r = false := by have h1 := HK.out.2; rwa [List.take_of_length_le (by omega)] at h1
          rw [hE, if_neg (by simp)] at HLE
          have HEL := Lib.hid (dheld_c H3.out t)
          obtain ⟨m0, hm0⟩ : ∃ m, heldE E t = m := ⟨_, rfl⟩
          rw [hm0] at HLE HEL
          clear hE hm0
          have HNEW : Hid (∀ W5, Below w.heap.size w W5 → dlockE n D E t r = 0 → ∀ v1 w6, EntD w6 B v1 (E ++ [(t, r)]) → (W5.alloc (.cells #[.int .i64 t, .int .i64 r] 77)).grownBy w6 (Value.ownBlock (.slice A E.length c)) →
              (∀ b, v1.ownBlock = some b → Value.ownBlock (.slice A E.length c) = some b ∨ (W5.alloc (.cells #[.int .i64 t, .int .i64 r] 77)).heap.size ≤ b) →
              w6.frozen? ⟨s, 1, none⟩ = false ∧ (∃ u, w6.cell? ⟨s, 1, none⟩ = some u) ∧ ∃ A1 n1 c1, v1 = .slice A1 n1 c1 ∧ Hid (DQ B s TA n tc D (.slice A E.length c) (dlockC n D E t r) w (w6.setCell ⟨s, 1, none⟩ v1))) := by
            intro W5 hB5 he v1 w6 hO6 hg6 hv6
            have hB6 : Below w.heap.size w (W5.alloc (.cells #[.int .i64 t, .int .i64 r] 77)) := hB5.alloc hB5.size _
            have h6 := HH.out.below hB6
            have hK6 := keeps_grown hg6
            obtain ⟨hZ, hT⟩ := h6.put hO6 hK6 hv6 (by simp; omega)
            have hvs : (Value.slice A E.length c).ownBlock ≠ some s := by
              intro e
              obtain ⟨_, _, cur, hc⟩ := h6.own.lt _ e
              exact Blk.ne_ hc h6.blk (by decide) rfl
            have hb1 := hK6.blk h6.blk hvs
            obtain ⟨A1, c1, rfl, -⟩ := hO6.form
            refine ⟨hb1.frozen _, ⟨_, (hb1.cell 1).trans rfl⟩, A1, _, c1, rfl, _, ?_, (STurn.below hB6).trans hT⟩
            rw [show dlockC n D E t r = E ++ [(t, r)] from if_pos he]
            exact hZ
          by_cases hm4 : m0.length = 4
          · rw [if_pos hm4] at HLE
            go_wp2_with (go_at_call 41; with_reducible refine HEL.out.mono ?_; rintro e w5 ⟨u5, rfl, hO5, hb5⟩; obtain ⟨A5, c5, rfl, -⟩ := hO5.form; have hB5 := Lib.hid (below_lift HB3.out hb5 HB3.out.size))
            go_ret
            exact ⟨ret_int HLE.out.symm, HSAME.out _ hB5.out (by rw [HLE.out]; decide)⟩
          · rw [if_neg hm4] at HLE
            have hm5 : ((m0.length : Int) == 4) = false := beq_false_of_ne (by omega)
            have hlH := Lib.hid hl
            have hZZ := Lib.hid HLE.out
            go_wp2_with (first
              | (go_at_call 41; with_reducible refine HEL.out.mono ?_; rintro e w5 ⟨u5, rfl, hO5, hb5⟩; obtain ⟨A5, c5, rfl, -⟩ := hO5.form; have hB5 := Lib.hid (below_lift HB3.out hb5 HB3.out.size); have h5 := HH.out.below hB5.out; have c5' : w5.cell? ⟨s, 1, none⟩ = some (.slice A E.length c) := h5.c1; have hXX := Lib.hid (dlock_src h5 t r); have HN5 := Lib.hid (HNEW.out w5 hB5.out hZZ.out); have cX := hXX.out.2.2.2; clear h5 hb5 hO5 t3)
              | (at_builtin; refine wpList_append_entd rfl _ _ rfl rfl hXX.out.1 rfl hXX.out.2.1 rfl (by have := hlH.out; omega) hXX.out.2.2.1 ?_; intro v1 w6 hown hg6 hf6; obtain ⟨f6, ⟨u6, k6⟩, A6, n6, c6, rfl, HQ6⟩ := HN5.out v1 w6 hown hg6 hf6; clear hown hg6 hf6))
            go_ret
            exact ⟨ret_int HLE.out.symm, HQ6.out⟩
end Go.Proofs.Ytmgcjdedgfiboaa
