/- The document's stack: Unlock. -/
import Derived.Test.YtmgcjdedgfiboaaDocL
namespace Go.Proofs.Ytmgcjdedgfiboaa
set_option linter.unusedVariables false
open Go.RowKit

theorem run_slice_0k (w : World) (a : Option Addr) (len cap k : Nat) (hk : k ≤ cap) : (Instr.slice 67 (.slice a len cap) none (some (.int .i64 (k : Nat))) none).run Try.prog w = .ok (.slice a k cap) w := by
  have ht : Try.prog.underlying 67 = some (.slice (Try.prog.elem 67)) := by kernel_rfl
  have hs : (sizeOf (Try.prog.elem 67)).run Try.prog w = .ok 2 w := by kernel_rfl
  rw [run_slice_h w 67 a len cap ht .i64 (k : Nat) (by omega) (by omega), hs]
  simp only [Result.andThen, sliced, Int.toNat_natCast, Nat.sub_zero]
  congr 1
  cases a with
  | none => simp
  | some a => simp [Addr.add]
theorem EntR.take {w : World} {A : Option Addr} {E : List Ent} (h : EntR w A E) (k : Nat) : EntR w A (E.take k) := fun hL => by
  obtain ⟨b, off, hA, hb, hx⟩ := h (by rintro rfl; simp at hL)
  refine ⟨b, off, hA, hb, fun i x hi => hx i x ?_⟩
  rw [List.getElem?_take] at hi
  split at hi
  · exact hi
  · cases hi
theorem EntR.drop {w : World} {b off : Nat} {E : List Ent} (h : EntR w (some ⟨b, off, none⟩) E) (k : Nat) : EntR w (some ⟨b, off + k * 2, none⟩) (E.drop k) := fun hL => by
  obtain ⟨b', off', hA, hb, hx⟩ := h (by rintro rfl; simp at hL)
  injection hA with hA
  injection hA with e1 e2
  subst e1 e2
  refine ⟨b, off + k * 2, rfl, hb, fun i x hi => ?_⟩
  rw [List.getElem?_drop] at hi
  have := hx (k + i) x hi
  rw [show off + k * 2 + i * 2 = off + (k + i) * 2 by omega]
  exact this
/-- What is handed over when the entries are put anew in a row of the call's own. -/
theorem dput {B s n tc c : Nat} {w w1 w2 : World} {TA A : Option Addr} {D : Nat → Nat → Int} {E E' : List Ent} {v2 : Value} (h : StM B w s TA n tc D (.slice A E.length c) E) (hB : Below w.heap.size w w2) (hO : EntD w2 w.heap.size v2 E') (hl : E'.length ≤ 100000) :
    w2.frozen? ⟨s, 1, none⟩ = false ∧ w2.cell? ⟨s, 1, none⟩ = some (.slice A E.length c) ∧ ∃ A1 n1 c1, v2 = .slice A1 n1 c1 ∧ Hid (DQ B s TA n tc D (.slice A E.length c) E' w (w2.setCell ⟨s, 1, none⟩ v2)) := by
  have h2 := h.below hB
  have hZ := h.put (hO.mono h.hs) (Keeps.of_below hB) (fun b hb => .inr (hO.lt b hb).1) hl
  obtain ⟨A1, c1, rfl, -⟩ := hO.form
  exact ⟨h2.blk.frozen _, h2.c1, A1, _, c1, rfl, _, hZ.1, hZ.2⟩
def DUnl (B s n tc : Nat) (w : World) (TA : Option Addr) (D : Nat → Nat → Int) (v : Value) (E : List Ent) (t : Int) (e : Ending) (w' : World) : Prop :=
  ∃ r z E', e = .returned (.tuple #[.int .i64 r, .int .i64 z]) ∧ UnlQ n E t r z E' ∧ DQ B s TA n tc D v E' w w'
set_option maxRecDepth 10000 in
set_option maxHeartbeats 1600000 in
theorem dunlock_c {B s n tc : Nat} {w : World} {TA : Option Addr} {D : Nat → Nat → Int} {v : Value} {E : List Ent} (h : StM B w s TA n tc D v E) (t : Int) :
    Calls Try.prog 36 #[.pointer (some ⟨s, 0, none⟩), .int .i64 t] w fun e w' => DUnl B s n tc w TA D v E t e w' := by
  obtain ⟨A, c, rfl, c1, hR, hA, hc⟩ := h.ent
  have c0 := h.c0
  have hl := h.len
  have hn4 := h.n4
  have HH := Lib.hid h
  have HR := Lib.hid hR
  have hcb : c ≤ 9223372036854775807 := by
    obtain ⟨A9, c9, e9, -, -, -, h9, -⟩ := h.own.form
    injection e9 with e1 e2 e3
    omega
  clear h hR
  by_cases ha : t < 0 ∨ (n : Int) ≤ t
  · have hae : askE n t = 9 := if_pos ha
    have HAE := Lib.hid hae
    clear hae
    by_cases ht0 : t < 0
    · clear ha
      go_enter Try.func36, Try.ntmps36
      go_wp2
      go_ret2
      exact ⟨0, 9, E, rfl, .inl ⟨by rw [HAE.out]; decide, rfl, HAE.out.symm, rfl⟩, DQ.below HH.out (Below.refl _ _)⟩
    · have ht1 : (n : Int) ≤ t := by omega
      clear ha
      go_enter Try.func36, Try.ntmps36
      go_wp2
      go_ret2
      exact ⟨0, 9, E, rfl, .inl ⟨by rw [HAE.out]; decide, rfl, HAE.out.symm, rfl⟩, DQ.below HH.out (Below.refl _ _)⟩
  · have hae : askE n t = 0 := if_neg ha
    have ht0 : ¬ t < 0 := by omega
    have ht1 : ¬ (n : Int) ≤ t := by omega
    have HAE := Lib.hid hae
    clear ha hae
    go_enter Try.func36, Try.ntmps36
    go_wp2_with fail
    go_loopw [6] (fun y wr => ∃ k : Nat, k ≤ E.length ∧ y = .int .i64 ((E.length : Int) - 1 - k) ∧ Hid (∀ x ∈ E.drop (E.length - k), x.1 ≠ t) ∧ Hid (w = wr)) (fun y _ => (intOf y + 1).toNat)
    case atStart => exact ⟨0, by omega, by simp, Lib.hid (by simp), Lib.hid (by trivial)⟩
    case round =>
      obtain ⟨k, hk, rfl, HK, hww⟩ := hrel
      obtain rfl := hww.out
      by_cases hlt : k < E.length
      · obtain ⟨i, hi⟩ : ∃ i : Nat, E.length - 1 - k = i := ⟨_, rfl⟩
        have hii : (E.length : Int) - 1 - k = (i : Int) := by omega
        obtain ⟨x, hx⟩ : ∃ x, E[i]? = some x := ⟨_, List.getElem?_eq_getElem (by omega)⟩
        obtain ⟨A9, c9, e9, -, -, -, -, h9⟩ := HH.out.own.form
        injection e9 with e1 e2 e3
        subst e1 e3
        obtain ⟨b, off, rfl, hbl, hcc⟩ := HR.out (by intro e; rw [e] at hx; cases hx)
        obtain ⟨g, cur, eg, hg, hkb, ht⟩ := h9 _ rfl
        injection eg with eg1 eg2
        subst eg1 eg2
        obtain ⟨d1, d2⟩ := hcc i x hx
        rw [Nat.zero_add] at d1 d2
        have hil : (i : Int) < (E.length : Nat) := by omega
        have hi0 : (0 : Int) ≤ (i : Int) := by omega
        rw [hii]
        obtain ⟨y, hy⟩ : ∃ y, (x.1 == t) = y := ⟨_, rfl⟩
        have HX := Lib.hid hx
        have HY := Lib.hid hy
        have hid : Hid (E.drop (i + 1) = E.drop (E.length - k)) := by show E.drop (i + 1) = E.drop (E.length - k); congr 1; omega
        have HI := Lib.hid hi
        have HII := Lib.hid hii
        cases y with
        | true =>
          have hyy := HY.out
          have hic : i ≤ c := by omega
          have hsl := fun W => run_slice_0k W (some ⟨b, 0, none⟩) E.length c i hic
          have hTR : Hid (EntR w (some ⟨b, 0, none⟩) (E.take i)) := HR.out.take i
          have hlt2 : (E.take i).length = i := by simp; omega
          have hS1 : Hid (SrcR w 2 (some ⟨b, 0, none⟩) i c (ecs (E.take i))) := by
            have := hTR.out.src (c := c) (fun e => by cases e)
            rwa [hlt2] at this
          have hl1 : Hid (([] : List Ent).length + i ≤ 1000000) := by show ([] : List Ent).length + i ≤ 1000000; simp; omega
          have hN1 : Hid (i = (E.take i).length) := hlt2.symm
          have HP : Hid (∀ v1 w1, EntD w1 w.heap.size v1 ([] ++ E.take i) → w.grownBy w1 (Value.ownBlock (.slice none 0 0)) → Below w.heap.size w w1 ∧ w1.cell? ⟨s, 1, none⟩ = some (.slice (some ⟨b, 0, none⟩) E.length c) ∧ EntD w1 w.heap.size v1 (E.take i) ∧ w.heap.size ≤ w1.heap.size ∧
              (∀ ad c', c = i + 1 ∨ ad = ⟨b, (i + 1) * 2, none⟩ → SrcR w1 2 (some ad) (E.length - (i + 1)) c' (ecs (E.drop (i + 1)))) ∧ ∃ A1 n1 c1, v1 = .slice A1 n1 c1) := by
            intro v1 w1 hO hg
            have hB : Below w.heap.size w w1 := ⟨hg.os, hg.tape, hg.output, hg.size, fun j hj => hg.block j hj (by simp [Value.ownBlock])⟩
            have hO2 : EntD w1 w.heap.size v1 (E.take i) := by simpa using hO
            obtain ⟨A1, c1, rfl, -⟩ := hO2.form
            refine ⟨hB, (HH.out.below hB).c1, hO2, hB.size, fun ad c' had => ?_, A1, _, c1, rfl⟩
            have hR1 := (HR.out.below hB).drop (i + 1)
            rw [Nat.zero_add] at hR1
            rcases had with hck | rfl
            · have hd : E.drop (i + 1) = [] := List.drop_of_length_le (by omega)
              rw [hd, show E.length - (i + 1) = 0 by omega]
              exact ⟨rfl, .inr ⟨ad, rfl, fun j u hu => by simp [ecs] at hu⟩⟩
            · have := hR1.src (c := c') (fun e => by cases e)
              rwa [List.length_drop] at this
          have hl2 : Hid ((E.take i).length + (E.length - (i + 1)) ≤ 1000000) := by show (E.take i).length + (E.length - (i + 1)) ≤ 1000000; simp; omega
          have hN2 : Hid (E.length - (i + 1) = (E.drop (i + 1)).length) := by show E.length - (i + 1) = (E.drop (i + 1)).length; simp
          have HFIN : Hid (∀ v2 w1 w2, EntD w2 w.heap.size v2 (E.take i ++ E.drop (i + 1)) → Below w.heap.size w w2 → w2.frozen? ⟨s, 1, none⟩ = false ∧ w2.cell? ⟨s, 1, none⟩ = some (.slice (some ⟨b, 0, none⟩) E.length c) ∧ ∃ A1 n1 c1, v2 = .slice A1 n1 c1 ∧ Hid (DQ B s TA n tc D (.slice (some ⟨b, 0, none⟩) E.length c) (E.take i ++ E.drop (i + 1)) w (w2.setCell ⟨s, 1, none⟩ v2))) :=
            fun v2 w1 w2 hO hB => dput (w1 := w1) HH.out hB hO (by simp; omega)
          have hw : IntKind.i64.wrap ((i : Int) + 1) = (i : Int) + 1 := by rw [IntKind.wrap_i64]; omega
          have hw1 : (0 : Int) ≤ (i : Int) + 1 := by omega
          have hw2 : (i : Int) + 1 ≤ (E.length : Nat) := by omega
          have hnil : Hid (EntD w w.heap.size (.slice none 0 0) []) := EntD.nil
          clear hy hx hcc hi hii hkb ht hlt2 hic c0
          by_cases hck : c = i + 1
          · subst hck
            have hz : E.length - (i + 1) = 0 := by omega
            rw [hz] at hN2 hl2 HP
            clear hz
            go_wp2_with (first
              | (at_builtin; refine wpList_append_entd (B := w.heap.size) (v := .slice none 0 0) (L := []) (M := E.take i) rfl _ _ rfl rfl hnil.out rfl hS1.out hN1.out hl1.out (Nat.le_refl _) ?_; intro v1 w1 hO1 hg1 _; obtain ⟨hB1, k1, hO1', hs1, hS2, A1, n1, c1', rfl⟩ := HP.out v1 w1 hO1 hg1; clear hO1 hg1; have HS2 := Lib.hid hS2; have HO1 := Lib.hid hO1'; clear hS2 hO1')
              | (at_builtin; refine wpList_append_entd (B := w.heap.size) (L := E.take i) (M := E.drop (i + 1)) rfl _ _ rfl rfl HO1.out rfl (HS2.out _ _ (.inl rfl)) hN2.out hl2.out hs1 ?_; intro v2 w2 hO2 hg2 _; obtain ⟨f2, k2, A2, n2, c2', rfl, HQ⟩ := HFIN.out v2 w1 w2 hO2 (below_grown hB1 hg2 hs1 (own_from HO1.out)); clear hO2 hg2))
            go_ret2
            exact ⟨x.2, 0, _, rfl, .inr (.inr ⟨HAE.out, i, x, HX.out, by simpa using HY.out, by rw [hid.out]; exact HK.out, rfl, rfl, rfl⟩), HQ.out⟩
          · have HCK := Lib.hid hck
            go_wp2_with (first
              | (at_builtin; refine wpList_append_entd (B := w.heap.size) (v := .slice none 0 0) (L := []) (M := E.take i) rfl _ _ rfl rfl hnil.out rfl hS1.out hN1.out hl1.out (Nat.le_refl _) ?_; intro v1 w1 hO1 hg1 _; obtain ⟨hB1, k1, hO1', hs1, hS2, A1, n1, c1', rfl⟩ := HP.out v1 w1 hO1 hg1; clear hO1 hg1; have HS2 := Lib.hid hS2; have HO1 := Lib.hid hO1'; clear hS2 hO1')
              | (at_builtin; refine wpList_append_entd (B := w.heap.size) (L := E.take i) (M := E.drop (i + 1)) rfl _ _ rfl rfl HO1.out rfl (HS2.out _ _ (.inr rfl)) hN2.out hl2.out hs1 ?_; intro v2 w2 hO2 hg2 _; obtain ⟨f2, k2, A2, n2, c2', rfl, HQ⟩ := HFIN.out v2 w1 w2 hO2 (below_grown hB1 hg2 hs1 (own_from HO1.out)); clear hO2 hg2))
            go_ret2
            exact ⟨x.2, 0, _, rfl, .inr (.inr ⟨HAE.out, i, x, HX.out, by simpa using HY.out, by rw [hid.out]; exact HK.out, rfl, rfl, rfl⟩), HQ.out⟩
        | false =>
          have hyy := HY.out
          have hxx : x.1 ≠ t := by intro e; have := HY.out; simp [e] at this
          have HXT := Lib.hid hxx
          clear hy hx hcc hi hii hkb ht hxx
          go_wp2_with fail
          go_roundw
          case rel =>
            refine ⟨k + 1, by omega, by congr 1; have := HII.out; omega, ?_, Lib.hid (by trivial)⟩
            have hd : E.drop (E.length - (k + 1)) = x :: E.drop (E.length - k) := by
              rw [← hid.out, show E.length - (k + 1) = i by have := HI.out; omega, List.drop_eq_getElem_cons (List.getElem?_eq_some_iff.1 HX.out).1, (List.getElem?_eq_some_iff.1 HX.out).2]
            show ∀ y ∈ E.drop (E.length - (k + 1)), y.1 ≠ t
            rw [hd]
            intro y hy
            rcases List.mem_cons.1 hy with rfl | hy
            · exact HXT.out
            · exact HK.out y hy
          case measure => first | (simp [intOf]; done) | (simp [intOf]; omega)
      · obtain rfl : E.length = k := by omega
        have hii : (E.length : Int) - 1 - E.length = -1 := by omega
        rw [hii]
        go_wp2_with fail
        go_ret2
        have := HK.out
        rw [Nat.sub_self, List.drop_zero] at this
        exact ⟨0, 132, E, rfl, .inr (.inl ⟨HAE.out, this, rfl, rfl, rfl⟩), DQ.below HH.out (Below.refl _ _)⟩
theorem dunlock_q {B s n tc : Nat} {w : World} {TA : Option Addr} {D : Nat → Nat → Int} {v : Value} {E : List Ent} (h : StM B w s TA n tc D v E) (t : Int) :
    Calls Try.prog 36 #[.pointer (some ⟨s, 0, none⟩), .int .i64 t] w fun e w' => ∃ r z E', e = .returned (.tuple #[.int .i64 r, .int .i64 z]) ∧ UnlQ n E t r z E' ∧ ∃ v', StM B w' s TA n tc D v' E' ∧ STurn s v v' w w' := dunlock_c h t
end Go.Proofs.Ytmgcjdedgfiboaa
