/- The program's stack: Unlock, Drop. -/
import Derived.Test.YtmgcjdedgfiboaaStkL
import Derived.Deep.CutBlock
import Derived.Deep.DeepCutAuto
namespace Go.Proofs.Ytmgcjdedgfiboaa
set_option linter.unusedVariables false
open Go.RowKit

/-- What Unlock answers, and what it leaves. -/
def UnlQ (n : Nat) (E : List Ent) (t r e : Int) (E' : List Ent) : Prop :=
  (askE n t ≠ 0 ∧ r = 0 ∧ e = askE n t ∧ E' = E) ∨ (askE n t = 0 ∧ (∀ x ∈ E, x.1 ≠ t) ∧ r = 0 ∧ e = 132 ∧ E' = E) ∨
    (askE n t = 0 ∧ ∃ (k : Nat) (x : Ent), E[k]? = some x ∧ x.1 = t ∧ (∀ y ∈ E.drop (k + 1), y.1 ≠ t) ∧ r = x.2 ∧ e = 0 ∧ E' = E.take k ++ E.drop (k + 1))
set_option maxHeartbeats 1600000 in
theorem unlock_c {B s n tc : Nat} {w : World} {TA : Option Addr} {D : Nat → Nat → Int} {v : Value} {E : List Ent} (h : StA B w s TA n tc D v E) (t : Int) :
    Calls Try.prog 11 #[.pointer (some ⟨s, 0, none⟩), .int .i64 t] w fun e w' => ∃ r z E', e = .returned (.tuple #[.int .i64 r, .int .i64 z]) ∧ UnlQ n E t r z E' ∧ SQ B s TA n tc D v E' w w' := by
  obtain ⟨A, c, rfl, c1, hR, hA, hc⟩ := h.ent
  have HASK := Lib.hid (asked_c h t)
  have HLAST := Lib.hid (last_c h t)
  have HH := Lib.hid h
  have hl := h.len
  obtain ⟨a, ha⟩ : ∃ a, askE n t = a := ⟨_, rfl⟩
  have HA := Lib.hid ha
  rw [ha] at HASK
  clear h ha
  by_cases ha0 : a = 0
  · subst ha0
    go_enter Try.func11, Try.ntmps11
    go_upto_if 18 with (first
      | (go_at_call 26; with_reducible refine HASK.out.mono ?_; rintro e w2 ⟨rfl, rfl⟩)
      | (go_at_call 29; with_reducible refine HLAST.out.mono ?_; rintro e w3 ⟨z, rfl, hz, hb3⟩))
    have h3 := HH.out.below hb3
    rcases hz with ⟨rfl, hnone⟩ | ⟨k, x, rfl, hx, hxt, hdr⟩
    · have HN := Lib.hid hnone
      clear hnone
      go_wp2
      go_ret2
      exact ⟨0, 132, E, rfl, .inr (.inl ⟨HA.out, HN.out, rfl, rfl, rfl⟩), SQ.below HH.out hb3⟩
    · have hkl : k < E.length := (List.getElem?_eq_some_iff.1 hx).1
      obtain ⟨A9, c9, e9, -, -, -, -, h9⟩ := h3.own.form
      injection e9 with e1 e2 e3
      subst e1 e3
      obtain ⟨b, off, rfl, hbl, hcc⟩ := (hR.below hb3) (by rintro rfl; simp at hkl)
      obtain ⟨g, cur, eg, hg, hk, ht⟩ := h9 _ rfl
      injection eg with eg1 eg2
      subst eg1 eg2
      obtain ⟨d1, d2⟩ := hcc k x hx
      have c3 := h3.c1
      have hk1 : (k : Int) < (E.length : Nat) := by omega
      rw [Nat.zero_add] at d1 d2
      have hB3 := Lib.hid hb3
      have HNEW : Hid (∀ W5, Below w3.heap.size w3 W5 → EntS W5 B (.slice (some ⟨b, 0, none⟩) k k) (E.take k) ∧ (∀ ad c', c = k + 1 ∨ ad = ⟨b, (k + 1) * 2, none⟩ → SrcR W5 2 (some ad) (E.length - (k + 1)) c' (ecs (E.drop (k + 1)))) ∧ B ≤ W5.heap.size ∧
          ∀ v1 w6, EntS w6 B v1 (E.take k ++ E.drop (k + 1)) → W5.grownBy w6 (Value.ownBlock (.slice (some ⟨b, 0, none⟩) k k)) →
            (∀ b', v1.ownBlock = some b' → Value.ownBlock (.slice (some ⟨b, 0, none⟩) k k) = some b' ∨ W5.heap.size ≤ b') →
            w6.frozen? ⟨s, 1, none⟩ = false ∧ w6.cell? ⟨s, 1, none⟩ = some (.slice (some ⟨b, 0, none⟩) E.length c) ∧ ∃ A1 n1 c1, v1 = .slice A1 n1 c1 ∧ Hid (SQ B s TA n tc D (.slice (some ⟨b, 0, none⟩) E.length c) (E.take k ++ E.drop (k + 1)) w (w6.setCell ⟨s, 1, none⟩ v1))) := by
        intro W5 hB5
        have hBw : Below w.heap.size w W5 := below_lift hb3 hB5 hb3.size
        have h5 := HH.out.below hBw
        have hk5 := hk.below hB5 hk.lt
        have hr5 : EntR W5 (some ⟨b, 0, none⟩) E := ent_reads hk5 ht
        have htk : cur.toList.take ((E.take k).length * 2) = ecs (E.take k) := by
          rw [← ecs_take, ← ht, List.take_take]
          congr 1
          simp
          try omega
        have hlk : (E.take k).length = k := by simp; omega
        refine ⟨.inr ⟨b, cur, by rw [hlk], hg, hk5, htk, by omega⟩, fun ad c' had => ⟨by rw [ecs_len, List.length_drop], .inr ⟨_, rfl, fun j u hu => ?_⟩⟩, h5.hs, fun v1 w6 hO6 hg6 hv6 => ?_⟩
        · have hsrc := hr5.src (c := c) (fun e => by cases e)
          obtain ⟨_, ⟨e, _, _⟩ | ⟨ad3, e3, hc3⟩⟩ := hsrc
          · cases e
          · injection e3 with e3
            subst e3
            have hd : ecs (E.drop (k + 1)) = (ecs E).drop ((k + 1) * 2) := by
              have h9 := ecs_app (E.take (k + 1)) (E.drop (k + 1))
              rw [List.take_append_drop] at h9
              rw [h9, List.drop_left']
              rw [ecs_len, List.length_take, Nat.min_eq_left (by omega)]
            rcases had with hck | rfl
            · rw [List.drop_of_length_le (by omega)] at hu
              simp [ecs] at hu
            · rw [hd, List.getElem?_drop] at hu
              have := hc3 _ u hu
              rw [add_at] at this ⊢
              rwa [Nat.zero_add] at this
        · have hK6 : Keeps (fun b' => Value.ownBlock (.slice (some ⟨b, 0, none⟩) E.length c) = some b') W5 w6 := keeps_grown hg6
          obtain ⟨hZ, hT⟩ := h5.put hO6 hK6 hv6 (by simp; omega)
          have hvs : (Value.slice (some ⟨b, 0, none⟩) E.length c).ownBlock ≠ some s := by
            intro e
            obtain ⟨_, _, cur, hc⟩ := h5.own.lt _ e
            exact Blk.ne_ hc h5.blk (by decide) rfl
          have hb1 := hK6.blk h5.blk hvs
          obtain ⟨A1, c1, rfl, -⟩ := hO6.form
          exact ⟨hb1.frozen _, (hb1.cell 1).trans rfl, A1, _, c1, rfl, _, hZ, (STurn.below hBw).trans hT⟩
      have HX := Lib.hid (And.intro hx (And.intro hxt hdr))
      have HN := Lib.hid (HNEW.out w3.drew (Below.refl _ _).drew)
      have c3d : w3.drew.cell? ⟨s, 1, none⟩ = some (.slice (some ⟨b, 0, none⟩) E.length c) := c3
      have hc9 : (E.length : Int) ≤ c := by omega
      have hc8 : (c : Int) ≤ 9223372036854775807 := by obtain ⟨A9, c9, e9, -, -, -, h9, -⟩ := h3.own.form; injection e9 with e1 e2 e3; omega
      have hlk : Hid ((E.take k).length + (E.length - (k + 1)) ≤ 1000000) := by show (E.take k).length + (E.length - (k + 1)) ≤ 1000000; simp; omega
      clear h3 hR hcc hx hxt hdr HNEW hb3 ht hk hc
      have hw : IntKind.i64.wrap ((k : Int) + 1) = (k : Int) + 1 := by rw [IntKind.wrap_i64]; omega
      have hw1 : (0 : Int) ≤ (k : Int) + 1 := by omega
      have hw2 : (k : Int) + 1 ≤ (E.length : Nat) := by omega
      by_cases hck : c = k + 1
      · have HCK := Lib.hid hck
        have hk6 : (k : Int) ≤ (k : Int) + 1 := by omega
        go_wp2_with fail
        go_region_law ((refine step_append_ent rfl _ _ (by rfl) (by rfl) HN.out.1 (by rfl) (HN.out.2.1 _ _ (.inl HCK.out)) (by simp) hlk.out HN.out.2.2.1 ?_; intro v1 w6 hown hg6 hf6; obtain ⟨f6, k6, A6, n6, c6, rfl, HQ6⟩ := HN.out.2.2.2 v1 w6 hown hg6 hf6; clear hown hg6 hf6))
        all_goals go_wp2
        all_goals go_ret2
        all_goals exact ⟨x.2, 0, _, rfl, .inr (.inr ⟨HA.out, k, x, HX.out.1, HX.out.2.1, HX.out.2.2, rfl, rfl, rfl⟩), HQ6.out⟩
      · have HCK := Lib.hid hck
        have hk6 : (k : Int) ≤ (c : Nat) := by omega
        go_wp2_with fail
        go_region_law ((refine step_append_ent rfl _ _ (by rfl) (by rfl) HN.out.1 (by rfl) (HN.out.2.1 _ _ (.inr rfl)) (by simp) hlk.out HN.out.2.2.1 ?_; intro v1 w6 hown hg6 hf6; obtain ⟨f6, k6, A6, n6, c6, rfl, HQ6⟩ := HN.out.2.2.2 v1 w6 hown hg6 hf6; clear hown hg6 hf6))
        all_goals go_wp2
        all_goals go_ret2
        all_goals exact ⟨x.2, 0, _, rfl, .inr (.inr ⟨HA.out, k, x, HX.out.1, HX.out.2.1, HX.out.2.2, rfl, rfl, rfl⟩), HQ6.out⟩
  · have ha1 : (a != 0) = true := by simp [ha0]
    go_enter Try.func11, Try.ntmps11
    go_wp2_with (go_at_call 26; with_reducible refine HASK.out.mono ?_; rintro e w2 ⟨rfl, rfl⟩)
    go_ret2
    exact ⟨0, a, E, rfl, .inl ⟨by rw [HA.out]; exact ha0, rfl, HA.out.symm, rfl⟩, SQ.same HH.out⟩
end Go.Proofs.Ytmgcjdedgfiboaa
