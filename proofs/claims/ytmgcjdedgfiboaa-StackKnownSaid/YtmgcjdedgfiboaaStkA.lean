/- The entries of a stack in memory; the program's stack; the methods that only read. -/
import Derived.Test.YtmgcjdedgfiboaaLevC
import Derived.Test.YtmgcjdedgfiboaaIntB
import Derived.BigQuiet
import Derived.Deep.RegionHeld3
import Derived.Deep.RegionHeldLaw
import Derived.Deep.RegionLawGrows
namespace Go.Proofs.Ytmgcjdedgfiboaa
set_option linter.unusedVariables false
open Go.RowKit

abbrev Ent := Int × Int
def ecs : List Ent → List Value
  | [] => []
  | x :: L => .int .i64 x.1 :: .int .i64 x.2 :: ecs L
theorem ecs_len : ∀ L : List Ent, (ecs L).length = L.length * 2
  | [] => rfl
  | x :: L => by simp [ecs, ecs_len L]; omega
theorem ecs_app : ∀ L M : List Ent, ecs (L ++ M) = ecs L ++ ecs M
  | [], M => rfl
  | x :: L, M => by simp [ecs, ecs_app L M]
theorem ecs_one : ∀ (L : List Ent), ∀ u ∈ ecs L, u.oneCell' = true
  | [], u, h => by cases h
  | x :: L, u, h => by
    simp only [ecs, List.mem_cons] at h
    rcases h with rfl | rfl | h
    · rfl
    · rfl
    · exact ecs_one L u h
theorem ecs_at : ∀ {L : List Ent} {i : Nat} {x : Ent}, L[i]? = some x → (ecs L)[i * 2]? = some (.int .i64 x.1) ∧ (ecs L)[i * 2 + 1]? = some (.int .i64 x.2)
  | y :: L, 0, x, h => by simp at h; subst h; exact ⟨rfl, rfl⟩
  | y :: L, i + 1, x, h => by
    have := ecs_at (L := L) (i := i) (x := x) (by simpa using h)
    rw [show (i + 1) * 2 = i * 2 + 2 by omega]
    exact this
theorem ecs_take : ∀ (L : List Ent) (n : Nat), (ecs L).take (n * 2) = ecs (L.take n)
  | [], n => by simp [ecs]
  | x :: L, 0 => by simp [ecs]
  | x :: L, n + 1 => by
    rw [show (n + 1) * 2 = n * 2 + 1 + 1 by omega]
    simp [ecs, ecs_take L n]
/-- A slice value that reads as entries. -/
def EntR (w : World) (A : Option Addr) (L : List Ent) : Prop :=
  L ≠ [] → ∃ b off, A = some ⟨b, off, none⟩ ∧ b < w.heap.size ∧ ∀ i x, L[i]? = some x → w.cell? ⟨b, off + i * 2, none⟩ = some (.int .i64 x.1) ∧ w.cell? ⟨b, off + i * 2 + 1, none⟩ = some (.int .i64 x.2)
/-- Entries in memory of the stack's own: a row that may be grown in place, or one without room. -/
def EntS (w : World) (B : Nat) (v : Value) (L : List Ent) : Prop :=
  w.ownsRow B 60 2 v L.length (ecs L) ∨
    ∃ g cur, v = .slice (some ⟨g, 0, none⟩) L.length L.length ∧ B ≤ g ∧ Blk w g 60 cur ∧ cur.toList.take (L.length * 2) = ecs L ∧ L.length ≤ 1000000
theorem ent_info : (Try.prog.info? 60).map (fun i => (i.zero, i.size, i.bytes)) = some (some (.agg #[.int .i64 0, .int .i64 0]), 2, 16) := by kernel_rfl
section
variable {w w' : World} {A : Option Addr} {L M : List Ent} {B : Nat} {v : Value}
theorem EntR.below (h : EntR w A L) (hB : Below w.heap.size w w') : EntR w' A L := fun hL => by
  obtain ⟨b, off, hA, hb, hx⟩ := h hL
  exact ⟨b, off, hA, Nat.lt_of_lt_of_le hb hB.size, fun i x hi => ⟨(hB.cell (p := ⟨b, off + i * 2, none⟩) hb).trans (hx i x hi).1, (hB.cell (p := ⟨b, off + i * 2 + 1, none⟩) hb).trans (hx i x hi).2⟩⟩
theorem EntR.nil : EntR w A [] := fun h => absurd rfl h
theorem own_below' {base size n : Nat} {e : TypeId} {xs : List Value} (h : w.ownsRow base e size v n xs) (hb : ∀ b, v.ownBlock = some b → w'.heap[b]? = w.heap[b]?) : w'.ownsRow base e size v n xs := by
  obtain ⟨h1, h2⟩ := h
  refine ⟨h1, ?_⟩
  rcases h2 with h2 | ⟨g, cap, cur, e1, e0, e3⟩
  · exact .inl h2
  · exact .inr ⟨g, cap, cur, e1, e0, (hb g (by rw [e1]; rfl)).trans e3.1, e3.2⟩
theorem EntS.keep (h : EntS w B v L) (hb : ∀ b, v.ownBlock = some b → w'.heap[b]? = w.heap[b]?) : EntS w' B v L := by
  rcases h with h | ⟨g, cur, rfl, hg, hk, ht⟩
  · exact .inl (own_below' h hb)
  · exact .inr ⟨g, cur, rfl, hg, (hb g rfl).trans hk, ht⟩
theorem EntS.lt (h : EntS w B v L) : ∀ b, v.ownBlock = some b → B ≤ b ∧ b < w.heap.size ∧ ∃ cur, Blk w b 60 cur := by
  intro b hb
  rcases h with h | ⟨g, cur, rfl, hg, hk, ht⟩
  · obtain ⟨A, c, rfl, h1, h2, h3, h4⟩ := own_form h
    cases A with
    | none => simp [Value.ownBlock] at hb
    | some a =>
      obtain ⟨g, cur, rfl, hg, hk, _⟩ := h4 a rfl
      simp [Value.ownBlock] at hb
      subst hb
      exact ⟨hg, hk.lt, cur, hk⟩
  · simp [Value.ownBlock] at hb
    subst hb
    exact ⟨hg, hk.lt, cur, hk⟩
theorem EntS.below (h : EntS w B v L) (k : Below w.heap.size w w') : EntS w' B v L := h.keep fun b hb => k.block b (h.lt b hb).2.1
theorem EntS.mono {B' : Nat} (h : EntS w B v L) (hB : B' ≤ B) : EntS w B' v L := by
  rcases h with ⟨h1, h2⟩ | ⟨g, cur, e, hg, h3⟩
  · refine .inl ⟨h1, ?_⟩
    rcases h2 with h2 | ⟨g, cap, cur, e1, e0, e3⟩
    · exact .inl h2
    · exact .inr ⟨g, cap, cur, e1, Nat.le_trans hB e0, e3⟩
  · exact .inr ⟨g, cur, e, Nat.le_trans hB hg, h3⟩
theorem EntS.nil : EntS w B (.slice none 0 0) [] := .inl ⟨rfl, .inl ⟨rfl, rfl⟩⟩
theorem ent_reads {g n : Nat} {cur : Array Value} {L : List Ent} (hk : Blk w g 60 cur) (ht : cur.toList.take (n * 2) = ecs L) : EntR w (some ⟨g, 0, none⟩) L := fun hL => by
  refine ⟨g, 0, rfl, hk.lt, fun i x hi => ?_⟩
  have := ecs_at hi
  rw [Nat.zero_add]
  exact ⟨(hk.cell _).trans (take_at ht this.1), (hk.cell _).trans (take_at ht this.2)⟩
theorem EntS.form (h : EntS w B v L) : ∃ A c, v = .slice A L.length c ∧ L.length ≤ c ∧ (A = none → c = 0) ∧ EntR w A L ∧ c ≤ 9223372036854775807 ∧ (∀ a, A = some a → ∃ g cur, a = ⟨g, 0, none⟩ ∧ B ≤ g ∧ Blk w g 60 cur ∧ cur.toList.take (L.length * 2) = ecs L) := by
  rcases h with h | ⟨g, cur, rfl, hg, hk, ht⟩
  · obtain ⟨hl, ⟨rfl, hn⟩ | ⟨g, cap, cur, rfl, hb, hh, hn, hm, hs, ht⟩⟩ := h
    · obtain rfl : L = [] := List.eq_nil_of_length_eq_zero hn
      exact ⟨none, 0, rfl, Nat.le_refl _, fun _ => rfl, EntR.nil, by omega, fun a ha => by cases ha⟩
    · refine ⟨some ⟨g, 0, none⟩, cap, rfl, hn, fun h => by simp at h, ent_reads hh ht, by simp [maxLen] at hm; omega, fun a ha => ?_⟩
      simp only [Option.some.injEq] at ha
      subst ha
      exact ⟨g, cur, rfl, hb, hh, ht⟩
  · refine ⟨some ⟨g, 0, none⟩, L.length, rfl, Nat.le_refl _, fun h => by simp at h, ent_reads hk ht.1, ?_, fun a ha => ?_⟩
    · have := ht.2; omega
    · simp only [Option.some.injEq] at ha
      subst ha
      exact ⟨g, cur, rfl, hg, hk, ht.1⟩
theorem EntR.src {c : Nat} (h : EntR w A L) (hA : A = none → c = 0) : SrcR w 2 A L.length c (ecs L) := by
  refine ⟨ecs_len L, ?_⟩
  by_cases hL : L = []
  · subst hL
    cases A with
    | none => exact .inl ⟨rfl, rfl, hA rfl⟩
    | some ad => exact .inr ⟨ad, rfl, fun j u hu => by simp [ecs] at hu⟩
  · obtain ⟨b, off, rfl, hb, hx⟩ := h hL
    refine .inr ⟨_, rfl, fun j u hu => ?_⟩
    have hj : j < L.length * 2 := by rw [← ecs_len]; exact (List.getElem?_eq_some_iff.1 hu).1
    obtain ⟨x, hxx⟩ : ∃ x, L[j / 2]? = some x := ⟨_, List.getElem?_eq_getElem (by omega)⟩
    have he := ecs_at hxx
    have hc := hx _ x hxx
    rw [add_at]
    rcases (by omega : j = j / 2 * 2 ∨ j = j / 2 * 2 + 1) with h1 | h1
    · rw [h1, he.1] at hu
      rw [h1, ← hu]
      exact hc.1
    · rw [h1, he.2] at hu
      rw [h1, ← hu]
      exact hc.2
theorem run_append_tight0 {P : Program} {t ty e : TypeId} {i : TypeInfo} (ht : P.underlying t = some (.slice e)) (hi : P.info? e = some i) (g n c : Nat) : (Builtin.append_ #[t, t] ty #[.slice (some ⟨g, 0, none⟩) n n, .slice none 0 c]).run P w = .ok (.slice (some ⟨g, 0, none⟩) n n) w := by
  simp [Builtin.append_, run_underlying ht, sizeOf, typeInfo, hi, Builtin.lenOf, Builtin.firstCells, storeCells]
/-- append onto a stack's entries. -/
theorem run_append_ent (h : EntS w B v L) {A : Option Addr} {m c : Nat} (hr : SrcR w 2 A m c (ecs M)) (hm : m = M.length) (hl : L.length + m ≤ 1000000) (hB : B ≤ w.heap.size) (ty : TypeId) :
    ∃ v' w', (Builtin.append_ #[55, 55] ty #[v, .slice A m c]).run Try.prog w = .ok v' w' ∧ EntS w' B v' (L ++ M) ∧ w.grownBy w' v.ownBlock ∧ (∀ b, v'.ownBlock = some b → v.ownBlock = some b ∨ w.heap.size ≤ b) := by
  obtain ⟨i0, hi0, hz0, hz1, hz2⟩ := info_parts' ent_info
  subst hm
  rcases h with h | ⟨g, cur, rfl, hg, hk, ht, hL⟩
  · obtain ⟨v', w', h1, h2, h3, h4⟩ := run_append_src (P := Try.prog) B 55 ty 60 i0 _ 2 16 Try.underlying55 hi0 hz0 hz1 hz2 rfl (by omega) v L.length (ecs L) h A M.length c (ecs M) hr (ecs_one M)
      (by simp only [maxLen]; omega) (by omega) hB
    refine ⟨v', w', h1, .inl (by rw [List.length_append, ecs_app]; exact h2), h3, fun b hb => ?_⟩
    rcases h4 with h4 | h4
    · exact .inl (h4 ▸ hb)
    · rw [h4] at hb
      injection hb with hb
      exact .inr (by omega)
  · obtain ⟨hl2, ⟨rfl, hm0, rfl⟩ | ⟨ad, rfl, hc⟩⟩ := hr
    · obtain rfl : M = [] := List.eq_nil_of_length_eq_zero hm0
      refine ⟨_, w, run_append_tight0 Try.underlying55 hi0 g L.length 0, .inr ⟨g, cur, by simp, hg, hk, by simpa using ht, by simpa using hL⟩, World.grownBy.refl w _, fun b hb => .inl hb⟩
    · by_cases hM : M.length = 0
      · obtain rfl : M = [] := List.eq_nil_of_length_eq_zero hM
        have hrun := run_append_room_cells (P := Try.prog) (w := w) 55 ty 60 i0 Try.underlying55 hi0 g 0 L.length L.length ad 0 c [] (by simp) (fun j u hu => by simp at hu) (fun u hu => by cases hu) (by omega) (fun j hj => by simp at hj) (fun j hj => by simp at hj)
        refine ⟨_, w, hrun, .inr ⟨g, cur, by simp, hg, hk, by simpa using ht, by simpa using hL⟩, World.grownBy.refl w _, fun b hb => .inl hb⟩
      · have hrd := ent_reads hk ht
        have hsrc := hrd.src (c := L.length) (fun e => by cases e)
        obtain ⟨hl3, ⟨e, _, _⟩ | ⟨ad3, e3, hc3⟩⟩ := hsrc
        · cases e
        · injection e3 with e3
          subst e3
          obtain ⟨v', w', h1, h2, h3⟩ := run_append_arg_grows (P := Try.prog) w 55 ty 60 i0 _ 2 16 Try.underlying55 hi0 hz0 hz1 hz2 rfl (by omega) ⟨g, 0, none⟩ L.length L.length (ecs L) hl3 hc3 ad M.length c (ecs M) hl2 hc (by omega) (by simp only [maxLen]; omega) (by omega)
          have h2' : EntS w' w.heap.size v' (L ++ M) := .inl (by rw [List.length_append, ecs_app]; exact h2)
          refine ⟨v', w', h1, h2'.mono hB, ⟨h3.os, h3.tape, h3.output, h3.size, fun k hk _ => h3.block k hk (by simp)⟩, fun b hb => .inr (h2'.lt b hb).1⟩
end
section
variable {w : World} {L M : List Ent} {B : Nat} {v : Value}
theorem step_append_ent {ops : Array Oper} {o : Oper} {a : Act} {K : Act → World → Prop} {Q : Exit → Act → World → Prop} {E : Prop} (hgd : o.guard = none) (s x : Operand)
    (ho : o.op = .call { callee := .builtin .append, args := #[s, x], argTypes := #[55, 55] })
    (hs : a.eval s = v) (h : EntS w B v L) {A : Option Addr} {m c : Nat} (hx : a.eval x = .slice A m c) (hr : SrcR w 2 A m c (ecs M)) (hm : m = M.length) (hl : L.length + m ≤ 1000000) (hB : B ≤ w.heap.size)
    (hK : ∀ v' w', EntS w' B v' (L ++ M) → w.grownBy w' v.ownBlock → (∀ b, v'.ownBlock = some b → v.ownBlock = some b ∨ w.heap.size ≤ b) → K (a.put o.dst v') w') :
    if Region.wanted o (yielded ops a.tmps) = true then Oper.wp Try.prog o a w K Q else E := by
  have hw : Region.wanted o (yielded ops a.tmps) = true := by simp [Region.wanted, hgd]
  rw [if_pos hw]
  obtain ⟨v', w', hrun, h2, h3, h4⟩ := run_append_ent h hr hm hl hB o.type
  unfold Oper.wp execOp
  simp only [ho, resolve, invoke, builtin, Sem.run_bind, Sem.run_pure, Result.andThen_ok, List.map_toArray, List.map_cons, List.map_nil, hs, hx, hrun]
  exact hK v' w' h2 h3 h4
end
end Go.Proofs.Ytmgcjdedgfiboaa
