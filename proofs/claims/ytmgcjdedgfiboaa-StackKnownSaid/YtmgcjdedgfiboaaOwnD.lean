/- Rows of calls of the call's own (layer 13). -/
import Derived.Test.YtmgcjdedgfiboaaIntB
import Derived.Test.YtmgcjdedgfiboaaDosA
namespace Go.Proofs.Ytmgcjdedgfiboaa
set_option linter.unusedVariables false
open Go.RowKit

/-- A row of n calls, the call's own from block B on. -/
def OwnDo (w : World) (B : Nat) (v : Value) (n : Nat) : Prop := ∃ xs, w.ownsRow B 31 3 v n xs ∧ ∀ u ∈ xs, ∃ z : Int, u = .int .i64 z
theorem do_info : (Try.prog.info? 31).map (fun i => (i.zero, i.size, i.bytes)) = some (some (.agg #[.int .i64 0, .int .i64 0, .int .i64 0]), 3, 24) := by kernel_rfl
section
variable {w w' : World} {B n : Nat} {v : Value}
theorem OwnDo.below (h : OwnDo w B v n) (k : Below w.heap.size w w') : OwnDo w' B v n := by
  obtain ⟨xs, h1, h2⟩ := h
  exact ⟨xs, own_below h1 k, h2⟩
theorem OwnDo.nil : OwnDo w B (.slice none 0 0) 0 := ⟨[], own_none w B 3 _, fun u hu => by cases hu⟩
theorem OwnDo.dos (h : OwnDo w B v n) : ∃ A c D, v = .slice A n c ∧ DosAt w A n D := by
  obtain ⟨xs, h1, h2⟩ := h
  have hlen := h1.1
  obtain ⟨A, c, rfl, hn, _, hA, hb⟩ := own_form h1
  refine ⟨A, c, fun i j => match xs[i * 3 + j]? with | some (.int _ z) => z | _ => 0, rfl, fun h0 => ?_⟩
  cases A with
  | none => exact absurd (hA rfl).1 (by omega)
  | some a =>
    obtain ⟨g, cur, rfl, _, hk, hs, ht⟩ := hb a rfl
    have key : ∀ j, j < n * 3 → w.cell? ⟨g, j, none⟩ = some (.int .i64 (match xs[j]? with | some (.int _ z) => z | _ => 0)) := fun j hj => by
      have hx : xs[j]? = some (xs[j]'(by omega)) := List.getElem?_eq_getElem (by omega)
      obtain ⟨z, hz⟩ := h2 _ (List.getElem_mem (by omega : j < xs.length))
      rw [hk.cell, take_at ht hx, hx, hz]
    refine ⟨g, 0, rfl, hk.lt, fun i hi => ?_⟩
    rw [Nat.zero_add]
    exact ⟨key _ (by omega), key _ (by omega), key _ (by omega)⟩
end
def isI64 : Value → Bool
  | .int .i64 _ => true
  | _ => false
theorem isI64_int {v : Value} (h : isI64 v = true) : ∃ z : Int, v = .int .i64 z := by
  unfold isI64 at h
  split at h
  · exact ⟨_, rfl⟩
  · cases h
theorem wpList_append_do {ops : Array Oper} {rest : List Oper} {o : Oper} {a : Act} {Q : Exit → Act → World → Prop} {w0 w : World} {B n m : Nat} {v : Value} {cs : Array Value} {t : TypeId} (hgd : o.guard = none) (s x : Operand)
    (ho : o.op = .call { callee := .builtin .append, args := #[s, x], argTypes := #[23, 23] }) (hs : a.eval s = v) (hO : OwnDo w B v n) (hB : Below B w0 w) (hBw : B ≤ w.heap.size)
    (hm : cs.size = m * 3) (hii : cs.toList.all isI64 = true) (hx : a.eval x = .slice (some ⟨w.heap.size, 0, none⟩) m m) (hl : n + m ≤ 1000000)
    (h : ∀ v' w', OwnDo w' B v' (n + m) → Below B w0 w' → wpList Try.prog ops Q rest (a.put o.dst v') w') : wpList Try.prog ops Q (o :: rest) a (w.alloc (.cells cs t)) := by
  have hi : ∀ u ∈ cs.toList, ∃ z : Int, u = .int .i64 z := fun u hu => isI64_int (List.all_eq_true.1 hii u hu)
  obtain ⟨i0, hi0, hz0, hz1, hz2⟩ := info_parts' do_info
  obtain ⟨xs, h1, h2⟩ := hO
  have hsrc : SrcR (w.alloc (.cells cs t)) 3 (some ⟨w.heap.size, 0, none⟩) m m cs.toList := by
    refine ⟨by simpa using hm, .inr ⟨_, rfl, fun j u hj => ?_⟩⟩
    rw [add_at, Nat.zero_add]
    have hb := Blk.new w t cs
    rw [hb.cell, ← Array.getElem?_toList]
    exact hj
  have hone : ∀ u ∈ cs.toList, u.oneCell' = true := fun u hu => by
    obtain ⟨z, rfl⟩ := hi u hu
    rfl
  refine wpList_append_src hgd s x _ ho B 31 i0 _ 3 24 Try.underlying23 hi0 hz0 hz1 hz2 rfl (by omega) v n xs hs (own_below h1 ((Below.refl _ _).alloc (Nat.le_refl _) _)) _ _ _ cs.toList hx hsrc hone (by simp only [maxLen]; omega) (by omega) (by simp; omega) ?_
  intro v' w' hown hg hf
  refine h v' w' ⟨_, hown, fun u hu => ?_⟩ (below_grown (hB.alloc hBw _) hg (by simp; omega) (own_from h1))
  rcases List.mem_append.1 hu with hu | hu
  · exact h2 u hu
  · exact hi u hu
end Go.Proofs.Ytmgcjdedgfiboaa
