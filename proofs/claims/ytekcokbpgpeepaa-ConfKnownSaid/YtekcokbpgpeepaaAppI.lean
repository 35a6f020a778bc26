/- append of one number, made a row last, onto a row of the call's own; of a row. -/
import Derived.Test.YtekcokbpgpeepaaIntB
namespace Go.Proofs.Ytekcokbpgpeepaa
set_option linter.unusedVariables false
open Go.RowKit

theorem wpList_append_int {ops : Array Oper} {rest : List Oper} {o : Oper} {a : Act} {Q : Exit → Act → World → Prop} {w0 w : World} {B : Nat} {v : Value} {L : List Int} (hgd : o.guard = none) (s x : Operand)
    (ho : o.op = .call { callee := .builtin .append, args := #[s, x], argTypes := #[49, 49] }) (hs : a.eval s = v) (hO : OwnI w B v L) (hB : Below B w0 w) (hBw : B ≤ w.heap.size) (z : Int)
    (hx : a.eval x = .slice (some ⟨w.heap.size, 0, none⟩) 1 1) (hl : L.length + 1 ≤ 10000000000000)
    (h : ∀ v' w', OwnI w' B v' (L ++ [z]) → (w.alloc (.cells #[.int .i64 z] 3)).grownBy w' v.ownBlock → (v'.ownBlock = v.ownBlock ∨ v'.ownBlock = some (w.alloc (.cells #[.int .i64 z] 3)).heap.size) → Below B w0 w' → wpList Try.prog ops Q rest (a.put o.dst v') w') : wpList Try.prog ops Q (o :: rest) a (w.alloc (.cells #[.int .i64 z] 3)) := by
  obtain ⟨i0, hi0, hz0, hz1, hz2⟩ := info_parts' int_info
  have hsrc : SrcR (w.alloc (.cells #[.int .i64 z] 3)) 1 (some ⟨w.heap.size, 0, none⟩) 1 1 (ics [z]) := (intsR_new (w := w) (t := 3) (cs := #[.int .i64 z]) (L := [z]) rfl).src (c := 1) (fun e => by cases e)
  refine wpList_append_src hgd s x _ ho B 3 i0 _ 1 8 Try.underlying49 hi0 hz0 hz1 hz2 rfl (by omega) v L.length (ics L) hs (hO.below ((Below.refl _ _).alloc (Nat.le_refl _) _)) _ _ _ (ics [z]) hx hsrc (ics_one _) (by simp only [maxLen]; omega) (by omega) (by simp; omega) ?_
  intro v' w' hown hg hf
  exact h v' w' (OwnI.of (by rw [ics_append]; exact hown)) hg hf (below_grown (hB.alloc hBw _) hg (by simp; omega) (own_from hO))
/-- append of a row. -/
theorem wpList_append_ints {ops : Array Oper} {rest : List Oper} {o : Oper} {a : Act} {Q : Exit → Act → World → Prop} {w0 w : World} {B : Nat} {v : Value} {L M : List Int} (hgd : o.guard = none) (s x : Operand)
    (ho : o.op = .call { callee := .builtin .append, args := #[s, x], argTypes := #[49, 49] }) (hs : a.eval s = v) (hO : OwnI w B v L) (hB : Below B w0 w) (hBw : B ≤ w.heap.size) {A : Option Addr} {m c : Nat}
    (hx : a.eval x = .slice A m c) (hm : m = M.length) (hR : IntsR w A M) (hA : A = none → c = 0) (hl : L.length + M.length ≤ 10000000000000)
    (h : ∀ v' w', OwnI w' B v' (L ++ M) → w.grownBy w' v.ownBlock → (v'.ownBlock = v.ownBlock ∨ v'.ownBlock = some w.heap.size) → Below B w0 w' → wpList Try.prog ops Q rest (a.put o.dst v') w') : wpList Try.prog ops Q (o :: rest) a w := by
  obtain ⟨i0, hi0, hz0, hz1, hz2⟩ := info_parts' int_info
  subst hm
  refine wpList_append_src hgd s x _ ho B 3 i0 _ 1 8 Try.underlying49 hi0 hz0 hz1 hz2 rfl (by omega) v L.length (ics L) hs hO _ _ _ (ics M) hx (hR.src hA) (ics_one _) (by simp only [maxLen]; omega) (by omega) hBw ?_
  intro v' w' hown hg hf
  exact h v' w' (OwnI.of (n := L.length + M.length) (by rw [ics_append]; exact hown)) hg hf (below_grown hB hg hBw (own_from hO))
end Go.Proofs.Ytekcokbpgpeepaa
