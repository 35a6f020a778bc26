/- The document's readPart. -/
import Derived.Test.YtekcokbpgpeepaaRdJ
import Derived.Test.YtekcokbpgpeepaaCnfO2
import Derived.Deep.RegionHeld3
namespace Go.Proofs.Ytekcokbpgpeepaa
set_option linter.unusedVariables false
open Go.RowKit

theorem step_append_rec {ops : Array Oper} {o : Oper} {a : Act} {K : Act → World → Prop} {Q : Exit → Act → World → Prop} {E : Prop} {w : World} {B n size bytes : Nat} {e t : TypeId} {z v : Value} {xs : List Value} {cs : Array Value} (hgd : o.guard = none) (s x : Operand)
    (ho : o.op = .call { callee := .builtin .append, args := #[s, x], argTypes := #[t, t] }) (ht : Try.prog.underlying t = some (.slice e)) (hi : (Try.prog.info? e).map (fun i => (i.zero, i.size, i.bytes)) = some (some z, size, bytes)) (hzs : z.cells.size = size) (hsz : 0 < size)
    (hs : a.eval s = v) (hO : w.ownsRow B e size v n xs) (hB : B ≤ w.heap.size) (hcs : cs.size = size) (hone : ∀ u ∈ cs.toList, u.oneCell' = true) (hx : a.eval x = .slice (some ⟨w.heap.size, 0, none⟩) 1 1) (hl : (n + 1) * bytes ≤ 140737488355328) (hn1 : n + 1 ≤ 17592186044416)
    (h : ∀ v' w', w'.ownsRow B e size v' (n + 1) (xs ++ cs.toList) → Keeps (fun i => B ≤ i ∧ v.ownBlock = some i) w w' → (∀ q t' cs', Blk w q t' cs' → t' ≠ e → Blk w' q t' cs') → K (a.put o.dst v') w') : if Region.wanted o (yielded ops a.tmps) = true then Oper.wp Try.prog o a (w.alloc (.cells cs e)) K Q else E := by
  obtain ⟨i0, hi0, hz0, hz1, hz2⟩ := info_parts' hi
  have hsrc : SrcR (w.alloc (.cells cs e)) size (some ⟨w.heap.size, 0, none⟩) 1 1 cs.toList := by
    refine ⟨by simpa using hcs, .inr ⟨_, rfl, fun j u hj => ?_⟩⟩
    rw [add_at, Nat.zero_add]
    have hb := Blk.new w e cs
    rw [hb.cell, ← Array.getElem?_toList]
    exact hj
  refine step_append_src hgd s x _ ho B e i0 z size bytes ht hi0 hz0 hz1 hz2 hzs hsz v n xs hs (own_below hO ((Below.refl _ _).alloc (Nat.le_refl _) _)) _ _ _ cs.toList hx hsrc hone (by simp only [maxLen]; omega) ?_ (by simp; omega) ?_
  · exact hl
  · intro v' w' hown hg hf
    have hfrom := own_from hO
    refine h v' w' hown ?_ fun q t' cs' hk hne => (hg.block q (Nat.lt_of_lt_of_le hk.lt (by simp)) ?_).trans (hk.alloc _)
    · have k1 : Keeps (fun i => B ≤ i ∧ v.ownBlock = some i) w (w.alloc (.cells cs e)) := (Keeps.refl _ _).alloc _
      have k2 : Keeps (fun i => B ≤ i ∧ v.ownBlock = some i) (w.alloc (.cells cs e)) w' := ⟨hg.os, hg.tape, hg.output, hg.size, fun i hi hn => hg.block i hi (fun e => hn ⟨hfrom i e.symm, e.symm⟩)⟩
      exact k1.trans k2 fun i hi => .inl hi
    · obtain ⟨A, c, rfl, _, _, _, hf⟩ := own_form hO
      cases A with
      | none => simp [Value.ownBlock]
      | some a =>
        obtain ⟨g, cur, rfl, _, hb, _⟩ := hf a rfl
        intro e'
        simp [Value.ownBlock] at e'
        exact hk.ne_ hb hne e'
theorem step_append_task {ops : Array Oper} {o : Oper} {a : Act} {K : Act → World → Prop} {Q : Exit → Act → World → Prop} {E : Prop} {w : World} {B : Nat} {v : Value} {L : List TV} {t : TV} (hgd : o.guard = none) (s x : Operand)
    (ho : o.op = .call { callee := .builtin .append, args := #[s, x], argTypes := #[39, 39] }) (hs : a.eval s = v) (hO : OwnT w B v L) (hB : B ≤ w.heap.size) {cs : Array Value} (hcs : cs = tCells t) (hx : a.eval x = .slice (some ⟨w.heap.size, 0, none⟩) 1 1) (hl : L.length + 1 ≤ 1000000)
    (h : ∀ v' w', OwnT w' B v' (L ++ [t]) → Keeps (fun i => B ≤ i ∧ v.ownBlock = some i) w w' → (∀ q t' cs', Blk w q t' cs' → t' ≠ 46 → Blk w' q t' cs') → K (a.put o.dst v') w') : if Region.wanted o (yielded ops a.tmps) = true then Oper.wp Try.prog o a (w.alloc (.cells cs 46)) K Q else E := by
  subst hcs
  refine step_append_rec hgd s x ho Try.underlying39 task_info rfl (by omega) hs hO hB rfl (fun u hu => ?_) hx (by omega) (by omega) fun v' w' h1 h2 h3 => h v' w' ?_ h2 h3
  · simp only [tCells, List.mem_cons, List.not_mem_nil, or_false] at hu
    rcases hu with rfl | rfl | rfl | rfl | rfl | rfl | rfl | rfl <;> rfl
  · show w'.ownsRow _ _ _ _ _ _
    rw [List.length_append]
    simpa [tcs] using h1
theorem step_append_port {ops : Array Oper} {o : Oper} {a : Act} {K : Act → World → Prop} {Q : Exit → Act → World → Prop} {E : Prop} {w : World} {B : Nat} {v : Value} {L : List PV} {t : PV} (hgd : o.guard = none) (s x : Operand)
    (ho : o.op = .call { callee := .builtin .append, args := #[s, x], argTypes := #[23, 23] }) (hs : a.eval s = v) (hO : OwnQ w B v L) (hB : B ≤ w.heap.size) {cs : Array Value} (hcs : cs = qCells t) (hx : a.eval x = .slice (some ⟨w.heap.size, 0, none⟩) 1 1) (hl : L.length + 1 ≤ 1000000)
    (h : ∀ v' w', OwnQ w' B v' (L ++ [t]) → Keeps (fun i => B ≤ i ∧ v.ownBlock = some i) w w' → (∀ q t' cs', Blk w q t' cs' → t' ≠ 48 → Blk w' q t' cs') → K (a.put o.dst v') w') : if Region.wanted o (yielded ops a.tmps) = true then Oper.wp Try.prog o a (w.alloc (.cells cs 48)) K Q else E := by
  subst hcs
  refine step_append_rec hgd s x ho Try.underlying23 port_info rfl (by omega) hs hO hB rfl (fun u hu => ?_) hx (by omega) (by omega) fun v' w' h1 h2 h3 => h v' w' ?_ h2 h3
  · simp only [qCells, List.mem_cons, List.not_mem_nil, or_false] at hu
    rcases hu with rfl | rfl | rfl | rfl | rfl | rfl <;> rfl
  · show w'.ownsRow _ _ _ _ _ _
    rw [List.length_append]
    simpa [qcs] using h1
theorem at_list {l : List Oper} {i : Nat} {o : Oper} (h : l[i]? = some o) : l.toArray[i]? = some o := by simpa using h
/-- A row of numbers read, cell by cell. -/
theorem rowsl {w : World} {B n : Nat} {v : Value} {s : RS} (h : OwnI w B v (readsL s n)) (hn : 0 < n) : ∃ b c cur, v = .slice (some ⟨b, 0, none⟩) n c ∧ (n : Int) ≤ (c : Nat) ∧ B ≤ b ∧ Blk w b 3 cur ∧ ∀ j, j < n → cur[j]? = some (.int .i64 (rdN (rdAt s j))) := by
  have hl : (readsL s n).length = n := by simp [readsL]
  obtain ⟨A, c, rfl, h1, h2, h3, h4⟩ := own_form h
  cases A with
  | none => have := (h3 rfl).1; rw [hl] at this; omega
  | some a =>
    obtain ⟨g, cur, rfl, hg, hb, hs, ht⟩ := h4 a rfl
    refine ⟨g, c, cur, by rw [hl], by rw [hl] at h1; omega, hg, hb, fun j hj => ?_⟩
    have : (ics (readsL s n))[j]? = some (.int .i64 (rdN (rdAt s j))) := by
      simp only [ics, readsL, List.getElem?_map, List.getElem?_range hj]
      rfl
    exact take_at ht this
end Go.Proofs.Ytekcokbpgpeepaa
