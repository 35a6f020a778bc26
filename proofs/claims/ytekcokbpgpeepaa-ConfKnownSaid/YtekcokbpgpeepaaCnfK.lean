/- Layer 5: rows of tasks, of ports, of partitions that are the call's own. -/
import Derived.Test.YtekcokbpgpeepaaCnfJ
namespace Go.Proofs.Ytekcokbpgpeepaa
set_option linter.unusedVariables false
open Go.RowKit

theorem wpList_append_rec {ops : Array Oper} {rest : List Oper} {o : Oper} {a : Act} {Q : Exit → Act → World → Prop} {w : World} {B n size bytes : Nat} {e t : TypeId} {z v : Value} {xs : List Value} {cs : Array Value} (hgd : o.guard = none) (s x : Operand)
    (ho : o.op = .call { callee := .builtin .append, args := #[s, x], argTypes := #[t, t] }) (ht : Try.prog.underlying t = some (.slice e)) (hi : (Try.prog.info? e).map (fun i => (i.zero, i.size, i.bytes)) = some (some z, size, bytes)) (hzs : z.cells.size = size) (hsz : 0 < size)
    (hs : a.eval s = v) (hO : w.ownsRow B e size v n xs) (hB : B ≤ w.heap.size) (hcs : cs.size = size) (hone : ∀ u ∈ cs.toList, u.oneCell' = true) (hx : a.eval x = .slice (some ⟨w.heap.size, 0, none⟩) 1 1) (hl : (n + 1) * bytes ≤ 140737488355328) (hn1 : n + 1 ≤ 17592186044416)
    (h : ∀ v' w', w'.ownsRow B e size v' (n + 1) (xs ++ cs.toList) → Keeps (fun i => B ≤ i ∧ v.ownBlock = some i) w w' → (∀ q t' cs', Blk w q t' cs' → t' ≠ e → Blk w' q t' cs') → wpList Try.prog ops Q rest (a.put o.dst v') w') : wpList Try.prog ops Q (o :: rest) a (w.alloc (.cells cs e)) := by
  obtain ⟨i0, hi0, hz0, hz1, hz2⟩ := info_parts' hi
  have hsrc : SrcR (w.alloc (.cells cs e)) size (some ⟨w.heap.size, 0, none⟩) 1 1 cs.toList := by
    refine ⟨by simpa using hcs, .inr ⟨_, rfl, fun j u hj => ?_⟩⟩
    rw [add_at, Nat.zero_add]
    have hb := Blk.new w e cs
    rw [hb.cell, ← Array.getElem?_toList]
    exact hj
  refine wpList_append_src hgd s x _ ho B e i0 z size bytes ht hi0 hz0 hz1 hz2 hzs hsz v n xs hs (own_below hO ((Below.refl _ _).alloc (Nat.le_refl _) _)) _ _ _ cs.toList hx hsrc hone (by simp only [maxLen]; omega) ?_ (by simp; omega) ?_
  · exact hl
  · intro v' w' hown hg hf
    have hfrom := own_from hO
    refine h v' w' hown ?_ fun q t' cs' hk hne => (hg.block q (Nat.lt_of_lt_of_le hk.lt (by simp)) ?_).trans (hk.alloc _)
    · have k1 : Keeps (fun i => B ≤ i ∧ v.ownBlock = some i) w (w.alloc (.cells cs e)) := (Keeps.refl _ _).alloc _
      have k2 : Keeps (fun i => B ≤ i ∧ v.ownBlock = some i) (w.alloc (.cells cs e)) w' := ⟨hg.os, hg.tape, hg.output, hg.size, fun i hi hn => hg.block i hi (fun e => hn ⟨hfrom i e.symm, e.symm⟩)⟩
      exact k1.trans k2 fun i hi => .inl hi
    · obtain ⟨A, c, rfl, _, _, _, hf⟩ := own_form hO
      cases A with
      | none => simp [Value.ownBlock]
      | some a =>
        obtain ⟨g, cur, rfl, _, hb, _⟩ := hf a rfl
        intro e'
        simp [Value.ownBlock] at e'
        exact hk.ne_ hb hne e'
def tcs (L : List TV) : List Value := L.flatMap fun t => (tCells t).toList
def qcs (L : List PV) : List Value := L.flatMap fun q => (qCells q).toList
def zcs (Z : List (CP × Value)) : List Value := Z.flatMap fun z => [.int .i64 z.1.per, .int .i64 z.1.bud, z.2]
def OwnT (w : World) (B : Nat) (v : Value) (L : List TV) : Prop := w.ownsRow B 46 8 v L.length (tcs L)
def OwnQ (w : World) (B : Nat) (v : Value) (L : List PV) : Prop := w.ownsRow B 48 6 v L.length (qcs L)
/-- Partitions, whose tasks are the call's own too. -/
def OwnP (w : World) (B : Nat) (v : Value) (L : List CP) : Prop := ∃ Z : List (CP × Value), Z.map (·.1) = L ∧ w.ownsRow B 41 3 v Z.length (zcs Z) ∧ ∀ z ∈ Z, OwnT w B z.2 z.1.ts ∧ z.1.ts.length ≤ 2199023255552
/-- Kept where blocks of the row's type are. -/
theorem own_keep {w w' : World} {base size n : Nat} {e : TypeId} {v : Value} {xs : List Value} (h : w.ownsRow base e size v n xs) (k : ∀ q cs, Blk w q e cs → Blk w' q e cs) : w'.ownsRow base e size v n xs := by
  obtain ⟨h1, h2⟩ := h
  refine ⟨h1, ?_⟩
  rcases h2 with h2 | ⟨g, cap, cur, e1, e0, e3⟩
  · exact .inl h2
  · exact .inr ⟨g, cap, cur, e1, e0, k _ _ e3.1, e3.2⟩
theorem own_mono {w : World} {base base' size n : Nat} {e : TypeId} {v : Value} {xs : List Value} (h : w.ownsRow base e size v n xs) (hb : base' ≤ base) : w.ownsRow base' e size v n xs := by
  obtain ⟨h1, h2⟩ := h
  refine ⟨h1, ?_⟩
  rcases h2 with h2 | ⟨g, cap, cur, e1, e0, e3⟩
  · exact .inl h2
  · exact .inr ⟨g, cap, cur, e1, by omega, e3⟩
section
variable {w w' : World} {B : Nat} {v : Value}
theorem OwnT.nil : OwnT w B (.slice none 0 0) [] := own_none w B 8 _
theorem OwnQ.nil : OwnQ w B (.slice none 0 0) [] := own_none w B 6 _
theorem OwnP.nil : OwnP w B (.slice none 0 0) [] := ⟨[], rfl, own_none w B 3 _, fun z hz => by cases hz⟩
theorem OwnT.keep {L : List TV} (h : OwnT w B v L) (k : ∀ q cs, Blk w q 46 cs → Blk w' q 46 cs) : OwnT w' B v L := own_keep h k
theorem OwnQ.keep {L : List PV} (h : OwnQ w B v L) (k : ∀ q cs, Blk w q 48 cs → Blk w' q 48 cs) : OwnQ w' B v L := own_keep h k
theorem OwnP.keep {L : List CP} (h : OwnP w B v L) (k : ∀ q t cs, t = 41 ∨ t = 46 → Blk w q t cs → Blk w' q t cs) : OwnP w' B v L := by
  obtain ⟨Z, h1, h2, h3⟩ := h
  exact ⟨Z, h1, own_keep h2 fun q cs => k q _ cs (.inl rfl), fun z hz => ⟨(h3 z hz).1.keep fun q cs => k q _ cs (.inr rfl), (h3 z hz).2⟩⟩
theorem OwnT.mono {B' : Nat} {L : List TV} (h : OwnT w B v L) (hb : B' ≤ B) : OwnT w B' v L := own_mono h hb
theorem at8 {α : Type} {f : α → List Value} {m : Nat} (hf : ∀ x, (f x).length = m) : ∀ (L : List α) (i j : Nat) (x : α), L[i]? = some x → j < m → (L.flatMap f)[i * m + j]? = (f x)[j]?
  | [], i, j, x, h, _ => by simp at h
  | y :: L, 0, j, x, h, hj => by
    simp only [List.getElem?_cons_zero, Option.some.injEq] at h
    subst h
    rw [List.flatMap_cons, Nat.zero_mul, Nat.zero_add, List.getElem?_append_left (by rw [hf]; exact hj)]
  | y :: L, i + 1, j, x, h, hj => by
    simp only [List.getElem?_cons_succ] at h
    rw [List.flatMap_cons, List.getElem?_append_right (by rw [hf, Nat.add_mul]; omega), hf, show (i + 1) * m + j - m = i * m + j by rw [Nat.add_mul]; omega]
    exact at8 hf L i j x h hj
theorem OwnT.tks {L : List TV} (h : OwnT w B v L) (hl : L.length ≤ 2199023255552) : TkS w v L := by
  obtain ⟨A, c, rfl, h1, h2, h3, h4⟩ := own_form h
  refine ⟨⟨A, c, rfl, h1, fun e => (h3 e).2, fun hL => ?_⟩, by omega⟩
  cases A with
  | none => exact absurd (List.eq_nil_of_length_eq_zero (h3 rfl).1) hL
  | some a =>
    obtain ⟨g, cur, rfl, hg, hb, hs, ht⟩ := h4 a rfl
    refine ⟨g, 0, rfl, hb.lt, fun i t hi => ?_⟩
    have key : ∀ j u, j < 8 → (tCells t).toList[j]? = some u → w.cell? ⟨g, 0 + i * 8 + j, none⟩ = some u := fun j u hj hu => by
      rw [hb.cell, Nat.zero_add]
      refine take_at ht ?_
      show (tcs L)[i * 8 + j]? = _
      unfold tcs
      rw [at8 (m := 8) (fun x => rfl) L i j t hi hj]
      exact hu
    exact ⟨key 0 _ (by omega) rfl, key 1 _ (by omega) rfl, key 2 _ (by omega) rfl, key 3 _ (by omega) rfl, key 4 _ (by omega) rfl, key 5 _ (by omega) rfl, key 6 _ (by omega) rfl, key 7 _ (by omega) rfl⟩
theorem OwnQ.form {L : List PV} (h : OwnQ w B v L) : ∃ A c, v = .slice A L.length c ∧ L.length ≤ c ∧ (A = none → c = 0) ∧ PtsAt w A L := by
  obtain ⟨A, c, rfl, h1, h2, h3, h4⟩ := own_form h
  refine ⟨A, c, rfl, h1, fun e => (h3 e).2, fun hL => ?_⟩
  cases A with
  | none => exact absurd (List.eq_nil_of_length_eq_zero (h3 rfl).1) hL
  | some a =>
    obtain ⟨g, cur, rfl, hg, hb, hs, ht⟩ := h4 a rfl
    refine ⟨g, 0, rfl, hb.lt, fun i t hi => ?_⟩
    have key : ∀ j u, j < 6 → (qCells t).toList[j]? = some u → w.cell? ⟨g, 0 + i * 6 + j, none⟩ = some u := fun j u hj hu => by
      rw [hb.cell, Nat.zero_add]
      refine take_at ht ?_
      show (qcs L)[i * 6 + j]? = _
      unfold qcs
      rw [at8 (m := 6) (fun x => rfl) L i j t hi hj]
      exact hu
    exact ⟨key 0 _ (by omega) rfl, key 1 _ (by omega) rfl, key 2 _ (by omega) rfl, key 3 _ (by omega) rfl, key 4 _ (by omega) rfl, key 5 _ (by omega) rfl⟩
theorem OwnP.form {L : List CP} (h : OwnP w B v L) : ∃ A c, v = .slice A L.length c ∧ L.length ≤ c ∧ (A = none → c = 0) ∧ CpsAt w A L := by
  obtain ⟨Z, rfl, h2, hz⟩ := h
  obtain ⟨A, c, rfl, h1, h2, h3, h4⟩ := own_form h2
  refine ⟨A, c, by simp, by simpa using h1, fun e => (h3 e).2, fun hL => ?_⟩
  cases A with
  | none => exact absurd (List.eq_nil_of_length_eq_zero (h3 rfl).1) (by intro e; subst e; exact hL rfl)
  | some a =>
    obtain ⟨g, cur, rfl, hg, hb, hs, ht⟩ := h4 a rfl
    refine ⟨g, 0, rfl, hb.lt, fun i p hi => ?_⟩
    obtain ⟨z, hzi, rfl⟩ : ∃ z, Z[i]? = some z ∧ z.1 = p := by simpa [List.getElem?_map] using hi
    have key : ∀ j u, j < 3 → ([.int .i64 z.1.per, .int .i64 z.1.bud, z.2] : List Value)[j]? = some u → w.cell? ⟨g, 0 + i * 3 + j, none⟩ = some u := fun j u hj hu => by
      rw [hb.cell, Nat.zero_add]
      refine take_at ht ?_
      show (zcs Z)[i * 3 + j]? = _
      unfold zcs
      rw [at8 (m := 3) (fun x => rfl) Z i j z hzi hj]
      exact hu
    obtain ⟨k1, k2⟩ := hz z (List.mem_of_getElem? hzi)
    exact ⟨key 0 _ (by omega) rfl, key 1 _ (by omega) rfl, z.2, key 2 _ (by omega) rfl, k1.tks k2⟩
end
theorem task_info : (Try.prog.info? 46).map (fun i => (i.zero, i.size, i.bytes)) = some (some (.agg #[.int .i64 0, .int .i64 0, .int .i64 0, .int .i64 0, .int .i64 0, .int .i64 0, .int .i64 0, .int .i64 0]), 8, 64) := by kernel_rfl
theorem port_info : (Try.prog.info? 48).map (fun i => (i.zero, i.size, i.bytes)) = some (some (.agg #[.int .i64 0, .int .i64 0, .int .i64 0, .int .i64 0, .int .i64 0, .int .i64 0]), 6, 48) := by kernel_rfl
theorem part_info : (Try.prog.info? 41).map (fun i => (i.zero, i.size, i.bytes)) = some (some (.agg #[.int .i64 0, .int .i64 0, .slice none 0 0]), 3, 40) := by kernel_rfl
theorem wpList_append_task {ops : Array Oper} {rest : List Oper} {o : Oper} {a : Act} {Q : Exit → Act → World → Prop} {w : World} {B : Nat} {v : Value} {L : List TV} {t : TV} (hgd : o.guard = none) (s x : Operand)
    (ho : o.op = .call { callee := .builtin .append, args := #[s, x], argTypes := #[39, 39] }) (hs : a.eval s = v) (hO : OwnT w B v L) (hB : B ≤ w.heap.size) {cs : Array Value} (hcs : cs = tCells t) (hx : a.eval x = .slice (some ⟨w.heap.size, 0, none⟩) 1 1) (hl : L.length + 1 ≤ 1000000)
    (h : ∀ v' w', OwnT w' B v' (L ++ [t]) → Keeps (fun i => B ≤ i ∧ v.ownBlock = some i) w w' → (∀ q t' cs', Blk w q t' cs' → t' ≠ 46 → Blk w' q t' cs') → wpList Try.prog ops Q rest (a.put o.dst v') w') : wpList Try.prog ops Q (o :: rest) a (w.alloc (.cells cs 46)) := by
  subst hcs
  refine wpList_append_rec hgd s x ho Try.underlying39 task_info rfl (by omega) hs hO hB rfl (fun u hu => ?_) hx (by omega) (by omega) fun v' w' h1 h2 h3 => h v' w' ?_ h2 h3
  · simp only [tCells, List.mem_cons, List.not_mem_nil, or_false] at hu
    rcases hu with rfl | rfl | rfl | rfl | rfl | rfl | rfl | rfl <;> rfl
  · show w'.ownsRow _ _ _ _ _ _
    rw [List.length_append]
    simpa [tcs] using h1
theorem wpList_append_port {ops : Array Oper} {rest : List Oper} {o : Oper} {a : Act} {Q : Exit → Act → World → Prop} {w : World} {B : Nat} {v : Value} {L : List PV} {t : PV} (hgd : o.guard = none) (s x : Operand)
    (ho : o.op = .call { callee := .builtin .append, args := #[s, x], argTypes := #[23, 23] }) (hs : a.eval s = v) (hO : OwnQ w B v L) (hB : B ≤ w.heap.size) {cs : Array Value} (hcs : cs = qCells t) (hx : a.eval x = .slice (some ⟨w.heap.size, 0, none⟩) 1 1) (hl : L.length + 1 ≤ 1000000)
    (h : ∀ v' w', OwnQ w' B v' (L ++ [t]) → Keeps (fun i => B ≤ i ∧ v.ownBlock = some i) w w' → (∀ q t' cs', Blk w q t' cs' → t' ≠ 48 → Blk w' q t' cs') → wpList Try.prog ops Q rest (a.put o.dst v') w') : wpList Try.prog ops Q (o :: rest) a (w.alloc (.cells cs 48)) := by
  subst hcs
  refine wpList_append_rec hgd s x ho Try.underlying23 port_info rfl (by omega) hs hO hB rfl (fun u hu => ?_) hx (by omega) (by omega) fun v' w' h1 h2 h3 => h v' w' ?_ h2 h3
  · simp only [qCells, List.mem_cons, List.not_mem_nil, or_false] at hu
    rcases hu with rfl | rfl | rfl | rfl | rfl | rfl <;> rfl
  · show w'.ownsRow _ _ _ _ _ _
    rw [List.length_append]
    simpa [qcs] using h1
theorem wpList_append_part {ops : Array Oper} {rest : List Oper} {o : Oper} {a : Act} {Q : Exit → Act → World → Prop} {w : World} {B : Nat} {v u : Value} {L : List CP} {p : CP} (hgd : o.guard = none) (s x : Operand)
    (ho : o.op = .call { callee := .builtin .append, args := #[s, x], argTypes := #[22, 22] }) (hs : a.eval s = v) (hO : OwnP w B v L) (hB : B ≤ w.heap.size) (hu : OwnT w B u p.ts) (hu4 : p.ts.length ≤ 2199023255552) {cs : Array Value} (hcs : cs = #[.int .i64 p.per, .int .i64 p.bud, u]) (hx : a.eval x = .slice (some ⟨w.heap.size, 0, none⟩) 1 1) (hl : (L.length + 1) * 40 ≤ 140737488355328)
    (h : ∀ v' w', OwnP w' B v' (L ++ [p]) → Keeps (fun i => B ≤ i ∧ v.ownBlock = some i) w w' → (∀ q t' cs', Blk w q t' cs' → t' ≠ 41 → Blk w' q t' cs') → wpList Try.prog ops Q rest (a.put o.dst v') w') : wpList Try.prog ops Q (o :: rest) a (w.alloc (.cells cs 41)) := by
  subst hcs
  obtain ⟨Z, rfl, h2, h3⟩ := hO
  have hl' : (Z.length + 1) * 40 ≤ 140737488355328 := by simpa using hl
  obtain ⟨TA, tc, rfl, _⟩ := own_form hu
  refine wpList_append_rec hgd s x ho Try.underlying22 part_info rfl (by omega) hs h2 hB rfl (fun u hu => ?_) hx hl' (by omega) fun v' w' h1 hk ht => h v' w' ?_ hk ht
  · simp only [List.mem_cons, List.not_mem_nil, or_false] at hu
    rcases hu with rfl | rfl | rfl <;> rfl
  · have hk' : ∀ q cs, Blk w q 46 cs → Blk w' q 46 cs := fun q cs hb => ht q _ cs hb (by decide)
    refine ⟨Z ++ [(p, .slice TA p.ts.length tc)], by simp, ?_, fun z hz => ?_⟩
    · rw [List.length_append]
      simpa [zcs] using h1
    · rcases List.mem_append.1 hz with hz | hz
      · exact ⟨(h3 z hz).1.keep hk', (h3 z hz).2⟩
      · simp only [List.mem_cons, List.not_mem_nil, or_false] at hz
        subst hz
        exact ⟨OwnT.keep hu hk', hu4⟩
end Go.Proofs.Ytekcokbpgpeepaa
