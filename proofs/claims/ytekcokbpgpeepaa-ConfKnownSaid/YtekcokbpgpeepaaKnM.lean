/- Layer 5: append, and what the old value still owns. -/
import Derived.Test.YtekcokbpgpeepaaRdK
import Derived.Test.YtekcokbpgpeepaaPar05
namespace Go.Proofs.Ytekcokbpgpeepaa
set_option linter.unusedVariables false
open Go.RowKit

theorem run_append_old {P : Program} {w : World} (base : Nat) (t ty e : TypeId) (i : TypeInfo) (z : Value) (size bytes : Nat) (ht : P.underlying t = some (.slice e)) (hi : P.info? e = some i) (hz : i.zero = some z)
    (hsize : i.size = size) (hby : i.bytes = bytes) (hzs : z.cells.size = size) (hsz : 0 < size)
    (v : Value) (n : Nat) (xs : List Value) (hown : w.ownsRow base e size v n xs) (ad : Addr) (m c : Nat) (news : List Value) (hl : news.length = m * size) (hnews : ∀ j u, news[j]? = some u → w.cell? (ad.add j) = some u) (h1 : ∀ u ∈ news, u.oneCell' = true)
    (h63 : n + m ≤ maxLen) (hbytes : (n + m) * bytes ≤ 140737488355328) (hbase : base ≤ w.heap.size) :
    ∃ v' w', (Builtin.append_ #[t, t] ty #[v, .slice (some ad) m c]).run P w = .ok v' w' ∧ w'.ownsRow base e size v' (n + m) (xs ++ news) ∧ w.grownBy w' v.ownBlock ∧ w'.ownsRow base e size v n xs := by
  obtain ⟨A, cap, rfl, hcap, hmax, hnil, hf⟩ := own_form hown
  obtain ⟨v', w', hr, h2, h3, _, h5⟩ := run_append_own_at (P := P) w base t ty e i z size bytes ht hi hz hsize hby hzs hsz _ n xs hown ad m c news hl hnews h1 h63 hbytes hbase
  cases A with
  | none =>
    obtain ⟨rfl, rfl⟩ := hnil rfl
    obtain rfl : xs = [] := List.eq_nil_of_length_eq_zero (by simpa using hown.1)
    exact ⟨v', w', hr, h2, h3, own_none _ _ _ _⟩
  | some a =>
    obtain ⟨g, cur, rfl, hg, hb, hs, htk⟩ := hf a rfl
    by_cases hroom : n + m ≤ cap
    · subst hsize
      have hin : ∀ j, j < news.length → n * i.size + j < cur.size := by
        intro j hj
        have := Nat.mul_le_mul_right i.size hroom
        rw [Nat.add_mul] at this
        omega
      have hr' := run_append_room_cells (P := P) w t ty e i ht hi g 0 n cap ad m c news hl hnews h1 hroom (fun j hj => by rw [hb.cell, Nat.zero_add, Array.getElem?_eq_getElem (hin j hj)]; rfl) (fun j hj => hb.frozen _)
      have he := hr.symm.trans hr'
      simp only [Result.ok.injEq] at he
      obtain ⟨rfl, -⟩ := he
      refine ⟨_, w', hr, h2, h3, ?_⟩
      obtain ⟨A', cap', e', -, -, -, hf'⟩ := own_form h2
      obtain ⟨rfl, rfl⟩ : some (⟨g, 0, none⟩ : Addr) = A' ∧ cap = cap' := by simpa using e'
      obtain ⟨g', cur', e'', hg', hb', hs', ht'⟩ := hf' _ rfl
      obtain rfl : g = g' := by simpa using e''
      refine ⟨hown.1, .inr ⟨g, cap, cur', rfl, hg, hb', hcap, hmax, hs', ?_⟩⟩
      have h6 := congrArg (List.take (n * i.size)) ht'
      rw [List.take_take, Nat.min_eq_left (Nat.mul_le_mul_right _ (Nat.le_add_right n m)), ← hown.1, List.take_left] at h6
      rw [← hown.1]
      exact h6
    · obtain ⟨v2, w2, hr2, r1, r2⟩ := run_append_arg_grows (P := P) w t ty e i z size bytes ht hi hz hsize hby hzs hsz ⟨g, 0, none⟩ n cap xs hown.1 (fun j u hj => by rw [add_at, Nat.zero_add, hb.cell]; exact take_at htk hj) ad m c news hl hnews (by omega) h63 hbytes
      refine ⟨v2, w2, hr2, own_mono r1 hbase, ⟨r2.os, r2.tape, r2.output, r2.size, fun k hk _ => r2.block k hk (by simp)⟩, own_keep hown fun q cs hk => (r2.block q hk.lt (by simp)).trans hk⟩
theorem wp_append_old {o : Oper} {a : Act} {K : Act → World → Prop} {Q : Exit → Act → World → Prop} {w : World} {B n size bytes : Nat} {e t : TypeId} {z v : Value} {xs : List Value} {cs : Array Value} (s x : Operand)
    (ho : o.op = .call { callee := .builtin .append, args := #[s, x], argTypes := #[t, t] }) (ht : Try.prog.underlying t = some (.slice e)) (hi : (Try.prog.info? e).map (fun i => (i.zero, i.size, i.bytes)) = some (some z, size, bytes)) (hzs : z.cells.size = size) (hsz : 0 < size)
    (hs : a.eval s = v) (hO : w.ownsRow B e size v n xs) (hB : B ≤ w.heap.size) (hcs : cs.size = size) (hone : ∀ u ∈ cs.toList, u.oneCell' = true) (hx : a.eval x = .slice (some ⟨w.heap.size, 0, none⟩) 1 1) (hl : (n + 1) * bytes ≤ 140737488355328) (hn1 : n + 1 ≤ 17592186044416)
    (h : ∀ v' w', w'.ownsRow B e size v' (n + 1) (xs ++ cs.toList) → w'.ownsRow B e size v n xs → Keeps (fun i => B ≤ i ∧ v.ownBlock = some i) w w' → (∀ q t' cs', Blk w q t' cs' → t' ≠ e → Blk w' q t' cs') → K (a.put o.dst v') w') : Oper.wp Try.prog o a (w.alloc (.cells cs e)) K Q := by
  obtain ⟨i0, hi0, hz0, hz1, hz2⟩ := info_parts' hi
  have hO' := own_below hO ((Below.refl _ _).alloc (Nat.le_refl _) (.cells cs e))
  obtain ⟨v', w', hrun, h2, h3, h4⟩ := run_append_old (P := Try.prog) (w := w.alloc (.cells cs e)) B t o.type e i0 z size bytes ht hi0 hz0 hz1 hz2 hzs hsz v n xs hO' ⟨w.heap.size, 0, none⟩ 1 1 cs.toList (by simpa using hcs) (fun j u hj => by
    rw [add_at, Nat.zero_add, (Blk.new w e cs).cell, ← Array.getElem?_toList]
    exact hj) hone (by simp only [maxLen]; omega) hl (by simp; omega)
  have hfrom := own_from hO
  unfold Oper.wp execOp
  simp only [ho, resolve, invoke, builtin, Sem.run_bind, Sem.run_pure, Result.andThen_ok, List.map_toArray, List.map_cons, List.map_nil, hs, hx, hrun]
  refine h v' w' h2 h4 ?_ fun q t' cs' hk hne => (h3.block q (Nat.lt_of_lt_of_le hk.lt (by simp)) ?_).trans (hk.alloc _)
  · have k1 : Keeps (fun i => B ≤ i ∧ v.ownBlock = some i) w (w.alloc (.cells cs e)) := (Keeps.refl _ _).alloc _
    have k2 : Keeps (fun i => B ≤ i ∧ v.ownBlock = some i) (w.alloc (.cells cs e)) w' := ⟨h3.os, h3.tape, h3.output, h3.size, fun i hi hn => h3.block i hi (fun e => hn ⟨hfrom i e.symm, e.symm⟩)⟩
    exact k1.trans k2 fun i hi => .inl hi
  · obtain ⟨A, c, rfl, _, _, _, hf⟩ := own_form hO
    cases A with
    | none => simp [Value.ownBlock]
    | some a =>
      obtain ⟨g, cur, rfl, _, hb, _⟩ := hf a rfl
      intro e'
      simp [Value.ownBlock] at e'
      exact hk.ne_ hb hne e'
theorem step_old_task {ops : Array Oper} {o : Oper} {a : Act} {K : Act → World → Prop} {Q : Exit → Act → World → Prop} {E : Prop} {w : World} {B : Nat} {v : Value} {L : List TV} {t : TV} (hgd : o.guard = none) (s x : Operand)
    (ho : o.op = .call { callee := .builtin .append, args := #[s, x], argTypes := #[39, 39] }) (hs : a.eval s = v) (hO : OwnT w B v L) (hB : B ≤ w.heap.size) {cs : Array Value} (hcs : cs = tCells t) (hx : a.eval x = .slice (some ⟨w.heap.size, 0, none⟩) 1 1) (hl : L.length + 1 ≤ 1000000)
    (h : ∀ v' w', OwnT w' B v' (L ++ [t]) → OwnT w' B v L → Keeps (fun i => B ≤ i ∧ v.ownBlock = some i) w w' → (∀ q t' cs', Blk w q t' cs' → t' ≠ 46 → Blk w' q t' cs') → K (a.put o.dst v') w') : if Region.wanted o (yielded ops a.tmps) = true then Oper.wp Try.prog o a (w.alloc (.cells cs 46)) K Q else E := by
  have hw : Region.wanted o (yielded ops a.tmps) = true := by simp [Region.wanted, hgd]
  rw [if_pos hw]
  subst hcs
  refine wp_append_old s x ho Try.underlying39 task_info rfl (by omega) hs hO hB rfl (fun u hu => ?_) hx (by omega) (by omega) fun v' w' h1 h0 h2 h3 => h v' w' ?_ h0 h2 h3
  · simp only [tCells, List.mem_cons, List.not_mem_nil, or_false] at hu
    rcases hu with rfl | rfl | rfl | rfl | rfl | rfl | rfl | rfl <;> rfl
  · show w'.ownsRow _ _ _ _ _ _
    rw [List.length_append]
    simpa [tcs] using h1
theorem step_old_port {ops : Array Oper} {o : Oper} {a : Act} {K : Act → World → Prop} {Q : Exit → Act → World → Prop} {E : Prop} {w : World} {B : Nat} {v : Value} {L : List PV} {t : PV} (hgd : o.guard = none) (s x : Operand)
    (ho : o.op = .call { callee := .builtin .append, args := #[s, x], argTypes := #[23, 23] }) (hs : a.eval s = v) (hO : OwnQ w B v L) (hB : B ≤ w.heap.size) {cs : Array Value} (hcs : cs = qCells t) (hx : a.eval x = .slice (some ⟨w.heap.size, 0, none⟩) 1 1) (hl : L.length + 1 ≤ 1000000)
    (h : ∀ v' w', OwnQ w' B v' (L ++ [t]) → OwnQ w' B v L → Keeps (fun i => B ≤ i ∧ v.ownBlock = some i) w w' → (∀ q t' cs', Blk w q t' cs' → t' ≠ 48 → Blk w' q t' cs') → K (a.put o.dst v') w') : if Region.wanted o (yielded ops a.tmps) = true then Oper.wp Try.prog o a (w.alloc (.cells cs 48)) K Q else E := by
  have hw : Region.wanted o (yielded ops a.tmps) = true := by simp [Region.wanted, hgd]
  rw [if_pos hw]
  subst hcs
  refine wp_append_old s x ho Try.underlying23 port_info rfl (by omega) hs hO hB rfl (fun u hu => ?_) hx (by omega) (by omega) fun v' w' h1 h0 h2 h3 => h v' w' ?_ h0 h2 h3
  · simp only [qCells, List.mem_cons, List.not_mem_nil, or_false] at hu
    rcases hu with rfl | rfl | rfl | rfl | rfl | rfl <;> rfl
  · show w'.ownsRow _ _ _ _ _ _
    rw [List.length_append]
    simpa [qcs] using h1
theorem step_old_part {ops : Array Oper} {o : Oper} {a : Act} {K : Act → World → Prop} {Q : Exit → Act → World → Prop} {E : Prop} {w : World} {B : Nat} {v u : Value} {L : List CP} {p : CP} (hgd : o.guard = none) (s x : Operand)
    (ho : o.op = .call { callee := .builtin .append, args := #[s, x], argTypes := #[22, 22] }) (hs : a.eval s = v) (hO : OwnP w B v L) (hB : B ≤ w.heap.size) (hu : OwnT w B u p.ts) (hu4 : p.ts.length ≤ 2199023255552) {cs : Array Value} (hcs : cs = #[.int .i64 p.per, .int .i64 p.bud, u]) (hx : a.eval x = .slice (some ⟨w.heap.size, 0, none⟩) 1 1) (hl : (L.length + 1) * 40 ≤ 140737488355328)
    (h : ∀ v' w', OwnP w' B v' (L ++ [p]) → OwnP w' B v L → Keeps (fun i => B ≤ i ∧ v.ownBlock = some i) w w' → (∀ q t' cs', Blk w q t' cs' → t' ≠ 41 → Blk w' q t' cs') → K (a.put o.dst v') w') : if Region.wanted o (yielded ops a.tmps) = true then Oper.wp Try.prog o a (w.alloc (.cells cs 41)) K Q else E := by
  have hw : Region.wanted o (yielded ops a.tmps) = true := by simp [Region.wanted, hgd]
  rw [if_pos hw]
  subst hcs
  obtain ⟨Z, rfl, h2, h3⟩ := hO
  have hl' : (Z.length + 1) * 40 ≤ 140737488355328 := by simpa using hl
  obtain ⟨TA, tc, rfl, _⟩ := own_form hu
  refine wp_append_old s x ho Try.underlying22 part_info rfl (by omega) hs h2 hB rfl (fun u hu => ?_) hx hl' (by omega) fun v' w' h1 h0 hk ht => ?_
  · simp only [List.mem_cons, List.not_mem_nil, or_false] at hu
    rcases hu with rfl | rfl | rfl <;> rfl
  · have hk' : ∀ q cs, Blk w q 46 cs → Blk w' q 46 cs := fun q cs hb => ht q _ cs hb (by decide)
    refine h v' w' ⟨Z ++ [(p, .slice TA p.ts.length tc)], by simp, ?_, fun z hz => ?_⟩ ⟨Z, rfl, h0, fun z hz => ⟨(h3 z hz).1.keep hk', (h3 z hz).2⟩⟩ hk ht
    · rw [List.length_append]
      simpa [zcs] using h1
    · rcases List.mem_append.1 hz with hz | hz
      · exact ⟨(h3 z hz).1.keep hk', (h3 z hz).2⟩
      · simp only [List.mem_cons, List.not_mem_nil, or_false] at hz
        subst hz
        exact ⟨OwnT.keep hu hk', hu4⟩
end Go.Proofs.Ytekcokbpgpeepaa

/- ConfKnown: what stands in the memory. -/
namespace Go.Proofs.Ytekcokbpgpeepaa
set_option linter.unusedVariables false
open Go.RowKit

def kT : TV := ⟨64, 60, 30, 255, 30, 4, 15, 2⟩
def kP : CP := ⟨64, 20, List.replicate 4 kT⟩
def kQ (i : Nat) : PV := ⟨2, Int.tmod i 4, Int.tmod (i + 1) 4, 16, 4, 0⟩
def kQs (n : Nat) : List PV := (List.range n).map kQ
theorem kQs_succ (n : Nat) : kQs (n + 1) = kQs n ++ [kQ n] := by simp [kQs, List.range_succ]
theorem kQs_len (n : Nat) : (kQs n).length = n := by simp [kQs]
def kC : Cfg := ⟨List.replicate 4 kP, kQs 8⟩
theorem rep_succ {α : Type} (n : Nat) (a : α) : List.replicate (n + 1) a = List.replicate n a ++ [a] := List.replicate_succ'
/-- The configuration 'full', so far. -/
structure KF (w : World) (c1 : Nat) (k m : Nat) (v v2 : Value) (wr : World) : Prop where
  c : Blk wr c1 25 #[v, v2]
  p : OwnP wr c1 v (List.replicate k kP)
  q : OwnQ wr c1 v2 (kQs m)
  b : Below w.heap.size w wr
  hw : w.heap.size ≤ c1
/-- A part of it, so far. -/
structure KT (wr : World) (j : Nat) (u : Value) (wx : World) : Prop where
  p : Blk wx wr.heap.size 41 #[.int .i64 64, .int .i64 20, u]
  u : OwnT wx wr.heap.size u (List.replicate j kT)
  b : Below wr.heap.size wr wx
section
variable {w wr wx : World} {c1 k m j : Nat} {v v2 u : Value}
theorem KF.le (h : KF w c1 k m v v2 wr) : c1 ≤ wr.heap.size := Nat.le_of_lt h.c.lt
theorem KF.low (h : KF w c1 k m v v2 wr) {w' : World} (hb : Below wr.heap.size wr w') : KF w c1 k m v v2 w' :=
  ⟨h.c.below hb h.c.lt, h.p.keep fun q t cs _ hk => hk.below hb hk.lt, own_below h.q hb, below_lift h.b hb h.b.size, h.hw⟩
theorem KF.cells (h : KF w c1 k m v v2 wr) : wr.cell? ⟨c1, 0, none⟩ = some v ∧ wr.cell? ⟨c1, 1, none⟩ = some v2 ∧ c1 < wr.heap.size := ⟨(h.c.cell 0).trans rfl, (h.c.cell 1).trans rfl, h.c.lt⟩
theorem kf_start (w : World) : KF w w.heap.size 0 0 (.slice none 0 0) (.slice none 0 0) (w.alloc (.cells #[.slice none 0 0, .slice none 0 0] 25)) :=
  ⟨Blk.new _ _ _, OwnP.nil, OwnQ.nil, (Below.refl _ _).alloc (Nat.le_refl _) _, Nat.le_refl _⟩
theorem kt_start (wr : World) : KT wr 0 (.slice none 0 0) (wr.alloc (.cells #[.int .i64 64, .int .i64 20, .slice none 0 0] 41)) :=
  ⟨Blk.new _ _ _, OwnT.nil, (Below.refl _ _).alloc (Nat.le_refl _) _⟩
theorem KT.push {w9 : World} {v' : Value} (h : KT wr j u wx) (hu : OwnT w9 wr.heap.size v' (List.replicate j kT ++ [kT])) (hk : Keeps (fun i => wr.heap.size ≤ i ∧ u.ownBlock = some i) wx w9)
    (ht : ∀ q t' cs', Blk wx q t' cs' → t' ≠ 46 → Blk w9 q t' cs') : KT wr (j + 1) v' (w9.setCell ⟨wr.heap.size, 2, none⟩ v') := by
  have hp9 := ht _ _ _ h.p (by decide)
  refine ⟨hp9.set_ 2 v', ?_, (Below.keeps h.b hk h.b.size (fun i hi => hi.1)).setCell (Nat.le_refl _) _⟩
  rw [rep_succ]
  exact hu.keep fun q cs hb => hb.far (hb.ne_ hp9 (by decide)) _
theorem KF.pushP {w9 : World} {v' : Value} (h : KF w c1 k m v v2 wr) (hu : OwnP w9 c1 v' (List.replicate k kP ++ [kP])) (hk : Keeps (fun i => c1 ≤ i ∧ v.ownBlock = some i) wr w9)
    (ht : ∀ q t' cs', Blk wr q t' cs' → t' ≠ 41 → Blk w9 q t' cs') : KF w c1 (k + 1) m v' v2 (w9.setCell ⟨c1, 0, none⟩ v') := by
  have hc9 := ht _ _ _ h.c (by decide)
  have hw := h.hw
  refine ⟨hc9.set_ 0 v', ?_, (h.q.keep (w' := w9) fun q cs hb => ht _ _ _ hb (by decide)).keep fun q cs hb => hb.far (hb.ne_ hc9 (by decide)) _, (Below.keeps h.b hk h.b.size (fun i hi => by omega)).setCell h.hw _, h.hw⟩
  rw [rep_succ]
  exact hu.keep fun q t cs ht hb => hb.far (by rcases ht with rfl | rfl <;> exact hb.ne_ hc9 (by decide)) _
theorem KF.pushQ {w9 : World} {v' : Value} (h : KF w c1 k m v v2 wr) (hu : OwnQ w9 c1 v' (kQs m ++ [kQ m])) (hk : Keeps (fun i => c1 ≤ i ∧ v2.ownBlock = some i) wr w9)
    (ht : ∀ q t' cs', Blk wr q t' cs' → t' ≠ 48 → Blk w9 q t' cs') : KF w c1 k (m + 1) v v' (w9.setCell ⟨c1, 1, none⟩ v') := by
  have hc9 := ht _ _ _ h.c (by decide)
  have hw := h.hw
  refine ⟨hc9.set_ 1 v', (h.p.keep (w' := w9) fun q t cs hq hb => ht _ _ _ hb (by rcases hq with rfl | rfl <;> decide)).keep fun q t cs ht hb => hb.far (by rcases ht with rfl | rfl <;> exact hb.ne_ hc9 (by decide)) _, ?_, (Below.keeps h.b hk h.b.size (fun i hi => by omega)).setCell h.hw _, h.hw⟩
  rw [kQs_succ]
  exact hu.keep fun q cs hb => hb.far (hb.ne_ hc9 (by decide)) _
theorem KF.cfg (h : KF w c1 4 8 v v2 wr) : ∃ A n1 A2 n2, v = .slice A 4 n1 ∧ v2 = .slice A2 8 n2 ∧ CfA wr A n1 A2 n2 kC := by
  obtain ⟨A, n1, rfl, h1, h2, h3⟩ := h.p.form
  obtain ⟨A2, n2, rfl, k1, k2, k3⟩ := h.q.form
  have e1 : (List.replicate 4 kP).length = 4 := by simp
  have e2 := kQs_len 8
  exact ⟨A, n1, A2, n2, by rw [e1], by rw [e2], h3, k3, h1, k1, h2, k2, by show (List.replicate 4 kP).length ≤ _; omega, by show (kQs 8).length ≤ _; omega⟩
end
theorem kC_ok : checkB kC = true := by kernel_rfl
/-- The three calls, at lengths as numbers. -/
theorem check_n (A A2 : Option Addr) (n1 n2 l1 l2 : Nat) (c : Cfg) (w : World) (h : CfA w A n1 A2 n2 c) (e1 : c.ps.length = l1) (e2 : c.qs.length = l2) {z : Int} (hz : checkE c = z) :
    Calls Try.prog 12 #[.agg #[.slice A l1 n1, .slice A2 l2 n2]] w fun e w' => e = .returned (.int .i64 z) ∧ Below w.heap.size w w' := by
  subst e1; subst e2
  exact check_c A A2 n1 n2 c w h hz
theorem back_n (A A2 : Option Addr) (n1 n2 l1 l2 : Nat) (c : Cfg) (w : World) (h : CfA w A n1 A2 n2 c) (e1 : c.ps.length = l1) (e2 : c.qs.length = l2) :
    Calls Try.prog 5 #[.agg #[.slice A l1 n1, .slice A2 l2 n2]] w fun e w' => e = .returned (.bool true) ∧ Below w.heap.size w w' := by
  subst e1; subst e2
  exact back_c A A2 n1 n2 c w h
theorem cbytes_n (A A2 : Option Addr) (n1 n2 l1 l2 : Nat) (c : Cfg) (w : World) (h : CfA w A n1 A2 n2 c) (e1 : c.ps.length = l1) (e2 : c.qs.length = l2) :
    Calls Try.prog 3 #[.agg #[.slice A l1 n1, .slice A2 l2 n2]] w fun e w' => e = .returned (.bool true) ∧ Below w.heap.size w w' := by
  subst e1; subst e2
  exact cbytes_c A A2 n1 n2 c w h
end Go.Proofs.Ytekcokbpgpeepaa

/- ConfKnown: a configuration of two parts and two ports, one number of it written. -/
namespace Go.Proofs.Ytekcokbpgpeepaa
set_option linter.unusedVariables false
open Go.RowKit

theorem alloc_size1 (w : World) (o : Obj) : (w.alloc o).heap.size = w.heap.size + 1 := by simp
/-- A cell that holds a number. -/
def IntC (cs : Array Value) (i : Nat) : Prop := ∃ z : Int, cs[i]? = some (.int .i64 z)
theorem IntC.set {cs : Array Value} {i : Nat} (h : IntC cs i) (j : Nat) (z : Int) : IntC (cs.setIfInBounds j (.int .i64 z)) i := by
  obtain ⟨y, hy⟩ := h
  by_cases hne : j = i
  · subst hne
    have hlt : j < cs.size := by
      rcases Nat.lt_or_ge j cs.size with hlt | hge
      · exact hlt
      · rw [Array.getElem?_eq_none hge] at hy; cases hy
    exact ⟨z, by rw [Array.getElem?_setIfInBounds, if_pos rfl, if_pos hlt]⟩
  · exact ⟨y, by rw [Array.getElem?_setIfInBounds_ne hne]; exact hy⟩
structure KX (w0 : World) (g tb q lt lc n1 cc c0 : Nat) (A0 : Option Addr) (w : World) : Prop where
  fg : ∃ cs, Blk w g 41 cs ∧ (IntC cs 0 ∧ IntC cs 1 ∧ IntC cs 3 ∧ IntC cs 4) ∧ cs[2]? = some (.slice (some ⟨tb, 0, none⟩) 1 cc) ∧ cs[5]? = some (.slice A0 0 c0)
  ft : ∃ cs, Blk w tb 46 cs ∧ ∀ i, i < 8 → IntC cs i
  fq : ∃ cs, Blk w q 48 cs ∧ ∀ i, i < 12 → IntC cs i
  fl : ∃ cs, Blk w lt 46 cs ∧ ∀ i, i < 8 → IntC cs i
  c : Blk w lc 25 #[.slice (some ⟨g, 0, none⟩) 2 n1, .slice (some ⟨q, 0, none⟩) 2 2]
  ne : tb ≠ lt
  h1 : 2 ≤ n1
  hc : 1 ≤ cc
  ha : A0 = none → c0 = 0
  b : Below w0.heap.size w0 w
  lo : w0.heap.size ≤ g ∧ w0.heap.size ≤ tb ∧ w0.heap.size ≤ q ∧ w0.heap.size ≤ lt
section
variable {w0 w w' : World} {g tb q lt lc n1 cc c0 : Nat} {A0 : Option Addr}
theorem KX.below (h : KX w0 g tb q lt lc n1 cc c0 A0 w) (k : Below w.heap.size w w') : KX w0 g tb q lt lc n1 cc c0 A0 w' := by
  obtain ⟨cg, g1, g2⟩ := h.fg
  obtain ⟨ct, t1, t2⟩ := h.ft
  obtain ⟨cq, q1, q2⟩ := h.fq
  obtain ⟨cl, l1, l2⟩ := h.fl
  exact ⟨⟨cg, g1.below k g1.lt, g2⟩, ⟨ct, t1.below k t1.lt, t2⟩, ⟨cq, q1.below k q1.lt, q2⟩, ⟨cl, l1.below k l1.lt, l2⟩, h.c.below k h.c.lt, h.ne, h.h1, h.hc, h.ha, below_lift h.b k h.b.size, h.lo⟩
theorem KX.putG (h : KX w0 g tb q lt lc n1 cc c0 A0 w) (i : Nat) (hi : i < 2) (z : Int) : KX w0 g tb q lt lc n1 cc c0 A0 (w.setCell ⟨g, i, none⟩ (.int .i64 z)) := by
  obtain ⟨cg, g1, ⟨a0, a1, a3, a4⟩, g2, g5⟩ := h.fg
  obtain ⟨ct, t1, t2⟩ := h.ft
  obtain ⟨cq, q1, q2⟩ := h.fq
  obtain ⟨cl, l1, l2⟩ := h.fl
  refine ⟨⟨_, g1.set_ i _, ⟨a0.set i z, a1.set i z, a3.set i z, a4.set i z⟩, ?_, ?_⟩, ⟨ct, t1.far (t1.ne_ g1 (by decide)) _, t2⟩, ⟨cq, q1.far (q1.ne_ g1 (by decide)) _, q2⟩, ⟨cl, l1.far (l1.ne_ g1 (by decide)) _, l2⟩, h.c.far (h.c.ne_ g1 (by decide)) _, h.ne, h.h1, h.hc, h.ha, h.b.setCell h.lo.1 _, h.lo⟩
  · rw [Array.getElem?_setIfInBounds_ne (by omega)]; exact g2
  · rw [Array.getElem?_setIfInBounds_ne (by omega)]; exact g5
theorem KX.putL (h : KX w0 g tb q lt lc n1 cc c0 A0 w) (i : Nat) (z : Int) : KX w0 g tb q lt lc n1 cc c0 A0 (w.setCell ⟨lt, i, none⟩ (.int .i64 z)) := by
  obtain ⟨cg, g1, g2⟩ := h.fg
  obtain ⟨ct, t1, t2⟩ := h.ft
  obtain ⟨cq, q1, q2⟩ := h.fq
  obtain ⟨cl, l1, l2⟩ := h.fl
  exact ⟨⟨cg, g1.far (g1.ne_ l1 (by decide)) _, g2⟩, ⟨ct, t1.far h.ne _, t2⟩, ⟨cq, q1.far (q1.ne_ l1 (by decide)) _, q2⟩, ⟨_, l1.set_ i _, fun j hj => (l2 j hj).set i z⟩, h.c.far (h.c.ne_ l1 (by decide)) _, h.ne, h.h1, h.hc, h.ha, h.b.setCell h.lo.2.2.2 _, h.lo⟩
theorem KX.putT (h : KX w0 g tb q lt lc n1 cc c0 A0 w) (i : Nat) (z : Int) : KX w0 g tb q lt lc n1 cc c0 A0 (w.setCell ⟨tb, i, none⟩ (.int .i64 z)) := by
  obtain ⟨cg, g1, g2⟩ := h.fg
  obtain ⟨ct, t1, t2⟩ := h.ft
  obtain ⟨cq, q1, q2⟩ := h.fq
  obtain ⟨cl, l1, l2⟩ := h.fl
  exact ⟨⟨cg, g1.far (g1.ne_ t1 (by decide)) _, g2⟩, ⟨_, t1.set_ i _, fun j hj => (t2 j hj).set i z⟩, ⟨cq, q1.far (q1.ne_ t1 (by decide)) _, q2⟩, ⟨cl, l1.far (fun e => h.ne e.symm) _, l2⟩, h.c.far (h.c.ne_ t1 (by decide)) _, h.ne, h.h1, h.hc, h.ha, h.b.setCell h.lo.2.1 _, h.lo⟩
theorem KX.putQ (h : KX w0 g tb q lt lc n1 cc c0 A0 w) (i : Nat) (z : Int) : KX w0 g tb q lt lc n1 cc c0 A0 (w.setCell ⟨q, i, none⟩ (.int .i64 z)) := by
  obtain ⟨cg, g1, g2⟩ := h.fg
  obtain ⟨ct, t1, t2⟩ := h.ft
  obtain ⟨cq, q1, q2⟩ := h.fq
  obtain ⟨cl, l1, l2⟩ := h.fl
  exact ⟨⟨cg, g1.far (g1.ne_ q1 (by decide)) _, g2⟩, ⟨ct, t1.far (t1.ne_ q1 (by decide)) _, t2⟩, ⟨_, q1.set_ i _, fun j hj => (q2 j hj).set i z⟩, ⟨cl, l1.far (l1.ne_ q1 (by decide)) _, l2⟩, h.c.far (h.c.ne_ q1 (by decide)) _, h.ne, h.h1, h.hc, h.ha, h.b.setCell h.lo.2.2.1 _, h.lo⟩
/-- The nineteen places. -/
def KPl (g q lt : Nat) (p : Addr) : Prop := (∃ i, i < 2 ∧ p = ⟨g, i, none⟩) ∨ (∃ i, i < 8 ∧ p = ⟨lt, i, none⟩) ∨ ∃ i, i < 12 ∧ p = ⟨q, i, none⟩
theorem KX.put (h : KX w0 g tb q lt lc n1 cc c0 A0 w) {p : Addr} (hp : KPl g q lt p) (z : Int) : KX w0 g tb q lt lc n1 cc c0 A0 (w.setCell p (.int .i64 z)) := by
  rcases hp with ⟨i, hi, rfl⟩ | ⟨i, hi, rfl⟩ | ⟨i, hi, rfl⟩
  · exact h.putG i hi z
  · exact h.putL i z
  · exact h.putQ i z
theorem KX.at (h : KX w0 g tb q lt lc n1 cc c0 A0 w) {p : Addr} (hp : KPl g q lt p) : (∃ y, w.cell? p = some (.int .i64 y)) ∧ w.frozen? p = false ∧ p.block < w.heap.size := by
  rcases hp with ⟨i, hi, rfl⟩ | ⟨i, hi, rfl⟩ | ⟨i, hi, rfl⟩
  · obtain ⟨cg, g1, ⟨a0, a1, a3, a4⟩, g2, g5⟩ := h.fg
    refine ⟨?_, g1.frozen i, g1.lt⟩
    rw [g1.cell]
    rcases (by omega : i = 0 ∨ i = 1) with rfl | rfl
    · exact a0
    · exact a1
  · obtain ⟨cl, l1, l2⟩ := h.fl
    refine ⟨?_, l1.frozen i, l1.lt⟩
    rw [l1.cell]
    exact l2 i hi
  · obtain ⟨cq, q1, q2⟩ := h.fq
    refine ⟨?_, q1.frozen i, q1.lt⟩
    rw [q1.cell]
    exact q2 i hi
def kptrs (g q lt : Nat) : Array Value := #[.pointer (some ⟨g, 0, none⟩), .pointer (some ⟨g, 1, none⟩), .pointer (some ⟨lt, 0, none⟩), .pointer (some ⟨lt, 1, none⟩), .pointer (some ⟨lt, 2, none⟩), .pointer (some ⟨lt, 3, none⟩), .pointer (some ⟨lt, 4, none⟩), .pointer (some ⟨lt, 5, none⟩), .pointer (some ⟨lt, 6, none⟩), .pointer (some ⟨lt, 7, none⟩),
  .pointer (some ⟨q, 0, none⟩), .pointer (some ⟨q, 1, none⟩), .pointer (some ⟨q, 2, none⟩), .pointer (some ⟨q, 3, none⟩), .pointer (some ⟨q, 4, none⟩), .pointer (some ⟨q, 5, none⟩), .pointer (some ⟨q, 6, none⟩), .pointer (some ⟨q, 10, none⟩), .pointer (some ⟨q, 11, none⟩)]
theorem kptrs_at (g q lt k : Nat) (hk : k < 19) : ∃ pb po, (kptrs g q lt)[k]? = some (.pointer (some ⟨pb, po, none⟩)) ∧ KPl g q lt ⟨pb, po, none⟩ := by
  match k, hk with
  | 0, _ => exact ⟨_, _, rfl, .inl ⟨0, by omega, rfl⟩⟩
  | 1, _ => exact ⟨_, _, rfl, .inl ⟨1, by omega, rfl⟩⟩
  | 2, _ => exact ⟨_, _, rfl, .inr (.inl ⟨0, by omega, rfl⟩)⟩
  | 3, _ => exact ⟨_, _, rfl, .inr (.inl ⟨1, by omega, rfl⟩)⟩
  | 4, _ => exact ⟨_, _, rfl, .inr (.inl ⟨2, by omega, rfl⟩)⟩
  | 5, _ => exact ⟨_, _, rfl, .inr (.inl ⟨3, by omega, rfl⟩)⟩
  | 6, _ => exact ⟨_, _, rfl, .inr (.inl ⟨4, by omega, rfl⟩)⟩
  | 7, _ => exact ⟨_, _, rfl, .inr (.inl ⟨5, by omega, rfl⟩)⟩
  | 8, _ => exact ⟨_, _, rfl, .inr (.inl ⟨6, by omega, rfl⟩)⟩
  | 9, _ => exact ⟨_, _, rfl, .inr (.inl ⟨7, by omega, rfl⟩)⟩
  | 10, _ => exact ⟨_, _, rfl, .inr (.inr ⟨0, by omega, rfl⟩)⟩
  | 11, _ => exact ⟨_, _, rfl, .inr (.inr ⟨1, by omega, rfl⟩)⟩
  | 12, _ => exact ⟨_, _, rfl, .inr (.inr ⟨2, by omega, rfl⟩)⟩
  | 13, _ => exact ⟨_, _, rfl, .inr (.inr ⟨3, by omega, rfl⟩)⟩
  | 14, _ => exact ⟨_, _, rfl, .inr (.inr ⟨4, by omega, rfl⟩)⟩
  | 15, _ => exact ⟨_, _, rfl, .inr (.inr ⟨5, by omega, rfl⟩)⟩
  | 16, _ => exact ⟨_, _, rfl, .inr (.inr ⟨6, by omega, rfl⟩)⟩
  | 17, _ => exact ⟨_, _, rfl, .inr (.inr ⟨10, by omega, rfl⟩)⟩
  | 18, _ => exact ⟨_, _, rfl, .inr (.inr ⟨11, by omega, rfl⟩)⟩
  | k + 19, h => exact absurd h (by omega)
theorem tk_at {b : Nat} {t : TypeId} {cs : Array Value} (h : Blk w b t cs) (o : Nat) (hi : ∀ i, i < 8 → IntC cs (o + i)) : ∃ tv, TkAt w b o tv := by
  obtain ⟨x0, h0⟩ := hi 0 (by omega)
  obtain ⟨x1, h1⟩ := hi 1 (by omega)
  obtain ⟨x2, h2⟩ := hi 2 (by omega)
  obtain ⟨x3, h3⟩ := hi 3 (by omega)
  obtain ⟨x4, h4⟩ := hi 4 (by omega)
  obtain ⟨x5, h5⟩ := hi 5 (by omega)
  obtain ⟨x6, h6⟩ := hi 6 (by omega)
  obtain ⟨x7, h7⟩ := hi 7 (by omega)
  exact ⟨⟨x0, x1, x2, x3, x4, x5, x6, x7⟩, (h.cell _).trans h0, (h.cell _).trans h1, (h.cell _).trans h2, (h.cell _).trans h3, (h.cell _).trans h4, (h.cell _).trans h5, (h.cell _).trans h6, (h.cell _).trans h7⟩
theorem pt_at {b : Nat} {t : TypeId} {cs : Array Value} (h : Blk w b t cs) (o : Nat) (hi : ∀ i, i < 6 → IntC cs (o + i)) : ∃ qv, PtAt w b o qv := by
  obtain ⟨x0, h0⟩ := hi 0 (by omega)
  obtain ⟨x1, h1⟩ := hi 1 (by omega)
  obtain ⟨x2, h2⟩ := hi 2 (by omega)
  obtain ⟨x3, h3⟩ := hi 3 (by omega)
  obtain ⟨x4, h4⟩ := hi 4 (by omega)
  obtain ⟨x5, h5⟩ := hi 5 (by omega)
  exact ⟨⟨x0, x1, x2, x3, x4, x5⟩, (h.cell _).trans h0, (h.cell _).trans h1, (h.cell _).trans h2, (h.cell _).trans h3, (h.cell _).trans h4, (h.cell _).trans h5⟩
theorem KX.nine (h : KX w0 g tb q lt lc n1 cc c0 A0 w) : w.cell? ⟨lc, 0, none⟩ = some (.slice (some ⟨g, 0, none⟩) 2 n1) ∧ w.cell? ⟨lc, 1, none⟩ = some (.slice (some ⟨q, 0, none⟩) 2 2) ∧ w.cell? ⟨g, 2, none⟩ = some (.slice (some ⟨tb, 0, none⟩) 1 cc) ∧ tb ≠ lc ∧ tb ≠ g ∧ tb ≠ lt ∧ tb < w.heap.size ∧ lc < w.heap.size := by
  obtain ⟨cg, g1, _, g2, _⟩ := h.fg
  obtain ⟨ct, t1, t2⟩ := h.ft
  exact ⟨(h.c.cell 0).trans rfl, (h.c.cell 1).trans rfl, (g1.cell 2).trans g2, t1.ne_ h.c (by decide), t1.ne_ g1 (by decide), h.ne, t1.lt, h.c.lt⟩
theorem KX.eight (h : KX w0 g tb q lt lc n1 cc c0 A0 w) : ∃ x0 x1 x2 x3 x4 x5 x6 x7 : Int, w.cell? ⟨lt, 0, none⟩ = some (.int .i64 x0) ∧ w.cell? ⟨lt, 1, none⟩ = some (.int .i64 x1) ∧ w.cell? ⟨lt, 2, none⟩ = some (.int .i64 x2) ∧ w.cell? ⟨lt, 3, none⟩ = some (.int .i64 x3) ∧ w.cell? ⟨lt, 4, none⟩ = some (.int .i64 x4) ∧ w.cell? ⟨lt, 5, none⟩ = some (.int .i64 x5) ∧ w.cell? ⟨lt, 6, none⟩ = some (.int .i64 x6) ∧ w.cell? ⟨lt, 7, none⟩ = some (.int .i64 x7) := by
  obtain ⟨cl, l1, hi⟩ := h.fl
  obtain ⟨x0, h0⟩ := hi 0 (by omega)
  obtain ⟨x1, h1⟩ := hi 1 (by omega)
  obtain ⟨x2, h2⟩ := hi 2 (by omega)
  obtain ⟨x3, h3⟩ := hi 3 (by omega)
  obtain ⟨x4, h4⟩ := hi 4 (by omega)
  obtain ⟨x5, h5⟩ := hi 5 (by omega)
  obtain ⟨x6, h6⟩ := hi 6 (by omega)
  obtain ⟨x7, h7⟩ := hi 7 (by omega)
  exact ⟨x0, x1, x2, x3, x4, x5, x6, x7, (l1.cell _).trans h0, (l1.cell _).trans h1, (l1.cell _).trans h2, (l1.cell _).trans h3, (l1.cell _).trans h4, (l1.cell _).trans h5, (l1.cell _).trans h6, (l1.cell _).trans h7⟩
theorem KX.eightT (h : KX w0 g tb q lt lc n1 cc c0 A0 w) : ∃ x0 x1 x2 x3 x4 x5 x6 x7 : Int, (w.cell? ⟨tb, 0, none⟩ = some (.int .i64 x0) ∧ w.cell? ⟨tb, 1, none⟩ = some (.int .i64 x1) ∧ w.cell? ⟨tb, 2, none⟩ = some (.int .i64 x2) ∧ w.cell? ⟨tb, 3, none⟩ = some (.int .i64 x3) ∧ w.cell? ⟨tb, 4, none⟩ = some (.int .i64 x4) ∧ w.cell? ⟨tb, 5, none⟩ = some (.int .i64 x5) ∧ w.cell? ⟨tb, 6, none⟩ = some (.int .i64 x6) ∧ w.cell? ⟨tb, 7, none⟩ = some (.int .i64 x7))
    ∧ w.frozen? ⟨tb, 0, none⟩ = false ∧ w.frozen? ⟨tb, 1, none⟩ = false ∧ w.frozen? ⟨tb, 2, none⟩ = false ∧ w.frozen? ⟨tb, 3, none⟩ = false ∧ w.frozen? ⟨tb, 4, none⟩ = false ∧ w.frozen? ⟨tb, 5, none⟩ = false ∧ w.frozen? ⟨tb, 6, none⟩ = false ∧ w.frozen? ⟨tb, 7, none⟩ = false := by
  obtain ⟨cl, l1, hi⟩ := h.ft
  obtain ⟨x0, h0⟩ := hi 0 (by omega)
  obtain ⟨x1, h1⟩ := hi 1 (by omega)
  obtain ⟨x2, h2⟩ := hi 2 (by omega)
  obtain ⟨x3, h3⟩ := hi 3 (by omega)
  obtain ⟨x4, h4⟩ := hi 4 (by omega)
  obtain ⟨x5, h5⟩ := hi 5 (by omega)
  obtain ⟨x6, h6⟩ := hi 6 (by omega)
  obtain ⟨x7, h7⟩ := hi 7 (by omega)
  exact ⟨x0, x1, x2, x3, x4, x5, x6, x7, ⟨(l1.cell _).trans h0, (l1.cell _).trans h1, (l1.cell _).trans h2, (l1.cell _).trans h3, (l1.cell _).trans h4, (l1.cell _).trans h5, (l1.cell _).trans h6, (l1.cell _).trans h7⟩, l1.frozen _, l1.frozen _, l1.frozen _, l1.frozen _, l1.frozen _, l1.frozen _, l1.frozen _, l1.frozen _⟩
theorem KX.putT8 (h : KX w0 g tb q lt lc n1 cc c0 A0 w) (x0 x1 x2 x3 x4 x5 x6 x7 : Int) : KX w0 g tb q lt lc n1 cc c0 A0 ((((((((w.setCell ⟨tb, 0, none⟩ (.int .i64 x0)).setCell ⟨tb, 1, none⟩ (.int .i64 x1)).setCell ⟨tb, 2, none⟩ (.int .i64 x2)).setCell ⟨tb, 3, none⟩ (.int .i64 x3)).setCell ⟨tb, 4, none⟩ (.int .i64 x4)).setCell ⟨tb, 5, none⟩ (.int .i64 x5)).setCell ⟨tb, 6, none⟩ (.int .i64 x6)).setCell ⟨tb, 7, none⟩ (.int .i64 x7)) :=
  (((((((h.putT 0 x0).putT 1 x1).putT 2 x2).putT 3 x3).putT 4 x4).putT 5 x5).putT 6 x6).putT 7 x7
theorem far8 {w : World} {tb b : Nat} (h : tb ≠ b) (i : Nat) (x0 x1 x2 x3 x4 x5 x6 x7 : Value) : ((((((((w.setCell ⟨tb, 0, none⟩ x0).setCell ⟨tb, 1, none⟩ x1).setCell ⟨tb, 2, none⟩ x2).setCell ⟨tb, 3, none⟩ x3).setCell ⟨tb, 4, none⟩ x4).setCell ⟨tb, 5, none⟩ x5).setCell ⟨tb, 6, none⟩ x6).setCell ⟨tb, 7, none⟩ x7).cell? ⟨b, i, none⟩ = w.cell? ⟨b, i, none⟩ := by
  rw [World.cell?_setCell_far _ _ _ _ h, World.cell?_setCell_far _ _ _ _ h, World.cell?_setCell_far _ _ _ _ h, World.cell?_setCell_far _ _ _ _ h, World.cell?_setCell_far _ _ _ _ h, World.cell?_setCell_far _ _ _ _ h, World.cell?_setCell_far _ _ _ _ h, World.cell?_setCell_far _ _ _ _ h]
theorem KX.cfg (h : KX w0 g tb q lt lc n1 cc c0 A0 w) : ∃ c : Cfg, c.ps.length = 2 ∧ c.qs.length = 2 ∧ CfA w (some ⟨g, 0, none⟩) n1 (some ⟨q, 0, none⟩) 2 c := by
  obtain ⟨cg, g1, ⟨⟨a0, i0⟩, ⟨a1, i1⟩, ⟨a3, i3⟩, ⟨a4, i4⟩⟩, g2, g5⟩ := h.fg
  obtain ⟨ct, t1, t2⟩ := h.ft
  obtain ⟨cq, q1, q2⟩ := h.fq
  obtain ⟨tv, ht⟩ := tk_at t1 0 fun i hi => by rw [Nat.zero_add]; exact t2 i hi
  obtain ⟨p0, hp0⟩ := pt_at q1 0 fun i hi => by rw [Nat.zero_add]; exact q2 i (by omega)
  obtain ⟨p1, hp1⟩ := pt_at q1 6 fun i hi => q2 _ (by omega)
  refine ⟨⟨[⟨a0, a1, [tv]⟩, ⟨a3, a4, []⟩], [p0, p1]⟩, rfl, rfl, fun _ => ⟨g, 0, rfl, g1.lt, fun i p hi => ?_⟩, fun _ => ⟨q, 0, rfl, q1.lt, fun i p hi => ?_⟩, h.h1, Nat.le_refl _, (fun e => by cases e), (fun e => by cases e), Nat.le_of_ble_eq_true rfl, Nat.le_of_ble_eq_true rfl⟩
  · match i, hi with
    | 0, hi =>
      obtain rfl : (⟨a0, a1, [tv]⟩ : CP) = p := by simpa using hi
      refine ⟨(g1.cell 0).trans i0, (g1.cell 1).trans i1, _, (g1.cell 2).trans g2, ⟨⟨_, cc, rfl, h.hc, (fun e => by cases e), fun _ => ⟨tb, 0, rfl, t1.lt, fun i t hi => ?_⟩⟩, Nat.le_of_ble_eq_true rfl⟩⟩
      match i, hi with
      | 0, hi =>
        obtain rfl : tv = t := by simpa using hi
        exact ht
    | 1, hi =>
      obtain rfl : (⟨a3, a4, []⟩ : CP) = p := by simpa using hi
      exact ⟨(g1.cell 3).trans i3, (g1.cell 4).trans i4, _, (g1.cell 5).trans g5, ⟨⟨A0, c0, rfl, Nat.zero_le _, h.ha, TksAt.nil⟩, Nat.zero_le _⟩⟩
  · match i, hi with
    | 0, hi =>
      obtain rfl : p0 = p := by simpa using hi
      exact hp0
    | 1, hi =>
      obtain rfl : p1 = p := by simpa using hi
      exact hp1
end
theorem zcs_two (z0 z1 : CP × Value) : zcs [z0, z1] = [.int .i64 z0.1.per, .int .i64 z0.1.bud, z0.2, .int .i64 z1.1.per, .int .i64 z1.1.bud, z1.2] := rfl
/-- The row of two parts behind the append: where its cells lie. -/
theorem ownp_two {w : World} {B : Nat} {v : Value} {p0 p1 : CP} {t0 : TV} (h : OwnP w B v [p0, p1]) (h0 : p0.ts = [t0]) (h1 : p1.ts = []) :
    ∃ g tb n1 cc c0 A0 cs ct, v = .slice (some ⟨g, 0, none⟩) 2 n1 ∧ 2 ≤ n1 ∧ 1 ≤ cc ∧ (A0 = none → c0 = 0) ∧ B ≤ g ∧ B ≤ tb ∧ Blk w g 41 cs ∧ (IntC cs 0 ∧ IntC cs 1 ∧ IntC cs 3 ∧ IntC cs 4) ∧ cs[2]? = some (.slice (some ⟨tb, 0, none⟩) 1 cc) ∧ cs[5]? = some (.slice A0 0 c0) ∧ Blk w tb 46 ct ∧ ∀ i, i < 8 → IntC ct i := by
  obtain ⟨Z, e, h2, hz⟩ := h
  obtain ⟨z0, z1, rfl⟩ : ∃ z0 z1, Z = [z0, z1] := by
    match Z, e with
    | [z0, z1], _ => exact ⟨z0, z1, rfl⟩
  simp only [List.map_cons, List.map_nil, List.cons.injEq, and_true] at e
  obtain ⟨rfl, rfl⟩ := e
  obtain ⟨A, n1, rfl, hn, _, hnil, hf⟩ := own_form h2
  cases A with
  | none => exact absurd (hnil rfl).1 (by simp)
  | some a =>
    obtain ⟨g, cs, rfl, hBg, hb, hs, ht⟩ := hf a rfl
    obtain ⟨hu0, _⟩ := hz z0 (by simp)
    obtain ⟨hu1, _⟩ := hz z1 (by simp)
    rw [h0] at hu0
    rw [h1] at hu1
    obtain ⟨T, cc, e0, hcc, _, hTn, hTf⟩ := own_form hu0
    obtain ⟨T1, c0, e1, _, _, hT1n, _⟩ := own_form hu1
    cases T with
    | none => exact absurd (hTn rfl).1 (by simp)
    | some at0 =>
      obtain ⟨tb, ct, rfl, hBt, hbt, hst, htt⟩ := hTf at0 rfl
      have key : ∀ j u, (zcs [z0, z1])[j]? = some u → cs[j]? = some u := fun j u hj => take_at ht hj
      rw [zcs_two, e0, e1] at key
      refine ⟨g, tb, n1, cc, c0, T1, cs, ct, rfl, hn, hcc, fun e => (hT1n e).2, hBg, hBt, hb, ⟨⟨_, key 0 _ rfl⟩, ⟨_, key 1 _ rfl⟩, ⟨_, key 3 _ rfl⟩, ⟨_, key 4 _ rfl⟩⟩, key 2 _ rfl, key 5 _ rfl, hbt, fun i hi => ?_⟩
      have kt : ∀ j u, (tcs [t0])[j]? = some u → ct[j]? = some u := fun j u hj => take_at htt hj
      match i, hi with
      | 0, _ => exact ⟨_, kt 0 _ rfl⟩
      | 1, _ => exact ⟨_, kt 1 _ rfl⟩
      | 2, _ => exact ⟨_, kt 2 _ rfl⟩
      | 3, _ => exact ⟨_, kt 3 _ rfl⟩
      | 4, _ => exact ⟨_, kt 4 _ rfl⟩
      | 5, _ => exact ⟨_, kt 5 _ rfl⟩
      | 6, _ => exact ⟨_, kt 6 _ rfl⟩
      | 7, _ => exact ⟨_, kt 7 _ rfl⟩
def endsV : Array Value := #[.int .i64 (-1), .int .i64 0, .int .i64 1, .int .i64 2, .int .i64 4, .int .i64 5, .int .i64 8, .int .i64 15, .int .i64 16, .int .i64 17, .int .i64 20, .int .i64 21, .int .i64 30, .int .i64 31, .int .i64 60, .int .i64 61, .int .i64 64, .int .i64 65, .int .i64 255, .int .i64 256]
theorem ends_at (i : Nat) (hi : i < 20) : ∃ z : Int, endsV[i]? = some (.int .i64 z) := by
  match i, hi with
  | 0, _ => exact ⟨_, rfl⟩
  | 1, _ => exact ⟨_, rfl⟩
  | 2, _ => exact ⟨_, rfl⟩
  | 3, _ => exact ⟨_, rfl⟩
  | 4, _ => exact ⟨_, rfl⟩
  | 5, _ => exact ⟨_, rfl⟩
  | 6, _ => exact ⟨_, rfl⟩
  | 7, _ => exact ⟨_, rfl⟩
  | 8, _ => exact ⟨_, rfl⟩
  | 9, _ => exact ⟨_, rfl⟩
  | 10, _ => exact ⟨_, rfl⟩
  | 11, _ => exact ⟨_, rfl⟩
  | 12, _ => exact ⟨_, rfl⟩
  | 13, _ => exact ⟨_, rfl⟩
  | 14, _ => exact ⟨_, rfl⟩
  | 15, _ => exact ⟨_, rfl⟩
  | 16, _ => exact ⟨_, rfl⟩
  | 17, _ => exact ⟨_, rfl⟩
  | 18, _ => exact ⟨_, rfl⟩
  | 19, _ => exact ⟨_, rfl⟩
  | k + 20, h => exact absurd h (by omega)
/-- The chapter's configuration as a row of the call's own. -/
theorem chapter_o (b : Int) (w : World) : Calls Try.prog 22 #[.int .i64 b] w fun e w' => ∃ v1, e = .returned (.agg #[v1, .slice none 0 0]) ∧ OwnP w' w.heap.size v1 (chC b).ps ∧ Below w.heap.size w w' := by
  go_enter Try.func22, Try.ntmps22
  go_wp2
  have hb := ((Blk.new w 25 #[.slice (some ⟨w.heap.size + 1 + 1, 0, none⟩) 1 1, .slice none 0 0]).alloc (.cells #[.int .i64 20, .int .i64 12, .int .i64 b, .int .i64 0, .int .i64 0, .int .i64 0, .int .i64 0, .int .i64 0] 46)).alloc (.cells #[.int .i64 10, .int .i64 4, .slice (some ⟨w.heap.size + 1, 0, none⟩) 1 1] 41)
  have hc1 := (Blk.new (w.alloc (.cells #[.slice (some ⟨w.heap.size + 1 + 1, 0, none⟩) 1 1, .slice none 0 0] 25)) 46 #[.int .i64 20, .int .i64 12, .int .i64 b, .int .i64 0, .int .i64 0, .int .i64 0, .int .i64 0, .int .i64 0]).alloc (.cells #[.int .i64 10, .int .i64 4, .slice (some ⟨w.heap.size + 1, 0, none⟩) 1 1] 41)
  have hc2 := Blk.new ((w.alloc (.cells #[.slice (some ⟨w.heap.size + 1 + 1, 0, none⟩) 1 1, .slice none 0 0] 25)).alloc (.cells #[.int .i64 20, .int .i64 12, .int .i64 b, .int .i64 0, .int .i64 0, .int .i64 0, .int .i64 0, .int .i64 0] 46)) 41 #[.int .i64 10, .int .i64 4, .slice (some ⟨w.heap.size + 1, 0, none⟩) 1 1]
  have e1 : (w.alloc (.cells #[.slice (some ⟨w.heap.size + 1 + 1, 0, none⟩) 1 1, .slice none 0 0] 25)).heap.size = w.heap.size + 1 := by simp
  have e2 : ((w.alloc (.cells #[.slice (some ⟨w.heap.size + 1 + 1, 0, none⟩) 1 1, .slice none 0 0] 25)).alloc (.cells #[.int .i64 20, .int .i64 12, .int .i64 b, .int .i64 0, .int .i64 0, .int .i64 0, .int .i64 0, .int .i64 0] 46)).heap.size = w.heap.size + 1 + 1 := by simp
  rw [e1] at hc1
  rw [e2] at hc2
  have cc0 := hb.cell 0
  have cc1 := hb.cell 1
  refine bodyPost_ret (v := .agg #[.slice (some ⟨w.heap.size + 1 + 1, 0, none⟩) 1 1, .slice none 0 0]) (by simp [results, Try.results22, go_sem, cc0, cc1] <;> rfl) rfl ⟨_, rfl, ⟨[(⟨10, 4, [⟨20, 12, b, 0, 0, 0, 0, 0⟩]⟩, .slice (some ⟨w.heap.size + 1, 0, none⟩) 1 1)], rfl, ⟨rfl, .inr ⟨_, 1, _, rfl, by omega, hc2, Nat.le_refl _, by simp [maxLen], rfl, rfl⟩⟩, fun z hz => ?_⟩, (((Below.refl _ _).alloc (Nat.le_refl _) _).alloc (by simp) _).alloc (by simp; omega) _⟩
  obtain rfl := List.mem_singleton.1 hz
  exact ⟨⟨rfl, .inr ⟨_, 1, _, rfl, by omega, hc1, Nat.le_refl _, by simp [maxLen], rfl, rfl⟩⟩, Nat.le_of_ble_eq_true rfl⟩
/-- What stands behind the append of the second part. -/
structure KY (wr : World) (g tb lc m1 cc c0 : Nat) (A0 : Option Addr) (x : Value) (w9 : World) : Prop where
  fg : ∃ cs, Blk w9 g 41 cs ∧ (IntC cs 0 ∧ IntC cs 1 ∧ IntC cs 3 ∧ IntC cs 4) ∧ cs[2]? = some (.slice (some ⟨tb, 0, none⟩) 1 cc) ∧ cs[5]? = some (.slice A0 0 c0)
  ft : ∃ cs, Blk w9 tb 46 cs ∧ ∀ i, i < 8 → IntC cs i
  c : Blk w9 lc 25 #[x, .slice none 0 0]
  h1 : 2 ≤ m1
  hc : 1 ≤ cc
  ha : A0 = none → c0 = 0
  b : Below wr.heap.size wr w9
  hl : wr.heap.size ≤ lc
  lo : wr.heap.size ≤ g ∧ wr.heap.size ≤ tb
theorem own_nil9 {w : World} {B : Nat} : OwnT w B (.slice none 0 0) (CP.ts ⟨9, 9, []⟩) := OwnT.nil
theorem len_nil9 : (CP.ts ⟨9, 9, []⟩).length ≤ 2199023255552 := Nat.zero_le _
theorem ky_start {wr w1 w9 : World} {v v9 : Value} (hb1 : Below wr.heap.size wr w1) (hO : OwnP w9 wr.heap.size v9 ((chC 3).ps ++ [⟨9, 9, []⟩])) (hk : Keeps (fun i => wr.heap.size ≤ i ∧ v.ownBlock = some i) (w1.alloc (.cells #[v, .slice none 0 0] 25)) w9)
    (ht : ∀ q t' cs', Blk (w1.alloc (.cells #[v, .slice none 0 0] 25)) q t' cs' → t' ≠ 41 → Blk w9 q t' cs') : ∃ g tb m1 cc c0 A0, v9 = .slice (some ⟨g, 0, none⟩) 2 m1 ∧ KY wr g tb w1.heap.size m1 cc c0 A0 v w9 := by
  obtain ⟨g, tb, m1, cc, c0, A0, cs, ct, rfl, h1, hc, ha, hBg, hBt, hg, hgi, hg2, hg5, hbt, hti⟩ := ownp_two (p0 := ⟨10, 4, [⟨20, 12, 3, 0, 0, 0, 0, 0⟩]⟩) (p1 := ⟨9, 9, []⟩) (t0 := ⟨20, 12, 3, 0, 0, 0, 0, 0⟩) hO rfl rfl
  exact ⟨g, tb, m1, cc, c0, A0, rfl, ⟨cs, hg, hgi, hg2, hg5⟩, ⟨ct, hbt, hti⟩, ht _ _ _ (Blk.new _ _ _) (by decide), h1, hc, ha, Below.keeps (hb1.alloc hb1.size _) hk (Nat.le_trans hb1.size (by simp)) (fun i hi => hi.1), hb1.size, hBg, hBt⟩
section
variable {wr w9 : World} {g tb lc m1 cc c0 : Nat} {A0 : Option Addr} {x : Value}
theorem KY.cells (h : KY wr g tb lc m1 cc c0 A0 x w9) : w9.cell? ⟨lc, 0, none⟩ = some x ∧ w9.cell? ⟨lc, 1, none⟩ = some (.slice none 0 0) ∧ w9.frozen? ⟨lc, 0, none⟩ = false ∧ w9.frozen? ⟨lc, 1, none⟩ = false ∧ lc < w9.heap.size := ⟨(h.c.cell 0).trans rfl, (h.c.cell 1).trans rfl, h.c.frozen 0, h.c.frozen 1, h.c.lt⟩
theorem kx_start (h : KY wr g tb lc m1 cc c0 A0 x w9) :
    KX wr g tb w9.heap.size (w9.heap.size + 1) lc m1 cc c0 A0 ((((w9.setCell ⟨lc, 0, none⟩ (.slice (some ⟨g, 0, none⟩) 2 m1)).setCell ⟨lc, 1, none⟩ (.slice (some ⟨w9.heap.size, 0, none⟩) 2 2)).alloc (.cells #[.int .i64 1, .int .i64 0, .int .i64 1, .int .i64 5, .int .i64 0, .int .i64 5, .int .i64 2, .int .i64 1, .int .i64 0, .int .i64 5, .int .i64 2, .int .i64 0] 48)).alloc (.cells #[.int .i64 64, .int .i64 60, .int .i64 30, .int .i64 255, .int .i64 30, .int .i64 4, .int .i64 4, .int .i64 2] 46)) := by
  obtain ⟨cg, g1, g2⟩ := h.fg
  obtain ⟨ct, t1, t2⟩ := h.ft
  have hc := (h.c.set_ 0 (.slice (some ⟨g, 0, none⟩) 2 m1)).set_ 1 (.slice (some ⟨w9.heap.size, 0, none⟩) 2 2)
  have hg := (g1.far (p := ⟨lc, 0, none⟩) (g1.ne_ h.c (by decide)) (.slice (some ⟨g, 0, none⟩) 2 m1)).far (p := ⟨lc, 1, none⟩) (g1.ne_ h.c (by decide)) (.slice (some ⟨w9.heap.size, 0, none⟩) 2 2)
  have ht := (t1.far (p := ⟨lc, 0, none⟩) (t1.ne_ h.c (by decide)) (.slice (some ⟨g, 0, none⟩) 2 m1)).far (p := ⟨lc, 1, none⟩) (t1.ne_ h.c (by decide)) (.slice (some ⟨w9.heap.size, 0, none⟩) 2 2)
  have hb := (h.b.setCell (p := ⟨lc, 0, none⟩) h.hl (.slice (some ⟨g, 0, none⟩) 2 m1)).setCell (p := ⟨lc, 1, none⟩) h.hl (.slice (some ⟨w9.heap.size, 0, none⟩) 2 2)
  have hs : ((w9.setCell ⟨lc, 0, none⟩ (.slice (some ⟨g, 0, none⟩) 2 m1)).setCell ⟨lc, 1, none⟩ (.slice (some ⟨w9.heap.size, 0, none⟩) 2 2)).heap.size = w9.heap.size := by simp [World.setCell]
  have htl := t1.lt
  generalize (w9.setCell ⟨lc, 0, none⟩ (.slice (some ⟨g, 0, none⟩) 2 m1)).setCell ⟨lc, 1, none⟩ (.slice (some ⟨w9.heap.size, 0, none⟩) 2 2) = W at *
  have hp := (Blk.new W 48 #[.int .i64 1, .int .i64 0, .int .i64 1, .int .i64 5, .int .i64 0, .int .i64 5, .int .i64 2, .int .i64 1, .int .i64 0, .int .i64 5, .int .i64 2, .int .i64 0]).alloc (.cells #[.int .i64 64, .int .i64 60, .int .i64 30, .int .i64 255, .int .i64 30, .int .i64 4, .int .i64 4, .int .i64 2] 46)
  have hl := Blk.new (W.alloc (.cells #[.int .i64 1, .int .i64 0, .int .i64 1, .int .i64 5, .int .i64 0, .int .i64 5, .int .i64 2, .int .i64 1, .int .i64 0, .int .i64 5, .int .i64 2, .int .i64 0] 48)) 46 #[.int .i64 64, .int .i64 60, .int .i64 30, .int .i64 255, .int .i64 30, .int .i64 4, .int .i64 4, .int .i64 2]
  have hs2 : (W.alloc (.cells #[.int .i64 1, .int .i64 0, .int .i64 1, .int .i64 5, .int .i64 0, .int .i64 5, .int .i64 2, .int .i64 1, .int .i64 0, .int .i64 5, .int .i64 2, .int .i64 0] 48)).heap.size = w9.heap.size + 1 := by simp [hs]
  rw [hs] at hp
  rw [hs2] at hl
  refine ⟨⟨cg, (hg.alloc _).alloc _, g2⟩, ⟨ct, (ht.alloc _).alloc _, t2⟩, ⟨_, hp, fun i hi => ?_⟩, ⟨_, hl, fun i hi => ?_⟩, (hc.alloc _).alloc _, by omega, h.h1, h.hc, h.ha, (hb.alloc hb.size _).alloc (Nat.le_trans hb.size (by simp)) _, h.lo.1, h.lo.2, h.b.size, Nat.le_succ_of_le h.b.size⟩
  · match i, hi with
    | 0, _ => exact ⟨_, rfl⟩
    | 1, _ => exact ⟨_, rfl⟩
    | 2, _ => exact ⟨_, rfl⟩
    | 3, _ => exact ⟨_, rfl⟩
    | 4, _ => exact ⟨_, rfl⟩
    | 5, _ => exact ⟨_, rfl⟩
    | 6, _ => exact ⟨_, rfl⟩
    | 7, _ => exact ⟨_, rfl⟩
    | 8, _ => exact ⟨_, rfl⟩
    | 9, _ => exact ⟨_, rfl⟩
    | 10, _ => exact ⟨_, rfl⟩
    | 11, _ => exact ⟨_, rfl⟩
  · match i, hi with
    | 0, _ => exact ⟨_, rfl⟩
    | 1, _ => exact ⟨_, rfl⟩
    | 2, _ => exact ⟨_, rfl⟩
    | 3, _ => exact ⟨_, rfl⟩
    | 4, _ => exact ⟨_, rfl⟩
    | 5, _ => exact ⟨_, rfl⟩
    | 6, _ => exact ⟨_, rfl⟩
    | 7, _ => exact ⟨_, rfl⟩
end
end Go.Proofs.Ytekcokbpgpeepaa

/- ConfKnown: configurations with one port, one part, or four tasks too many. -/
namespace Go.Proofs.Ytekcokbpgpeepaa
set_option linter.unusedVariables false
open Go.RowKit

/-- Partitions of the call's own, with their tasks' values by name. -/
def OwnZ (w : World) (B : Nat) (v : Value) (Z : List (CP × Value)) : Prop := w.ownsRow B 41 3 v Z.length (zcs Z) ∧ ∀ z ∈ Z, OwnT w B z.2 z.1.ts ∧ z.1.ts.length ≤ 2199023255552
section
variable {w w' : World} {B : Nat} {v : Value} {Z : List (CP × Value)} {L : List CP}
theorem OwnP.z (h : OwnP w B v L) : ∃ Z : List (CP × Value), Z.map (·.1) = L ∧ OwnZ w B v Z := by
  obtain ⟨Z, h1, h2, h3⟩ := h
  exact ⟨Z, h1, h2, h3⟩
theorem OwnZ.p (h : OwnZ w B v Z) (e : Z.map (·.1) = L) : OwnP w B v L := ⟨Z, e, h.1, h.2⟩
theorem OwnZ.keep (h : OwnZ w B v Z) (k : ∀ q t cs, t = 41 ∨ t = 46 → Blk w q t cs → Blk w' q t cs) : OwnZ w' B v Z :=
  ⟨own_keep h.1 fun q cs => k q _ cs (.inl rfl), fun z hz => ⟨(h.2 z hz).1.keep fun q cs => k q _ cs (.inr rfl), (h.2 z hz).2⟩⟩
end
theorem step_old_z {ops : Array Oper} {o : Oper} {a : Act} {K : Act → World → Prop} {Q : Exit → Act → World → Prop} {E : Prop} {w : World} {B : Nat} {v u : Value} {Z : List (CP × Value)} {p : CP} (hgd : o.guard = none) (s x : Operand)
    (ho : o.op = .call { callee := .builtin .append, args := #[s, x], argTypes := #[22, 22] }) (hs : a.eval s = v) (hO : OwnZ w B v Z) (hB : B ≤ w.heap.size) (hu : OwnT w B u p.ts) (hu4 : p.ts.length ≤ 2199023255552) {cs : Array Value} (hcs : cs = #[.int .i64 p.per, .int .i64 p.bud, u]) (hx : a.eval x = .slice (some ⟨w.heap.size, 0, none⟩) 1 1) (hl : (Z.length + 1) * 40 ≤ 140737488355328)
    (h : ∀ v' w', OwnZ w' B v' (Z ++ [(p, u)]) → OwnZ w' B v Z → Keeps (fun i => B ≤ i ∧ v.ownBlock = some i) w w' → (∀ q t' cs', Blk w q t' cs' → t' ≠ 41 → Blk w' q t' cs') → K (a.put o.dst v') w') : if Region.wanted o (yielded ops a.tmps) = true then Oper.wp Try.prog o a (w.alloc (.cells cs 41)) K Q else E := by
  have hw : Region.wanted o (yielded ops a.tmps) = true := by simp [Region.wanted, hgd]
  rw [if_pos hw]
  subst hcs
  obtain ⟨h2, h3⟩ := hO
  have hl' : Z.length + 1 ≤ 17592186044416 := by omega
  obtain ⟨TA, tc, rfl, _⟩ := own_form hu
  refine wp_append_old s x ho Try.underlying22 part_info rfl (by omega) hs h2 hB rfl (fun u hu => ?_) hx hl hl' fun v' w' h1 h0 hk ht => ?_
  · simp only [List.mem_cons, List.not_mem_nil, or_false] at hu
    rcases hu with rfl | rfl | rfl <;> rfl
  · have hk' : ∀ q cs, Blk w q 46 cs → Blk w' q 46 cs := fun q cs hb => ht q _ cs hb (by decide)
    refine h v' w' ⟨?_, fun z hz => ?_⟩ ⟨h0, fun z hz => ⟨(h3 z hz).1.keep hk', (h3 z hz).2⟩⟩ hk ht
    · rw [List.length_append]
      simpa [zcs] using h1
    · rcases List.mem_append.1 hz with hz | hz
      · exact ⟨(h3 z hz).1.keep hk', (h3 z hz).2⟩
      · simp only [List.mem_cons, List.not_mem_nil, or_false] at hz
        subst hz
        exact ⟨OwnT.keep hu hk', hu4⟩
/-- Where a row that is not empty lies. -/
theorem own_some {w : World} {B n size : Nat} {e : TypeId} {v : Value} {xs : List Value} (h : w.ownsRow B e size v (n + 1) xs) : ∃ b c, v = .slice (some ⟨b, 0, none⟩) (n + 1) c ∧ B ≤ b ∧ n + 1 ≤ c := by
  obtain ⟨A, c, rfl, h1, _, h3, h4⟩ := own_form h
  cases A with
  | none => exact absurd (h3 rfl).1 (by omega)
  | some a =>
    obtain ⟨g, cur, rfl, hg, _⟩ := h4 a rfl
    exact ⟨g, c, rfl, hg, h1⟩
theorem own_cells {w : World} {B n m size b c : Nat} {e : TypeId} {xs : List Value} (h : w.ownsRow B e size (.slice (some ⟨b, 0, none⟩) m c) n xs) : b < w.heap.size ∧ ∃ cur, Blk w b e cur ∧ ∀ i u, xs[i]? = some u → w.cell? ⟨b, i, none⟩ = some u := by
  obtain ⟨A, c', e', _, _, _, h4⟩ := own_form h
  simp only [Value.slice.injEq] at e'
  obtain ⟨rfl, -, -⟩ := e'
  obtain ⟨g, cur, e2, _, hb, _, ht⟩ := h4 _ rfl
  simp only [Addr.mk.injEq, and_true] at e2
  subst e2
  exact ⟨hb.lt, cur, hb, fun i u hi => (hb.cell i).trans (take_at ht hi)⟩
theorem OwnQ.first {w : World} {B m b c : Nat} {q : PV} {L : List PV} (h : OwnQ w B (.slice (some ⟨b, 0, none⟩) m c) (q :: L)) : PtAt w b 0 q := by
  obtain ⟨_, _, _, h1⟩ := own_cells h
  exact ⟨h1 0 _ rfl, h1 1 _ rfl, h1 2 _ rfl, h1 3 _ rfl, h1 4 _ rfl, h1 5 _ rfl⟩
theorem OwnT.first {w : World} {B m b c : Nat} {t : TV} {L : List TV} (h : OwnT w B (.slice (some ⟨b, 0, none⟩) m c) (t :: L)) : TkAt w b 0 t := by
  obtain ⟨_, _, _, h1⟩ := own_cells h
  exact ⟨h1 0 _ rfl, h1 1 _ rfl, h1 2 _ rfl, h1 3 _ rfl, h1 4 _ rfl, h1 5 _ rfl, h1 6 _ rfl, h1 7 _ rfl⟩
theorem OwnZ.first {w : World} {B m b c : Nat} {p : CP} {u : Value} {Z : List (CP × Value)} (h : OwnZ w B (.slice (some ⟨b, 0, none⟩) m c) ((p, u) :: Z)) : w.cell? ⟨b, 0, none⟩ = some (.int .i64 p.per) ∧ w.cell? ⟨b, 1, none⟩ = some (.int .i64 p.bud) ∧ w.cell? ⟨b, 2, none⟩ = some u := by
  obtain ⟨_, _, _, h1⟩ := own_cells h.1
  exact ⟨h1 0 _ rfl, h1 1 _ rfl, h1 2 _ rfl⟩
/-- 'full', its parts by name. -/
structure KG (w : World) (c1 : Nat) (Z : List (CP × Value)) (v v2 : Value) (W : World) : Prop where
  c : Blk W c1 25 #[v, v2]
  z : OwnZ W c1 v Z
  q : OwnQ W c1 v2 (kQs 8)
  b : Below w.heap.size w W
  hw : w.heap.size ≤ c1
/-- 'many'. -/
structure KM (c1 lm : Nat) (v vq : Value) (W : World) : Prop where
  c : Blk W lm 25 #[v, vq]
  q : OwnQ W c1 vq (kQs 8 ++ [kQ 0])
/-- 'five'. -/
structure KV (c1 lf : Nat) (vp v2 : Value) (W : World) : Prop where
  c : Blk W lf 25 #[vp, v2]
  p : OwnP W c1 vp (List.replicate 4 kP ++ [kP])
section
variable {w W W' : World} {c1 lm lf : Nat} {Z : List (CP × Value)} {v v2 vq vp : Value}
theorem KF.kg (h : KF w c1 4 8 v v2 W) : ∃ u0 Z', Z'.length = 3 ∧ ((kP, u0) :: Z').map (·.1) = List.replicate 4 kP ∧ KG w c1 ((kP, u0) :: Z') v v2 W := by
  obtain ⟨Z, e, hz⟩ := h.p.z
  match Z, e with
  | z :: Z', e =>
    obtain ⟨h1, h2⟩ : z.1 = kP ∧ Z'.map (·.1) = List.replicate 3 kP := by simpa [List.replicate_succ] using e
    refine ⟨z.2, Z', by have := congrArg List.length h2; simpa using this, ?_, h.c, ?_, h.q, h.b, h.hw⟩
    · show kP :: Z'.map (·.1) = _
      rw [h2]; rfl
    · rw [← h1]; exact hz
theorem KG.low (h : KG w c1 Z v v2 W) (hb : Below W.heap.size W W') : KG w c1 Z v v2 W' :=
  ⟨h.c.below hb h.c.lt, h.z.keep fun q t cs _ hk => hk.below hb hk.lt, own_below h.q hb, below_lift h.b hb h.b.size, h.hw⟩
theorem KM.low (h : KM c1 lm v vq W) (hb : Below W.heap.size W W') : KM c1 lm v vq W' := ⟨h.c.below hb h.c.lt, own_below h.q hb⟩
theorem KV.low (h : KV c1 lf vp v2 W) (hb : Below W.heap.size W W') : KV c1 lf vp v2 W' := ⟨h.c.below hb h.c.lt, h.p.keep fun q t cs _ hk => hk.below hb hk.lt⟩
theorem KG.le (h : KG w c1 Z v v2 W) : c1 ≤ W.heap.size := Nat.le_of_lt h.c.lt
theorem KG.cells (h : KG w c1 Z v v2 W) : W.cell? ⟨c1, 0, none⟩ = some v ∧ W.cell? ⟨c1, 1, none⟩ = some v2 ∧ c1 < W.heap.size := ⟨(h.c.cell 0).trans rfl, (h.c.cell 1).trans rfl, h.c.lt⟩
theorem KG.oldQ (h : KG w c1 Z v v2 W) (h0 : OwnQ W' c1 v2 (kQs 8)) (hk : Keeps (fun i => c1 ≤ i ∧ v2.ownBlock = some i) W W') (ht : ∀ q t' cs', Blk W q t' cs' → t' ≠ 48 → Blk W' q t' cs') : KG w c1 Z v v2 W' :=
  ⟨ht _ _ _ h.c (by decide), h.z.keep fun q t cs hq hb => ht _ _ _ hb (by rcases hq with rfl | rfl <;> decide), h0, Below.keeps h.b hk h.b.size (fun i hi => by have := h.hw; omega), h.hw⟩
theorem KG.oldZ (h : KG w c1 Z v v2 W) (h0 : OwnZ W' c1 v Z) (hk : Keeps (fun i => c1 ≤ i ∧ v.ownBlock = some i) W W') (ht : ∀ q t' cs', Blk W q t' cs' → t' ≠ 41 → Blk W' q t' cs') : KG w c1 Z v v2 W' :=
  ⟨ht _ _ _ h.c (by decide), h0, h.q.keep fun q cs hb => ht _ _ _ hb (by decide), Below.keeps h.b hk h.b.size (fun i hi => by have := h.hw; omega), h.hw⟩
theorem KG.far (h : KG w c1 Z v v2 W) {cs : Array Value} (hm : Blk W lm 25 cs) (hl : c1 < lm) (i : Nat) (x : Value) : KG w c1 Z v v2 (W.setCell ⟨lm, i, none⟩ x) :=
  ⟨h.c.far (p := ⟨lm, i, none⟩) (show c1 ≠ lm by omega) _, h.z.keep fun q t cs hq hb => hb.far (p := ⟨lm, i, none⟩) (hb.ne_ hm (by rcases hq with rfl | rfl <;> decide)) _, h.q.keep fun q cs hb => hb.far (p := ⟨lm, i, none⟩) (hb.ne_ hm (by decide)) _, h.b.setCell (p := ⟨lm, i, none⟩) (by have := h.hw; show w.heap.size ≤ lm; omega) _, h.hw⟩
/-- Behind the append of the ninth port. -/
theorem km_push {vo : Value} (hc : Blk W' lm 25 #[v, vo]) (hq : OwnQ W' c1 vq (kQs 8 ++ [kQ 0])) : KM c1 lm v vq (W'.setCell ⟨lm, 1, none⟩ vq) :=
  ⟨hc.set_ 1 vq, hq.keep fun q cs hb => hb.far (p := ⟨lm, 1, none⟩) (hb.ne_ hc (by decide)) _⟩
theorem kv_push {vo : Value} (hc : Blk W' lf 25 #[vo, v2]) (hp : OwnP W' c1 vp (List.replicate 4 kP ++ [kP])) : KV c1 lf vp v2 (W'.setCell ⟨lf, 0, none⟩ vp) :=
  ⟨hc.set_ 0 vp, hp.keep fun q t cs hq hb => hb.far (p := ⟨lf, 0, none⟩) (hb.ne_ hc (by rcases hq with rfl | rfl <;> decide)) _⟩
theorem KM.past (h : KM c1 lm v vq W) (ht : ∀ q t' cs', Blk W q t' cs' → t' ≠ 41 → Blk W' q t' cs') : KM c1 lm v vq W' := ⟨ht _ _ _ h.c (by decide), h.q.keep fun q cs hb => ht _ _ _ hb (by decide)⟩
theorem KM.far (h : KM c1 lm v vq W) {cs : Array Value} (hm : Blk W lf 25 cs) (hl : lm < lf) (i : Nat) (x : Value) : KM c1 lm v vq (W.setCell ⟨lf, i, none⟩ x) :=
  ⟨h.c.far (p := ⟨lf, i, none⟩) (show lm ≠ lf by omega) _, h.q.keep fun q cs hb => hb.far (p := ⟨lf, i, none⟩) (hb.ne_ hm (by decide)) _⟩
end
theorem join_rest {A : Prop} (G : Prop) (main : G → A) (rest : G) : A := main rest
theorem kz_len {Z' : List (CP × Value)} (z : CP × Value) (h : Z'.length = 3) : (z :: Z').length = 4 := by simp [h]
theorem kz_big {Z' : List (CP × Value)} (z : CP × Value) (h : Z'.length = 3) : ((z :: Z').length + 1) * 40 ≤ 140737488355328 := by simp [h]
theorem kq_big : (kQs 8).length + 1 ≤ 1000000 := by rw [kQs_len]; omega
theorem kz_map {u0 : Value} {Z' : List (CP × Value)} (h : ((kP, u0) :: Z').map (·.1) = List.replicate 4 kP) : ((kP, u0) :: Z' ++ [(kP, u0)]).map (·.1) = List.replicate 4 kP ++ [kP] := by
  rw [List.map_append, h]; rfl
theorem kQs_8 : kQs 8 = ⟨2, 0, 1, 16, 4, 0⟩ :: (kQs 8).tail := by rfl
section
variable {w W : World} {c1 n1 n2 : Nat} {u0 : Value} {Z' : List (CP × Value)} {A1 A2 : Option Addr} {v v2 : Value}
theorem KG.heads (h : KG w c1 ((kP, u0) :: Z') (.slice A1 4 n1) (.slice A2 8 n2) W) : ∃ pb qb, A1 = some ⟨pb, 0, none⟩ ∧ A2 = some ⟨qb, 0, none⟩ := by
  obtain ⟨b, c, e, _⟩ := own_some (n := Z'.length) h.z.1
  obtain ⟨b2, c2, e2, _⟩ := own_some (n := (kQs 8).tail.length) h.q
  simp only [Value.slice.injEq] at e e2
  exact ⟨b, b2, e.1, e2.1⟩
theorem KG.hu (h : KG w c1 ((kP, u0) :: Z') v v2 W) : OwnT W c1 u0 kP.ts ∧ kP.ts.length ≤ 2199023255552 := h.z.2 _ (List.mem_cons_self ..)
theorem KG.usl (h : KG w c1 ((kP, u0) :: Z') v v2 W) : ∃ A n c, u0 = .slice A n c := h.hu.1.sl
theorem KG.six {qb m c : Nat} (h : KG w c1 ((kP, u0) :: Z') v (.slice (some ⟨qb, 0, none⟩) m c) W) : W.cell? ⟨c1, 1, none⟩ = some (.slice (some ⟨qb, 0, none⟩) m c) ∧ W.cell? ⟨qb, 0, none⟩ = some (.int .i64 2) ∧ W.cell? ⟨qb, 1, none⟩ = some (.int .i64 0) ∧ W.cell? ⟨qb, 2, none⟩ = some (.int .i64 1) ∧ W.cell? ⟨qb, 3, none⟩ = some (.int .i64 16) ∧ W.cell? ⟨qb, 4, none⟩ = some (.int .i64 4) ∧ W.cell? ⟨qb, 5, none⟩ = some (.int .i64 0) := by
  have hq := h.q
  rw [kQs_8] at hq
  exact ⟨h.cells.2.1, hq.first⟩
theorem KG.three {pb m c : Nat} (h : KG w c1 ((kP, u0) :: Z') (.slice (some ⟨pb, 0, none⟩) m c) v2 W) : W.cell? ⟨c1, 0, none⟩ = some (.slice (some ⟨pb, 0, none⟩) m c) ∧ W.cell? ⟨pb, 0, none⟩ = some (.int .i64 64) ∧ W.cell? ⟨pb, 1, none⟩ = some (.int .i64 20) ∧ W.cell? ⟨pb, 2, none⟩ = some u0 := ⟨h.cells.1, h.z.first⟩
end
theorem own9 {w : World} {B : Nat} {v : Value} (h : OwnQ w B v (kQs 8 ++ [kQ 0])) : ∃ A c, v = .slice A 9 c := by
  obtain ⟨A, c, rfl, _⟩ := h.form
  exact ⟨A, c, rfl⟩
theorem own5 {w : World} {B : Nat} {v : Value} {Z : List (CP × Value)} {z : CP × Value} (h : OwnZ w B v (Z ++ [z])) (hl : Z.length = 4) : ∃ A c, v = .slice A 5 c := by
  obtain ⟨A, c, rfl, _⟩ := own_form h.1
  exact ⟨A, c, by simp [hl]⟩
theorem cfa_own {W : World} {B B2 : Nat} {v v2 : Value} {L1 : List CP} {L2 : List PV} (hp : OwnP W B v L1) (hq : OwnQ W B2 v2 L2) (h1 : L1.length ≤ 100) (h2 : L2.length ≤ 100) : ∃ A n1 A2 n2, v = .slice A L1.length n1 ∧ v2 = .slice A2 L2.length n2 ∧ CfA W A n1 A2 n2 ⟨L1, L2⟩ := by
  obtain ⟨A, n1, rfl, a1, a2, a3⟩ := hp.form
  obtain ⟨A2, n2, rfl, b1, b2, b3⟩ := hq.form
  exact ⟨A, n1, A2, n2, rfl, rfl, a3, b3, a1, b1, a2, b2, by show L1.length ≤ _; omega, by show L2.length ≤ _; omega⟩
/-- 'tasks', so far. -/
def kU : TV := ⟨20, 12, 3, 0, 0, 0, 0, 0⟩
structure KW (w0 : World) (lt gp m j : Nat) (u : Value) (W : World) : Prop where
  c : Blk W lt 25 #[.slice (some ⟨gp, 0, none⟩) 1 m, .slice none 0 0]
  p : ∃ cs, Blk W gp 41 cs ∧ cs[0]? = some (.int .i64 10) ∧ cs[1]? = some (.int .i64 4) ∧ cs[2]? = some u
  u : OwnT W w0.heap.size u (List.replicate (j + 1) kU)
  b : Below w0.heap.size w0 W
  hp : w0.heap.size ≤ gp
  hm : 1 ≤ m
section
variable {w0 w1 W W' : World} {lt gp m j : Nat} {u : Value}
theorem kw_start {v1 : Value} (hO : OwnP w1 w0.heap.size v1 (chC 3).ps) (hb : Below w0.heap.size w0 w1) : ∃ gp m u, v1 = .slice (some ⟨gp, 0, none⟩) 1 m ∧ KW w0 w1.heap.size gp m 0 u (w1.alloc (.cells #[v1, .slice none 0 0] 25)) := by
  obtain ⟨Z, e, h2, hz⟩ := hO
  obtain ⟨z0, rfl⟩ : ∃ z0, Z = [z0] := List.length_eq_one_iff.1 (by have hl := congrArg List.length e; simpa [chC] using hl)
  have e0 : z0.1 = ⟨10, 4, [kU]⟩ := by simpa [chC, kU] using e
  obtain ⟨A, m, rfl, hm, _, hnil, hf⟩ := own_form h2
  cases A with
  | none => exact absurd (hnil rfl).1 (by simp)
  | some a =>
    obtain ⟨gp, cs, rfl, hg, hbk, hs, ht⟩ := hf a rfl
    obtain ⟨hu0, _⟩ := hz z0 (by simp)
    rw [e0] at hu0
    have key : ∀ j u, (zcs [z0])[j]? = some u → cs[j]? = some u := fun j u hj => take_at ht hj
    have ez : zcs [z0] = [.int .i64 10, .int .i64 4, z0.2] := by simp [zcs, e0]
    rw [ez] at key
    exact ⟨gp, m, z0.2, rfl, Blk.new _ _ _, ⟨cs, hbk.alloc _, key 0 _ rfl, key 1 _ rfl, key 2 _ rfl⟩, OwnT.keep hu0 fun q cs hk => hk.alloc _, hb.alloc hb.size _, hg, hm⟩
theorem KW.low (h : KW w0 lt gp m j u W) (hb : Below W.heap.size W W') : KW w0 lt gp m j u W' := by
  obtain ⟨cs, p1, p2⟩ := h.p
  exact ⟨h.c.below hb h.c.lt, ⟨cs, p1.below hb p1.lt, p2⟩, own_below h.u hb, below_lift h.b hb h.b.size, h.hp, h.hm⟩
theorem KW.cells (h : KW w0 lt gp m j u W) : W.cell? ⟨lt, 0, none⟩ = some (.slice (some ⟨gp, 0, none⟩) 1 m) ∧ W.cell? ⟨gp, 2, none⟩ = some u ∧ W.frozen? ⟨gp, 2, none⟩ = false ∧ lt < W.heap.size ∧ gp < W.heap.size ∧ lt ≠ gp := by
  obtain ⟨cs, p1, _, _, p2⟩ := h.p
  exact ⟨(h.c.cell 0).trans rfl, (p1.cell 2).trans p2, p1.frozen 2, h.c.lt, p1.lt, h.c.ne_ p1 (by decide)⟩
theorem KW.at (h : KW w0 lt gp m j u W) : ∃ b c, u = .slice (some ⟨b, 0, none⟩) (j + 1) c := by
  have hl : (List.replicate (j + 1) kU).length = j + 1 := by simp
  obtain ⟨b, c, rfl, _⟩ := own_some (n := j) (hl ▸ (show W.ownsRow w0.heap.size 46 8 u (List.replicate (j + 1) kU).length _ from h.u))
  exact ⟨b, c, rfl⟩
theorem KW.first {b n c : Nat} (h : KW w0 lt gp m j (.slice (some ⟨b, 0, none⟩) n c) W) : TkAt W b 0 kU := by
  have := h.u
  rw [List.replicate_succ] at this
  exact this.first
/-- Behind the append of a task: the old row still; and the new one laid in its place. -/
theorem KW.old (h : KW w0 lt gp m j u W) (h0 : OwnT W' w0.heap.size u (List.replicate (j + 1) kU)) (hk : Keeps (fun i => w0.heap.size ≤ i ∧ u.ownBlock = some i) W W') (ht : ∀ q t' cs', Blk W q t' cs' → t' ≠ 46 → Blk W' q t' cs') : KW w0 lt gp m j u W' := by
  obtain ⟨cs, p1, p2⟩ := h.p
  exact ⟨ht _ _ _ h.c (by decide), ⟨cs, ht _ _ _ p1 (by decide), p2⟩, h0, Below.keeps h.b hk h.b.size (fun i hi => hi.1), h.hp, h.hm⟩
theorem KW.push {v9 : Value} (h : KW w0 lt gp m j u W) (hO : OwnT W w0.heap.size v9 (List.replicate (j + 1) kU ++ [kU])) : KW w0 lt gp m (j + 1) v9 (W.setCell ⟨gp, 2, none⟩ v9) := by
  obtain ⟨cs, p1, p2, p3, p4⟩ := h.p
  have hlt : 2 < cs.size := by
    rcases Nat.lt_or_ge 2 cs.size with hlt | hge
    · exact hlt
    · rw [Array.getElem?_eq_none hge] at p4; cases p4
  refine ⟨h.c.far (p := ⟨gp, 2, none⟩) (h.c.ne_ p1 (by decide)) _, ⟨_, p1.set_ 2 v9, ?_, ?_, ?_⟩, ?_, h.b.setCell (p := ⟨gp, 2, none⟩) h.hp _, h.hp, h.hm⟩
  · rw [Array.getElem?_setIfInBounds_ne (by omega)]; exact p2
  · rw [Array.getElem?_setIfInBounds_ne (by omega)]; exact p3
  · rw [Array.getElem?_setIfInBounds, if_pos rfl, if_pos hlt]
  · rw [rep_succ (j + 1)]
    exact hO.keep fun q cs hb => hb.far (p := ⟨gp, 2, none⟩) (hb.ne_ p1 (by decide)) _
/-- The old row's first task stands behind the store. -/
theorem KW.past {b n c : Nat} {v9 : Value} (h : KW w0 lt gp m j (.slice (some ⟨b, 0, none⟩) n c) W) : TkAt (W.setCell ⟨gp, 2, none⟩ v9) b 0 kU := by
  obtain ⟨cs, p1, _⟩ := h.p
  have hu := h.u.keep (w' := W.setCell ⟨gp, 2, none⟩ v9) fun q cs hb => hb.far (p := ⟨gp, 2, none⟩) (hb.ne_ p1 (by decide)) _
  rw [List.replicate_succ] at hu
  exact hu.first
theorem KW.cfg (h : KW w0 lt gp m 4 u W) : CfA W (some ⟨gp, 0, none⟩) m none 0 ⟨[⟨10, 4, List.replicate 5 kU⟩], []⟩ := by
  obtain ⟨cs, p1, p2, p3, p4⟩ := h.p
  refine ⟨fun _ => ⟨gp, 0, rfl, p1.lt, fun i p hi => ?_⟩, PtsAt.nil, h.hm, Nat.le_refl _, (fun e => by cases e), fun _ => rfl, Nat.le_of_ble_eq_true rfl, Nat.le_of_ble_eq_true rfl⟩
  match i, hi with
  | 0, hi =>
    obtain rfl : (⟨10, 4, List.replicate 5 kU⟩ : CP) = p := by simpa using hi
    exact ⟨(p1.cell 0).trans p2, (p1.cell 1).trans p3, _, (p1.cell 2).trans p4, OwnT.tks h.u (Nat.le_of_ble_eq_true rfl)⟩
end
theorem chk_many : checkE ⟨List.replicate 4 kP, kQs 8 ++ [kQ 0]⟩ = 50 := by kernel_rfl
theorem chk_five : checkE ⟨List.replicate 4 kP ++ [kP], kQs 8⟩ = 50 := by kernel_rfl
theorem chk_tasks : checkE ⟨[⟨10, 4, List.replicate 5 kU⟩], []⟩ = 50 := by kernel_rfl
end Go.Proofs.Ytekcokbpgpeepaa

/- ConfKnown: the odd rows of bytes; the three configurations that may not be, at the end. -/
namespace Go.Proofs.Ytekcokbpgpeepaa
set_option linter.unusedVariables false
open Go.RowKit

/-- Rows of bytes, laid one behind the other. -/
def lays (W : World) : List (List UInt8) → World
  | [] => W
  | L :: Ls => lays (W.alloc (.cells (bcs L).toArray 5)) Ls
theorem lays_below : ∀ (Ls : List (List UInt8)) (W : World), Below W.heap.size W (lays W Ls)
  | [], W => Below.refl _ _
  | L :: Ls, W => by
    have h0 : Below W.heap.size W (W.alloc (.cells (bcs L).toArray 5)) := (Below.refl _ _).alloc (Nat.le_refl _) _
    exact below_lift h0 (lays_below Ls _) h0.size
theorem lays_size : ∀ (Ls : List (List UInt8)) (W : World), (lays W Ls).heap.size = W.heap.size + Ls.length
  | [], W => rfl
  | L :: Ls, W => by
    show (lays (W.alloc _) Ls).heap.size = _
    rw [lays_size Ls, alloc_size1, List.length_cons]; omega
theorem lays_at : ∀ (Ls : List (List UInt8)) (W : World) (i : Nat) (L : List UInt8), Ls[i]? = some L → BytesR (lays W Ls) (some ⟨W.heap.size + i, 0, none⟩) L
  | [], W, i, L, h => by simp at h
  | M :: Ls, W, 0, L, h => by
    obtain rfl : M = L := by simpa using h
    exact (bytesR_new (w := W) (cs := (bcs M).toArray) (t := 5) rfl).below (lays_below Ls _)
  | M :: Ls, W, i + 1, L, h => by
    have := lays_at Ls (W.alloc (.cells (bcs M).toArray 5)) i L (by simpa using h)
    rw [alloc_size1, show W.heap.size + 1 + i = W.heap.size + (i + 1) by omega] at this
    exact this
def oddL : List (List UInt8) := [[0], [0, 0], [1], [1, 10, 4, 5], [1, 10, 4, 0, 9], [1, 10, 4, 0, 0], [1, 0, 4, 0, 0], [255], [255, 0, 0, 0, 0, 0, 0, 0, 0], [1, 255, 0, 0, 0, 0, 0, 0, 0, 1, 4, 0, 0]]
/-- A slice that reads as bytes. -/
def RowV (W : World) (v : Value) : Prop := ∃ A n c L, v = .slice A n c ∧ (n = L.length ∧ BytesR W A L) ∧ (A = none → c = 0) ∧ n ≤ c ∧ n ≤ 140737488355328 ∧ c ≤ 9223372036854775807
theorem RowV.below {W W' : World} {v : Value} (h : RowV W v) (k : Below W.heap.size W W') : RowV W' v := by
  obtain ⟨A, n, c, L, h1, ⟨h2, h3⟩, h4⟩ := h
  exact ⟨A, n, c, L, h1, ⟨h2, h3.below k⟩, h4⟩
structure OddR (bo : Nat) (cs : Array Value) (W : World) : Prop where
  b : Blk W bo 27 cs
  r : ∀ i, i < 11 → ∃ v, cs[i]? = some v ∧ RowV W v
theorem OddR.below {bo : Nat} {cs : Array Value} {W W' : World} (h : OddR bo cs W) (k : Below W.heap.size W W') : OddR bo cs W' :=
  ⟨h.b.below k h.b.lt, fun i hi => by obtain ⟨v, h1, h2⟩ := h.r i hi; exact ⟨v, h1, h2.below k⟩⟩
def oddV (n : Nat) : Array Value := #[.slice none 0 0, .slice (some ⟨n, 0, none⟩) 1 1, .slice (some ⟨n + 1, 0, none⟩) 2 2, .slice (some ⟨n + 2, 0, none⟩) 1 1, .slice (some ⟨n + 3, 0, none⟩) 4 4, .slice (some ⟨n + 4, 0, none⟩) 5 5, .slice (some ⟨n + 5, 0, none⟩) 5 5, .slice (some ⟨n + 6, 0, none⟩) 5 5, .slice (some ⟨n + 7, 0, none⟩) 1 1, .slice (some ⟨n + 8, 0, none⟩) 9 9, .slice (some ⟨n + 9, 0, none⟩) 13 13]
theorem odd_start (W : World) : OddR (W.heap.size + 10) (oddV W.heap.size) ((lays W oddL).alloc (.cells (oddV W.heap.size) 27)) ∧ Below W.heap.size W ((lays W oddL).alloc (.cells (oddV W.heap.size) 27)) := by
  have hb := lays_below oddL W
  have hs := lays_size oddL W
  have hk : Below (lays W oddL).heap.size (lays W oddL) ((lays W oddL).alloc (.cells (oddV W.heap.size) 27)) := (Below.refl _ _).alloc (Nat.le_refl _) _
  refine ⟨⟨?_, fun i hi => ?_⟩, below_lift hb hk hb.size⟩
  · have := Blk.new (lays W oddL) 27 (oddV W.heap.size)
    rw [hs] at this
    exact this
  · match i, hi with
    | 0, _ => exact ⟨_, rfl, none, 0, 0, [], rfl, ⟨rfl, fun e => absurd rfl e⟩, fun _ => rfl, Nat.le_refl _, by omega, by omega⟩
    | 1, _ => exact ⟨_, rfl, _, 1, 1, _, rfl, ⟨rfl, (lays_at oddL W 0 [0] rfl).below hk⟩, (fun e => by cases e), Nat.le_refl _, by omega, by omega⟩
    | 2, _ => exact ⟨_, rfl, _, 2, 2, _, rfl, ⟨rfl, (lays_at oddL W 1 [0, 0] rfl).below hk⟩, (fun e => by cases e), Nat.le_refl _, by omega, by omega⟩
    | 3, _ => exact ⟨_, rfl, _, 1, 1, _, rfl, ⟨rfl, (lays_at oddL W 2 [1] rfl).below hk⟩, (fun e => by cases e), Nat.le_refl _, by omega, by omega⟩
    | 4, _ => exact ⟨_, rfl, _, 4, 4, _, rfl, ⟨rfl, (lays_at oddL W 3 [1, 10, 4, 5] rfl).below hk⟩, (fun e => by cases e), Nat.le_refl _, by omega, by omega⟩
    | 5, _ => exact ⟨_, rfl, _, 5, 5, _, rfl, ⟨rfl, (lays_at oddL W 4 [1, 10, 4, 0, 9] rfl).below hk⟩, (fun e => by cases e), Nat.le_refl _, by omega, by omega⟩
    | 6, _ => exact ⟨_, rfl, _, 5, 5, _, rfl, ⟨rfl, (lays_at oddL W 5 [1, 10, 4, 0, 0] rfl).below hk⟩, (fun e => by cases e), Nat.le_refl _, by omega, by omega⟩
    | 7, _ => exact ⟨_, rfl, _, 5, 5, _, rfl, ⟨rfl, (lays_at oddL W 6 [1, 0, 4, 0, 0] rfl).below hk⟩, (fun e => by cases e), Nat.le_refl _, by omega, by omega⟩
    | 8, _ => exact ⟨_, rfl, _, 1, 1, _, rfl, ⟨rfl, (lays_at oddL W 7 [255] rfl).below hk⟩, (fun e => by cases e), Nat.le_refl _, by omega, by omega⟩
    | 9, _ => exact ⟨_, rfl, _, 9, 9, _, rfl, ⟨rfl, (lays_at oddL W 8 [255, 0, 0, 0, 0, 0, 0, 0, 0] rfl).below hk⟩, (fun e => by cases e), Nat.le_refl _, by omega, by omega⟩
    | 10, _ => exact ⟨_, rfl, _, 13, 13, _, rfl, ⟨rfl, (lays_at oddL W 9 [1, 255, 0, 0, 0, 0, 0, 0, 0, 1, 4, 0, 0] rfl).below hk⟩, (fun e => by cases e), Nat.le_refl _, by omega, by omega⟩
/-- The three configurations that may not be. -/
structure K3 (lm lf lt pb qb gp n1 n2 n9 n5 tm : Nat) (A9 A5 : Option Addr) (W : World) : Prop where
  m : Blk W lm 25 #[.slice (some ⟨pb, 0, none⟩) 4 n1, .slice A9 9 n9]
  f : Blk W lf 25 #[.slice A5 5 n5, .slice (some ⟨qb, 0, none⟩) 8 n2]
  t : Blk W lt 25 #[.slice (some ⟨gp, 0, none⟩) 1 tm, .slice none 0 0]
  mc : CfA W (some ⟨pb, 0, none⟩) n1 A9 n9 ⟨List.replicate 4 kP, kQs 8 ++ [kQ 0]⟩
  fc : CfA W A5 n5 (some ⟨qb, 0, none⟩) n2 ⟨List.replicate 4 kP ++ [kP], kQs 8⟩
  tc : CfA W (some ⟨gp, 0, none⟩) tm none 0 ⟨[⟨10, 4, List.replicate 5 kU⟩], []⟩
section
variable {lm lf lt pb qb gp n1 n2 n9 n5 tm : Nat} {A9 A5 : Option Addr} {W W' : World}
theorem K3.low (h : K3 lm lf lt pb qb gp n1 n2 n9 n5 tm A9 A5 W) (k : Below W.heap.size W W') : K3 lm lf lt pb qb gp n1 n2 n9 n5 tm A9 A5 W' :=
  ⟨h.m.below k h.m.lt, h.f.below k h.f.lt, h.t.below k h.t.lt, h.mc.below k, h.fc.below k, h.tc.below k⟩
theorem K3.cells (h : K3 lm lf lt pb qb gp n1 n2 n9 n5 tm A9 A5 W) : W.cell? ⟨lm, 0, none⟩ = some (.slice (some ⟨pb, 0, none⟩) 4 n1) ∧ W.cell? ⟨lm, 1, none⟩ = some (.slice A9 9 n9) ∧ W.cell? ⟨lf, 0, none⟩ = some (.slice A5 5 n5) ∧ W.cell? ⟨lf, 1, none⟩ = some (.slice (some ⟨qb, 0, none⟩) 8 n2) ∧ W.cell? ⟨lt, 0, none⟩ = some (.slice (some ⟨gp, 0, none⟩) 1 tm) ∧ W.cell? ⟨lt, 1, none⟩ = some (.slice none 0 0) :=
  ⟨(h.m.cell 0).trans rfl, (h.m.cell 1).trans rfl, (h.f.cell 0).trans rfl, (h.f.cell 1).trans rfl, (h.t.cell 0).trans rfl, (h.t.cell 1).trans rfl⟩
theorem k3_start {w wf : World} {c1 : Nat} {Z : List (CP × Value)} {u : Value} (hG : KG w c1 Z (.slice (some ⟨pb, 0, none⟩) 4 n1) (.slice (some ⟨qb, 0, none⟩) 8 n2) wf) (hZ : Z.map (·.1) = List.replicate 4 kP) (hM : KM c1 lm (.slice (some ⟨pb, 0, none⟩) 4 n1) (.slice A9 9 n9) wf) (hV : KV c1 lf (.slice A5 5 n5) (.slice (some ⟨qb, 0, none⟩) 8 n2) wf) (hW : KW wf lt gp tm 4 u W) :
    K3 lm lf lt pb qb gp n1 n2 n9 n5 tm A9 A5 W := by
  have k := hW.b
  have l4 : (List.replicate 4 kP).length = 4 := by simp
  have l8 := kQs_len 8
  obtain ⟨a, b, c, d, e1, e2, hmc⟩ := cfa_own (hG.z.p hZ) hM.q (by omega) (by rw [List.length_append, l8]; decide)
  obtain ⟨a', b', c', d', e1', e2', hfc⟩ := cfa_own hV.p hG.q (by rw [List.length_append, l4]; decide) (by omega)
  simp only [Value.slice.injEq] at e1 e2 e1' e2'
  obtain ⟨rfl, -, rfl⟩ := e1
  obtain ⟨rfl, -, rfl⟩ := e2
  obtain ⟨rfl, -, rfl⟩ := e1'
  obtain ⟨rfl, -, rfl⟩ := e2'
  exact ⟨hM.c.below k hM.c.lt, hV.c.below k hV.c.lt, hW.c, hmc.below k, hfc.below k, hW.cfg⟩
end
theorem bytes_low {W W' : World} {A : Option Addr} {n : Nat} {L : List UInt8} (h : n = L.length ∧ BytesR W A L) (k : Below W.heap.size W W') : n = L.length ∧ BytesR W' A L := ⟨h.1, h.2.below k⟩
theorem len_many : (⟨List.replicate 4 kP, kQs 8 ++ [kQ 0]⟩ : Cfg).ps.length = 4 ∧ (⟨List.replicate 4 kP, kQs 8 ++ [kQ 0]⟩ : Cfg).qs.length = 9 := ⟨rfl, rfl⟩
theorem len_five : (⟨List.replicate 4 kP ++ [kP], kQs 8⟩ : Cfg).ps.length = 5 ∧ (⟨List.replicate 4 kP ++ [kP], kQs 8⟩ : Cfg).qs.length = 8 := ⟨rfl, rfl⟩
theorem len_tasks : (⟨[⟨10, 4, List.replicate 5 kU⟩], []⟩ : Cfg).ps.length = 1 ∧ (⟨[⟨10, 4, List.replicate 5 kU⟩], []⟩ : Cfg).qs.length = 0 := ⟨rfl, rfl⟩
end Go.Proofs.Ytekcokbpgpeepaa

/- ConfKnown, walked. -/
namespace Go.Proofs.Ytekcokbpgpeepaa
set_option linter.unusedVariables false
open Go.RowKit

set_option maxRecDepth 40000 in
set_option maxHeartbeats 8000000 in
theorem cknown_c (w : World) : Calls Try.prog 8 #[] w fun e w' => e = .returned (.bool true) ∧ Below w.heap.size w w' := by
  have HS0 := Lib.hid (kf_start w)
  go_enter Try.func8, Try.ntmps8
  go_wp2_with fail
  go_loopw [2] (fun y wr => ∃ (k : Nat) (v : Value), k ≤ 4 ∧ y = .int .i64 k ∧ KF w w.heap.size k 0 v (.slice none 0 0) wr) (fun y _ => 4 - (intOf y).toNat)
  case atStart => exact ⟨0, _, by omega, rfl, HS0.out⟩
  case round =>
    clear HS0
    obtain ⟨wb, rfl⟩ : ∃ x : World, x = wr := ⟨_, rfl⟩
    obtain ⟨k, v, hk, rfl, hI⟩ := hrel
    by_cases hlt : k < 4
    · have hk1 : (k : Int) < 4 := by omega
      have HI := Lib.hid hI
      have HT0 := Lib.hid (kt_start wb)
      clear hI
      go_wp2_with fail
      go_loopw [4] (fun y wx => ∃ (j : Nat) (u : Value), j ≤ 4 ∧ y = .int .i64 j ∧ KT wb j u wx) (fun y _ => 4 - (intOf y).toNat)
      case atStart => exact ⟨0, _, by omega, rfl, HT0.out⟩
      case round =>
        clear HT0
        obtain ⟨j, u, hj, rfl, hT⟩ := hrel
        have p0 : wr.cell? ⟨wb.heap.size, 0, none⟩ = some (.int .i64 64) := (hT.p.cell 0).trans rfl
        have p1 : wr.cell? ⟨wb.heap.size, 1, none⟩ = some (.int .i64 20) := (hT.p.cell 1).trans rfl
        have p2 : wr.cell? ⟨wb.heap.size, 2, none⟩ = some u := (hT.p.cell 2).trans rfl
        have hpl : wb.heap.size < wr.heap.size := hT.p.lt
        have HT := Lib.hid hT
        clear hT
        by_cases hltj : j < 4
        · have hj1 : (j : Int) < 4 := by omega
          have HL : Hid ((List.replicate j kT).length + 1 ≤ 1000000) := by show _ ≤ _; rw [List.length_replicate]; omega
          go_wp2_with (at_builtin; refine wpList_append_task (B := wb.heap.size) (L := List.replicate j kT) (t := kT) rfl (.tmp 29) (.tmp 31) rfl rfl HT.out.u HT.out.b.size rfl rfl HL.out ?_; intro v9 w9 hO9 hk9 ht9; obtain ⟨A9, n9, c9, rfl⟩ := hO9.sl; have hp9 := ht9 _ _ _ HT.out.p (by decide); have p29 : w9.cell? ⟨wb.heap.size, 2, none⟩ = some u := (hp9.cell 2).trans rfl; have f29 := hp9.frozen 2; have HT9 := Lib.hid (HT.out.push hO9 hk9 ht9); clear hO9 hk9 ht9 hp9)
          go_roundw
          case rel => exact ⟨j + 1, _, by omega, rfl, HT9.out⟩
          case measure => simp [intOf]; omega
        · obtain rfl : 4 = j := by omega
          have hj1 : ¬ ((4 : Nat) : Int) < 4 := by omega
          have hI4 := HI.out.low HT.out.b
          obtain ⟨c0, c1, hcl⟩ := hI4.cells
          have HI4 := Lib.hid hI4
          have HU : Hid (OwnT wr w.heap.size u kP.ts) := OwnT.mono HT.out.u HI.out.le
          have HL : Hid (((List.replicate k kP).length + 1) * 40 ≤ 140737488355328) := by show _ ≤ _; rw [List.length_replicate]; omega
          clear hI4
          go_wp2_with (at_builtin; refine wpList_append_part (B := w.heap.size) (L := List.replicate k kP) (p := kP) rfl (.tmp 35) (.tmp 37) rfl rfl HI4.out.p HI4.out.le HU.out (by decide) rfl rfl HL.out ?_; intro v9 w9 hO9 hk9 ht9; obtain ⟨A9, n9, c9, rfl⟩ := hO9.sl; have hc9 := ht9 _ _ _ HI4.out.c (by decide); have c09 : w9.cell? ⟨w.heap.size, 0, none⟩ = some v := (hc9.cell 0).trans rfl; have f09 := hc9.frozen 0; have HI9 := Lib.hid (HI4.out.pushP hO9 hk9 ht9); clear hO9 hk9 ht9 hc9)
          go_roundw
          case rel => exact ⟨k + 1, _, by omega, rfl, HI9.out⟩
          case measure => simp [intOf]; omega
    · obtain rfl : 4 = k := by omega
      have hk1 : ¬ ((4 : Nat) : Int) < 4 := by omega
      have HI := Lib.hid hI
      clear hI
      go_wp2_with fail
      go_loopw [5] (fun y wr => ∃ (m : Nat) (v2 : Value), m ≤ 8 ∧ y = .int .i64 m ∧ KF w w.heap.size 4 m v v2 wr) (fun y _ => 8 - (intOf y).toNat)
      case atStart => exact ⟨0, _, by omega, rfl, HI.out⟩
      case round =>
        clear HI
        obtain ⟨m, v2, hm, rfl, hI⟩ := hrel
        obtain ⟨c0, c1, hcl⟩ := hI.cells
        have HI := Lib.hid hI
        clear hI
        by_cases hlt : m < 8
        · have hm1 : (m : Int) < 8 := by omega
          have HL : Hid ((kQs m).length + 1 ≤ 1000000) := by show _ ≤ _; rw [kQs_len]; omega
          go_wp2_with (at_builtin; (refine wpList_append_port (B := w.heap.size) (L := kQs m) (t := kQ m) rfl (.tmp 45) (.tmp 52) rfl rfl HI.out.q HI.out.le rfl rfl HL.out ?_; intro v9 w9 hO9 hk9 ht9; obtain ⟨A9, n9, c9, rfl⟩ := hO9.sl; have hc9 := ht9 _ _ _ HI.out.c (by decide); have c19 : w9.cell? ⟨w.heap.size, 1, none⟩ = some v2 := (hc9.cell 1).trans rfl; have f19 := hc9.frozen 1; have HI9 := Lib.hid (HI.out.pushQ hO9 hk9 ht9); clear hO9 hk9 ht9 hc9))
          go_roundw
          case rel => exact ⟨m + 1, _, by omega, rfl, HI9.out⟩
          case measure => simp [intOf]; omega
        · obtain rfl : 8 = m := by omega
          have hm1 : ¬ ((8 : Nat) : Int) < 8 := by omega
          obtain ⟨A1, n1, A2, n2, rfl, rfl, hC⟩ := HI.out.cfg
          obtain ⟨HI0, -⟩ : Hid (KF w w.heap.size 4 8 (.slice A1 4 n1) (.slice A2 8 n2) wr) ∧ True := ⟨HI, trivial⟩
          have HC0 := Lib.hid hC
          have E1 : Hid (kC.ps.length = 4) := Lib.hid rfl
          have E2 : Hid (kC.qs.length = 8) := Lib.hid (kQs_len 8)
          have HZ0 : Hid (checkE kC = 0) := Lib.hid (by unfold checkE; rw [kC_ok]; rfl)
          clear hC HI c0 c1 hcl
          obtain ⟨c00, c01, cl0⟩ := HI0.out.cells
          go_wp2_with (first
            | (go_at_call 3; with_reducible refine (cbytes_n A1 A2 n1 n2 4 8 kC _ HC2.out E1.out E2.out).mono ?_; rintro e w3 ⟨rfl, hb3⟩; have HI3 := Lib.hid (HI2.out.low hb3); have HC3 := Lib.hid (HC2.out.below hb3); clear c20 c21 cl2; obtain ⟨c30, c31, cl3⟩ := HI3.out.cells; clear HI2 HC2 hb3)
            | (go_at_call 5; with_reducible refine (back_n A1 A2 n1 n2 4 8 kC _ HC1.out E1.out E2.out).mono ?_; rintro e w2 ⟨rfl, hb2⟩; have HI2 := Lib.hid (HI1.out.low hb2); have HC2 := Lib.hid (HC1.out.below hb2); clear c10 c11 cl1; obtain ⟨c20, c21, cl2⟩ := HI2.out.cells; clear HI1 HC1 hb2)
            | (go_at_call 12; with_reducible refine (check_n A1 A2 n1 n2 4 8 kC _ HC0.out E1.out E2.out HZ0.out).mono ?_; rintro e w1 ⟨rfl, hb1⟩; have HI1 := Lib.hid (HI0.out.low hb1); have HC1 := Lib.hid (HC0.out.below hb1); clear c00 c01 cl0; obtain ⟨c10, c11, cl1⟩ := HI1.out.cells; clear HI0 HC0 hb1))
          have HIE := Lib.hid (HI3.out.low ((Below.refl _ _).alloc (Nat.le_refl _) (.cells endsV 3)))
          have HE := Lib.hid (Blk.new w3 3 endsV)
          clear HC3 c30 c31 cl3
          go_loopw [7] (fun y wr => ∃ i : Nat, i ≤ 20 ∧ y = .int .i64 i ∧ KF w w.heap.size 4 8 (.slice A1 4 n1) (.slice A2 8 n2) wr ∧ Blk wr w3.heap.size 3 endsV) (fun y _ => 20 - (intOf y).toNat)
          case atStart => exact ⟨0, by omega, rfl, HIE.out, HE.out⟩
          case round =>
            clear HIE HE HI3
            generalize w3.heap.size = be at *
            obtain ⟨i, hi, rfl, hI, hE⟩ := hrel
            have hel : be < wr.heap.size := hE.lt
            by_cases hlti : i < 20
            · have hi1 : (i : Int) < 20 := by omega
              obtain ⟨z, hz⟩ := ends_at i hlti
              have e0 : wr.cell? ⟨be, i, none⟩ = some (.int .i64 z) := (hE.cell i).trans hz
              have HI := Lib.hid hI
              have HE := Lib.hid hE
              clear hI hE hz
              go_wp2_with fail
              clear e0 hel
              go_loopw [9] (fun y wx => ∃ k : Nat, k ≤ 19 ∧ y = .int .i64 k ∧ KF w w.heap.size 4 8 (.slice A1 4 n1) (.slice A2 8 n2) wx ∧ Blk wx be 3 endsV) (fun y _ => 19 - (intOf y).toNat)
              case atStart => exact ⟨0, by omega, rfl, HI.out, HE.out⟩
              case round =>
                clear HI HE
                obtain ⟨k, hk, rfl, hI, hE⟩ := hrel
                have HI := Lib.hid hI
                have HE := Lib.hid hE
                clear hI hE
                by_cases hltk : k < 19
                · have hk1 : (k : Int) < 19 := by omega
                  have HL : Hid (((chC 3).ps.length + 1) * 40 ≤ 140737488355328) := Lib.hid (by decide)
                  go_wp2_with (first
                    | (at_builtin; (refine wpList_append_part (B := wr.heap.size) (L := (chC 3).ps) (p := ⟨9, 9, []⟩) (u := .slice none 0 0) (v := .slice A3 n3 c3) rfl (.tmp 85) (.tmp 87) rfl rfl HO1.out HB1.out own_nil9 len_nil9 rfl (by rw [alloc_size1]; rfl) HL.out ?_; intro v9 w9 hO9 hk9 ht9; obtain ⟨g, tb, m1, cc, s0, A0, rfl, hY⟩ := ky_start HW1.out hO9 hk9 ht9; obtain ⟨y0, y1, y2, y3, yl⟩ := hY.cells; have HY := Lib.hid hY; clear hO9 hk9 ht9 hY))
                    | (go_at_call 22; with_reducible refine (chapter_o 3 _).mono ?_; rintro e w1 ⟨v1, rfl, hO1, hb1⟩; obtain ⟨A3, n3, c3, rfl⟩ := hO1.sl; have HW1 := Lib.hid hb1; have HB1 := Lib.hid ((hb1.alloc hb1.size (.cells #[.slice A3 n3 c3, .slice none 0 0] 25)).size); have HO1 := Lib.hid (OwnP.keep (w' := w1.alloc (.cells #[.slice A3 n3 c3, .slice none 0 0] 25)) hO1 fun q t cs _ hk => hk.alloc _); clear hO1 hb1))
                  have hX := kx_start HY.out
                  generalize ((((w9.setCell ⟨w1.heap.size, 0, none⟩ (.slice (some ⟨g, 0, none⟩) 2 m1)).setCell ⟨w1.heap.size, 1, none⟩ (.slice (some ⟨w9.heap.size, 0, none⟩) 2 2)).alloc (.cells #[.int .i64 1, .int .i64 0, .int .i64 1, .int .i64 5, .int .i64 0, .int .i64 5, .int .i64 2, .int .i64 1, .int .i64 0, .int .i64 5, .int .i64 2, .int .i64 0] 48)).alloc (.cells #[.int .i64 64, .int .i64 60, .int .i64 30, .int .i64 255, .int .i64 30, .int .i64 4, .int .i64 4, .int .i64 2] 46)) = wX at *
                  generalize w1.heap.size = lc at *
                  generalize w9.heap.size = q at *
                  clear HW1 HB1 HO1 HY y0 y1 y2 y3 yl
                  have HS : Hid (∀ W : World, Blk W lc 25 #[.slice (some ⟨g, 0, none⟩) 2 m1, .slice (some ⟨q, 0, none⟩) 2 2] → (fun w' : World => w'.cell? ⟨lc, 0, none⟩ = some (.slice (some ⟨g, 0, none⟩) 2 m1) ∧ w'.cell? ⟨lc, 1, none⟩ = some (.slice (some ⟨q, 0, none⟩) 2 2)) W) := fun W hb => ⟨(hb.cell 0).trans rfl, (hb.cell 1).trans rfl⟩
                  have hXd := hX.below ((Below.refl _ _).drew)
                  refine wp_region_held_drew (S := fun w' => w'.cell? ⟨lc, 0, none⟩ = some (.slice (some ⟨g, 0, none⟩) 2 m1) ∧ w'.cell? ⟨lc, 1, none⟩ = some (.slice (some ⟨q, 0, none⟩) 2 2)) (by kernel_rfl) (HS.out _ hXd.c) (fun hH0 => ?_)
                  generalize hwd : wX.drew = wd at hXd hH0 ⊢
                  clear hwd hX
                  obtain ⟨pb, po, hp, hpl⟩ := kptrs_at g q (q + 1) k hltk
                  have hp0 : (wd.alloc (.cells #[.pointer (some ⟨g, 0, none⟩), .pointer (some ⟨g, 1, none⟩), .pointer (some ⟨q + 1, 0, none⟩), .pointer (some ⟨q + 1, 1, none⟩), .pointer (some ⟨q + 1, 2, none⟩), .pointer (some ⟨q + 1, 3, none⟩), .pointer (some ⟨q + 1, 4, none⟩), .pointer (some ⟨q + 1, 5, none⟩), .pointer (some ⟨q + 1, 6, none⟩), .pointer (some ⟨q + 1, 7, none⟩), .pointer (some ⟨q, 0, none⟩), .pointer (some ⟨q, 1, none⟩), .pointer (some ⟨q, 2, none⟩), .pointer (some ⟨q, 3, none⟩), .pointer (some ⟨q, 4, none⟩), .pointer (some ⟨q, 5, none⟩), .pointer (some ⟨q, 6, none⟩), .pointer (some ⟨q, 10, none⟩), .pointer (some ⟨q, 11, none⟩)] 51)).cell? ⟨wd.heap.size, k, none⟩ = some (.pointer (some ⟨pb, po, none⟩)) := ((Blk.new wd 51 (kptrs g q (q + 1))).cell k).trans hp
                  obtain ⟨⟨y, hy⟩, hfz, hpbl⟩ := hXd.at hpl
                  have HXE := Lib.hid ((hXd.put hpl z).below ((Below.refl _ _).alloc (Nat.le_refl _) (.cells #[.pointer (some ⟨g, 0, none⟩), .pointer (some ⟨g, 1, none⟩), .pointer (some ⟨q + 1, 0, none⟩), .pointer (some ⟨q + 1, 1, none⟩), .pointer (some ⟨q + 1, 2, none⟩), .pointer (some ⟨q + 1, 3, none⟩), .pointer (some ⟨q + 1, 4, none⟩), .pointer (some ⟨q + 1, 5, none⟩), .pointer (some ⟨q + 1, 6, none⟩), .pointer (some ⟨q + 1, 7, none⟩), .pointer (some ⟨q, 0, none⟩), .pointer (some ⟨q, 1, none⟩), .pointer (some ⟨q, 2, none⟩), .pointer (some ⟨q, 3, none⟩), .pointer (some ⟨q, 4, none⟩), .pointer (some ⟨q, 5, none⟩), .pointer (some ⟨q, 6, none⟩), .pointer (some ⟨q, 10, none⟩), .pointer (some ⟨q, 11, none⟩)] 51)))
                  have HXD := Lib.hid hXd
                  have HPL := Lib.hid hpl
                  clear hp hpl hXd
                  refine wpAnyH_take (i := 0) (v := ?_) rfl (by kernel_rfl) (by kernel_rfl) (by kernel_rfl) (fun _ _ _ h => h) (Or.inl ⟨by rfl, ?_⟩) hH0 ?_
                  rotate_left
                  · intro wz hz; (try dsimp only at hz); (go_simp <;> with_reducible rfl)
                  simp only [Act.put]
                  try simp only [List.setIfInBounds_toArray]
                  refine wpAnyH_take (i := 1) (v := ?_) rfl (by kernel_rfl) (by kernel_rfl) (by kernel_rfl) (fun _ _ _ h => h) (Or.inl ⟨by rfl, ?_⟩) hH0 ?_
                  rotate_left
                  · intro wz hz; (try dsimp only at hz); (go_simp <;> with_reducible rfl)
                  simp only [Act.put]
                  try simp only [List.setIfInBounds_toArray]
                  refine wpAnyH_take (i := 2) (v := ?_) rfl (by kernel_rfl) (by kernel_rfl) (by kernel_rfl) (fun _ _ _ h => h) (Or.inl ⟨by rfl, ?_⟩) hH0 ?_
                  rotate_left
                  · intro wz hz; (try dsimp only at hz); (go_simp <;> with_reducible rfl)
                  simp only [Act.put]
                  try simp only [List.setIfInBounds_toArray]
                  refine wpAnyH_take (i := 3) (v := ?_) rfl (by kernel_rfl) (by kernel_rfl) (by kernel_rfl) (fun _ _ _ h => h) (Or.inl ⟨by rfl, ?_⟩) hH0 ?_
                  rotate_left
                  · intro wz hz; (try dsimp only at hz); (go_simp <;> with_reducible rfl)
                  simp only [Act.put]
                  try simp only [List.setIfInBounds_toArray]
                  refine wpAnyH_take (i := 4) (v := ?_) rfl (by kernel_rfl) (by kernel_rfl) (by kernel_rfl) (fun _ _ _ h => h) (Or.inl ⟨by rfl, ?_⟩) hH0 ?_
                  rotate_left
                  · intro wz hz; (try dsimp only at hz); (go_simp <;> with_reducible rfl)
                  simp only [Act.put]
                  try simp only [List.setIfInBounds_toArray]
                  refine wpAnyH_take (i := 5) (v := ?_) rfl (by kernel_rfl) (by kernel_rfl) (by kernel_rfl) (fun _ _ _ h => h) (Or.inl ⟨by rfl, ?_⟩) hH0 ?_
                  rotate_left
                  · intro wz hz; (try dsimp only at hz); (go_simp <;> with_reducible rfl)
                  simp only [Act.put]
                  try simp only [List.setIfInBounds_toArray]
                  refine wpAnyH_take (i := 6) (v := ?_) rfl (by kernel_rfl) (by kernel_rfl) (by kernel_rfl) (fun _ _ _ h => h) (Or.inl ⟨by rfl, ?_⟩) hH0 ?_
                  rotate_left
                  · intro wz hz; (try dsimp only at hz); (go_simp <;> with_reducible rfl)
                  simp only [Act.put]
                  try simp only [List.setIfInBounds_toArray]
                  refine wpAnyH_take (i := 7) (v := ?_) rfl (by kernel_rfl) (by kernel_rfl) (by kernel_rfl) (fun _ _ _ h => h) (Or.inl ⟨by rfl, ?_⟩) hH0 ?_
                  rotate_left
                  · intro wz hz; (try dsimp only at hz); (go_simp <;> with_reducible rfl)
                  simp only [Act.put]
                  try simp only [List.setIfInBounds_toArray]
                  refine wpAnyH_take (i := 8) (v := ?_) rfl (by kernel_rfl) (by kernel_rfl) (by kernel_rfl) (fun _ _ _ h => h) (Or.inl ⟨by rfl, ?_⟩) hH0 ?_
                  rotate_left
                  · intro wz hz; (try dsimp only at hz); (go_simp <;> with_reducible rfl)
                  simp only [Act.put]
                  try simp only [List.setIfInBounds_toArray]
                  refine wpAnyH_take (i := 9) (v := ?_) rfl (by kernel_rfl) (by kernel_rfl) (by kernel_rfl) (fun _ _ _ h => h) (Or.inl ⟨by rfl, ?_⟩) hH0 ?_
                  rotate_left
                  · intro wz hz; (try dsimp only at hz); (go_simp <;> with_reducible rfl)
                  simp only [Act.put]
                  try simp only [List.setIfInBounds_toArray]
                  refine wpAnyH_take (i := 10) (v := ?_) rfl (by kernel_rfl) (by kernel_rfl) (by kernel_rfl) (fun _ _ _ h => h) (Or.inl ⟨by rfl, ?_⟩) hH0 ?_
                  rotate_left
                  · intro wz hz; (try dsimp only at hz); (go_simp <;> with_reducible rfl)
                  simp only [Act.put]
                  try simp only [List.setIfInBounds_toArray]
                  refine wpAnyH_take (i := 11) (v := ?_) rfl (by kernel_rfl) (by kernel_rfl) (by kernel_rfl) (fun _ _ _ h => h) (Or.inl ⟨by rfl, ?_⟩) hH0 ?_
                  rotate_left
                  · intro wz hz; (try dsimp only at hz); (go_simp <;> with_reducible rfl)
                  simp only [Act.put]
                  try simp only [List.setIfInBounds_toArray]
                  refine wpAnyH_take (i := 12) (v := ?_) rfl (by kernel_rfl) (by kernel_rfl) (by kernel_rfl) (fun _ _ _ h => h) (Or.inl ⟨by rfl, ?_⟩) hH0 ?_
                  rotate_left
                  · intro wz hz; (try dsimp only at hz); (go_simp <;> with_reducible rfl)
                  simp only [Act.put]
                  try simp only [List.setIfInBounds_toArray]
                  refine wpAnyH_take (i := 13) (v := ?_) rfl (by kernel_rfl) (by kernel_rfl) (by kernel_rfl) (fun _ _ _ h => h) (Or.inl ⟨by rfl, ?_⟩) hH0 ?_
                  rotate_left
                  · intro wz hz; (try dsimp only at hz); (go_simp <;> with_reducible rfl)
                  simp only [Act.put]
                  try simp only [List.setIfInBounds_toArray]
                  refine wpAnyH_take (i := 14) (v := ?_) rfl (by kernel_rfl) (by kernel_rfl) (by kernel_rfl) (fun _ _ _ h => h) (Or.inl ⟨by rfl, ?_⟩) hH0 ?_
                  rotate_left
                  · intro wz hz; (try dsimp only at hz); (go_simp <;> with_reducible rfl)
                  simp only [Act.put]
                  try simp only [List.setIfInBounds_toArray]
                  refine wpAnyH_take (i := 15) (v := ?_) rfl (by kernel_rfl) (by kernel_rfl) (by kernel_rfl) (fun _ _ _ h => h) (Or.inl ⟨by rfl, ?_⟩) hH0 ?_
                  rotate_left
                  · intro wz hz; (try dsimp only at hz); (go_simp <;> with_reducible rfl)
                  simp only [Act.put]
                  try simp only [List.setIfInBounds_toArray]
                  refine wpAnyH_take (i := 16) (v := ?_) rfl (by kernel_rfl) (by kernel_rfl) (by kernel_rfl) (fun _ _ _ h => h) (Or.inl ⟨by rfl, ?_⟩) hH0 ?_
                  rotate_left
                  · intro wz hz; (try dsimp only at hz); (go_simp <;> with_reducible rfl)
                  simp only [Act.put]
                  try simp only [List.setIfInBounds_toArray]
                  refine wpAnyH_take (i := 17) (v := ?_) rfl (by kernel_rfl) (by kernel_rfl) (by kernel_rfl) (fun _ _ _ h => h) (Or.inl ⟨by rfl, ?_⟩) hH0 ?_
                  rotate_left
                  · intro wz hz; (try dsimp only at hz); (go_simp <;> with_reducible rfl)
                  simp only [Act.put]
                  try simp only [List.setIfInBounds_toArray]
                  refine wpAnyH_take (i := 18) (v := ?_) rfl (by kernel_rfl) (by kernel_rfl) (by kernel_rfl) (fun _ _ _ h => h) (Or.inl ⟨by rfl, ?_⟩) hH0 ?_
                  rotate_left
                  · intro wz hz; (try dsimp only at hz); (go_simp <;> with_reducible rfl)
                  simp only [Act.put]
                  try simp only [List.setIfInBounds_toArray]
                  refine wpAnyH_take (i := 19) (v := ?_) rfl (by kernel_rfl) (by kernel_rfl) (by kernel_rfl) (fun _ _ _ h => h) (Or.inl ⟨by rfl, ?_⟩) hH0 ?_
                  rotate_left
                  · intro wz hz; (try dsimp only at hz); (go_simp <;> with_reducible rfl)
                  simp only [Act.put]
                  try simp only [List.setIfInBounds_toArray]
                  refine wpAnyH_take (i := 20) (v := ?_) rfl (by kernel_rfl) (by kernel_rfl) (by kernel_rfl) (fun _ _ _ h => h) (Or.inl ⟨by rfl, ?_⟩) hH0 ?_
                  rotate_left
                  · intro wz hz; (try dsimp only at hz); (go_simp <;> with_reducible rfl)
                  simp only [Act.put]
                  try simp only [List.setIfInBounds_toArray]
                  refine wpAnyH_take (i := 21) (v := ?_) rfl (by kernel_rfl) (by kernel_rfl) (by kernel_rfl) (fun _ _ _ h => h) (Or.inl ⟨by rfl, ?_⟩) hH0 ?_
                  rotate_left
                  · intro wz hz; (try dsimp only at hz); (go_simp <;> with_reducible rfl)
                  simp only [Act.put]
                  try simp only [List.setIfInBounds_toArray]
                  refine wpAnyH_take (i := 22) (v := ?_) rfl (by kernel_rfl) (by kernel_rfl) (by kernel_rfl) (fun _ _ _ h => h) (Or.inl ⟨by rfl, ?_⟩) hH0 ?_
                  rotate_left
                  · intro wz hz; (try dsimp only at hz); (go_simp <;> with_reducible rfl)
                  simp only [Act.put]
                  try simp only [List.setIfInBounds_toArray]
                  refine wpAnyH_take (i := 23) (v := ?_) rfl (by kernel_rfl) (by kernel_rfl) (by kernel_rfl) (fun _ _ _ h => h) (Or.inl ⟨by rfl, ?_⟩) hH0 ?_
                  rotate_left
                  · intro wz hz; (try dsimp only at hz); (go_simp <;> with_reducible rfl)
                  simp only [Act.put]
                  try simp only [List.setIfInBounds_toArray]
                  refine wpAnyH_take (i := 24) (v := ?_) rfl (by kernel_rfl) (by kernel_rfl) (by kernel_rfl) (fun _ _ _ h => h) (Or.inl ⟨by rfl, ?_⟩) hH0 ?_
                  rotate_left
                  · intro wz hz; (try dsimp only at hz); (go_simp <;> with_reducible rfl)
                  simp only [Act.put]
                  try simp only [List.setIfInBounds_toArray]
                  refine wpAnyH_take (i := 25) (v := ?_) rfl (by kernel_rfl) (by kernel_rfl) (by kernel_rfl) (fun _ _ _ h => h) (Or.inl ⟨by rfl, ?_⟩) hH0 ?_
                  rotate_left
                  · intro wz hz; (try dsimp only at hz); (go_simp <;> with_reducible rfl)
                  simp only [Act.put]
                  try simp only [List.setIfInBounds_toArray]
                  refine wpAnyH_take (i := 26) (v := ?_) rfl (by kernel_rfl) (by kernel_rfl) (by kernel_rfl) (fun _ _ _ h => h) (Or.inl ⟨by rfl, ?_⟩) hH0 ?_
                  rotate_left
                  · intro wz hz; (try dsimp only at hz); (go_simp <;> with_reducible rfl)
                  simp only [Act.put]
                  try simp only [List.setIfInBounds_toArray]
                  refine wpAnyH_take (i := 27) (v := ?_) rfl (by kernel_rfl) (by kernel_rfl) (by kernel_rfl) (fun _ _ _ h => h) (Or.inl ⟨by rfl, ?_⟩) hH0 ?_
                  rotate_left
                  · intro wz hz; (try dsimp only at hz); (go_simp <;> with_reducible rfl)
                  simp only [Act.put]
                  try simp only [List.setIfInBounds_toArray]
                  refine wpAnyH_take (i := 28) (v := ?_) rfl (by kernel_rfl) (by kernel_rfl) (by kernel_rfl) (fun _ _ _ h => h) (Or.inl ⟨by rfl, ?_⟩) hH0 ?_
                  rotate_left
                  · intro wz hz; (try dsimp only at hz); (go_simp <;> with_reducible rfl)
                  simp only [Act.put]
                  try simp only [List.setIfInBounds_toArray]
                  refine wpAnyH_take (i := 29) (v := ?_) rfl (by kernel_rfl) (by kernel_rfl) (by kernel_rfl) (fun _ _ _ h => h) (Or.inl ⟨by rfl, ?_⟩) hH0 ?_
                  rotate_left
                  · intro wz hz; (try dsimp only at hz); (go_simp <;> with_reducible rfl)
                  simp only [Act.put]
                  try simp only [List.setIfInBounds_toArray]
                  refine wpAnyH_take (i := 30) (v := ?_) rfl (by kernel_rfl) (by kernel_rfl) (by kernel_rfl) (fun _ _ _ h => h) (Or.inl ⟨by rfl, ?_⟩) hH0 ?_
                  rotate_left
                  · intro wz hz; (try dsimp only at hz); (go_simp <;> with_reducible rfl)
                  simp only [Act.put]
                  try simp only [List.setIfInBounds_toArray]
                  refine wpAnyH_take (i := 31) (v := ?_) rfl (by kernel_rfl) (by kernel_rfl) (by kernel_rfl) (fun _ _ _ h => h) (Or.inl ⟨by rfl, ?_⟩) hH0 ?_
                  rotate_left
                  · intro wz hz; (try dsimp only at hz); (go_simp <;> with_reducible rfl)
                  simp only [Act.put]
                  try simp only [List.setIfInBounds_toArray]
                  refine wpAnyH_take (i := 32) (v := ?_) rfl (by kernel_rfl) (by kernel_rfl) (by kernel_rfl) (fun _ _ _ h => h) (Or.inl ⟨by rfl, ?_⟩) hH0 ?_
                  rotate_left
                  · intro wz hz; (try dsimp only at hz); (go_simp <;> with_reducible rfl)
                  simp only [Act.put]
                  try simp only [List.setIfInBounds_toArray]
                  refine wpAnyH_take (i := 33) (v := ?_) rfl (by kernel_rfl) (by kernel_rfl) (by kernel_rfl) (fun _ _ _ h => h) (Or.inl ⟨by rfl, ?_⟩) hH0 ?_
                  rotate_left
                  · intro wz hz; (try dsimp only at hz); (go_simp <;> with_reducible rfl)
                  simp only [Act.put]
                  try simp only [List.setIfInBounds_toArray]
                  refine wpAnyH_take (i := 34) (v := ?_) rfl (by kernel_rfl) (by kernel_rfl) (by kernel_rfl) (fun _ _ _ h => h) (Or.inl ⟨by rfl, ?_⟩) hH0 ?_
                  rotate_left
                  · intro wz hz; (try dsimp only at hz); (go_simp <;> with_reducible rfl)
                  simp only [Act.put]
                  try simp only [List.setIfInBounds_toArray]
                  refine wpAnyH_take (i := 35) (v := ?_) rfl (by kernel_rfl) (by kernel_rfl) (by kernel_rfl) (fun _ _ _ h => h) (Or.inl ⟨by rfl, ?_⟩) hH0 ?_
                  rotate_left
                  · intro wz hz; (try dsimp only at hz); (go_simp <;> with_reducible rfl)
                  simp only [Act.put]
                  try simp only [List.setIfInBounds_toArray]
                  refine wpAnyH_take (i := 36) (v := ?_) rfl (by kernel_rfl) (by kernel_rfl) (by kernel_rfl) (fun _ _ _ h => h) (Or.inl ⟨by rfl, ?_⟩) hH0 ?_
                  rotate_left
                  · intro wz hz; (try dsimp only at hz); (go_simp <;> with_reducible rfl)
                  simp only [Act.put]
                  try simp only [List.setIfInBounds_toArray]
                  refine wpAnyH_take (i := 37) (v := ?_) rfl (by kernel_rfl) (by kernel_rfl) (by kernel_rfl) (fun _ _ _ h => h) (Or.inl ⟨by rfl, ?_⟩) hH0 ?_
                  rotate_left
                  · intro wz hz; (try dsimp only at hz); (go_simp <;> with_reducible rfl)
                  simp only [Act.put]
                  try simp only [List.setIfInBounds_toArray]
                  refine wpAnyH_take (i := 38) (v := ?_) rfl (by kernel_rfl) (by kernel_rfl) (by kernel_rfl) (fun _ _ _ h => h) (Or.inl ⟨by rfl, ?_⟩) hH0 ?_
                  rotate_left
                  · intro wz hz; (try dsimp only at hz); (go_simp <;> with_reducible rfl)
                  simp only [Act.put]
                  try simp only [List.setIfInBounds_toArray]
                  refine wpAnyH_take (i := 39) (v := ?_) rfl (by kernel_rfl) (by kernel_rfl) (by kernel_rfl) (fun _ _ _ h => h) (Or.inl ⟨by rfl, ?_⟩) hH0 ?_
                  rotate_left
                  · intro wz hz; (try dsimp only at hz); (go_simp <;> with_reducible rfl)
                  simp only [Act.put]
                  try simp only [List.setIfInBounds_toArray]
                  refine wpAnyH_take (i := 40) (v := ?_) rfl (by kernel_rfl) (by kernel_rfl) (by kernel_rfl) (fun _ _ _ h => h) (Or.inl ⟨by rfl, ?_⟩) hH0 ?_
                  rotate_left
                  · intro wz hz; (try dsimp only at hz); (go_simp <;> with_reducible rfl)
                  simp only [Act.put]
                  try simp only [List.setIfInBounds_toArray]
                  refine wpAnyH_take (i := 41) (v := ?_) rfl (by kernel_rfl) (by kernel_rfl) (by kernel_rfl) (fun _ _ _ h => h) (Or.inl ⟨by rfl, ?_⟩) hH0 ?_
                  rotate_left
                  · intro wz hz; (try dsimp only at hz); (go_simp <;> with_reducible rfl)
                  simp only [Act.put]
                  try simp only [List.setIfInBounds_toArray]
                  refine wpAnyH_take (i := 42) (v := ?_) rfl (by kernel_rfl) (by kernel_rfl) (by kernel_rfl) (fun _ _ _ h => h) (Or.inl ⟨by rfl, ?_⟩) hH0 ?_
                  rotate_left
                  · intro wz hz; (try dsimp only at hz); (go_simp <;> with_reducible rfl)
                  simp only [Act.put]
                  try simp only [List.setIfInBounds_toArray]
                  refine wpAnyH_take (i := 43) (v := ?_) rfl (by kernel_rfl) (by kernel_rfl) (by kernel_rfl) (fun _ _ _ h => h) (Or.inl ⟨by rfl, ?_⟩) hH0 ?_
                  rotate_left
                  · intro wz hz; (try dsimp only at hz); (go_simp <;> with_reducible rfl)
                  simp only [Act.put]
                  try simp only [List.setIfInBounds_toArray]
                  refine wpAnyH_take (i := 44) (v := ?_) rfl (by kernel_rfl) (by kernel_rfl) (by kernel_rfl) (fun _ _ _ h => h) (Or.inl ⟨by rfl, ?_⟩) hH0 ?_
                  rotate_left
                  · intro wz hz; (try dsimp only at hz); (go_simp <;> with_reducible rfl)
                  simp only [Act.put]
                  try simp only [List.setIfInBounds_toArray]
                  refine wpAnyH_take (i := 45) (v := ?_) rfl (by kernel_rfl) (by kernel_rfl) (by kernel_rfl) (fun _ _ _ h => h) (Or.inl ⟨by rfl, ?_⟩) hH0 ?_
                  rotate_left
                  · intro wz hz; (try dsimp only at hz); (go_simp <;> with_reducible rfl)
                  simp only [Act.put]
                  try simp only [List.setIfInBounds_toArray]
                  refine wpAnyH_take (i := 46) (v := ?_) rfl (by kernel_rfl) (by kernel_rfl) (by kernel_rfl) (fun _ _ _ h => h) (Or.inl ⟨by rfl, ?_⟩) hH0 ?_
                  rotate_left
                  · intro wz hz; (try dsimp only at hz); (go_simp <;> with_reducible rfl)
                  simp only [Act.put]
                  try simp only [List.setIfInBounds_toArray]
                  refine wpAnyH_take (i := 47) (v := ?_) rfl (by kernel_rfl) (by kernel_rfl) (by kernel_rfl) (fun _ _ _ h => h) (Or.inl ⟨by rfl, ?_⟩) hH0 ?_
                  rotate_left
                  · intro wz hz; (try dsimp only at hz); (go_simp <;> with_reducible rfl)
                  simp only [Act.put]
                  try simp only [List.setIfInBounds_toArray]
                  refine wpAnyH_take (i := 48) (v := ?_) rfl (by kernel_rfl) (by kernel_rfl) (by kernel_rfl) (fun _ _ _ h => h) (Or.inl ⟨by rfl, ?_⟩) hH0 ?_
                  rotate_left
                  · intro wz hz; (try dsimp only at hz); (go_simp <;> with_reducible rfl)
                  simp only [Act.put]
                  try simp only [List.setIfInBounds_toArray]
                  refine wpAnyH_take (i := 49) (v := ?_) rfl (by kernel_rfl) (by kernel_rfl) (by kernel_rfl) (fun _ _ _ h => h) (Or.inl ⟨by rfl, ?_⟩) hH0 ?_
                  rotate_left
                  · intro wz hz; (try dsimp only at hz); (go_simp <;> with_reducible rfl)
                  simp only [Act.put]
                  try simp only [List.setIfInBounds_toArray]
                  refine wpAnyH_take (i := 50) (v := ?_) rfl (by kernel_rfl) (by kernel_rfl) (by kernel_rfl) (fun _ _ _ h => h) (Or.inl ⟨by rfl, ?_⟩) hH0 ?_
                  rotate_left
                  · intro wz hz; (try dsimp only at hz); (go_simp <;> with_reducible rfl)
                  simp only [Act.put]
                  try simp only [List.setIfInBounds_toArray]
                  refine wpAnyH_take (i := 51) (v := ?_) rfl (by kernel_rfl) (by kernel_rfl) (by kernel_rfl) (fun _ _ _ h => h) (Or.inl ⟨by rfl, ?_⟩) hH0 ?_
                  rotate_left
                  · intro wz hz; (try dsimp only at hz); (go_simp <;> with_reducible rfl)
                  simp only [Act.put]
                  try simp only [List.setIfInBounds_toArray]
                  refine wpAnyH_take (i := 53) (v := ?_) rfl (by kernel_rfl) (by kernel_rfl) (by kernel_rfl) (fun _ _ _ h => h) (Or.inl ⟨by rfl, ?_⟩) hH0 ?_
                  rotate_left
                  · intro wz hz; (try dsimp only at hz); (go_simp <;> with_reducible rfl)
                  simp only [Act.put]
                  try simp only [List.setIfInBounds_toArray]
                  refine wpAnyH_take (i := 56) (v := ?_) rfl (by kernel_rfl) (by kernel_rfl) (by kernel_rfl) (fun _ _ _ h => h) (Or.inl ⟨by rfl, ?_⟩) hH0 ?_
                  rotate_left
                  · intro wz hz; (try dsimp only at hz); (go_simp <;> with_reducible rfl)
                  simp only [Act.put]
                  try simp only [List.setIfInBounds_toArray]
                  refine wpAnyH_ready (rs := [52]) (by kernel_rfl) (by simp) ?_
                  refine AllReadyH.cons (at_list rfl) (fun K hK => ?_) AllReadyH.nil
                  go_simp
                  refine hK.out _ _ (HS.out _ (HXD.out.c.alloc _)) (fun hH1 => ?_)
                  clear hK K
                  (try simp only [Act.put]); (try simp only [List.setIfInBounds_toArray])
                  refine wpAnyH_take (i := 54) (v := ?_) rfl (by kernel_rfl) (by kernel_rfl) (by kernel_rfl) (fun _ _ _ h => h) (Or.inl ⟨by rfl, ?_⟩) hH1 ?_
                  rotate_left
                  · intro wz hz; (try dsimp only at hz); (go_simp <;> with_reducible rfl)
                  simp only [Act.put]
                  try simp only [List.setIfInBounds_toArray]
                  refine wpAnyH_ready (rs := [55]) (by kernel_rfl) (by simp) ?_
                  refine AllReadyH.cons (at_list rfl) (fun K hK => ?_) AllReadyH.nil
                  go_simp
                  refine hK.out _ _ (HS.out _ (HXD.out.c.alloc _)) (fun hH2 => ?_)
                  clear hK K
                  (try simp only [Act.put]); (try simp only [List.setIfInBounds_toArray])
                  refine wpAnyH_ready (rs := [57]) (by kernel_rfl) (by simp) ?_
                  refine AllReadyH.cons (at_list rfl) (fun K hK => ?_) AllReadyH.nil
                  go_simp
                  refine hK.out _ _ (HS.out _ (HXD.out.c.alloc _)) (fun hH3 => ?_)
                  clear hK K
                  (try simp only [Act.put]); (try simp only [List.setIfInBounds_toArray])
                  refine wpAnyH_ready (rs := [58]) (by kernel_rfl) (by simp) ?_
                  refine AllReadyH.cons (at_list rfl) (fun K hK => ?_) AllReadyH.nil
                  go_simp
                  refine hK.out _ _ (HS.out _ HXE.out.c) (fun hH4 => ?_)
                  clear hK K
                  (try simp only [Act.put]); (try simp only [List.setIfInBounds_toArray])
                  refine wpAnyH_done (by kernel_rfl) ?_ _
                  generalize ((wd.setCell ⟨pb, po, none⟩ (.int .i64 z)).alloc (.cells #[.pointer (some ⟨g, 0, none⟩), .pointer (some ⟨g, 1, none⟩), .pointer (some ⟨q + 1, 0, none⟩), .pointer (some ⟨q + 1, 1, none⟩), .pointer (some ⟨q + 1, 2, none⟩), .pointer (some ⟨q + 1, 3, none⟩), .pointer (some ⟨q + 1, 4, none⟩), .pointer (some ⟨q + 1, 5, none⟩), .pointer (some ⟨q + 1, 6, none⟩), .pointer (some ⟨q + 1, 7, none⟩), .pointer (some ⟨q, 0, none⟩), .pointer (some ⟨q, 1, none⟩), .pointer (some ⟨q, 2, none⟩), .pointer (some ⟨q, 3, none⟩), .pointer (some ⟨q, 4, none⟩), .pointer (some ⟨q, 5, none⟩), .pointer (some ⟨q, 6, none⟩), .pointer (some ⟨q, 10, none⟩), .pointer (some ⟨q, 11, none⟩)] 51)) = wy at *
                  clear hp0 hy hfz hpbl hH0 hH1 hH2 hH3 hH4 HXD HPL HS
                  have hXz := HXE.out.below ((Below.refl _ _).drew)
                  obtain ⟨a0, a1, a2, n1', n2', n3', tl, ll⟩ := hXz.nine
                  obtain ⟨v0, v1, v2, v3, v4, v5, v6, v7, b0, b1, b2, b3, b4, b5, b6, b7⟩ := hXz.eight
                  obtain ⟨s0', s1, s2, s3, s4, s5, s6, s7, ⟨d0, d1, d2, d3, d4, d5, d6, d7⟩, f0, f1, f2, f3, f4, f5, f6, f7⟩ := hXz.eightT
                  have HXZ := Lib.hid (hXz.putT8 v0 v1 v2 v3 v4 v5 v6 v7)
                  clear hXz
                  go_wp2_with fail
                  refine wp_region_held_drew (S := fun w' => w'.cell? ⟨lc, 0, none⟩ = some (.slice (some ⟨g, 0, none⟩) 2 m1) ∧ w'.cell? ⟨g, 2, none⟩ = some (.slice (some ⟨tb, 0, none⟩) 1 cc) ∧ w'.cell? ⟨q + 1, 0, none⟩ = some (.int .i64 v0) ∧ w'.cell? ⟨q + 1, 1, none⟩ = some (.int .i64 v1) ∧ w'.cell? ⟨q + 1, 2, none⟩ = some (.int .i64 v2) ∧ w'.cell? ⟨q + 1, 3, none⟩ = some (.int .i64 v3) ∧ w'.cell? ⟨q + 1, 4, none⟩ = some (.int .i64 v4) ∧ w'.cell? ⟨q + 1, 5, none⟩ = some (.int .i64 v5) ∧ w'.cell? ⟨q + 1, 6, none⟩ = some (.int .i64 v6) ∧ w'.cell? ⟨q + 1, 7, none⟩ = some (.int .i64 v7)) (by kernel_rfl) ⟨a0, a2, b0, b1, b2, b3, b4, b5, b6, b7⟩ (fun hH0 => ?_)
                  generalize hwv : wy.drew = wv at *
                  clear hwv
                  refine wpAnyH_take (i := 0) (v := ?_) rfl (by kernel_rfl) (by kernel_rfl) (by kernel_rfl) (fun _ _ _ h => h) (Or.inl ⟨by rfl, ?_⟩) hH0 ?_
                  rotate_left
                  · intro wz hz; (try dsimp only at hz); (go_simp <;> with_reducible rfl)
                  simp only [Act.put]
                  try simp only [List.setIfInBounds_toArray]
                  refine wpAnyH_take (i := 1) (v := ?_) rfl (by kernel_rfl) (by kernel_rfl) (by kernel_rfl) (fun _ _ _ h => h) (Or.inl ⟨by rfl, ?_⟩) hH0 ?_
                  rotate_left
                  · intro wz hz; (try dsimp only at hz); (go_simp <;> with_reducible rfl)
                  simp only [Act.put]
                  try simp only [List.setIfInBounds_toArray]
                  refine wpAnyH_take (i := 2) (v := ?_) rfl (by kernel_rfl) (by kernel_rfl) (by kernel_rfl) (fun _ _ _ h => h) (Or.inl ⟨by rfl, ?_⟩) hH0 ?_
                  rotate_left
                  · intro wz hz; (try dsimp only at hz); (go_simp <;> with_reducible rfl)
                  simp only [Act.put]
                  try simp only [List.setIfInBounds_toArray]
                  refine wpAnyH_take (i := 3) (v := ?_) rfl (by kernel_rfl) (by kernel_rfl) (by kernel_rfl) (fun _ _ _ h => h) (Or.inl ⟨by rfl, ?_⟩) hH0 ?_
                  rotate_left
                  · intro wz hz; (try dsimp only at hz); (go_simp <;> with_reducible rfl)
                  simp only [Act.put]
                  try simp only [List.setIfInBounds_toArray]
                  refine wpAnyH_take (i := 4) (v := ?_) rfl (by kernel_rfl) (by kernel_rfl) (by kernel_rfl) (fun _ _ _ h => h) (Or.inl ⟨by rfl, ?_⟩) hH0 ?_
                  rotate_left
                  · intro wz hz; (try dsimp only at hz); (go_simp <;> with_reducible rfl)
                  simp only [Act.put]
                  try simp only [List.setIfInBounds_toArray]
                  refine wpAnyH_take (i := 5) (v := ?_) rfl (by kernel_rfl) (by kernel_rfl) (by kernel_rfl) (fun _ _ _ h => h) (Or.inl ⟨by rfl, ?_⟩) hH0 ?_
                  rotate_left
                  · intro wz hz; (try dsimp only at hz); (go_simp <;> with_reducible rfl)
                  simp only [Act.put]
                  try simp only [List.setIfInBounds_toArray]
                  refine wpAnyH_take (i := 6) (v := ?_) rfl (by kernel_rfl) (by kernel_rfl) (by kernel_rfl) (fun _ _ _ h => h) (Or.inl ⟨by rfl, ?_⟩) hH0 ?_
                  rotate_left
                  · intro wz hz; (try dsimp only at hz); (go_simp <;> with_reducible rfl)
                  simp only [Act.put]
                  try simp only [List.setIfInBounds_toArray]
                  refine wpAnyH_ready (rs := [7]) (by kernel_rfl) (by simp) ?_
                  refine AllReadyH.cons (at_list rfl) (fun K hK => ?_) AllReadyH.nil
                  go_simp
                  refine hK.out _ _ ⟨(far8 n1' 0 _ _ _ _ _ _ _ _).trans a0, (far8 n2' 2 _ _ _ _ _ _ _ _).trans a2, (far8 n3' 0 _ _ _ _ _ _ _ _).trans b0, (far8 n3' 1 _ _ _ _ _ _ _ _).trans b1, (far8 n3' 2 _ _ _ _ _ _ _ _).trans b2, (far8 n3' 3 _ _ _ _ _ _ _ _).trans b3, (far8 n3' 4 _ _ _ _ _ _ _ _).trans b4, (far8 n3' 5 _ _ _ _ _ _ _ _).trans b5, (far8 n3' 6 _ _ _ _ _ _ _ _).trans b6, (far8 n3' 7 _ _ _ _ _ _ _ _).trans b7⟩ (fun hH1 => ?_)
                  clear hK K
                  (try simp only [Act.put]); (try simp only [List.setIfInBounds_toArray])
                  refine wpAnyH_done (by kernel_rfl) ?_ _
                  generalize ((((((((wv.setCell ⟨tb, 0, none⟩ (.int .i64 v0)).setCell ⟨tb, 1, none⟩ (.int .i64 v1)).setCell ⟨tb, 2, none⟩ (.int .i64 v2)).setCell ⟨tb, 3, none⟩ (.int .i64 v3)).setCell ⟨tb, 4, none⟩ (.int .i64 v4)).setCell ⟨tb, 5, none⟩ (.int .i64 v5)).setCell ⟨tb, 6, none⟩ (.int .i64 v6)).setCell ⟨tb, 7, none⟩ (.int .i64 v7)) = wz at *
                  clear hH0 hH1 a0 a1 a2 n1' n2' n3' tl ll b0 b1 b2 b3 b4 b5 b6 b7 d0 d1 d2 d3 d4 d5 d6 d7 f0 f1 f2 f3 f4 f5 f6 f7
                  obtain ⟨c, hc1, hc2, hC⟩ := HXZ.out.cfg
                  obtain ⟨a0, a1, -, -, -, -, -, ll⟩ := HXZ.out.nine
                  have E3 := Lib.hid hc1
                  have E4 := Lib.hid hc2
                  have HC := Lib.hid hC
                  clear hc1 hc2 hC HXE
                  go_wp2_with (first
                    | (go_at_call 5; with_reducible refine (back_n (some ⟨g, 0, none⟩) (some ⟨q, 0, none⟩) m1 2 2 2 c _ HC2.out E3.out E4.out).mono ?_; rintro e wy3 ⟨rfl, hb3⟩; have HB3 := Lib.hid (below_lift HB2.out hb3 HB2.out.size); clear hb3)
                    | (go_at_call 3; with_reducible refine (cbytes_n (some ⟨g, 0, none⟩) (some ⟨q, 0, none⟩) m1 2 2 2 c _ HC.out E3.out E4.out).mono ?_; rintro e wy2 ⟨rfl, hb2⟩; have HX2 := Lib.hid (HXZ.out.below hb2); have HC2 := Lib.hid (HC.out.below hb2); have HB2 := Lib.hid HX2.out.b; clear a0 a1 ll; obtain ⟨a02, a12, -, -, -, -, -, ll2⟩ := HX2.out.nine; clear hb2))
                  go_roundw
                  case rel => exact ⟨k + 1, by omega, rfl, HI.out.low HB3.out, HE.out.below HB3.out HE.out.lt⟩
                  case measure => simp [intOf]; omega
                · obtain rfl : 19 = k := by omega
                  have hk1 : ¬ ((19 : Nat) : Int) < 19 := by omega
                  go_wp2_with fail
                  go_roundw
                  case rel => exact ⟨i + 1, by omega, rfl, HI.out, HE.out⟩
                  case measure => simp [intOf]; omega
            · obtain rfl : 20 = i := by omega
              have hi1 : ¬ ((20 : Nat) : Int) < 20 := by omega
              obtain ⟨u0, Z', hZl, hZm, hG⟩ := hI.kg
              obtain ⟨pb, qb, rfl, rfl⟩ := hG.heads
              obtain ⟨UA, un, uc, rfl⟩ := hG.usl
              have HG0 := Lib.hid hG
              have HZm := Lib.hid hZm
              have HZ4 := Lib.hid (kz_len (kP, (.slice UA un uc)) hZl)
              have HLZ := Lib.hid (kz_big (kP, (.slice UA un uc)) hZl)
              have HLQ : Hid ((kQs 8).length + 1 ≤ 1000000) := Lib.hid kq_big
              clear hI hE hG hZm hZl hel
              obtain ⟨c0, c1, hcl⟩ := HG0.out.cells
              go_wp2_with fail
              have hGd := (HG0.out.low ((Below.refl _ _).alloc (Nat.le_refl _) (.cells #[.slice (some ⟨pb, 0, none⟩) 4 n1, .slice (some ⟨qb, 0, none⟩) 8 n2] 25))).low ((Below.refl _ _).drew)
              have hmd := (Blk.new wr 25 #[.slice (some ⟨pb, 0, none⟩) 4 n1, .slice (some ⟨qb, 0, none⟩) 8 n2]).drew
              have HS : Hid (∀ W : World, KG w w.heap.size ((kP, (.slice UA un uc)) :: Z') (.slice (some ⟨pb, 0, none⟩) 4 n1) (.slice (some ⟨qb, 0, none⟩) 8 n2) W → (fun w' : World => w'.cell? ⟨w.heap.size, 1, none⟩ = some (.slice (some ⟨qb, 0, none⟩) 8 n2) ∧ w'.cell? ⟨qb, 0, none⟩ = some (.int .i64 2) ∧ w'.cell? ⟨qb, 1, none⟩ = some (.int .i64 0) ∧ w'.cell? ⟨qb, 2, none⟩ = some (.int .i64 1) ∧ w'.cell? ⟨qb, 3, none⟩ = some (.int .i64 16) ∧ w'.cell? ⟨qb, 4, none⟩ = some (.int .i64 4) ∧ w'.cell? ⟨qb, 5, none⟩ = some (.int .i64 0)) W) := fun W hb => hb.six
              refine wp_region_held_drew (S := fun w' => w'.cell? ⟨w.heap.size, 1, none⟩ = some (.slice (some ⟨qb, 0, none⟩) 8 n2) ∧ w'.cell? ⟨qb, 0, none⟩ = some (.int .i64 2) ∧ w'.cell? ⟨qb, 1, none⟩ = some (.int .i64 0) ∧ w'.cell? ⟨qb, 2, none⟩ = some (.int .i64 1) ∧ w'.cell? ⟨qb, 3, none⟩ = some (.int .i64 16) ∧ w'.cell? ⟨qb, 4, none⟩ = some (.int .i64 4) ∧ w'.cell? ⟨qb, 5, none⟩ = some (.int .i64 0)) (by kernel_rfl) (HS.out _ hGd) (fun hH0 => ?_)
              generalize hwd : (wr.alloc (.cells #[.slice (some ⟨pb, 0, none⟩) 4 n1, .slice (some ⟨qb, 0, none⟩) 8 n2] 25)).drew = wd at hGd hmd hH0 ⊢
              clear hwd
              have HGD := Lib.hid hGd
              have HMD := Lib.hid hmd
              have HLM : Hid (w.heap.size < wr.heap.size) := hcl
              generalize wr.heap.size = lm at *
              have m1 : wd.cell? ⟨lm, 1, none⟩ = some (.slice (some ⟨qb, 0, none⟩) 8 n2) := (hmd.cell 1).trans rfl
              have ml : lm < wd.heap.size := hmd.lt
              clear hGd hmd c0 c1 hcl HG0
              refine wpAnyH_take (i := 0) (v := ?_) rfl (by kernel_rfl) (by kernel_rfl) (by kernel_rfl) (fun _ _ _ h => h) (Or.inl ⟨by rfl, ?_⟩) hH0 ?_
              rotate_left
              · intro wz hz; (try dsimp only at hz); (go_simp <;> with_reducible rfl)
              simp only [Act.put]
              try simp only [List.setIfInBounds_toArray]
              refine wpAnyH_take (i := 2) (v := ?_) rfl (by kernel_rfl) (by kernel_rfl) (by kernel_rfl) (fun _ _ _ h => h) (Or.inl ⟨by rfl, ?_⟩) hH0 ?_
              rotate_left
              · intro wz hz; (try dsimp only at hz); (go_simp <;> with_reducible rfl)
              simp only [Act.put]
              try simp only [List.setIfInBounds_toArray]
              refine wpAnyH_take (i := 3) (v := ?_) rfl (by kernel_rfl) (by kernel_rfl) (by kernel_rfl) (fun _ _ _ h => h) (Or.inl ⟨by rfl, ?_⟩) hH0 ?_
              rotate_left
              · intro wz hz; (try dsimp only at hz); (go_simp <;> with_reducible rfl)
              simp only [Act.put]
              try simp only [List.setIfInBounds_toArray]
              refine wpAnyH_take (i := 4) (v := ?_) rfl (by kernel_rfl) (by kernel_rfl) (by kernel_rfl) (fun _ _ _ h => h) (Or.inl ⟨by rfl, ?_⟩) hH0 ?_
              rotate_left
              · intro wz hz; (try dsimp only at hz); (go_simp <;> with_reducible rfl)
              simp only [Act.put]
              try simp only [List.setIfInBounds_toArray]
              refine wpAnyH_take (i := 5) (v := ?_) rfl (by kernel_rfl) (by kernel_rfl) (by kernel_rfl) (fun _ _ _ h => h) (Or.inl ⟨by rfl, ?_⟩) hH0 ?_
              rotate_left
              · intro wz hz; (try dsimp only at hz); (go_simp <;> with_reducible rfl)
              simp only [Act.put]
              try simp only [List.setIfInBounds_toArray]
              apply join_rest
              · intro HJ
                refine wpAnyH_ready (rs := [1, 6]) (by kernel_rfl) (by simp) ?_
                refine AllReadyH.cons (at_list rfl) (fun K hK => ?_) (AllReadyH.cons (at_list rfl) (fun K hK => ?_) AllReadyH.nil)
                · go_simp
                  refine hK.out _ _ (HS.out _ HGD.out) (fun hH1 => ?_)
                  clear hK K
                  (try simp only [Act.put]); (try simp only [List.setIfInBounds_toArray])
                  refine wpAnyH_ready (rs := [6]) (by kernel_rfl) (by simp) ?_
                  refine AllReadyH.cons (at_list rfl) (fun K hK => ?_) AllReadyH.nil
                  go_simp
                  refine hK.out _ _ (HS.out _ (HGD.out.low ((Below.refl _ _).alloc (Nat.le_refl _) _))) (fun hH2 => ?_)
                  clear hK K
                  (try simp only [Act.put]); (try simp only [List.setIfInBounds_toArray])
                  exact HJ
                · go_simp
                  refine hK.out _ _ (HS.out _ (HGD.out.low ((Below.refl _ _).alloc (Nat.le_refl _) _))) (fun hH1 => ?_)
                  clear hK K
                  (try simp only [Act.put]); (try simp only [List.setIfInBounds_toArray])
                  refine wpAnyH_ready (rs := [1]) (by kernel_rfl) (by simp) ?_
                  refine AllReadyH.cons (at_list rfl) (fun K hK => ?_) AllReadyH.nil
                  go_simp
                  refine hK.out _ _ (HS.out _ (HGD.out.low ((Below.refl _ _).alloc (Nat.le_refl _) _))) (fun hH2 => ?_)
                  clear hK K
                  (try simp only [Act.put]); (try simp only [List.setIfInBounds_toArray])
                  rw [Array.setIfInBounds_comm (i := 6) (j := 1) true true (by decide)]
                  exact HJ
              refine wpAnyH_ready (rs := [7]) (by kernel_rfl) (by simp) ?_
              refine AllReadyH.cons (at_list rfl) (fun K hK => ?_) AllReadyH.nil
              refine step_old_port (w := wd) (v := .slice (some ⟨qb, 0, none⟩) 8 n2) (B := w.heap.size) (L := kQs 8) (t := kQ 0) rfl (.tmp 170) (.tmp 175) rfl rfl HGD.out.q HGD.out.le rfl rfl HLQ.out ?_
              intro v9 w9 hO9 h09 hk9 ht9
              obtain ⟨A9, n9, rfl⟩ := own9 hO9
              have h9 := Lib.hid (HGD.out.oldQ h09 hk9 ht9)
              have hm9 := ht9 _ _ _ HMD.out (by decide)
              have q2 : w9.cell? ⟨lm, 1, none⟩ = some (.slice (some ⟨qb, 0, none⟩) 8 n2) := (hm9.cell 1).trans rfl
              have f2 := hm9.frozen 1
              have HM9 := Lib.hid (km_push hm9 hO9)
              have HG9 := Lib.hid (h9.out.far hm9 HLM.out 1 (.slice A9 9 n9))
              clear hO9 h09 hk9 ht9 hm9
              refine hK.out _ _ (HS.out _ h9.out) (fun hH3 => ?_)
              clear hK K
              (try simp only [Act.put]); (try simp only [List.setIfInBounds_toArray])
              refine wpAnyH_take (i := 8) (v := ?_) rfl (by kernel_rfl) (by kernel_rfl) (by kernel_rfl) (fun _ _ _ h => h) (Or.inl ⟨by rfl, ?_⟩) hH3 ?_
              rotate_left
              · intro wz hz; (try dsimp only at hz); (go_simp <;> with_reducible rfl)
              simp only [Act.put]
              try simp only [List.setIfInBounds_toArray]
              refine wpAnyH_ready (rs := [9]) (by kernel_rfl) (by simp) ?_
              refine AllReadyH.cons (at_list rfl) (fun K hK => ?_) AllReadyH.nil
              go_simp
              refine hK.out _ _ (HS.out _ HG9.out) (fun hH4 => ?_)
              clear hK K
              (try simp only [Act.put]); (try simp only [List.setIfInBounds_toArray])
              refine wpAnyH_done (by kernel_rfl) ?_ _
              generalize w9.setCell ⟨lm, 1, none⟩ (.slice A9 9 n9) = wm at *
              clear hH0 hH3 hH4 q2 f2 h9 HS HGD HMD m1 ml
              obtain ⟨c0, c1, hcl⟩ := HG9.out.cells
              have HMl : Hid (lm < wm.heap.size) := HM9.out.c.lt
              go_wp2_with fail
              have hGd := (HG9.out.low ((Below.refl _ _).alloc (Nat.le_refl _) (.cells #[.slice (some ⟨pb, 0, none⟩) 4 n1, .slice (some ⟨qb, 0, none⟩) 8 n2] 25))).low ((Below.refl _ _).drew)
              have hMd := (HM9.out.low ((Below.refl _ _).alloc (Nat.le_refl _) (.cells #[.slice (some ⟨pb, 0, none⟩) 4 n1, .slice (some ⟨qb, 0, none⟩) 8 n2] 25))).low ((Below.refl _ _).drew)
              have hfd := (Blk.new wm 25 #[.slice (some ⟨pb, 0, none⟩) 4 n1, .slice (some ⟨qb, 0, none⟩) 8 n2]).drew
              have HS : Hid (∀ W : World, KG w w.heap.size ((kP, (.slice UA un uc)) :: Z') (.slice (some ⟨pb, 0, none⟩) 4 n1) (.slice (some ⟨qb, 0, none⟩) 8 n2) W → (fun w' : World => w'.cell? ⟨w.heap.size, 0, none⟩ = some (.slice (some ⟨pb, 0, none⟩) 4 n1) ∧ w'.cell? ⟨pb, 0, none⟩ = some (.int .i64 64) ∧ w'.cell? ⟨pb, 1, none⟩ = some (.int .i64 20) ∧ w'.cell? ⟨pb, 2, none⟩ = some (.slice UA un uc)) W) := fun W hb => hb.three
              refine wp_region_held_drew (S := fun w' => w'.cell? ⟨w.heap.size, 0, none⟩ = some (.slice (some ⟨pb, 0, none⟩) 4 n1) ∧ w'.cell? ⟨pb, 0, none⟩ = some (.int .i64 64) ∧ w'.cell? ⟨pb, 1, none⟩ = some (.int .i64 20) ∧ w'.cell? ⟨pb, 2, none⟩ = some (.slice UA un uc)) (by kernel_rfl) (HS.out _ hGd) (fun hH0 => ?_)
              generalize hwd : (wm.alloc (.cells #[.slice (some ⟨pb, 0, none⟩) 4 n1, .slice (some ⟨qb, 0, none⟩) 8 n2] 25)).drew = wd at hGd hMd hfd hH0 ⊢
              clear hwd
              have HGD := Lib.hid hGd
              have HMD := Lib.hid hMd
              have HFD := Lib.hid hfd
              have HLF : Hid (lm < wm.heap.size) := HMl
              clear HMl
              generalize wm.heap.size = lf at *
              have m1 : wd.cell? ⟨lf, 0, none⟩ = some (.slice (some ⟨pb, 0, none⟩) 4 n1) := (hfd.cell 0).trans rfl
              have ml : lf < wd.heap.size := hfd.lt
              clear hGd hMd hfd c0 c1 hcl HG9 HM9
              refine wpAnyH_take (i := 0) (v := ?_) rfl (by kernel_rfl) (by kernel_rfl) (by kernel_rfl) (fun _ _ _ h => h) (Or.inl ⟨by rfl, ?_⟩) hH0 ?_
              rotate_left
              · intro wz hz; (try dsimp only at hz); (go_simp <;> with_reducible rfl)
              simp only [Act.put]
              try simp only [List.setIfInBounds_toArray]
              refine wpAnyH_take (i := 2) (v := ?_) rfl (by kernel_rfl) (by kernel_rfl) (by kernel_rfl) (fun _ _ _ h => h) (Or.inl ⟨by rfl, ?_⟩) hH0 ?_
              rotate_left
              · intro wz hz; (try dsimp only at hz); (go_simp <;> with_reducible rfl)
              simp only [Act.put]
              try simp only [List.setIfInBounds_toArray]
              refine wpAnyH_take (i := 3) (v := ?_) rfl (by kernel_rfl) (by kernel_rfl) (by kernel_rfl) (fun _ _ _ h => h) (Or.inl ⟨by rfl, ?_⟩) hH0 ?_
              rotate_left
              · intro wz hz; (try dsimp only at hz); (go_simp <;> with_reducible rfl)
              simp only [Act.put]
              try simp only [List.setIfInBounds_toArray]
              refine wpAnyH_take (i := 4) (v := ?_) rfl (by kernel_rfl) (by kernel_rfl) (by kernel_rfl) (fun _ _ _ h => h) (Or.inl ⟨by rfl, ?_⟩) hH0 ?_
              rotate_left
              · intro wz hz; (try dsimp only at hz); (go_simp <;> with_reducible rfl)
              simp only [Act.put]
              try simp only [List.setIfInBounds_toArray]
              refine wpAnyH_take (i := 5) (v := ?_) rfl (by kernel_rfl) (by kernel_rfl) (by kernel_rfl) (fun _ _ _ h => h) (Or.inl ⟨by rfl, ?_⟩) hH0 ?_
              rotate_left
              · intro wz hz; (try dsimp only at hz); (go_simp <;> with_reducible rfl)
              simp only [Act.put]
              try simp only [List.setIfInBounds_toArray]
              apply join_rest
              · intro HJ
                refine wpAnyH_ready (rs := [1, 6]) (by kernel_rfl) (by simp) ?_
                refine AllReadyH.cons (at_list rfl) (fun K hK => ?_) (AllReadyH.cons (at_list rfl) (fun K hK => ?_) AllReadyH.nil)
                · go_simp
                  refine hK.out _ _ (HS.out _ HGD.out) (fun hH1 => ?_)
                  clear hK K
                  (try simp only [Act.put]); (try simp only [List.setIfInBounds_toArray])
                  refine wpAnyH_ready (rs := [6]) (by kernel_rfl) (by simp) ?_
                  refine AllReadyH.cons (at_list rfl) (fun K hK => ?_) AllReadyH.nil
                  go_simp
                  refine hK.out _ _ (HS.out _ (HGD.out.low ((Below.refl _ _).alloc (Nat.le_refl _) _))) (fun hH2 => ?_)
                  clear hK K
                  (try simp only [Act.put]); (try simp only [List.setIfInBounds_toArray])
                  exact HJ
                · go_simp
                  refine hK.out _ _ (HS.out _ (HGD.out.low ((Below.refl _ _).alloc (Nat.le_refl _) _))) (fun hH1 => ?_)
                  clear hK K
                  (try simp only [Act.put]); (try simp only [List.setIfInBounds_toArray])
                  refine wpAnyH_ready (rs := [1]) (by kernel_rfl) (by simp) ?_
                  refine AllReadyH.cons (at_list rfl) (fun K hK => ?_) AllReadyH.nil
                  go_simp
                  refine hK.out _ _ (HS.out _ (HGD.out.low ((Below.refl _ _).alloc (Nat.le_refl _) _))) (fun hH2 => ?_)
                  clear hK K
                  (try simp only [Act.put]); (try simp only [List.setIfInBounds_toArray])
                  rw [Array.setIfInBounds_comm (i := 6) (j := 1) true true (by decide)]
                  exact HJ
              refine wpAnyH_ready (rs := [7]) (by kernel_rfl) (by simp) ?_
              refine AllReadyH.cons (at_list rfl) (fun K hK => ?_) AllReadyH.nil
              refine step_old_z (w := wd) (v := .slice (some ⟨pb, 0, none⟩) 4 n1) (B := w.heap.size) (Z := (kP, .slice UA un uc) :: Z') (p := kP) (u := .slice UA un uc) rfl (.tmp 180) (.tmp 185) rfl rfl HGD.out.z HGD.out.le HGD.out.hu.1 HGD.out.hu.2 rfl rfl HLZ.out ?_
              intro v9 w9 hO9 h09 hk9 ht9
              obtain ⟨A5, n5, rfl⟩ := own5 hO9 HZ4.out
              have h9 := Lib.hid (HGD.out.oldZ h09 hk9 ht9)
              have hf9 := ht9 _ _ _ HFD.out (by decide)
              have hM9 := HMD.out.past ht9
              have q2 : w9.cell? ⟨lf, 0, none⟩ = some (.slice (some ⟨pb, 0, none⟩) 4 n1) := (hf9.cell 0).trans rfl
              have f2 := hf9.frozen 0
              have HV9 := Lib.hid (kv_push hf9 (hO9.p (kz_map HZm.out)))
              have HG9 := Lib.hid (h9.out.far hf9 (Nat.lt_trans HLM.out HLF.out) 0 (.slice A5 5 n5))
              have HM9 := Lib.hid (hM9.far hf9 HLF.out 0 (.slice A5 5 n5))
              clear hO9 h09 hk9 ht9 hf9 hM9
              refine hK.out _ _ (HS.out _ h9.out) (fun hH3 => ?_)
              clear hK K
              (try simp only [Act.put]); (try simp only [List.setIfInBounds_toArray])
              refine wpAnyH_take (i := 8) (v := ?_) rfl (by kernel_rfl) (by kernel_rfl) (by kernel_rfl) (fun _ _ _ h => h) (Or.inl ⟨by rfl, ?_⟩) hH3 ?_
              rotate_left
              · intro wz hz; (try dsimp only at hz); (go_simp <;> with_reducible rfl)
              simp only [Act.put]
              try simp only [List.setIfInBounds_toArray]
              refine wpAnyH_ready (rs := [9]) (by kernel_rfl) (by simp) ?_
              refine AllReadyH.cons (at_list rfl) (fun K hK => ?_) AllReadyH.nil
              go_simp
              refine hK.out _ _ (HS.out _ HG9.out) (fun hH4 => ?_)
              clear hK K
              (try simp only [Act.put]); (try simp only [List.setIfInBounds_toArray])
              refine wpAnyH_done (by kernel_rfl) ?_ _
              generalize w9.setCell ⟨lf, 0, none⟩ (.slice A5 5 n5) = wf at *
              clear hH0 hH3 hH4 q2 f2 h9 HS HGD HMD HFD m1 ml
              go_wp2_with (go_at_call 22; with_reducible refine (chapter_o 3 _).mono ?_; rintro e wt ⟨v1, rfl, hO1, hb1⟩; obtain ⟨gp, tm, tu, rfl, hW⟩ := kw_start hO1 hb1; have HW := Lib.hid hW; clear hO1 hb1 hW)
              go_loopw [15] (fun y W => ∃ (j : Nat) (u : Value), j ≤ 4 ∧ y = .int .i64 j ∧ KW wf wt.heap.size gp tm j u W) (fun y _ => 4 - (intOf y).toNat)
              case atStart => exact ⟨0, _, by omega, rfl, HW.out⟩
              case round =>
                clear HW
                generalize wt.heap.size = lt at *
                obtain ⟨j, u, hj, rfl, hW⟩ := hrel
                by_cases hltj : j < 4
                · have hj1 : (j : Int) < 4 := by omega
                  obtain ⟨tb, tc, rfl⟩ := hW.at
                  have HW := Lib.hid hW
                  have HL : Hid ((List.replicate (j + 1) kU).length + 1 ≤ 1000000) := by show _ ≤ _; rw [List.length_replicate]; omega
                  clear hW
                  go_wp2_with fail
                  have hj0 : (0 : Int) < ((j + 1 : Nat) : Int) := by omega
                  have hj2 : (0 : Int) < (j : Int) + 1 := by omega
                  have hWd := HW.out.low ((Below.refl _ _).drew)
                  have HS : Hid (∀ W : World, W.cell? ⟨lt, 0, none⟩ = some (.slice (some ⟨gp, 0, none⟩) 1 tm) → TkAt W tb 0 kU → (fun w' : World => w'.cell? ⟨lt, 0, none⟩ = some (.slice (some ⟨gp, 0, none⟩) 1 tm) ∧ w'.cell? ⟨tb, 0, none⟩ = some (.int .i64 20) ∧ w'.cell? ⟨tb, 1, none⟩ = some (.int .i64 12) ∧ w'.cell? ⟨tb, 2, none⟩ = some (.int .i64 3) ∧ w'.cell? ⟨tb, 3, none⟩ = some (.int .i64 0) ∧ w'.cell? ⟨tb, 4, none⟩ = some (.int .i64 0) ∧ w'.cell? ⟨tb, 5, none⟩ = some (.int .i64 0) ∧ w'.cell? ⟨tb, 6, none⟩ = some (.int .i64 0) ∧ w'.cell? ⟨tb, 7, none⟩ = some (.int .i64 0)) W) := fun W h1 h2 => ⟨h1, h2⟩
                  refine wp_region_held_drew (S := fun w' => w'.cell? ⟨lt, 0, none⟩ = some (.slice (some ⟨gp, 0, none⟩) 1 tm) ∧ w'.cell? ⟨tb, 0, none⟩ = some (.int .i64 20) ∧ w'.cell? ⟨tb, 1, none⟩ = some (.int .i64 12) ∧ w'.cell? ⟨tb, 2, none⟩ = some (.int .i64 3) ∧ w'.cell? ⟨tb, 3, none⟩ = some (.int .i64 0) ∧ w'.cell? ⟨tb, 4, none⟩ = some (.int .i64 0) ∧ w'.cell? ⟨tb, 5, none⟩ = some (.int .i64 0) ∧ w'.cell? ⟨tb, 6, none⟩ = some (.int .i64 0) ∧ w'.cell? ⟨tb, 7, none⟩ = some (.int .i64 0)) (by kernel_rfl) (HS.out _ hWd.cells.1 hWd.first) (fun hH0 => ?_)
                  generalize hwd : wr.drew = wd at hWd hH0 ⊢
                  clear hwd
                  obtain ⟨-, p2, f2, l1, l2, ln⟩ := hWd.cells
                  have HWD := Lib.hid hWd
                  clear hWd HW
                  refine wpAnyH_take (i := 0) (v := ?_) rfl (by kernel_rfl) (by kernel_rfl) (by kernel_rfl) (fun _ _ _ h => h) (Or.inl ⟨by rfl, ?_⟩) hH0 ?_
                  rotate_left
                  · intro wz hz; (try dsimp only at hz); (go_simp <;> with_reducible rfl)
                  simp only [Act.put]
                  try simp only [List.setIfInBounds_toArray]
                  refine wpAnyH_take (i := 1) (v := ?_) rfl (by kernel_rfl) (by kernel_rfl) (by kernel_rfl) (fun _ _ _ h => h) (Or.inl ⟨by rfl, ?_⟩) hH0 ?_
                  rotate_left
                  · intro wz hz; (try dsimp only at hz); (go_simp <;> with_reducible rfl)
                  simp only [Act.put]
                  try simp only [List.setIfInBounds_toArray]
                  refine wpAnyH_take (i := 2) (v := ?_) rfl (by kernel_rfl) (by kernel_rfl) (by kernel_rfl) (fun _ _ _ h => h) (Or.inl ⟨by rfl, ?_⟩) hH0 ?_
                  rotate_left
                  · intro wz hz; (try dsimp only at hz); (go_simp <;> with_reducible rfl)
                  simp only [Act.put]
                  try simp only [List.setIfInBounds_toArray]
                  refine wpAnyH_take (i := 3) (v := ?_) rfl (by kernel_rfl) (by kernel_rfl) (by kernel_rfl) (fun _ _ _ h => h) (Or.inl ⟨by rfl, ?_⟩) hH0 ?_
                  rotate_left
                  · intro wz hz; (try dsimp only at hz); (go_simp <;> with_reducible rfl)
                  simp only [Act.put]
                  try simp only [List.setIfInBounds_toArray]
                  refine wpAnyH_take (i := 4) (v := ?_) rfl (by kernel_rfl) (by kernel_rfl) (by kernel_rfl) (fun _ _ _ h => h) (Or.inl ⟨by rfl, ?_⟩) hH0 ?_
                  rotate_left
                  · intro wz hz; (try dsimp only at hz); (go_simp <;> with_reducible rfl)
                  simp only [Act.put]
                  try simp only [List.setIfInBounds_toArray]
                  refine wpAnyH_take (i := 5) (v := ?_) rfl (by kernel_rfl) (by kernel_rfl) (by kernel_rfl) (fun _ _ _ h => h) (Or.inl ⟨by rfl, ?_⟩) hH0 ?_
                  rotate_left
                  · intro wz hz; (try dsimp only at hz); (go_simp <;> with_reducible rfl)
                  simp only [Act.put]
                  try simp only [List.setIfInBounds_toArray]
                  refine wpAnyH_take (i := 7) (v := ?_) rfl (by kernel_rfl) (by kernel_rfl) (by kernel_rfl) (fun _ _ _ h => h) (Or.inl ⟨by rfl, ?_⟩) hH0 ?_
                  rotate_left
                  · intro wz hz; (try dsimp only at hz); (go_simp <;> with_reducible rfl)
                  simp only [Act.put]
                  try simp only [List.setIfInBounds_toArray]
                  refine wpAnyH_take (i := 8) (v := ?_) rfl (by kernel_rfl) (by kernel_rfl) (by kernel_rfl) (fun _ _ _ h => h) (Or.inl ⟨by rfl, ?_⟩) hH0 ?_
                  rotate_left
                  · intro wz hz; (try dsimp only at hz); (go_simp <;> with_reducible rfl)
                  simp only [Act.put]
                  try simp only [List.setIfInBounds_toArray]
                  refine wpAnyH_take (i := 9) (v := ?_) rfl (by kernel_rfl) (by kernel_rfl) (by kernel_rfl) (fun _ _ _ h => h) (Or.inl ⟨by rfl, ?_⟩) hH0 ?_
                  rotate_left
                  · intro wz hz; (try dsimp only at hz); (go_simp <;> with_reducible rfl)
                  simp only [Act.put]
                  try simp only [List.setIfInBounds_toArray]
                  refine wpAnyH_take (i := 10) (v := ?_) rfl (by kernel_rfl) (by kernel_rfl) (by kernel_rfl) (fun _ _ _ h => h) (Or.inl ⟨by rfl, ?_⟩) hH0 ?_
                  rotate_left
                  · intro wz hz; (try dsimp only at hz); (go_simp <;> with_reducible rfl)
                  simp only [Act.put]
                  try simp only [List.setIfInBounds_toArray]
                  refine wpAnyH_ready (rs := [6, 11]) (by kernel_rfl) (by simp) ?_
                  refine AllReadyH.cons (at_list rfl) (fun K hK => ?_) (AllReadyH.cons (at_list rfl) (fun K hK => ?_) AllReadyH.nil)
                  · go_simp
                    refine hK.out _ _ (HS.out _ HWD.out.cells.1 HWD.out.first) (fun hH1 => ?_)
                    clear hK K
                    (try simp only [Act.put]); (try simp only [List.setIfInBounds_toArray])
                    refine wpAnyH_ready (rs := [11]) (by kernel_rfl) (by simp) ?_
                    refine AllReadyH.cons (at_list rfl) (fun K hK => ?_) AllReadyH.nil
                    go_simp
                    refine hK.out _ _ (HS.out _ HWD.out.cells.1 HWD.out.first) (fun hH2 => ?_)
                    clear hK K
                    (try simp only [Act.put]); (try simp only [List.setIfInBounds_toArray])
                    refine wpAnyH_take (i := 12) (v := ?_) rfl (by kernel_rfl) (by kernel_rfl) (by kernel_rfl) (fun _ _ _ h => h) (Or.inl ⟨by rfl, ?_⟩) hH2 ?_
                    rotate_left
                    · intro wz hz; (try dsimp only at hz); (go_simp <;> with_reducible rfl)
                    simp only [Act.put]
                    try simp only [List.setIfInBounds_toArray]
                    refine wpAnyH_take (i := 13) (v := ?_) rfl (by kernel_rfl) (by kernel_rfl) (by kernel_rfl) (fun _ _ _ h => h) (Or.inl ⟨by rfl, ?_⟩) hH2 ?_
                    rotate_left
                    · intro wz hz; (try dsimp only at hz); (go_simp <;> with_reducible rfl)
                    simp only [Act.put]
                    try simp only [List.setIfInBounds_toArray]
                    refine wpAnyH_ready (rs := [14]) (by kernel_rfl) (by simp) ?_
                    refine AllReadyH.cons (at_list rfl) (fun K hK => ?_) AllReadyH.nil
                    go_simp
                    refine hK.out _ _ (HS.out _ (HWD.out.low ((Below.refl _ _).alloc (Nat.le_refl _) _)).cells.1 (HWD.out.low ((Below.refl _ _).alloc (Nat.le_refl _) _)).first) (fun hH3 => ?_)
                    clear hK K
                    (try simp only [Act.put]); (try simp only [List.setIfInBounds_toArray])
                    refine wpAnyH_ready (rs := [15]) (by kernel_rfl) (by simp) ?_
                    refine AllReadyH.cons (at_list rfl) (fun K hK => ?_) AllReadyH.nil
                    refine step_old_task (w := wd) (v := .slice (some ⟨tb, 0, none⟩) (j + 1) tc) (B := wf.heap.size) (L := List.replicate (j + 1) kU) (t := kU) rfl (.tmp 199) (.tmp 207) rfl rfl HWD.out.u HWD.out.b.size rfl rfl HL.out ?_
                    intro v9 w9 hO9 h09 hk9 ht9
                    obtain ⟨A9, n9, c9, rfl⟩ := hO9.sl
                    have h9 := Lib.hid (HWD.out.old h09 hk9 ht9)
                    obtain ⟨-, q2, f2, l1, l2, ln⟩ := h9.out.cells
                    have HW9 := Lib.hid (h9.out.push hO9)
                    clear hO9 h09 hk9 ht9
                    refine hK.out _ _ (HS.out _ h9.out.cells.1 h9.out.first) (fun hH5 => ?_)
                    clear hK K
                    (try simp only [Act.put]); (try simp only [List.setIfInBounds_toArray])
                    refine wpAnyH_take (i := 16) (v := ?_) rfl (by kernel_rfl) (by kernel_rfl) (by kernel_rfl) (fun _ _ _ h => h) (Or.inl ⟨by rfl, ?_⟩) hH5 ?_
                    rotate_left
                    · intro wz hz; (try dsimp only at hz); (go_simp <;> with_reducible rfl)
                    simp only [Act.put]
                    try simp only [List.setIfInBounds_toArray]
                    refine wpAnyH_take (i := 17) (v := ?_) rfl (by kernel_rfl) (by kernel_rfl) (by kernel_rfl) (fun _ _ _ h => h) (Or.inl ⟨by rfl, ?_⟩) hH5 ?_
                    rotate_left
                    · intro wz hz; (try dsimp only at hz); (go_simp <;> with_reducible rfl)
                    simp only [Act.put]
                    try simp only [List.setIfInBounds_toArray]
                    refine wpAnyH_ready (rs := [18]) (by kernel_rfl) (by simp) ?_
                    refine AllReadyH.cons (at_list rfl) (fun K hK => ?_) AllReadyH.nil
                    go_simp
                    refine hK.out _ _ (HS.out _ HW9.out.cells.1 h9.out.past) (fun hH6 => ?_)
                    clear hK K
                    (try simp only [Act.put]); (try simp only [List.setIfInBounds_toArray])
                    refine wpAnyH_done (by kernel_rfl) ?_ _
                    go_wp2_with fail
                    go_roundw
                    case rel => exact ⟨j + 1, _, by omega, rfl, HW9.out⟩
                    case measure => simp [intOf]; omega
                  · go_simp
                    refine hK.out _ _ (HS.out _ HWD.out.cells.1 HWD.out.first) (fun hH1 => ?_)
                    clear hK K
                    (try simp only [Act.put]); (try simp only [List.setIfInBounds_toArray])
                    refine wpAnyH_take (i := 12) (v := ?_) rfl (by kernel_rfl) (by kernel_rfl) (by kernel_rfl) (fun _ _ _ h => h) (Or.inl ⟨by rfl, ?_⟩) hH1 ?_
                    rotate_left
                    · intro wz hz; (try dsimp only at hz); (go_simp <;> with_reducible rfl)
                    simp only [Act.put]
                    try simp only [List.setIfInBounds_toArray]
                    refine wpAnyH_take (i := 13) (v := ?_) rfl (by kernel_rfl) (by kernel_rfl) (by kernel_rfl) (fun _ _ _ h => h) (Or.inl ⟨by rfl, ?_⟩) hH1 ?_
                    rotate_left
                    · intro wz hz; (try dsimp only at hz); (go_simp <;> with_reducible rfl)
                    simp only [Act.put]
                    try simp only [List.setIfInBounds_toArray]
                    refine wpAnyH_ready (rs := [6, 14]) (by kernel_rfl) (by simp) ?_
                    refine AllReadyH.cons (at_list rfl) (fun K hK => ?_) (AllReadyH.cons (at_list rfl) (fun K hK => ?_) AllReadyH.nil)
                    · go_simp
                      refine hK.out _ _ (HS.out _ HWD.out.cells.1 HWD.out.first) (fun hH2 => ?_)
                      clear hK K
                      (try simp only [Act.put]); (try simp only [List.setIfInBounds_toArray])
                      refine wpAnyH_ready (rs := [14]) (by kernel_rfl) (by simp) ?_
                      refine AllReadyH.cons (at_list rfl) (fun K hK => ?_) AllReadyH.nil
                      go_simp
                      refine hK.out _ _ (HS.out _ (HWD.out.low ((Below.refl _ _).alloc (Nat.le_refl _) _)).cells.1 (HWD.out.low ((Below.refl _ _).alloc (Nat.le_refl _) _)).first) (fun hH3 => ?_)
                      clear hK K
                      (try simp only [Act.put]); (try simp only [List.setIfInBounds_toArray])
                      refine wpAnyH_ready (rs := [15]) (by kernel_rfl) (by simp) ?_
                      refine AllReadyH.cons (at_list rfl) (fun K hK => ?_) AllReadyH.nil
                      refine step_old_task (w := wd) (v := .slice (some ⟨tb, 0, none⟩) (j + 1) tc) (B := wf.heap.size) (L := List.replicate (j + 1) kU) (t := kU) rfl (.tmp 199) (.tmp 207) rfl rfl HWD.out.u HWD.out.b.size rfl rfl HL.out ?_
                      intro v9 w9 hO9 h09 hk9 ht9
                      obtain ⟨A9, n9, c9, rfl⟩ := hO9.sl
                      have h9 := Lib.hid (HWD.out.old h09 hk9 ht9)
                      obtain ⟨-, q2, f2, l1, l2, ln⟩ := h9.out.cells
                      have HW9 := Lib.hid (h9.out.push hO9)
                      clear hO9 h09 hk9 ht9
                      refine hK.out _ _ (HS.out _ h9.out.cells.1 h9.out.first) (fun hH5 => ?_)
                      clear hK K
                      (try simp only [Act.put]); (try simp only [List.setIfInBounds_toArray])
                      refine wpAnyH_take (i := 16) (v := ?_) rfl (by kernel_rfl) (by kernel_rfl) (by kernel_rfl) (fun _ _ _ h => h) (Or.inl ⟨by rfl, ?_⟩) hH5 ?_
                      rotate_left
                      · intro wz hz; (try dsimp only at hz); (go_simp <;> with_reducible rfl)
                      simp only [Act.put]
                      try simp only [List.setIfInBounds_toArray]
                      refine wpAnyH_take (i := 17) (v := ?_) rfl (by kernel_rfl) (by kernel_rfl) (by kernel_rfl) (fun _ _ _ h => h) (Or.inl ⟨by rfl, ?_⟩) hH5 ?_
                      rotate_left
                      · intro wz hz; (try dsimp only at hz); (go_simp <;> with_reducible rfl)
                      simp only [Act.put]
                      try simp only [List.setIfInBounds_toArray]
                      refine wpAnyH_ready (rs := [18]) (by kernel_rfl) (by simp) ?_
                      refine AllReadyH.cons (at_list rfl) (fun K hK => ?_) AllReadyH.nil
                      go_simp
                      refine hK.out _ _ (HS.out _ HW9.out.cells.1 h9.out.past) (fun hH6 => ?_)
                      clear hK K
                      (try simp only [Act.put]); (try simp only [List.setIfInBounds_toArray])
                      refine wpAnyH_done (by kernel_rfl) ?_ _
                      go_wp2_with fail
                      go_roundw
                      case rel => exact ⟨j + 1, _, by omega, rfl, HW9.out⟩
                      case measure => simp [intOf]; omega
                    · go_simp
                      refine hK.out _ _ (HS.out _ (HWD.out.low ((Below.refl _ _).alloc (Nat.le_refl _) _)).cells.1 (HWD.out.low ((Below.refl _ _).alloc (Nat.le_refl _) _)).first) (fun hH2 => ?_)
                      clear hK K
                      (try simp only [Act.put]); (try simp only [List.setIfInBounds_toArray])
                      refine wpAnyH_ready (rs := [6]) (by kernel_rfl) (by simp) ?_
                      refine AllReadyH.cons (at_list rfl) (fun K hK => ?_) AllReadyH.nil
                      go_simp
                      refine hK.out _ _ (HS.out _ (HWD.out.low ((Below.refl _ _).alloc (Nat.le_refl _) _)).cells.1 (HWD.out.low ((Below.refl _ _).alloc (Nat.le_refl _) _)).first) (fun hH3 => ?_)
                      clear hK K
                      (try simp only [Act.put]); (try simp only [List.setIfInBounds_toArray])
                      refine wpAnyH_ready (rs := [15]) (by kernel_rfl) (by simp) ?_
                      refine AllReadyH.cons (at_list rfl) (fun K hK => ?_) AllReadyH.nil
                      refine step_old_task (w := wd) (v := .slice (some ⟨tb, 0, none⟩) (j + 1) tc) (B := wf.heap.size) (L := List.replicate (j + 1) kU) (t := kU) rfl (.tmp 199) (.tmp 207) rfl rfl HWD.out.u HWD.out.b.size rfl rfl HL.out ?_
                      intro v9 w9 hO9 h09 hk9 ht9
                      obtain ⟨A9, n9, c9, rfl⟩ := hO9.sl
                      have h9 := Lib.hid (HWD.out.old h09 hk9 ht9)
                      obtain ⟨-, q2, f2, l1, l2, ln⟩ := h9.out.cells
                      have HW9 := Lib.hid (h9.out.push hO9)
                      clear hO9 h09 hk9 ht9
                      refine hK.out _ _ (HS.out _ h9.out.cells.1 h9.out.first) (fun hH5 => ?_)
                      clear hK K
                      (try simp only [Act.put]); (try simp only [List.setIfInBounds_toArray])
                      refine wpAnyH_take (i := 16) (v := ?_) rfl (by kernel_rfl) (by kernel_rfl) (by kernel_rfl) (fun _ _ _ h => h) (Or.inl ⟨by rfl, ?_⟩) hH5 ?_
                      rotate_left
                      · intro wz hz; (try dsimp only at hz); (go_simp <;> with_reducible rfl)
                      simp only [Act.put]
                      try simp only [List.setIfInBounds_toArray]
                      refine wpAnyH_take (i := 17) (v := ?_) rfl (by kernel_rfl) (by kernel_rfl) (by kernel_rfl) (fun _ _ _ h => h) (Or.inl ⟨by rfl, ?_⟩) hH5 ?_
                      rotate_left
                      · intro wz hz; (try dsimp only at hz); (go_simp <;> with_reducible rfl)
                      simp only [Act.put]
                      try simp only [List.setIfInBounds_toArray]
                      refine wpAnyH_ready (rs := [18]) (by kernel_rfl) (by simp) ?_
                      refine AllReadyH.cons (at_list rfl) (fun K hK => ?_) AllReadyH.nil
                      go_simp
                      refine hK.out _ _ (HS.out _ HW9.out.cells.1 h9.out.past) (fun hH6 => ?_)
                      clear hK K
                      (try simp only [Act.put]); (try simp only [List.setIfInBounds_toArray])
                      refine wpAnyH_done (by kernel_rfl) ?_ _
                      go_wp2_with fail
                      go_roundw
                      case rel => exact ⟨j + 1, _, by omega, rfl, HW9.out⟩
                      case measure => simp [intOf]; omega
                · obtain rfl : 4 = j := by omega
                  have hj1 : ¬ ((4 : Nat) : Int) < 4 := by omega
                  have HK3 := Lib.hid (k3_start HG9.out HZm.out HM9.out HV9.out hW)
                  have HBW := Lib.hid (below_lift HG9.out.b hW.b HG9.out.b.size)
                  clear HG9 HM9 HV9 hW HZm HZ4 HLZ HLQ HLM HLF
                  obtain ⟨wo, rfl⟩ : ∃ x : World, x = wr := ⟨_, rfl⟩
                  go_wp2_with fail
                  have HO0 : Hid (OddR (wo.heap.size + 1 + 1 + 1 + 1 + 1 + 1 + 1 + 1 + 1 + 1) (oddV wo.heap.size) _ ∧ Below wo.heap.size wo _) := Lib.hid (odd_start wo)
                  go_loopw [17] (fun y W => ∃ i : Nat, i ≤ 11 ∧ y = .int .i64 i ∧ OddR (wo.heap.size + 1 + 1 + 1 + 1 + 1 + 1 + 1 + 1 + 1 + 1) (oddV wo.heap.size) W ∧ K3 lm lf lt pb qb gp n1 n2 n9 n5 tm A9 A5 W ∧ Below w.heap.size w W) (fun y _ => 11 - (intOf y).toNat)
                  case atStart => exact ⟨0, by omega, rfl, HO0.out.1, HK3.out.low HO0.out.2, below_lift HBW.out HO0.out.2 HBW.out.size⟩
                  case round =>
                    clear HO0 HK3 HBW
                    obtain ⟨i, hi, rfl, hO, hK, hB⟩ := hrel
                    generalize wo.heap.size + 1 + 1 + 1 + 1 + 1 + 1 + 1 + 1 + 1 + 1 = bo at *
                    by_cases hltm : i < 11
                    · have hi1 : (i : Int) < 11 := by omega
                      obtain ⟨v, hv, A, n, c, L, rfl, hL, hA, hc, hn, hc9⟩ := hO.r i hltm
                      have e0 : wr.cell? ⟨bo, i, none⟩ = some (.slice A n c) := (hO.b.cell i).trans hv
                      have el : bo < wr.heap.size := hO.b.lt
                      have HO := Lib.hid hO
                      have HK := Lib.hid hK
                      have HB := Lib.hid hB
                      have HL := Lib.hid hL
                      have HA := Lib.hid hA
                      have HC := Lib.hid hc
                      have HN := Lib.hid hn
                      have HC9 := Lib.hid hc9
                      clear hO hK hB hL hA hc hn hc9 hv
                      go_wp2_with (first
                        | (go_at_call 6; with_reducible refine (again_c A n c L _ HL2.out HA.out HC.out HC9.out).mono ?_; rintro e wp2 ⟨rfl, hb2⟩; have HB2 := Lib.hid (below_lift HB1.out hb2 HB1.out.size); clear hb2)
                        | (go_at_call 4; with_reducible refine (cparses_c A n c L _ HL.out HA.out HC.out HN.out).mono ?_; rintro e wp1 ⟨rfl, hb1⟩; have e01 := (hb1.cell (p := ⟨bo, i, none⟩) el).trans e0; have el1 := Nat.lt_of_lt_of_le el hb1.size; have HB1 := Lib.hid hb1; have HL2 := Lib.hid (bytes_low HL.out hb1); clear e0 el hb1))
                      go_roundw
                      case rel => exact ⟨i + 1, by omega, rfl, HO.out.below HB2.out, HK.out.low HB2.out, below_lift HB.out HB2.out HB.out.size⟩
                      case measure => simp [intOf]; omega
                    · obtain rfl : 11 = i := by omega
                      have hi1 : ¬ ((11 : Nat) : Int) < 11 := by omega
                      obtain ⟨x0, x1, x2, x3, x4, x5⟩ := hK.cells
                      have HK0 := Lib.hid hK
                      have HB0 := Lib.hid hB
                      have LM1 := Lib.hid len_many.1
                      have LM2 := Lib.hid len_many.2
                      have LF1 := Lib.hid len_five.1
                      have LF2 := Lib.hid len_five.2
                      have LT1 := Lib.hid len_tasks.1
                      have LT2 := Lib.hid len_tasks.2
                      have ZM := Lib.hid chk_many
                      have ZF := Lib.hid chk_five
                      have ZT := Lib.hid chk_tasks
                      clear hO hK hB
                      go_wp2_with (first
                        | (go_at_call 12; with_reducible refine (check_n (some ⟨gp, 0, none⟩) none tm 0 1 0 _ _ HK6.out.tc LT1.out LT2.out (z := 50) ZT.out).mono ?_; rintro e wz7 ⟨rfl, hb7⟩; have HK7 := Lib.hid (HK6.out.low hb7); have HB7 := Lib.hid (below_lift HB6.out hb7 HB6.out.size); clear x0 x1 x2 x3 x4 x5; obtain ⟨x0, x1, x2, x3, x4, x5⟩ := HK7.out.cells; clear hb7)
                        | (go_at_call 12; with_reducible refine (check_n A5 (some ⟨qb, 0, none⟩) n5 n2 5 8 _ _ HK5.out.fc LF1.out LF2.out (z := 50) ZF.out).mono ?_; rintro e wz6 ⟨rfl, hb6⟩; have HK6 := Lib.hid (HK5.out.low hb6); have HB6 := Lib.hid (below_lift HB5.out hb6 HB5.out.size); clear x0 x1 x2 x3 x4 x5; obtain ⟨x0, x1, x2, x3, x4, x5⟩ := HK6.out.cells; clear hb6)
                        | (go_at_call 12; with_reducible refine (check_n (some ⟨pb, 0, none⟩) A9 n1 n9 4 9 _ _ HK4.out.mc LM1.out LM2.out (z := 50) ZM.out).mono ?_; rintro e wz5 ⟨rfl, hb5⟩; have HK5 := Lib.hid (HK4.out.low hb5); have HB5 := Lib.hid (below_lift HB4.out hb5 HB4.out.size); clear x0 x1 x2 x3 x4 x5; obtain ⟨x0, x1, x2, x3, x4, x5⟩ := HK5.out.cells; clear hb5)
                        | (go_at_call 3; with_reducible refine (cbytes_n (some ⟨gp, 0, none⟩) none tm 0 1 0 _ _ HK3.out.tc LT1.out LT2.out).mono ?_; rintro e wz4 ⟨rfl, hb4⟩; have HK4 := Lib.hid (HK3.out.low hb4); have HB4 := Lib.hid (below_lift HB3.out hb4 HB3.out.size); clear x0 x1 x2 x3 x4 x5; obtain ⟨x0, x1, x2, x3, x4, x5⟩ := HK4.out.cells; clear hb4)
                        | (go_at_call 3; with_reducible refine (cbytes_n A5 (some ⟨qb, 0, none⟩) n5 n2 5 8 _ _ HK2.out.fc LF1.out LF2.out).mono ?_; rintro e wz3 ⟨rfl, hb3⟩; have HK3 := Lib.hid (HK2.out.low hb3); have HB3 := Lib.hid (below_lift HB2.out hb3 HB2.out.size); clear x0 x1 x2 x3 x4 x5; obtain ⟨x0, x1, x2, x3, x4, x5⟩ := HK3.out.cells; clear hb3)
                        | (go_at_call 3; with_reducible refine (cbytes_n (some ⟨pb, 0, none⟩) A9 n1 n9 4 9 _ _ HK1.out.mc LM1.out LM2.out).mono ?_; rintro e wz2 ⟨rfl, hb2⟩; have HK2 := Lib.hid (HK1.out.low hb2); have HB2 := Lib.hid (below_lift HB1.out hb2 HB1.out.size); clear x0 x1 x2 x3 x4 x5; obtain ⟨x0, x1, x2, x3, x4, x5⟩ := HK2.out.cells; clear hb2)
                        | (go_at_call 16; with_reducible refine (works_c _).mono ?_; rintro e wz1 ⟨rfl, hb1⟩; have HK1 := Lib.hid (HK0.out.low hb1); have HB1 := Lib.hid (below_lift HB0.out hb1 HB0.out.size); clear x0 x1 x2 x3 x4 x5; obtain ⟨x0, x1, x2, x3, x4, x5⟩ := HK1.out.cells; clear hb1))
                      go_ret
                      exact ⟨rfl, HB7.out⟩
end Go.Proofs.Ytekcokbpgpeepaa
