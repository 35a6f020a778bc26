/- Layer 5, plain laws: the numbers of a configuration; that what may be has numbers that can be written. -/
import Derived.Test.YtekcokbpgpeepaaCnfF
import Derived.Test.YtekcokbpgpeepaaAppI
import Derived.Test.YtekcokbpgpeepaaPackL
namespace Go.Proofs.Ytekcokbpgpeepaa
set_option linter.unusedVariables false
open Go.RowKit

def partL (p : CP) : List Int := [p.per, p.bud, (p.ts.length : Int)] ++ p.ts.flatMap tL
def numsP (c : Cfg) (k : Nat) : List Int := [(c.ps.length : Int)] ++ (c.ps.take k).flatMap partL
def numsQ (c : Cfg) (k : Nat) : List Int := ([(c.ps.length : Int)] ++ c.ps.flatMap partL) ++ [(c.qs.length : Int)] ++ (c.qs.take k).flatMap qL
def nums (c : Cfg) : List Int := ([(c.ps.length : Int)] ++ c.ps.flatMap partL) ++ [(c.qs.length : Int)] ++ c.qs.flatMap qL
def bytesL (c : Cfg) : List UInt8 := (nums c).flatMap enc
section
variable {α β : Type}
theorem flat_succ {L : List α} {f : α → List β} {k : Nat} {x : α} (hx : L[k]? = some x) : (L.take (k + 1)).flatMap f = (L.take k).flatMap f ++ f x := by
  rw [List.take_add_one, hx, List.flatMap_append]
  simp
theorem flat_len {f : α → List β} {m : Nat} : ∀ (L : List α), (∀ x ∈ L, (f x).length ≤ m) → (L.flatMap f).length ≤ m * L.length
  | [], _ => by simp
  | x :: L, h => by
    have h1 := h x (by simp)
    have h2 := flat_len L fun y hy => h y (by simp [hy])
    rw [List.flatMap_cons, List.length_append, List.length_cons, Nat.mul_add]
    omega
end
theorem numsP_succ {c : Cfg} {k : Nat} {p : CP} (h : c.ps[k]? = some p) : numsP c (k + 1) = numsP c k ++ [p.per, p.bud, (p.ts.length : Int)] ++ p.ts.flatMap tL := by
  unfold numsP
  rw [flat_succ h]
  simp [partL]
theorem numsQ_succ {c : Cfg} {k : Nat} {q : PV} (h : c.qs[k]? = some q) : numsQ c (k + 1) = numsQ c k ++ qL q := by
  unfold numsQ
  rw [flat_succ h]
  simp
theorem numsP_end (c : Cfg) {k : Nat} (h : c.ps.length ≤ k) : numsP c k ++ [(c.qs.length : Int)] = numsQ c 0 := by
  unfold numsP numsQ
  rw [List.take_of_length_le h]
  simp
theorem numsQ_end (c : Cfg) {k : Nat} (h : c.qs.length ≤ k) : numsQ c k = nums c := by
  unfold numsQ nums
  rw [List.take_of_length_le h]
theorem taskB_ok {t : TV} {bud : Int} (h : taskB t bud = true) (hb : bud ≤ 64) : ∀ z ∈ tL t, 0 ≤ z ∧ z ≤ 255 := by
  unfold taskB at h
  simp only [Bool.and_eq_true] at h
  obtain ⟨h1, h2, h3, h4, h5, h6, h7⟩ := h
  have k1 := wi_true h1
  have k2 := wi_true h2
  have k3 := wi_true h3
  have k4 := wi_true h4
  have k5 := wi_true h5
  have k6 : 0 ≤ t.l ∧ t.l ≤ 64 := by
    split at h6
    · simp at h6; omega
    · have := wi_true h6; omega
  have k7 : (0 ≤ t.lg ∧ t.lg ≤ 64) ∧ 0 ≤ t.lk ∧ t.lk ≤ 64 := by
    split at h7
    · simp at h7; omega
    · simp only [Bool.and_eq_true] at h7
      have a := wi_true h7.1
      have b := wi_true h7.2
      have hq : t.b.tdiv t.lg = t.b / t.lg := Int.tdiv_eq_ediv_of_nonneg (by omega)
      have hd : t.b / t.lg ≤ t.b := Int.ediv_le_self _ (by omega)
      rw [hq] at b
      split at a <;> omega
  intro z hz
  simp only [tL, List.mem_cons, List.not_mem_nil, or_false] at hz
  omega
theorem partB_ok {p : CP} (h : partB p = true) : (0 ≤ p.per ∧ p.per ≤ 255) ∧ (0 ≤ p.bud ∧ p.bud ≤ 64) ∧ p.ts.length ≤ 4 ∧ ∀ t ∈ p.ts, ∀ z ∈ tL t, 0 ≤ z ∧ z ≤ 255 := by
  unfold partB at h
  simp only [Bool.and_eq_true, decide_eq_true_eq] at h
  obtain ⟨h1, h2, h3, h4⟩ := h
  have k1 := wi_true h1
  have k2 := wi_true h2
  exact ⟨by omega, by omega, h3, fun t ht => taskB_ok (List.all_eq_true.1 h4 t ht) (by omega)⟩
theorem portB_ok {q : PV} {n : Int} (hn : n ≤ 4) (h : portB q n = true) : ∀ z ∈ qL q, 0 ≤ z ∧ z ≤ 255 := by
  unfold portB at h
  simp only [Bool.and_eq_true] at h
  obtain ⟨h1, h2, h3, h4, h5⟩ := h
  have k2 := wi_true h2
  have k3 := wi_true h3
  have k5 := wi_true h5
  have k1 : (0 ≤ q.k ∧ q.k ≤ 2) ∧ (0 ≤ q.d ∧ q.d ≤ 64) ∧ 0 ≤ q.a ∧ q.a ≤ 64 := by
    split at h1
    · next hk =>
      simp at hk
      simp only [Bool.and_eq_true] at h1
      have := wi_true h1.2
      have := h1.1
      simp at this
      omega
    · split at h1
      · next hk =>
        simp at hk
        simp only [Bool.and_eq_true] at h1
        have := wi_true h1.2
        have := h1.1
        simp at this
        omega
      · cases h1
  intro z hz
  simp only [qL, List.mem_cons, List.not_mem_nil, or_false] at hz
  omega
/-- What a configuration that may be is like. -/
structure May (c : Cfg) : Prop where
  p1 : 1 ≤ c.ps.length
  p4 : c.ps.length ≤ 4
  q8 : c.qs.length ≤ 8
  pt : ∀ p ∈ c.ps, (0 ≤ p.per ∧ p.per ≤ 255) ∧ (0 ≤ p.bud ∧ p.bud ≤ 64) ∧ p.ts.length ≤ 4 ∧ ∀ t ∈ p.ts, ∀ z ∈ tL t, 0 ≤ z ∧ z ≤ 255
  qt : ∀ q ∈ c.qs, ∀ z ∈ qL q, 0 ≤ z ∧ z ≤ 255
theorem may_of {c : Cfg} (h : checkB c = true) : May c := by
  unfold checkB at h
  simp only [Bool.and_eq_true, decide_eq_true_eq] at h
  obtain ⟨h1, h2, h3, h4⟩ := h
  have k1 := wi_true h1
  exact ⟨by omega, by omega, h2, fun p hp => partB_ok (List.all_eq_true.1 h3 p hp), fun q hq => portB_ok (by omega) (List.all_eq_true.1 h4 q hq)⟩
theorem partL_len {p : CP} (h : p.ts.length ≤ 4) : (partL p).length ≤ 35 := by
  have := flat_len (f := tL) (m := 8) p.ts fun t _ => by simp [tL]
  unfold partL
  rw [List.length_append]
  simp only [List.length_cons, List.length_nil]
  omega
theorem numsP_len {c : Cfg} (h : May c) (k : Nat) : (numsP c k).length ≤ 141 := by
  have h1 := flat_len (f := partL) (m := 35) (c.ps.take k) fun p hp => partL_len (h.pt p (List.mem_of_mem_take hp)).2.2.1
  have h2 : (c.ps.take k).length ≤ 4 := by rw [List.length_take]; have := h.p4; omega
  unfold numsP
  rw [List.length_append]
  simp only [List.length_cons, List.length_nil]
  have : 35 * (c.ps.take k).length ≤ 35 * 4 := Nat.mul_le_mul_left _ h2
  omega
theorem numsQ_len {c : Cfg} (h : May c) (k : Nat) : (numsQ c k).length ≤ 190 := by
  have h0 := numsP_len h c.ps.length
  have h1 := flat_len (f := qL) (m := 6) (c.qs.take k) fun q _ => by simp [qL]
  have h2 : (c.qs.take k).length ≤ 8 := by rw [List.length_take]; have := h.q8; omega
  unfold numsP at h0
  rw [List.take_length] at h0
  unfold numsQ
  rw [List.length_append, List.length_append]
  simp only [List.length_cons, List.length_nil]
  have : 6 * (c.qs.take k).length ≤ 6 * 8 := Nat.mul_le_mul_left _ h2
  omega
theorem nums_ok {c : Cfg} (h : May c) : ∀ z ∈ nums c, 0 ≤ z ∧ z ≤ 255 := by
  intro z hz
  have h1 := h.p4
  have h2 := h.q8
  simp only [nums, List.mem_append, List.mem_cons, List.not_mem_nil, or_false, List.mem_flatMap] at hz
  rcases hz with ((rfl | ⟨p, hp, hz⟩) | rfl) | ⟨q, hq, hz⟩
  · omega
  · obtain ⟨k1, k2, k3, k4⟩ := h.pt p hp
    simp only [partL, List.mem_append, List.mem_cons, List.not_mem_nil, or_false, List.mem_flatMap] at hz
    rcases hz with (rfl | rfl | rfl) | ⟨t, ht, hz⟩
    · omega
    · omega
    · omega
    · exact k4 t ht z hz
  · omega
  · exact h.qt q hq z hz
/-- A list as a row. -/
def rowOf (L : List Int) (i : Nat) : Int := L.getD i 0
theorem rowOf_get {L : List Int} {i : Nat} {x : Int} (h : L[i]? = some x) : rowOf L i = x := by
  unfold rowOf
  rw [List.getD_eq_getElem?_getD, h]
  rfl
theorem encT_row (L : List Int) : ∀ k, k ≤ L.length → encT (rowOf L) k = (L.take k).flatMap enc
  | 0, _ => by simp [encT]
  | k + 1, h => by
    have hx : L[k]? = some (L[k]'(by omega)) := List.getElem?_eq_getElem (by omega)
    rw [flat_succ hx, ← encT_row L k (by omega)]
    show encT (rowOf L) k ++ enc (rowOf L k) = _
    rw [rowOf_get hx]
theorem intsAt_row {w : World} {A : Option Addr} {L : List Int} (h : IntsR w A L) : IntsAt w A L.length (rowOf L) := fun h0 => by
  obtain ⟨b, off, hA, hb, hx⟩ := h (by intro e; rw [e] at h0; simp at h0)
  refine ⟨b, off, hA, hb, fun i hi => ?_⟩
  have hi' : L[i]? = some (L[i]'hi) := List.getElem?_eq_getElem hi
  rw [rowOf_get hi']
  exact hx i _ hi'
theorem allOk_nums {c : Cfg} (h : May c) : AllOk (rowOf (nums c)) (nums c).length := fun i hi => by
  have hi' : (nums c)[i]? = some ((nums c)[i]'hi) := List.getElem?_eq_getElem hi
  rw [rowOf_get hi']
  have := nums_ok h _ (List.getElem_mem hi)
  unfold okN
  omega
/-- How Bytes ends. -/
structure BytesQ (c : Cfg) (B : Nat) (w' : World) (e : Ending) : Prop where
  ok : checkB c = true → ∃ v, e = .returned (.tuple #[v, .int .i64 0]) ∧ OwnB w' B v (bytesL c)
  no : checkB c = false → e = .returned (.tuple #[.slice none 0 0, .int .i64 50])
theorem putQ_bytes {c : Cfg} (hc : checkB c = true) {B : Nat} {w' : World} {e : Ending} (h : PutQ (rowOf (nums c)) (nums c).length [] B w' e) : BytesQ c B w' e := by
  refine ⟨fun _ => ?_, fun h0 => by rw [h0] at hc; cases hc⟩
  rcases h with ⟨_, v, h1, h2⟩ | ⟨h1, _⟩
  · refine ⟨v, h1, ?_⟩
    rw [encT_row _ _ (Nat.le_refl _), List.take_length, List.nil_append] at h2
    exact h2
  · exact absurd (allOk_nums (may_of hc)) h1
end Go.Proofs.Ytekcokbpgpeepaa
