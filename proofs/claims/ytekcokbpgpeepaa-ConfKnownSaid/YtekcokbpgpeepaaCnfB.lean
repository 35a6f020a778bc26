/- Layer 5: a configuration in memory. -/
import Derived.Test.YtekcokbpgpeepaaCnfA
namespace Go.Proofs.Ytekcokbpgpeepaa
set_option linter.unusedVariables false
open Go.RowKit

/-- A port. -/
structure PV where
  k : Int
  f : Int
  t : Int
  s : Int
  d : Int
  a : Int
def qL (q : PV) : List Int := [q.k, q.f, q.t, q.s, q.d, q.a]
/-- A partition. -/
structure CP where
  per : Int
  bud : Int
  ts : List TV
/-- A configuration. -/
structure Cfg where
  ps : List CP
  qs : List PV
def TkAt (w : World) (b o : Nat) (t : TV) : Prop :=
  w.cell? ⟨b, o, none⟩ = some (.int .i64 t.p) ∧ w.cell? ⟨b, o + 1, none⟩ = some (.int .i64 t.d) ∧ w.cell? ⟨b, o + 2, none⟩ = some (.int .i64 t.b) ∧ w.cell? ⟨b, o + 3, none⟩ = some (.int .i64 t.ls) ∧
  w.cell? ⟨b, o + 4, none⟩ = some (.int .i64 t.l) ∧ w.cell? ⟨b, o + 5, none⟩ = some (.int .i64 t.g) ∧ w.cell? ⟨b, o + 6, none⟩ = some (.int .i64 t.lg) ∧ w.cell? ⟨b, o + 7, none⟩ = some (.int .i64 t.lk)
theorem TkAt.keep {w w' : World} {b o : Nat} {t : TV} (h : TkAt w b o t) (hb : ∀ p : Addr, p.block = b → w'.cell? p = w.cell? p) : TkAt w' b o t := by
  obtain ⟨h0, h1, h2, h3, h4, h5, h6, h7⟩ := h
  exact ⟨(hb _ rfl).trans h0, (hb _ rfl).trans h1, (hb _ rfl).trans h2, (hb _ rfl).trans h3, (hb _ rfl).trans h4, (hb _ rfl).trans h5, (hb _ rfl).trans h6, (hb _ rfl).trans h7⟩
def PtAt (w : World) (b o : Nat) (q : PV) : Prop :=
  w.cell? ⟨b, o, none⟩ = some (.int .i64 q.k) ∧ w.cell? ⟨b, o + 1, none⟩ = some (.int .i64 q.f) ∧ w.cell? ⟨b, o + 2, none⟩ = some (.int .i64 q.t) ∧ w.cell? ⟨b, o + 3, none⟩ = some (.int .i64 q.s) ∧
  w.cell? ⟨b, o + 4, none⟩ = some (.int .i64 q.d) ∧ w.cell? ⟨b, o + 5, none⟩ = some (.int .i64 q.a)
theorem PtAt.keep {w w' : World} {b o : Nat} {q : PV} (h : PtAt w b o q) (hb : ∀ p : Addr, p.block = b → w'.cell? p = w.cell? p) : PtAt w' b o q := by
  obtain ⟨h0, h1, h2, h3, h4, h5⟩ := h
  exact ⟨(hb _ rfl).trans h0, (hb _ rfl).trans h1, (hb _ rfl).trans h2, (hb _ rfl).trans h3, (hb _ rfl).trans h4, (hb _ rfl).trans h5⟩
/-- A slice value's address that holds tasks. -/
def TksAt (w : World) (A : Option Addr) (L : List TV) : Prop := L ≠ [] → ∃ b off, A = some ⟨b, off, none⟩ ∧ b < w.heap.size ∧ ∀ (i : Nat) t, L[i]? = some t → TkAt w b (off + i * 8) t
def PtsAt (w : World) (A : Option Addr) (L : List PV) : Prop := L ≠ [] → ∃ b off, A = some ⟨b, off, none⟩ ∧ b < w.heap.size ∧ ∀ (i : Nat) q, L[i]? = some q → PtAt w b (off + i * 6) q
section
variable {w w' : World} {A : Option Addr}
theorem TksAt.nil : TksAt w A [] := fun h => absurd rfl h
theorem PtsAt.nil : PtsAt w A [] := fun h => absurd rfl h
theorem TksAt.below {L : List TV} (h : TksAt w A L) (k : Below w.heap.size w w') : TksAt w' A L := fun hL => by
  obtain ⟨b, off, hA, hb, hx⟩ := h hL
  exact ⟨b, off, hA, Nat.lt_of_lt_of_le hb k.size, fun i t hi => (hx i t hi).keep fun p hp => k.cell (by rw [hp]; exact hb)⟩
theorem PtsAt.below {L : List PV} (h : PtsAt w A L) (k : Below w.heap.size w w') : PtsAt w' A L := fun hL => by
  obtain ⟨b, off, hA, hb, hx⟩ := h hL
  exact ⟨b, off, hA, Nat.lt_of_lt_of_le hb k.size, fun i t hi => (hx i t hi).keep fun p hp => k.cell (by rw [hp]; exact hb)⟩
end
/-- How many tasks a slice may hold. -/
def big : Nat := 2199023255552
/-- The value of a row of tasks. -/
structure TkS (w : World) (v : Value) (L : List TV) : Prop where
  ex : ∃ A c, v = .slice A L.length c ∧ L.length ≤ c ∧ (A = none → c = 0) ∧ TksAt w A L
  sm : L.length ≤ 2199023255552
theorem TkS.below {w w' : World} {v : Value} {L : List TV} (h : TkS w v L) (k : Below w.heap.size w w') : TkS w' v L := by
  obtain ⟨⟨A, c, h1, h2, h3, h4⟩, h5⟩ := h
  exact ⟨⟨A, c, h1, h2, h3, h4.below k⟩, h5⟩
/-- A partition in memory. -/
def CpAt (w : World) (b o : Nat) (p : CP) : Prop :=
  w.cell? ⟨b, o, none⟩ = some (.int .i64 p.per) ∧ w.cell? ⟨b, o + 1, none⟩ = some (.int .i64 p.bud) ∧ ∃ v, w.cell? ⟨b, o + 2, none⟩ = some v ∧ TkS w v p.ts
def CpsAt (w : World) (A : Option Addr) (L : List CP) : Prop := L ≠ [] → ∃ b off, A = some ⟨b, off, none⟩ ∧ b < w.heap.size ∧ ∀ (i : Nat) p, L[i]? = some p → CpAt w b (off + i * 3) p
theorem CpsAt.nil {w : World} {A : Option Addr} : CpsAt w A [] := fun h => absurd rfl h
theorem CpsAt.below {w w' : World} {A : Option Addr} {L : List CP} (h : CpsAt w A L) (k : Below w.heap.size w w') : CpsAt w' A L := fun hL => by
  obtain ⟨b, off, hA, hb, hx⟩ := h hL
  refine ⟨b, off, hA, Nat.lt_of_lt_of_le hb k.size, fun i t hi => ?_⟩
  obtain ⟨h1, h2, v, h3, h4⟩ := hx i t hi
  exact ⟨(k.cell (p := ⟨b, _, none⟩) hb).trans h1, (k.cell (p := ⟨b, _, none⟩) hb).trans h2, v, (k.cell (p := ⟨b, _, none⟩) hb).trans h3, h4.below k⟩
/-- A configuration: its two slices. -/
structure CfA (w : World) (A : Option Addr) (n1 : Nat) (A2 : Option Addr) (n2 : Nat) (c : Cfg) : Prop where
  ps : CpsAt w A c.ps
  qs : PtsAt w A2 c.qs
  l1 : c.ps.length ≤ n1
  l2 : c.qs.length ≤ n2
  a1 : A = none → n1 = 0
  a2 : A2 = none → n2 = 0
  s1 : c.ps.length ≤ 3518437208883
  s2 : c.qs.length ≤ 2932031007402
theorem CfA.below {w w' : World} {A A2 : Option Addr} {n1 n2 : Nat} {c : Cfg} (h : CfA w A n1 A2 n2 c) (k : Below w.heap.size w w') : CfA w' A n1 A2 n2 c :=
  ⟨h.ps.below k, h.qs.below k, h.l1, h.l2, h.a1, h.a2, h.s1, h.s2⟩
/-- What an index of a predicate over a list is. -/
def IdxB {α : Type} (L : List α) (P : α → Bool) (z : Int) : Prop := (z = -1 ∧ L.all P = true) ∨ ∃ k : Nat, z = k ∧ L.all P = false
theorem all_succ {α : Type} {L : List α} {P : α → Bool} {k : Nat} {x : α} (h : (L.take k).all P = true) (hx : L[k]? = some x) (hp : P x = true) : (L.take (k + 1)).all P = true := by
  rw [List.take_add_one, hx, List.all_append, h]
  simp [hp]
theorem all_end {α : Type} {L : List α} {P : α → Bool} {k : Nat} (h : (L.take k).all P = true) (hk : L.length ≤ k) : L.all P = true := by rwa [List.take_of_length_le hk] at h
theorem all_not {α : Type} {L : List α} {P : α → Bool} {k : Nat} {x : α} (hx : L[k]? = some x) (hp : P x = false) : L.all P = false := by
  rw [Bool.eq_false_iff]
  intro h
  have := List.all_eq_true.1 h x (List.mem_of_getElem? hx)
  rw [hp] at this
  cases this
def partB (p : CP) : Bool := wi p.per 1 64 && (wi p.bud 1 p.per && (decide (p.ts.length ≤ 4) && p.ts.all fun t => taskB t p.bud))
def portB (q : PV) (n : Int) : Bool := (if (q.k == 1) = true then q.d == 0 && wi q.a 1 64 else if (q.k == 2) = true then q.a == 0 && wi q.d 1 4 else false) && (wi q.f 0 (n - 1) && (wi q.t 0 (n - 1) && (q.f != q.t && wi q.s 1 16)))
def checkB (c : Cfg) : Bool := wi c.ps.length 1 4 && (decide (c.qs.length ≤ 8) && (c.ps.all partB && c.qs.all fun q => portB q c.ps.length))
def checkE (c : Cfg) : Int := if checkB c then 0 else 50
end Go.Proofs.Ytekcokbpgpeepaa
