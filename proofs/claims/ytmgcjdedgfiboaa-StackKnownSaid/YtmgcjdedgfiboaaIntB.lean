/- Numbers in memory: a slice that came in, rows of the call's own; EqInts, CopyInts, slices.Clone, Index, Contains. -/
import Derived.Test.YtmgcjdedgfiboaaApp
import Derived.Lib.SliceRun
import Derived.Laws.IdiomStrings
import Derived.Deep.AppendSrc
namespace Go.Proofs.Ytmgcjdedgfiboaa
set_option linter.unusedVariables false
open Go.RowKit

/-- A slice value that reads as a list of numbers. -/
def IntsR (w : World) (A : Option Addr) (L : List Int) : Prop := L ≠ [] → ∃ b off, A = some ⟨b, off, none⟩ ∧ b < w.heap.size ∧ ∀ i x, L[i]? = some x → w.cell? ⟨b, off + i, none⟩ = some (.int .i64 x)
def ics (L : List Int) : List Value := L.map fun b => .int .i64 b
theorem ics_length (L : List Int) : (ics L).length = L.length := by simp [ics]
theorem ics_append (L M : List Int) : ics (L ++ M) = ics L ++ ics M := by simp [ics]
theorem ics_one (L : List Int) : ∀ u ∈ ics L, u.oneCell' = true := by
  intro u hu
  simp only [ics, List.mem_map] at hu
  obtain ⟨b, _, rfl⟩ := hu
  rfl
theorem ics_get {L : List Int} {i : Nat} {x : Int} (h : L[i]? = some x) : (ics L)[i]? = some (.int .i64 x) := by simp [ics, h]
theorem ics_back {L : List Int} {i : Nat} {u : Value} (h : (ics L)[i]? = some u) : ∃ x, L[i]? = some x ∧ u = .int .i64 x := by
  simp only [ics, List.getElem?_map, Option.map_eq_some_iff] at h
  obtain ⟨x, h1, h2⟩ := h
  exact ⟨x, h1, h2.symm⟩
theorem add_at (b off k : Nat) : (⟨b, off, none⟩ : Addr).add k = ⟨b, off + k, none⟩ := by
  unfold Addr.add
  split
  · next h0 => subst h0; rfl
  · rfl
section
variable {w w' : World} {A : Option Addr} {L M : List Int} {B : Nat} {v : Value}
theorem IntsR.below (h : IntsR w A L) (hB : Below w.heap.size w w') : IntsR w' A L := fun hL => by
  obtain ⟨b, off, hA, hb, hx⟩ := h hL
  exact ⟨b, off, hA, Nat.lt_of_lt_of_le hb hB.size, fun i x hi => (hB.cell (p := ⟨b, off + i, none⟩) hb).trans (hx i x hi)⟩
theorem IntsR.src {c : Nat} (h : IntsR w A L) (hA : A = none → c = 0) : SrcR w 1 A L.length c (ics L) := by
  refine ⟨by simp [ics_length], ?_⟩
  by_cases hL : L = []
  · subst hL
    cases A with
    | none => exact .inl ⟨rfl, rfl, hA rfl⟩
    | some a => exact .inr ⟨a, rfl, fun j u hj => by simp [ics] at hj⟩
  · obtain ⟨b, off, rfl, _, hx⟩ := h hL
    refine .inr ⟨_, rfl, fun j u hj => ?_⟩
    obtain ⟨x, hi, rfl⟩ := ics_back hj
    rw [add_at]
    exact hx j x hi
theorem IntsR.nil : IntsR w A [] := fun h => absurd rfl h
theorem IntsR.take (h : IntsR w A L) (k : Nat) : IntsR w A (L.take k) := fun hL => by
  obtain ⟨b, off, hA, hb, hx⟩ := h (by intro e; subst e; simp at hL)
  refine ⟨b, off, hA, hb, fun i x hi => hx i x ?_⟩
  rw [List.getElem?_take] at hi
  split at hi
  · exact hi
  · cases hi
/-- A row of the call's own, from block B on. -/
def OwnI (w : World) (B : Nat) (v : Value) (L : List Int) : Prop := w.ownsRow B 3 1 v L.length (ics L)
theorem own_below {base size n : Nat} {e : TypeId} {xs : List Value} (h : w.ownsRow base e size v n xs) (k : Below w.heap.size w w') : w'.ownsRow base e size v n xs := by
  obtain ⟨h1, h2⟩ := h
  refine ⟨h1, ?_⟩
  rcases h2 with h2 | ⟨g, cap, cur, e1, e0, e3⟩
  · exact .inl h2
  · have hb := e3.1
    have hlt : g < w.heap.size := by
      rcases Nat.lt_or_ge g w.heap.size with hlt | hge
      · exact hlt
      · rw [Array.getElem?_eq_none hge] at hb; cases hb
    exact .inr ⟨g, cap, cur, e1, e0, (k.block g hlt).trans hb, e3.2⟩
theorem OwnI.below (h : OwnI w B v L) (k : Below w.heap.size w w') : OwnI w' B v L := own_below h k
theorem OwnI.of {n : Nat} (h : w.ownsRow B 3 1 v n (ics L)) : OwnI w B v L := by
  have hn : n = L.length := by have := h.1; rw [ics_length] at this; omega
  subst hn
  exact h
theorem OwnI.mono {B' : Nat} (h : OwnI w B v L) (hB : B' ≤ B) : OwnI w B' v L := by
  obtain ⟨h1, h2⟩ := h
  refine ⟨h1, ?_⟩
  rcases h2 with h2 | ⟨g, cap, cur, e1, e0, e3⟩
  · exact .inl h2
  · exact .inr ⟨g, cap, cur, e1, by omega, e3⟩
theorem OwnI.nil : OwnI w B (.slice none 0 0) [] := own_none w B 1 _
/-- Its form. -/
theorem OwnI.form (h : OwnI w B v L) : ∃ A c, v = .slice A L.length c ∧ L.length ≤ c ∧ (A = none → c = 0) ∧ IntsR w A L ∧ c ≤ 9223372036854775807 ∧ (∀ a, A = some a → ∃ g cur, a = ⟨g, 0, none⟩ ∧ B ≤ g ∧ Blk w g 3 cur ∧ cur.size = c) := by
  obtain ⟨A, c, rfl, h1, h2, h3, h4⟩ := own_form h
  refine ⟨A, c, rfl, h1, fun e => (h3 e).2, fun hL => ?_, by simpa [maxLen] using h2, fun a ha => ?_⟩
  · cases A with
    | none => exact absurd (List.eq_nil_of_length_eq_zero (h3 rfl).1) hL
    | some a =>
      obtain ⟨g, cur, rfl, hg, hb, hs, ht⟩ := h4 a rfl
      exact ⟨g, 0, rfl, hb.lt, fun i x hi => by rw [hb.cell, Nat.zero_add]; exact take_at ht (ics_get hi)⟩
  · obtain ⟨g, cur, rfl, hg, hb, hs, ht⟩ := h4 a ha
    exact ⟨g, cur, rfl, hg, hb, by omega⟩
end
/-- A source that was made last. -/
theorem intsR_new {w : World} {cs : Array Value} {t : TypeId} {L : List Int} (h : cs.toList = ics L) : IntsR (w.alloc (.cells cs t)) (some ⟨w.heap.size, 0, none⟩) L := fun _ => by
  refine ⟨_, 0, rfl, by simp, fun i x hi => ?_⟩
  have hb := Blk.new w t cs
  rw [hb.cell, Nat.zero_add, ← Array.getElem?_toList, h]
  exact ics_get hi
theorem int_info : (Try.prog.info? 3).map (fun i => (i.zero, i.size, i.bytes)) = some (some (.int .i64 0), 1, 8) := by kernel_rfl
theorem info_parts' {P : Program} {t : TypeId} {z : Value} {s b : Nat} (h : (P.info? t).map (fun i => (i.zero, i.size, i.bytes)) = some (some z, s, b)) : ∃ i, P.info? t = some i ∧ i.zero = some z ∧ i.size = s ∧ i.bytes = b := by
  cases hi : P.info? t with
  | none => rw [hi] at h; cases h
  | some i =>
    rw [hi] at h
    simp only [Option.map_some, Option.some.injEq, Prod.mk.injEq] at h
    exact ⟨i, rfl, h.1, h.2.1, h.2.2⟩
/-- R.EqInts. -/
theorem eqints_c (A : Option Addr) (n c : Nat) (L : List Int) (A' : Option Addr) (n' c' : Nat) (L' : List Int) (w : World) (h : n = L.length ∧ IntsR w A L) (h' : n' = L'.length ∧ IntsR w A' L') (hm : L.length ≤ 17592186044416) :
    Calls Try.prog 23 #[.slice A n c, .slice A' n' c'] w fun e w' => e = .returned (.bool (decide (L = L'))) ∧ Below w.heap.size w w' := by
  obtain ⟨rfl, hr⟩ := h
  obtain ⟨rfl, hr'⟩ := h'
  have HR := Lib.hid hr
  have HR' := Lib.hid hr'
  clear hr hr'
  by_cases hl : L.length = L'.length
  · have hb : ((L.length : Int) != (L'.length : Int)) = false := by simp [hl]
    have HL := Lib.hid hl
    clear hl
    go_enter Try.func23, Try.ntmps23
    go_wp2
    go_loopw [5] (fun x wr => ∃ k : Nat, x = .int .i64 k ∧ Hid (k ≤ L.length ∧ L.take k = L'.take k) ∧ Below w.heap.size w wr) (fun x _ => L.length - (intOf x).toNat)
    case atStart => exact ⟨0, rfl, Lib.hid ⟨Nat.zero_le _, rfl⟩, Below.refl _ _⟩
    case round =>
      obtain ⟨k, rfl, HK, hB⟩ := hrel
      by_cases hlt : k < L.length
      · have hltI : decide ((k : Int) < (L.length : Int)) = true := by simp; omega
        obtain ⟨x, hx⟩ : ∃ x, L[k]? = some x := ⟨_, List.getElem?_eq_getElem hlt⟩
        obtain ⟨y, hy⟩ : ∃ x, L'[k]? = some x := ⟨_, List.getElem?_eq_getElem (HL.out ▸ hlt)⟩
        obtain ⟨b, off, rfl, hbl, hc⟩ := HR.out (by intro e; rw [e] at hx; cases hx)
        obtain ⟨b', off', rfl, hbl', hc'⟩ := HR'.out (by intro e; rw [e] at hy; cases hy)
        have c1 : wr.cell? ⟨b, off + k, none⟩ = some (.int .i64 x) := (hB.cell hbl).trans (hc k x hx)
        have c2 : wr.cell? ⟨b', off' + k, none⟩ = some (.int .i64 y) := (hB.cell hbl').trans (hc' k y hy)
        have hk1 : (k : Int) < (L.length : Int) := by omega
        have hk2 : (k : Int) < (L'.length : Int) := by have := HL.out; omega
        have hw : wrap64 ((k : Int) + 1) = ((k + 1 : Nat) : Int) := by rw [IntWalk.wrap64_in _ (by omega)]; omega
        have HX := Lib.hid hx
        have HY := Lib.hid hy
        clear hx hy hc hc'
        go_wp2_with fail
        go_quiet (fail)
        by_cases hxy : x = y
        · have hne : (x != y) = false := by simp [hxy]
          have HXY := Lib.hid hxy
          clear hxy
          go_wp2
          go_roundw
          case rel =>
            refine ⟨k + 1, rfl, Lib.hid ⟨by omega, ?_⟩, below_drewN hB _⟩
            rw [List.take_add_one, List.take_add_one, HX.out, HY.out, HK.out.2, HXY.out]
          case measure => simp [intOf]; omega
        · have hne : (x != y) = true := by simp [hxy]
          have HXY := Lib.hid hxy
          clear hxy
          go_wp2
          go_ret
          refine ⟨ret_bool (decide_eq_false ?_).symm, below_drewN hB _⟩
          intro e
          have h1 := HX.out
          rw [e, HY.out] at h1
          exact HXY.out (Option.some.inj h1).symm
      · have hltI : decide ((k : Int) < (L.length : Int)) = false := by simp; omega
        go_wp2
        go_ret
        refine ⟨ret_bool (decide_eq_true ?_).symm, hB⟩
        have h1 := HK.out.2
        rwa [List.take_of_length_le (by omega), List.take_of_length_le (by have := HL.out; omega)] at h1
  · have hb : ((L.length : Int) != (L'.length : Int)) = true := by simp; omega
    have HL := Lib.hid hl
    clear hl
    go_enter Try.func23, Try.ntmps23
    go_wp2
    go_ret
    exact ⟨ret_bool (decide_eq_false fun e => HL.out (by rw [e])).symm, Below.refl _ _⟩
/-- slices.Index: the first place, or -1. -/
def idxOf (L : List Int) (p : Int) : Int := match L.findIdx? (· == p) with
  | some k => k
  | none => -1
end Go.Proofs.Ytmgcjdedgfiboaa
