/- Bytes in memory: a slice that came in, rows of the call's own; EqBytes, CopyBytes, slices.Clone. -/
import Derived.Test.YtekcokbpgpeepaaApp
import Derived.Lib.SliceRun
import Derived.Laws.IdiomStrings
import Derived.Deep.AppendSrc
namespace Go.Proofs.Ytekcokbpgpeepaa
set_option linter.unusedVariables false
open Go.RowKit

/-- A slice value that reads as a list of bytes. -/
def BytesR (w : World) (A : Option Addr) (L : List UInt8) : Prop := L ≠ [] → ∃ b off, A = some ⟨b, off, none⟩ ∧ b < w.heap.size ∧ ∀ i x, L[i]? = some x → w.cell? ⟨b, off + i, none⟩ = some (.int .u8 (x.toNat : Int))
def bcs (L : List UInt8) : List Value := L.map fun b => .int .u8 (b.toNat : Int)
theorem bcs_length (L : List UInt8) : (bcs L).length = L.length := by simp [bcs]
theorem bcs_append (L M : List UInt8) : bcs (L ++ M) = bcs L ++ bcs M := by simp [bcs]
theorem bcs_one (L : List UInt8) : ∀ u ∈ bcs L, u.oneCell' = true := by
  intro u hu
  simp only [bcs, List.mem_map] at hu
  obtain ⟨b, _, rfl⟩ := hu
  rfl
theorem bcs_get {L : List UInt8} {i : Nat} {x : UInt8} (h : L[i]? = some x) : (bcs L)[i]? = some (.int .u8 (x.toNat : Int)) := by simp [bcs, h]
theorem bcs_back {L : List UInt8} {i : Nat} {u : Value} (h : (bcs L)[i]? = some u) : ∃ x, L[i]? = some x ∧ u = .int .u8 (x.toNat : Int) := by
  simp only [bcs, List.getElem?_map, Option.map_eq_some_iff] at h
  obtain ⟨x, h1, h2⟩ := h
  exact ⟨x, h1, h2.symm⟩
theorem add_at (b off k : Nat) : (⟨b, off, none⟩ : Addr).add k = ⟨b, off + k, none⟩ := by
  unfold Addr.add
  split
  · next h0 => subst h0; rfl
  · rfl
section
variable {w w' : World} {A : Option Addr} {L M : List UInt8} {B : Nat} {v : Value}
theorem BytesR.below (h : BytesR w A L) (hB : Below w.heap.size w w') : BytesR w' A L := fun hL => by
  obtain ⟨b, off, hA, hb, hx⟩ := h hL
  exact ⟨b, off, hA, Nat.lt_of_lt_of_le hb hB.size, fun i x hi => (hB.cell (p := ⟨b, off + i, none⟩) hb).trans (hx i x hi)⟩
theorem BytesR.src {c : Nat} (h : BytesR w A L) (hA : A = none → c = 0) : SrcR w 1 A L.length c (bcs L) := by
  refine ⟨by simp [bcs_length], ?_⟩
  by_cases hL : L = []
  · subst hL
    cases A with
    | none => exact .inl ⟨rfl, rfl, hA rfl⟩
    | some a => exact .inr ⟨a, rfl, fun j u hj => by simp [bcs] at hj⟩
  · obtain ⟨b, off, rfl, _, hx⟩ := h hL
    refine .inr ⟨_, rfl, fun j u hj => ?_⟩
    obtain ⟨x, hi, rfl⟩ := bcs_back hj
    rw [add_at]
    exact hx j x hi
theorem BytesR.nil : BytesR w A [] := fun h => absurd rfl h
theorem BytesR.take (h : BytesR w A L) (k : Nat) : BytesR w A (L.take k) := fun hL => by
  obtain ⟨b, off, hA, hb, hx⟩ := h (by intro e; subst e; simp at hL)
  refine ⟨b, off, hA, hb, fun i x hi => hx i x ?_⟩
  rw [List.getElem?_take] at hi
  split at hi
  · exact hi
  · cases hi
/-- A row of the call's own, from block B on. -/
def OwnB (w : World) (B : Nat) (v : Value) (L : List UInt8) : Prop := w.ownsRow B 5 1 v L.length (bcs L)
theorem own_below {base size n : Nat} {e : TypeId} {xs : List Value} (h : w.ownsRow base e size v n xs) (k : Below w.heap.size w w') : w'.ownsRow base e size v n xs := by
  obtain ⟨h1, h2⟩ := h
  refine ⟨h1, ?_⟩
  rcases h2 with h2 | ⟨g, cap, cur, e1, e0, e3⟩
  · exact .inl h2
  · have hb := e3.1
    have hlt : g < w.heap.size := by
      rcases Nat.lt_or_ge g w.heap.size with hlt | hge
      · exact hlt
      · rw [Array.getElem?_eq_none hge] at hb; cases hb
    exact .inr ⟨g, cap, cur, e1, e0, (k.block g hlt).trans hb, e3.2⟩
theorem OwnB.below (h : OwnB w B v L) (k : Below w.heap.size w w') : OwnB w' B v L := own_below h k
theorem OwnB.of {n : Nat} (h : w.ownsRow B 5 1 v n (bcs L)) : OwnB w B v L := by
  have hn : n = L.length := by have := h.1; rw [bcs_length] at this; omega
  subst hn
  exact h
theorem OwnB.mono {B' : Nat} (h : OwnB w B v L) (hB : B' ≤ B) : OwnB w B' v L := by
  obtain ⟨h1, h2⟩ := h
  refine ⟨h1, ?_⟩
  rcases h2 with h2 | ⟨g, cap, cur, e1, e0, e3⟩
  · exact .inl h2
  · exact .inr ⟨g, cap, cur, e1, by omega, e3⟩
theorem OwnB.nil : OwnB w B (.slice none 0 0) [] := own_none w B 1 _
/-- Its form. -/
theorem OwnB.form (h : OwnB w B v L) : ∃ A c, v = .slice A L.length c ∧ L.length ≤ c ∧ (A = none → c = 0) ∧ BytesR w A L ∧ c ≤ 9223372036854775807 ∧ (∀ a, A = some a → ∃ g cur, a = ⟨g, 0, none⟩ ∧ B ≤ g ∧ Blk w g 5 cur ∧ cur.size = c) := by
  obtain ⟨A, c, rfl, h1, h2, h3, h4⟩ := own_form h
  refine ⟨A, c, rfl, h1, fun e => (h3 e).2, fun hL => ?_, by simpa [maxLen] using h2, fun a ha => ?_⟩
  · cases A with
    | none => exact absurd (List.eq_nil_of_length_eq_zero (h3 rfl).1) hL
    | some a =>
      obtain ⟨g, cur, rfl, hg, hb, hs, ht⟩ := h4 a rfl
      exact ⟨g, 0, rfl, hb.lt, fun i x hi => by rw [hb.cell, Nat.zero_add]; exact take_at ht (bcs_get hi)⟩
  · obtain ⟨g, cur, rfl, hg, hb, hs, ht⟩ := h4 a ha
    exact ⟨g, cur, rfl, hg, hb, by omega⟩
end
/-- A source that was made last. -/
theorem bytesR_new {w : World} {cs : Array Value} {t : TypeId} {L : List UInt8} (h : cs.toList = bcs L) : BytesR (w.alloc (.cells cs t)) (some ⟨w.heap.size, 0, none⟩) L := fun _ => by
  refine ⟨_, 0, rfl, by simp, fun i x hi => ?_⟩
  have hb := Blk.new w t cs
  rw [hb.cell, Nat.zero_add, ← Array.getElem?_toList, h]
  exact bcs_get hi
theorem byte_info : (Try.prog.info? 5).map (fun i => (i.zero, i.size, i.bytes)) = some (some (.int .u8 0), 1, 1) := by kernel_rfl
/-- A slice of bytes as a string. -/
theorem run_string (A : Option Addr) (n c : Nat) (L : List UInt8) (w : World) (hn : n = L.length) (h : BytesR w A L) :
    (convert 27 9 (.slice A n c)).run Try.prog w = .ok (.string ⟨L.toArray⟩) w := by
  subst hn
  by_cases hL : L = []
  · subst hL
    cases A with
    | none => show (convert 27 9 (.slice none 0 c)).run Try.prog w = _; rw [run_convert_bytes_string w 27 9 5 none 0 c Try.underlying27 Try.underlying5 Try.underlying9]; rfl
    | some a => exact run_convert_bytes_back w _ _ _ a c [] Try.underlying27 Try.underlying5 Try.underlying9 (fun j hj => by cases hj)
  · obtain ⟨b, off, rfl, hb, hx⟩ := h hL
    refine run_convert_bytes_back w _ _ _ _ c L Try.underlying27 Try.underlying5 Try.underlying9 (fun j hj => ?_)
    rw [add_at]
    exact hx j _ (List.getElem?_eq_getElem hj)
/-- R.EqBytes. -/
theorem eq_c (A : Option Addr) (n c : Nat) (L : List UInt8) (A' : Option Addr) (n' c' : Nat) (L' : List UInt8) (w : World) (h : n = L.length ∧ BytesR w A L) (h' : n' = L'.length ∧ BytesR w A' L') :
    Calls Try.prog 14 #[.slice A n c, .slice A' n' c'] w fun e w' => e = .returned (.bool (L == L')) ∧ w = w' := by
  have k1 := run_string A n c L w h.1 h.2
  have k2 := run_string A' n' c' L' w h'.1 h'.2
  clear h h'
  go_enter Try.func14, Try.ntmps14
  go_wp2
  go_ret
  exact ⟨rfl, rfl⟩
/-- R.CopyBytes. -/
theorem copy_c (A : Option Addr) (n c : Nat) (L : List UInt8) (w : World) (hl : n ≤ 140737488355328) (h : n = L.length ∧ BytesR w A L) (hA : A = none → c = 0) :
    Calls Try.prog 17 #[.slice A n c] w fun e w' => ∃ v, e = .returned v ∧ OwnB w' w.heap.size v L ∧ Below w.heap.size w w' := by
  obtain ⟨i0, hi0, hz0, hz1, hz2⟩ := info_parts byte_info
  have hsl : Hid (SrcR w 1 A n c (bcs L)) := by show SrcR w 1 A n c (bcs L); rw [h.1]; exact h.2.src hA
  clear h hA
  go_enter Try.func17, Try.ntmps17
  go_wp2_with (at_builtin; refine wpList_append_src rfl _ _ _ rfl w.heap.size 5 i0 _ 1 1 Try.underlying27 hi0 hz0 hz1 hz2 rfl (by omega) (.slice none 0 0) 0 [] rfl (own_none _ _ _ _) _ _ _ (bcs L) rfl hsl.out (bcs_one L) (by simp only [maxLen]; omega) (by omega) (Nat.le_refl _) ?_; intro v1 w1 hown hg hfr)
  go_ret
  exact ⟨v1, rfl, OwnB.of (by simpa using hown), below_grown (Below.refl _ _) hg (Nat.le_refl _) (by simp [Value.ownBlock])⟩
theorem clone_some (a : Addr) (n c : Nat) (L : List UInt8) (w : World) (hl : n ≤ 140737488355328) (h : n = L.length ∧ BytesR w (some a) L) :
    Calls Try.prog 44 #[.slice (some a) n c] w fun e w' => ∃ v, e = .returned v ∧ OwnB w' w.heap.size v L ∧ Below w.heap.size w w' := by
  obtain ⟨i0, hi0, hz0, hz1, hz2⟩ := info_parts byte_info
  have hsl : Hid (SrcR (w.alloc (.cells #[] 5)) 1 (some a) n c (bcs L)) := by
    show SrcR (w.alloc (.cells #[] 5)) 1 (some a) n c (bcs L)
    rw [h.1]; exact (h.2.below ((Below.refl _ _).alloc (Nat.le_refl _) _)).src (fun e => by cases e)
  clear h
  have he := fun W => Lib.run_eql_slice_nil (P := Try.prog) W 27 5 (some a) n c 0 0 Try.underlying27
  go_enter Try.func44, Try.ntmps44
  go_wp2_with (at_builtin; refine wpList_append_src rfl _ _ _ rfl w.heap.size 5 i0 _ 1 1 Try.underlying27 hi0 hz0 hz1 hz2 rfl (by omega) (.slice (some ⟨w.heap.size, 0, none⟩) 0 0) 0 [] rfl (own_empty w _ _ _ (Nat.le_refl _)) _ _ _ (bcs L) rfl hsl.out (bcs_one L) (by simp only [maxLen]; omega) (by omega) (by simp) ?_; intro v1 w1 hown hg hfr)
  go_ret
  exact ⟨v1, rfl, OwnB.of (by simpa using hown), below_grown ((Below.refl _ _).alloc (Nat.le_refl _) _) hg (by simp) (by simp [Value.ownBlock])⟩
theorem clone_none (w : World) :
    Calls Try.prog 44 #[.slice none 0 0] w fun e w' => e = .returned (.slice none 0 0) ∧ w = w' := by
  have he := fun W => Lib.run_eql_slice_nil (P := Try.prog) W 27 5 none 0 0 0 0 Try.underlying27
  go_enter Try.func44, Try.ntmps44
  go_wp2
  go_ret
  exact ⟨rfl, rfl⟩
theorem clone_c (A : Option Addr) (n c : Nat) (L : List UInt8) (w : World) (hl : n ≤ 140737488355328) (h : n = L.length ∧ BytesR w A L) (hA : A = none → c = 0) (hc : n ≤ c) :
    Calls Try.prog 44 #[.slice A n c] w fun e w' => ∃ v, e = .returned v ∧ OwnB w' w.heap.size v L ∧ Below w.heap.size w w' := by
  cases A with
  | some a => exact clone_some a n c L w hl h
  | none =>
    obtain rfl := hA rfl
    obtain rfl : n = 0 := by omega
    obtain rfl : L = [] := List.eq_nil_of_length_eq_zero h.1.symm
    refine (clone_none w).mono ?_
    rintro e w' ⟨rfl, rfl⟩
    exact ⟨_, rfl, OwnB.nil, Below.refl _ _⟩
end Go.Proofs.Ytekcokbpgpeepaa
